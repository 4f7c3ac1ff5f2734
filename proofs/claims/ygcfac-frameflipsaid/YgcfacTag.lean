import Derived.Test.YgcfacSeal
namespace Go.Proofs.Ygcfac
open Go.RowKit
set_option linter.unusedVariables false

/-! ### Bytes of a word -/
def digs : Nat → Int → List Int
  | 0, _ => []
  | f + 1, x => x % 256 :: digs f (x / 256)
def valL : List Int → Int
  | [] => 0
  | b :: bs => b + 256 * valL bs
/-- The tag of some bytes: bit i tells whether byte i is not zero. -/
def tagL : List Int → Nat
  | [] => 0
  | b :: bs => (if b = 0 then 0 else 1) + 2 * tagL bs

theorem digs_8 (x : Int) : digs 8 x = bytes8 x := by
  have e2 : x / 256 / 256 = x / 65536 := by omega
  have e3 : x / 65536 / 256 = x / 16777216 := by omega
  have e4 : x / 16777216 / 256 = x / 4294967296 := by omega
  have e5 : x / 4294967296 / 256 = x / 1099511627776 := by omega
  have e6 : x / 1099511627776 / 256 = x / 281474976710656 := by omega
  have e7 : x / 281474976710656 / 256 = x / 72057594037927936 := by omega
  simp only [digs, bytes8, e2, e3, e4, e5, e6, e7]
theorem valL_digs : ∀ f x, 0 ≤ x → x < 256 ^ f → valL (digs f x) = x
  | 0, x, h0, h1 => by simp at h1; simp [digs, valL]; omega
  | f + 1, x, h0, h1 => by
    have := valL_digs f (x / 256) (by omega) (by rw [Int.pow_succ] at h1; generalize (256 : Int) ^ f = Y at *; omega)
    simp only [digs, valL, this]
    omega
theorem nzB_digs : ∀ f x, 0 ≤ x → nzB f x = (digs f x).filter (fun y => !(y == 0))
  | 0, x, _ => rfl
  | f + 1, x, h0 => by
    have ih := nzB_digs f (x / 256) (by omega)
    simp only [nzB, digs]
    by_cases h : x = 0
    · rw [if_pos h]
      subst h
      have e : ∀ f, (digs f 0).filter (fun y => !(y == 0)) = [] := by
        intro f
        induction f with
        | zero => rfl
        | succ f ih => simpa [digs] using ih
      simpa [digs] using (e (f + 1)).symm
    · rw [if_neg h]
      by_cases h2 : x % 256 = 0
      · rw [if_pos h2, ih]; simp [h2]
      · rw [if_neg h2, ih]; simp [h2]
theorem digs_bd : ∀ f x, ∀ b ∈ digs f x, 0 ≤ b ∧ b < 256
  | 0, x => by simp [digs]
  | f + 1, x => by
    intro b hb
    rcases List.mem_cons.1 hb with rfl | hb
    · omega
    · exact digs_bd f _ b hb
theorem digs_len : ∀ f x, (digs f x).length = f
  | 0, x => rfl
  | f + 1, x => by simp [digs, digs_len f]

/-! ### The tag of a word -/
theorem land_split (a b A B : Nat) (ha : a < 256) (hb : b < 256) : (a + 256 * A) &&& (b + 256 * B) = (a &&& b) + 256 * (A &&& B) := by
  have e1 : ((a + 256 * A) &&& (b + 256 * B)) % 2 ^ 8 = (a + 256 * A) % 2 ^ 8 &&& (b + 256 * B) % 2 ^ 8 := Nat.and_mod_two_pow
  have e2 : ((a + 256 * A) &&& (b + 256 * B)) / 2 ^ 8 = (a + 256 * A) / 2 ^ 8 &&& (b + 256 * B) / 2 ^ 8 := Nat.and_div_two_pow
  have h1 : (a + 256 * A) % 2 ^ 8 = a := by omega
  have h2 : (b + 256 * B) % 2 ^ 8 = b := by omega
  have h3 : (a + 256 * A) / 2 ^ 8 = A := by omega
  have h4 : (b + 256 * B) / 2 ^ 8 = B := by omega
  rw [h1, h2] at e1
  rw [h3, h4] at e2
  omega
theorem lor_split (a b A B : Nat) (ha : a < 256) (hb : b < 256) : (a + 256 * A) ||| (b + 256 * B) = (a ||| b) + 256 * (A ||| B) := by
  have e1 : ((a + 256 * A) ||| (b + 256 * B)) % 2 ^ 8 = (a + 256 * A) % 2 ^ 8 ||| (b + 256 * B) % 2 ^ 8 := Nat.or_mod_two_pow
  have e2 : ((a + 256 * A) ||| (b + 256 * B)) / 2 ^ 8 = (a + 256 * A) / 2 ^ 8 ||| (b + 256 * B) / 2 ^ 8 := Nat.or_div_two_pow
  have h1 : (a + 256 * A) % 2 ^ 8 = a := by omega
  have h2 : (b + 256 * B) % 2 ^ 8 = b := by omega
  have h3 : (a + 256 * A) / 2 ^ 8 = A := by omega
  have h4 : (b + 256 * B) / 2 ^ 8 = B := by omega
  rw [h1, h2] at e1
  rw [h3, h4] at e2
  omega

def lowK : Nat → Nat
  | 0 => 0
  | k + 1 => 127 + 256 * lowK k
def highK : Nat → Nat
  | 0 => 0
  | k + 1 => 128 + 256 * highK k
/-- The top bits that say which bytes are not zero. -/
def topK : Nat → Nat → Nat
  | 0, _ => 0
  | k + 1, x => (if x % 256 = 0 then 0 else 128) + 256 * topK k (x / 256)

theorem byte_top : ∀ b : Nat, b < 256 → ((b &&& 127) + 127 ||| b) &&& 128 = (if b = 0 then 0 else 128) ∧ (b &&& 127) + 127 < 256 ∧ ((b &&& 127) + 127 ||| b) < 256 := by decide +kernel

theorem top_eq : ∀ k x, x < 256 ^ k → (((x &&& lowK k) + lowK k) ||| x) &&& highK k = topK k x
  | 0, x, h => by simp [lowK, highK, topK]
  | k + 1, x, h => by
    have hx : x / 256 < 256 ^ k := by rw [Nat.pow_succ] at h; generalize 256 ^ k = Y at *; omega
    have ih := top_eq k (x / 256) hx
    have hb := byte_top (x % 256) (by omega)
    have ex : x = x % 256 + 256 * (x / 256) := by omega
    have e1 : x &&& lowK (k + 1) = (x % 256 &&& 127) + 256 * (x / 256 &&& lowK k) := by
      conv => lhs; rw [ex]
      exact land_split _ 127 _ _ (by omega) (by decide)
    rw [e1]
    have e2 : (x % 256 &&& 127) + 256 * (x / 256 &&& lowK k) + lowK (k + 1) = ((x % 256 &&& 127) + 127) + 256 * ((x / 256 &&& lowK k) + lowK k) := by
      simp only [lowK]; omega
    rw [e2]
    have e3 : (((x % 256 &&& 127) + 127) + 256 * ((x / 256 &&& lowK k) + lowK k)) ||| x = (((x % 256 &&& 127) + 127) ||| x % 256) + 256 * (((x / 256 &&& lowK k) + lowK k) ||| x / 256) := by
      conv => lhs; rhs; rw [ex]
      exact lor_split _ _ _ _ hb.2.1 (by omega)
    rw [e3]
    have e4 : ((((x % 256 &&& 127) + 127) ||| x % 256) + 256 * (((x / 256 &&& lowK k) + lowK k) ||| x / 256)) &&& highK (k + 1) = ((((x % 256 &&& 127) + 127) ||| x % 256) &&& 128) + 256 * ((((x / 256 &&& lowK k) + lowK k) ||| x / 256) &&& highK k) :=
      land_split _ 128 _ _ hb.2.2 (by decide)
    rw [e4, hb.1, ih]
    rfl

theorem lowK_8 : lowK 8 = 9187201950435737471 := by decide
theorem highK_8 : highK 8 = 9259542123273814144 := by decide

def tv (c : Bool) : Nat := if c then 1 else 0
theorem gather8 : ∀ c0 c1 c2 c3 c4 c5 c6 c7 : Bool,
    (tv c0 + 256 * (tv c1 + 256 * (tv c2 + 256 * (tv c3 + 256 * (tv c4 + 256 * (tv c5 + 256 * (tv c6 + 256 * tv c7))))))) * 72624976668147840 % 18446744073709551616 / 72057594037927936 % 256 =
      tv c0 + 2 * (tv c1 + 2 * (tv c2 + 2 * (tv c3 + 2 * (tv c4 + 2 * (tv c5 + 2 * (tv c6 + 2 * tv c7)))))) := by decide +kernel

theorem tagL_tv (x : Nat) : tagL (digs 8 (x : Int)) = tv (!(x % 256 == 0)) + 2 * (tv (!(x / 256 % 256 == 0)) + 2 * (tv (!(x / 256 / 256 % 256 == 0)) + 2 * (tv (!(x / 256 / 256 / 256 % 256 == 0)) + 2 * (tv (!(x / 256 / 256 / 256 / 256 % 256 == 0)) + 2 * (tv (!(x / 256 / 256 / 256 / 256 / 256 % 256 == 0)) + 2 * (tv (!(x / 256 / 256 / 256 / 256 / 256 / 256 % 256 == 0)) + 2 * (tv (!(x / 256 / 256 / 256 / 256 / 256 / 256 / 256 % 256 == 0))))))))) := by
  have hd : ∀ y : Nat, (if ((y : Int) % 256) = 0 then 0 else 1) = tv (!(y % 256 == 0)) := by
    intro y
    have e : ((y : Int) % 256 = 0) = (y % 256 = 0) := by simp; omega
    simp only [e]
    by_cases h : y % 256 = 0 <;> simp [h, tv]
  have q : ∀ y : Nat, ((y : Int) / 256) = ((y / 256 : Nat) : Int) := by intro y; omega
  simp only [digs, tagL, q, hd, Nat.mul_zero, Nat.add_zero]
theorem topK_tv (x : Nat) : topK 8 x = 128 * (tv (!(x % 256 == 0)) + 256 * (tv (!(x / 256 % 256 == 0)) + 256 * (tv (!(x / 256 / 256 % 256 == 0)) + 256 * (tv (!(x / 256 / 256 / 256 % 256 == 0)) + 256 * (tv (!(x / 256 / 256 / 256 / 256 % 256 == 0)) + 256 * (tv (!(x / 256 / 256 / 256 / 256 / 256 % 256 == 0)) + 256 * (tv (!(x / 256 / 256 / 256 / 256 / 256 / 256 % 256 == 0)) + 256 * (tv (!(x / 256 / 256 / 256 / 256 / 256 / 256 / 256 % 256 == 0)))))))))) := by
  have hc : ∀ y : Nat, (if y % 256 = 0 then 0 else 128) = 128 * tv (!(y % 256 == 0)) := by
    intro y
    by_cases h : y % 256 = 0 <;> simp [h, tv]
  have mv : ∀ a b : Nat, 128 * a + 256 * (128 * b) = 128 * (a + 256 * b) := by intro a b; omega
  simp only [topK, hc, Nat.mul_zero, Nat.add_zero, mv]

theorem tag_eq (x : Int) (h0 : 0 ≤ x) (h1 : x < 18446744073709551616) : tagI x = (tagL (digs 8 x) : Int) := by
  obtain ⟨x, rfl⟩ := Int.eq_ofNat_of_zero_le h0
  have hx : x < 18446744073709551616 := by omega
  have ht := top_eq 8 x (by simpa using hx)
  rw [lowK_8, highK_8] at ht
  have a1 : bits .and .u64 (x : Int) 9187201950435737471 = ((x &&& 9187201950435737471 : Nat) : Int) := u64_and_nat x 9187201950435737471 hx (by decide)
  have b1 : x &&& 9187201950435737471 ≤ 9187201950435737471 := Nat.and_le_right
  have a2 : IntKind.u64.wrap (((x &&& 9187201950435737471 : Nat) : Int) + 9187201950435737471) = (((x &&& 9187201950435737471) + 9187201950435737471 : Nat) : Int) := by
    rw [IntKind.wrap_u64]; omega
  have a3 : bits .or .u64 (((x &&& 9187201950435737471) + 9187201950435737471 : Nat) : Int) (x : Int) = ((((x &&& 9187201950435737471) + 9187201950435737471) ||| x : Nat) : Int) := u64_or_nat _ x (by omega) hx
  have b3 : ((x &&& 9187201950435737471) + 9187201950435737471) ||| x < 2 ^ 64 := Nat.or_lt_two_pow (by omega) (by omega)
  have a4 : bits .andNot .u64 ((((x &&& 9187201950435737471) + 9187201950435737471) ||| x : Nat) : Int) 9187201950435737471 = (((((x &&& 9187201950435737471) + 9187201950435737471) ||| x) &&& 9259542123273814144 : Nat) : Int) :=
    u64_andNot_nat _ 9187201950435737471 (by omega) (by decide)
  unfold tagI
  rw [a1, a2, a3, a4, ht]
  have g := gather8 (!(x % 256 == 0)) (!(x / 256 % 256 == 0)) (!(x / 256 / 256 % 256 == 0)) (!(x / 256 / 256 / 256 % 256 == 0)) (!(x / 256 / 256 / 256 / 256 % 256 == 0)) (!(x / 256 / 256 / 256 / 256 / 256 % 256 == 0)) (!(x / 256 / 256 / 256 / 256 / 256 / 256 % 256 == 0)) (!(x / 256 / 256 / 256 / 256 / 256 / 256 / 256 % 256 == 0))
  rw [tagL_tv, topK_tv, ← g]
  clear a1 b1 a2 a3 b3 a4 ht hx g
  generalize (tv (!(x % 256 == 0)) + 256 * (tv (!(x / 256 % 256 == 0)) + 256 * (tv (!(x / 256 / 256 % 256 == 0)) + 256 * (tv (!(x / 256 / 256 / 256 % 256 == 0)) + 256 * (tv (!(x / 256 / 256 / 256 / 256 % 256 == 0)) + 256 * (tv (!(x / 256 / 256 / 256 / 256 / 256 % 256 == 0)) + 256 * (tv (!(x / 256 / 256 / 256 / 256 / 256 / 256 % 256 == 0)) + 256 * (tv (!(x / 256 / 256 / 256 / 256 / 256 / 256 / 256 % 256 == 0)))))))))) = Y
  have e : (((128 * Y : Nat) : Int) / 128) = (Y : Int) := by omega
  rw [IntKind.wrap_u64, e]
  rw [Int.natCast_emod, Int.natCast_ediv, Int.natCast_emod, Int.natCast_mul]
  rfl
end Go.Proofs.Ygcfac
