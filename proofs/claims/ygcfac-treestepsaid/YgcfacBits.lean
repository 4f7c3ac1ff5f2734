/-
  The leaves of the roads: bitsx.Ones, bitsx.Low, bitsx.Word, bitsx.Bytes: each by the plain function that it computes. And the words in which the walks of this seat speak of memory.
-/
import Derived.Test.YgcfacRows
import Derived.WalkKit
import Derived.WalkLawsBesides
import Derived.WalkSpells
import Derived.Deep.QuietTactic
import Derived.BigQuiet
namespace Go.Proofs.Ygcfac
open Go.RowKit

/-! ### Plain numbers -/
theorem wrap64_bd (x : Int) : 0 ≤ IntKind.u64.wrap x ∧ IntKind.u64.wrap x < 18446744073709551616 := by
  rw [IntKind.wrap_u64]; omega

/-- 'a | b << i' where a lies below bit i: the sum. -/
theorem or_sum (i : Nat) (a b : Int) (ha0 : 0 ≤ a) (ha : a < 2 ^ i) (hb0 : 0 ≤ b) (hb : b * 2 ^ i < 18446744073709551616) (hi : i < 64) :
    bits .or .u64 a (b * 2 ^ i) = a + b * 2 ^ i := by
  obtain ⟨a, rfl⟩ := Int.eq_ofNat_of_zero_le ha0
  obtain ⟨b, rfl⟩ := Int.eq_ofNat_of_zero_le hb0
  have e : ((b : Int) * 2 ^ i) = ((b * 2 ^ i : Nat) : Int) := by simp
  have hap : a < 2 ^ i := by
    have : ((2 ^ i : Nat) : Int) = (2 : Int) ^ i := by simp
    omega
  have h64 : (2 : Nat) ^ i < 18446744073709551616 := Nat.lt_of_lt_of_eq (Nat.pow_lt_pow_right (a := 2) (by decide) hi) (by decide)
  rw [e] at hb ⊢
  have e2 : b * 2 ^ i = 2 ^ i * b := Nat.mul_comm _ _
  rw [u64_or_nat a (b * 2 ^ i) (by omega) (by omega), Nat.or_comm, e2, ← Nat.two_pow_add_eq_or_of_lt hap b]
  simp [Int.add_comm]

def onesI (x : Int) : Int :=
  let a := IntKind.u64.wrap (x - bits .and .u64 (x / 2) 6148914691236517205)
  let b := IntKind.u64.wrap (bits .and .u64 a 3689348814741910323 + bits .and .u64 (a / 4) 3689348814741910323)
  let c := bits .and .u64 (IntKind.u64.wrap (b + b / 16)) 1085102592571150095
  IntKind.u64.wrap (c * 72340172838076673) / 72057594037927936 % 256

def lowI (x : Int) : Int := onesI (IntKind.u64.wrap (bits .and .u64 x (IntKind.u64.wrap (- x)) - 1))

theorem ones8 : ∀ t : Nat, t < 256 → 0 ≤ onesI t ∧ onesI t ≤ 8 := by decide +kernel
theorem low8 : ∀ t : Nat, t < 256 → 0 < t → 0 ≤ lowI t ∧ lowI t ≤ 7 := by decide +kernel
theorem next8 : ∀ t : Nat, t < 256 → 0 < t → 0 ≤ bits .and .u8 t (t - 1) ∧ bits .and .u8 t (t - 1) < t ∧ onesI (bits .and .u8 t (t - 1)) + 1 = onesI t := by decide +kernel
theorem ones8_0 : onesI 0 = 0 := by decide +kernel
theorem ones8_255 : onesI 255 = 8 := by decide +kernel

theorem ones_bd (t : Int) (h0 : 0 ≤ t) (h : t < 256) : 0 ≤ onesI t ∧ onesI t ≤ 8 := by
  obtain ⟨t, rfl⟩ := Int.eq_ofNat_of_zero_le h0
  exact ones8 t (by omega)
theorem low_bd (t : Int) (h0 : 0 < t) (h : t < 256) : 0 ≤ lowI t ∧ lowI t ≤ 7 := by
  obtain ⟨t, rfl⟩ := Int.eq_ofNat_of_zero_le (show 0 ≤ t by omega)
  exact low8 t (by omega) (by omega)
theorem next_bd (t : Int) (h0 : 0 < t) (h : t < 256) : 0 ≤ bits .and .u8 t (t - 1) ∧ bits .and .u8 t (t - 1) < t ∧ onesI (bits .and .u8 t (t - 1)) + 1 = onesI t := by
  obtain ⟨t, rfl⟩ := Int.eq_ofNat_of_zero_le (show 0 ≤ t by omega)
  exact next8 t (by omega) (by omega)

/-- The word of eight bytes, the least first. -/
def word8 (x0 x1 x2 x3 x4 x5 x6 x7 : Int) : Int :=
  x0 + x1 * 256 + x2 * 65536 + x3 * 16777216 + x4 * 4294967296 + x5 * 1099511627776 + x6 * 281474976710656 + x7 * 72057594037927936

theorem word8_or (x0 x1 x2 x3 x4 x5 x6 x7 : Int) (h0 : 0 ≤ x0 ∧ x0 < 256) (h1 : 0 ≤ x1 ∧ x1 < 256) (h2 : 0 ≤ x2 ∧ x2 < 256) (h3 : 0 ≤ x3 ∧ x3 < 256) (h4 : 0 ≤ x4 ∧ x4 < 256) (h5 : 0 ≤ x5 ∧ x5 < 256) (h6 : 0 ≤ x6 ∧ x6 < 256) (h7 : 0 ≤ x7 ∧ x7 < 256) :
    bits .or .u64 (bits .or .u64 (bits .or .u64 (bits .or .u64 (bits .or .u64 (bits .or .u64 (bits .or .u64 x0 (x1 * 256)) (x2 * 65536)) (x3 * 16777216)) (x4 * 4294967296)) (x5 * 1099511627776)) (x6 * 281474976710656)) (x7 * 72057594037927936) = word8 x0 x1 x2 x3 x4 x5 x6 x7 := by
  have e1 := or_sum 8 x0 x1 (by omega) (by omega) (by omega) (by omega) (by decide)
  have e2 := or_sum 16 (x0 + x1 * 256) x2 (by omega) (by omega) (by omega) (by omega) (by decide)
  have e3 := or_sum 24 (x0 + x1 * 256 + x2 * 65536) x3 (by omega) (by omega) (by omega) (by omega) (by decide)
  have e4 := or_sum 32 (x0 + x1 * 256 + x2 * 65536 + x3 * 16777216) x4 (by omega) (by omega) (by omega) (by omega) (by decide)
  have e5 := or_sum 40 (x0 + x1 * 256 + x2 * 65536 + x3 * 16777216 + x4 * 4294967296) x5 (by omega) (by omega) (by omega) (by omega) (by decide)
  have e6 := or_sum 48 (x0 + x1 * 256 + x2 * 65536 + x3 * 16777216 + x4 * 4294967296 + x5 * 1099511627776) x6 (by omega) (by omega) (by omega) (by omega) (by decide)
  have e7 := or_sum 56 (x0 + x1 * 256 + x2 * 65536 + x3 * 16777216 + x4 * 4294967296 + x5 * 1099511627776 + x6 * 281474976710656) x7 (by omega) (by omega) (by omega) (by omega) (by decide)
  simp only [Int.reducePow] at e1 e2 e3 e4 e5 e6 e7
  rw [e1, e2, e3, e4, e5, e6, e7, word8]

/-! ### The walks -/
theorem ones_any (x : Int) (w : World) (_h0 : 0 ≤ x) (_h1 : x < 18446744073709551616) :
    Calls Facg.prog 85 #[.int .u64 x] w fun e w' => e = .returned (.int .u8 (onesI x)) ∧ w' = w := by
  go_enter Facg.func85, Facg.ntmps85
  go_wp2
  go_ret
  exact ⟨rfl, rfl⟩

theorem low_any (x : Int) (w : World) (_h0 : 0 ≤ x) (_h1 : x < 18446744073709551616) :
    Calls Facg.prog 86 #[.int .u64 x] w fun e w' => e = .returned (.int .u8 (lowI x)) ∧ w' = w := by
  go_enter Facg.func86, Facg.ntmps86
  go_wp2_with (go_at_call 85; refine (ones_any _ _ (by exact (wrap64_bd _).1) (by exact (wrap64_bd _).2)).mono ?_; rintro e w' ⟨rfl, rfl⟩)
  go_ret
  exact ⟨rfl, rfl⟩

theorem word_any (x0 x1 x2 x3 x4 x5 x6 x7 : Int) (h0 : 0 ≤ x0 ∧ x0 < 256) (h1 : 0 ≤ x1 ∧ x1 < 256) (h2 : 0 ≤ x2 ∧ x2 < 256) (h3 : 0 ≤ x3 ∧ x3 < 256) (h4 : 0 ≤ x4 ∧ x4 < 256) (h5 : 0 ≤ x5 ∧ x5 < 256) (h6 : 0 ≤ x6 ∧ x6 < 256) (h7 : 0 ≤ x7 ∧ x7 < 256) (w : World) :
    Calls Facg.prog 87 #[.agg #[.int .u8 x0, .int .u8 x1, .int .u8 x2, .int .u8 x3, .int .u8 x4, .int .u8 x5, .int .u8 x6, .int .u8 x7]] w fun e w' => e = .returned (.int .u64 (word8 x0 x1 x2 x3 x4 x5 x6 x7)) ∧ Below w.heap.size w w' := by
  have H := word8_or x0 x1 x2 x3 x4 x5 x6 x7 h0 h1 h2 h3 h4 h5 h6 h7
  have HH : Hid (_ = _) := H
  clear H
  go_enter Facg.func87, Facg.ntmps87
  go_wp2
  go_ret
  exact ⟨by simpa using HH.out, (Below.refl _ _).alloc (Nat.le_refl _) _⟩
end Go.Proofs.Ygcfac
