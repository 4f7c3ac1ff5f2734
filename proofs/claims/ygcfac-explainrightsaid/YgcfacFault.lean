import Derived.Test.YgcfacInWalk
namespace Go.Proofs.Ygcfac
open Go.RowKit
set_option linter.unusedVariables false

/-- Why a pointer word does not resolve. -/
def faultW (x : Int) (n i : Nat) : Int :=
  if 2 ≤ x % 4 then 2
  else if x % 4 = 0 then (if 8 < x / 4294967296 % 65536 ∨ 8 < x / 281474976710656 % 65536 then 4 else 5)
  else if x / 4294967296 % 8 < 2 then 3
  else if x / 4294967296 % 8 < 7 then (if 128 < x / 34359738368 % 536870912 then 4 else 5)
  else if (i : Int) + 1 + signI (x / 4) < 1 ∨ (n : Int) < (i : Int) + 1 + signI (x / 4) + 1 + x / 34359738368 % 536870912 then 5 else 6

/-- The parts of a word, as letters. -/
structure Parts (x k d q code m sg : Int) : Prop where
  k : x % 4 = k
  d : x / 4294967296 % 65536 = d
  q : x / 281474976710656 % 65536 = q
  code : x / 4294967296 % 8 = code
  m : x / 34359738368 % 536870912 = m
  sg : signI (x / 4) = sg

def faultP (n i : Nat) (k d q code m sg : Int) : Int :=
  if 2 ≤ k then 2
  else if k = 0 then (if 8 < d ∨ 8 < q then 4 else 5)
  else if code < 2 then 3
  else if code < 7 then (if 128 < m then 4 else 5)
  else if (i : Int) + 1 + sg < 1 ∨ (n : Int) < (i : Int) + 1 + sg + 1 + m then 5 else 6
theorem faultP_eq {x k d q code m sg : Int} (h : Parts x k d q code m sg) (n i : Nat) : faultW x n i = faultP n i k d q code m sg := by
  unfold faultW faultP
  rw [h.k, h.d, h.q, h.code, h.m, h.sg]

set_option maxRecDepth 10000 in
theorem pointerFault_p (b o n c i : Nat) (x k d q code m sg : Int) (w : World) (hn : n ≤ 256) (hi : i < n) (hx : 0 ≤ x ∧ x < 18446744073709551616) (hcell : w.cell? ⟨b, o + i, none⟩ = some (.int .u64 x)) (hP : Parts x k d q code m sg) :
    Calls Facg.prog 106 #[.slice (some ⟨b, o, none⟩) n c, .int .u16 i] w fun e w' => e = .returned (.int .u8 (faultP n i k d q code m sg)) ∧ w' = w := by
  have hx0 := hx.1
  have hx1 := hx.2
  have hp := hP
  obtain ⟨gk, gd, gq, gc, gm, gs⟩ := hp
  have t1 : ∀ w, Calls Facg.prog 108 #[.int .u64 x, .int .u8 0, .int .u8 2] w fun e w' => e = .returned (.int .u64 k) ∧ w' = w := fun w => by
    have := take_any x 0 2 w hx0 hx1 (by decide) (by decide) (by decide)
    rw [← gk]
    simpa using this
  have t2 : ∀ w, Calls Facg.prog 108 #[.int .u64 x, .int .u8 32, .int .u8 3] w fun e w' => e = .returned (.int .u64 code) ∧ w' = w := fun w => by rw [← gc]; exact take_any x 32 3 w hx0 hx1 (by decide) (by decide) (by decide)
  have t3 : ∀ w, Calls Facg.prog 108 #[.int .u64 x, .int .u8 35, .int .u8 29] w fun e w' => e = .returned (.int .u64 m) ∧ w' = w := fun w => by rw [← gm]; exact take_any x 35 29 w hx0 hx1 (by decide) (by decide) (by decide)
  have t4 : ∀ w, Calls Facg.prog 108 #[.int .u64 x, .int .u8 32, .int .u8 16] w fun e w' => e = .returned (.int .u64 d) ∧ w' = w := fun w => by rw [← gd]; exact take_any x 32 16 w hx0 hx1 (by decide) (by decide) (by decide)
  have t5 : ∀ w, Calls Facg.prog 108 #[.int .u64 x, .int .u8 48, .int .u8 16] w fun e w' => e = .returned (.int .u64 q) ∧ w' = w := fun w => by rw [← gq]; exact take_any x 48 16 w hx0 hx1 (by decide) (by decide) (by decide)
  have s1 : ∀ w, Calls Facg.prog 107 #[.int .u64 (x / 4), .int .u8 30] w fun e w' => e = .returned (.int .i64 sg) ∧ w' = w := fun w => by rw [← gs]; exact sign_any (x / 4) w (by omega) (by omega)
  have hsg := signI_bd (x / 4)
  rw [gs] at hsg
  have bc : 0 ≤ code ∧ code < 8 := by omega
  have bm : 0 ≤ m ∧ m < 536870912 := by omega
  have bk : 0 ≤ k ∧ k < 4 := by omega
  have T1 := hide t1
  have T2 := hide t2
  have T3 := hide t3
  have T4 := hide t4
  have T5 := hide t5
  have S1 := hide s1
  clear t1 t2 t3 t4 t5 s1 gk gd gq gc gm gs hP
  by_cases h2 : 2 ≤ k
  · have hv : faultP n i k d q code m sg = 2 := by unfold faultP; rw [if_pos h2]
    rw [hv]
    clear hv
    have e1 : decide (1 < k) = true := decide_eq_true (by omega)
    go_enter Facg.func106, Facg.ntmps106
    go_wp2_with (first
      | (go_at_call 107; refine (S1.out _).mono ?_; rintro e w3 ⟨rfl, rfl⟩)
      | (go_at_call 108; first | (with_reducible refine (T1.out _).mono ?_; rintro e w' ⟨rfl, rfl⟩) | (with_reducible refine (T2.out _).mono ?_; rintro e w' ⟨rfl, rfl⟩) | (with_reducible refine (T3.out _).mono ?_; rintro e w' ⟨rfl, rfl⟩) | (with_reducible refine (T4.out _).mono ?_; rintro e w' ⟨rfl, rfl⟩) | (with_reducible refine (T5.out _).mono ?_; rintro e w' ⟨rfl, rfl⟩)))
    go_ret
    exact ⟨rfl, rfl⟩
  by_cases h0 : k = 0
  · subst h0
    by_cases h8 : 8 < d
    · have hv : faultP n i 0 d q code m sg = 4 := by unfold faultP; rw [if_neg (by decide), if_pos rfl, if_pos (.inl h8)]
      rw [hv]
      clear hv
      have e1 : decide (8 < d) = true := decide_eq_true (by omega)
      go_enter Facg.func106, Facg.ntmps106
      go_wp2_with (first
        | (go_at_call 107; refine (S1.out _).mono ?_; rintro e w3 ⟨rfl, rfl⟩)
        | (go_at_call 108; first | (with_reducible refine (T1.out _).mono ?_; rintro e w' ⟨rfl, rfl⟩) | (with_reducible refine (T2.out _).mono ?_; rintro e w' ⟨rfl, rfl⟩) | (with_reducible refine (T3.out _).mono ?_; rintro e w' ⟨rfl, rfl⟩) | (with_reducible refine (T4.out _).mono ?_; rintro e w' ⟨rfl, rfl⟩) | (with_reducible refine (T5.out _).mono ?_; rintro e w' ⟨rfl, rfl⟩)))
      go_ret
      exact ⟨rfl, rfl⟩
    by_cases h9 : 8 < q
    · have hv : faultP n i 0 d q code m sg = 4 := by unfold faultP; rw [if_neg (by decide), if_pos rfl, if_pos (.inr h9)]
      rw [hv]
      clear hv
      have e1 : decide (8 < d) = false := decide_eq_false (by omega)
      have e2 : decide (8 < q) = true := decide_eq_true (by omega)
      go_enter Facg.func106, Facg.ntmps106
      go_wp2_with (first
        | (go_at_call 107; refine (S1.out _).mono ?_; rintro e w3 ⟨rfl, rfl⟩)
        | (go_at_call 108; first | (with_reducible refine (T1.out _).mono ?_; rintro e w' ⟨rfl, rfl⟩) | (with_reducible refine (T2.out _).mono ?_; rintro e w' ⟨rfl, rfl⟩) | (with_reducible refine (T3.out _).mono ?_; rintro e w' ⟨rfl, rfl⟩) | (with_reducible refine (T4.out _).mono ?_; rintro e w' ⟨rfl, rfl⟩) | (with_reducible refine (T5.out _).mono ?_; rintro e w' ⟨rfl, rfl⟩)))
      go_ret
      exact ⟨rfl, rfl⟩
    · have hv : faultP n i 0 d q code m sg = 5 := by unfold faultP; rw [if_neg (by decide), if_pos rfl, if_neg (by omega)]
      rw [hv]
      clear hv
      have e1 : decide (8 < d) = false := decide_eq_false (by omega)
      have e2 : decide (8 < q) = false := decide_eq_false (by omega)
      go_enter Facg.func106, Facg.ntmps106
      go_wp2_with (first
        | (go_at_call 107; refine (S1.out _).mono ?_; rintro e w3 ⟨rfl, rfl⟩)
        | (go_at_call 108; first | (with_reducible refine (T1.out _).mono ?_; rintro e w' ⟨rfl, rfl⟩) | (with_reducible refine (T2.out _).mono ?_; rintro e w' ⟨rfl, rfl⟩) | (with_reducible refine (T3.out _).mono ?_; rintro e w' ⟨rfl, rfl⟩) | (with_reducible refine (T4.out _).mono ?_; rintro e w' ⟨rfl, rfl⟩) | (with_reducible refine (T5.out _).mono ?_; rintro e w' ⟨rfl, rfl⟩)))
      go_ret
      exact ⟨rfl, rfl⟩
  obtain rfl : k = 1 := by omega
  by_cases c2 : code < 2
  · have hv : faultP n i 1 d q code m sg = 3 := by unfold faultP; rw [if_neg (by decide), if_neg (by decide), if_pos c2]
    rw [hv]
    clear hv
    have e1 : decide (code < 2) = true := decide_eq_true (by omega)
    go_enter Facg.func106, Facg.ntmps106
    go_wp2_with (first
      | (go_at_call 107; refine (S1.out _).mono ?_; rintro e w3 ⟨rfl, rfl⟩)
      | (go_at_call 108; first | (with_reducible refine (T1.out _).mono ?_; rintro e w' ⟨rfl, rfl⟩) | (with_reducible refine (T2.out _).mono ?_; rintro e w' ⟨rfl, rfl⟩) | (with_reducible refine (T3.out _).mono ?_; rintro e w' ⟨rfl, rfl⟩) | (with_reducible refine (T4.out _).mono ?_; rintro e w' ⟨rfl, rfl⟩) | (with_reducible refine (T5.out _).mono ?_; rintro e w' ⟨rfl, rfl⟩)))
    go_ret
    exact ⟨rfl, rfl⟩
  by_cases c7 : code < 7
  · by_cases hm : 128 < m
    · have hv : faultP n i 1 d q code m sg = 4 := by unfold faultP; rw [if_neg (by decide), if_neg (by decide), if_neg c2, if_pos c7, if_pos hm]
      rw [hv]
      clear hv
      have e1 : decide (code < 2) = false := decide_eq_false (by omega)
      have e2 : decide (code < 7) = true := decide_eq_true (by omega)
      have e3 : decide (128 < m) = true := decide_eq_true (by omega)
      go_enter Facg.func106, Facg.ntmps106
      go_wp2_with (first
        | (go_at_call 107; refine (S1.out _).mono ?_; rintro e w3 ⟨rfl, rfl⟩)
        | (go_at_call 108; first | (with_reducible refine (T1.out _).mono ?_; rintro e w' ⟨rfl, rfl⟩) | (with_reducible refine (T2.out _).mono ?_; rintro e w' ⟨rfl, rfl⟩) | (with_reducible refine (T3.out _).mono ?_; rintro e w' ⟨rfl, rfl⟩) | (with_reducible refine (T4.out _).mono ?_; rintro e w' ⟨rfl, rfl⟩) | (with_reducible refine (T5.out _).mono ?_; rintro e w' ⟨rfl, rfl⟩)))
      go_ret
      exact ⟨rfl, rfl⟩
    · have hv : faultP n i 1 d q code m sg = 5 := by unfold faultP; rw [if_neg (by decide), if_neg (by decide), if_neg c2, if_pos c7, if_neg hm]
      rw [hv]
      clear hv
      have e1 : decide (code < 2) = false := decide_eq_false (by omega)
      have e2 : decide (code < 7) = true := decide_eq_true (by omega)
      have e3 : decide (128 < m) = false := decide_eq_false (by omega)
      go_enter Facg.func106, Facg.ntmps106
      go_wp2_with (first
        | (go_at_call 107; refine (S1.out _).mono ?_; rintro e w3 ⟨rfl, rfl⟩)
        | (go_at_call 108; first | (with_reducible refine (T1.out _).mono ?_; rintro e w' ⟨rfl, rfl⟩) | (with_reducible refine (T2.out _).mono ?_; rintro e w' ⟨rfl, rfl⟩) | (with_reducible refine (T3.out _).mono ?_; rintro e w' ⟨rfl, rfl⟩) | (with_reducible refine (T4.out _).mono ?_; rintro e w' ⟨rfl, rfl⟩) | (with_reducible refine (T5.out _).mono ?_; rintro e w' ⟨rfl, rfl⟩)))
      go_ret
      exact ⟨rfl, rfl⟩
  obtain rfl : code = 7 := by omega
  by_cases ht : (i : Int) + 1 + sg < 1
  · have hv : faultP n i 1 d q 7 m sg = 5 := by unfold faultP; rw [if_neg (by decide), if_neg (by decide), if_neg c2, if_neg c7, if_pos (.inl ht)]
    rw [hv]
    clear hv
    have e1 : decide ((i : Int) + 1 + sg < 1) = true := decide_eq_true (by omega)
    go_enter Facg.func106, Facg.ntmps106
    go_wp2_with (first
      | (go_at_call 107; refine (S1.out _).mono ?_; rintro e w3 ⟨rfl, rfl⟩)
      | (go_at_call 108; first | (with_reducible refine (T1.out _).mono ?_; rintro e w' ⟨rfl, rfl⟩) | (with_reducible refine (T2.out _).mono ?_; rintro e w' ⟨rfl, rfl⟩) | (with_reducible refine (T3.out _).mono ?_; rintro e w' ⟨rfl, rfl⟩) | (with_reducible refine (T4.out _).mono ?_; rintro e w' ⟨rfl, rfl⟩) | (with_reducible refine (T5.out _).mono ?_; rintro e w' ⟨rfl, rfl⟩)))
    go_ret
    exact ⟨rfl, rfl⟩
  by_cases hr : (n : Int) < (i : Int) + 1 + sg + 1 + m
  · have hv : faultP n i 1 d q 7 m sg = 5 := by unfold faultP; rw [if_neg (by decide), if_neg (by decide), if_neg c2, if_neg c7, if_pos (.inr hr)]
    rw [hv]
    clear hv
    have e1 : decide ((i : Int) + 1 + sg < 1) = false := decide_eq_false (by omega)
    have e2 : decide ((n : Int) < (i : Int) + 1 + sg + 1 + m) = true := decide_eq_true (by omega)
    go_enter Facg.func106, Facg.ntmps106
    go_wp2_with (first
      | (go_at_call 107; refine (S1.out _).mono ?_; rintro e w3 ⟨rfl, rfl⟩)
      | (go_at_call 108; first | (with_reducible refine (T1.out _).mono ?_; rintro e w' ⟨rfl, rfl⟩) | (with_reducible refine (T2.out _).mono ?_; rintro e w' ⟨rfl, rfl⟩) | (with_reducible refine (T3.out _).mono ?_; rintro e w' ⟨rfl, rfl⟩) | (with_reducible refine (T4.out _).mono ?_; rintro e w' ⟨rfl, rfl⟩) | (with_reducible refine (T5.out _).mono ?_; rintro e w' ⟨rfl, rfl⟩)))
    go_ret
    exact ⟨rfl, rfl⟩
  · have hv : faultP n i 1 d q 7 m sg = 6 := by unfold faultP; rw [if_neg (by decide), if_neg (by decide), if_neg c2, if_neg c7, if_neg (by omega)]
    rw [hv]
    clear hv
    have e1 : decide ((i : Int) + 1 + sg < 1) = false := decide_eq_false (by omega)
    have e2 : decide ((n : Int) < (i : Int) + 1 + sg + 1 + m) = false := decide_eq_false (by omega)
    go_enter Facg.func106, Facg.ntmps106
    go_wp2_with (first
      | (go_at_call 107; refine (S1.out _).mono ?_; rintro e w3 ⟨rfl, rfl⟩)
      | (go_at_call 108; first | (with_reducible refine (T1.out _).mono ?_; rintro e w' ⟨rfl, rfl⟩) | (with_reducible refine (T2.out _).mono ?_; rintro e w' ⟨rfl, rfl⟩) | (with_reducible refine (T3.out _).mono ?_; rintro e w' ⟨rfl, rfl⟩) | (with_reducible refine (T4.out _).mono ?_; rintro e w' ⟨rfl, rfl⟩) | (with_reducible refine (T5.out _).mono ?_; rintro e w' ⟨rfl, rfl⟩)))
    go_ret
    exact ⟨rfl, rfl⟩

theorem nat_and2 (x : Nat) : x &&& 2 = 2 * (x / 2 % 2) := by
  apply Nat.eq_of_testBit_eq
  intro i
  rw [Nat.testBit_and, show (2 : Nat) = 2 ^ 1 from rfl, Nat.testBit_two_pow, Nat.mul_comm, Nat.testBit_mul_two_pow]
  by_cases h : i = 1
  · subst h
    simp [Nat.testBit_eq_decide_div_mod_eq]
  · have h1 : decide (1 = i) = false := by simp; omega
    rw [h1]
    by_cases h0 : i = 0
    · subst h0; simp
    · obtain ⟨j, rfl⟩ : ∃ j, i = j + 2 := ⟨i - 2, by omega⟩
      have : (x / 2 ^ 1 % 2 ^ 1).testBit (j + 2 - 1) = false := by
        apply Nat.testBit_lt_two_pow
        have : 2 ≤ 2 ^ (j + 2 - 1) := by
          calc 2 = 2 ^ 1 := rfl
            _ ≤ 2 ^ (j + 2 - 1) := Nat.pow_le_pow_right (by decide) (by omega)
        omega
      simpa using this
theorem nat_and4 (y : Nat) (h : y < 4294967296) : y &&& 4294967292 = y / 4 * 4 := by
  have e : (4294967292 : Nat) = (2 ^ 30 - 1) <<< 2 := by decide
  have e2 : y &&& ((2 ^ 30 - 1) <<< 2) = ((y >>> 2) &&& (2 ^ 30 - 1)) <<< 2 := by
    apply Nat.eq_of_testBit_eq
    intro i
    simp only [Nat.testBit_and, Nat.testBit_shiftLeft, Nat.testBit_shiftRight]
    by_cases hi : 2 ≤ i
    · rw [show 2 + (i - 2) = i by omega]
      cases decide (i ≥ 2) <;> simp
    · have : decide (i ≥ 2) = false := by simp; omega
      simp [this]
  rw [e, e2, Nat.and_two_pow_sub_one_eq_mod, Nat.shiftLeft_eq, Nat.shiftRight_eq_div_pow]
  have : y / 2 ^ 2 % 2 ^ 30 = y / 4 := by omega
  rw [this]
theorem u64_and2 (x : Int) (h0 : 0 ≤ x) (h1 : x < 18446744073709551616) : bits .and .u64 x 2 = 2 * (x / 2 % 2) := by
  obtain ⟨y, rfl⟩ := Int.eq_ofNat_of_zero_le h0
  have := u64_and_nat y 2 (by omega) (by decide)
  rw [nat_and2] at this
  rw [show ((2 : Nat) : Int) = 2 from rfl] at this
  rw [this]
  omega
theorem u32_andNot3 (x : Int) (h0 : 0 ≤ x) (h1 : x < 4294967296) : bits .andNot .u32 x 3 = x / 4 * 4 := by
  obtain ⟨y, rfl⟩ := Int.eq_ofNat_of_zero_le h0
  have := u32_andNot_nat y 3 (by omega) (by decide)
  rw [show (4294967295 - 3 : Nat) = 4294967292 from rfl, nat_and4 y (by omega)] at this
  rw [show ((3 : Nat) : Int) = 3 from rfl] at this
  rw [this]
  omega

set_option maxRecDepth 10000 in
theorem ownFault_p (b o n c i : Nat) (x k d q code m sg : Int) (w : World) (hn : n ≤ 256) (hi : i < n) (hx : 0 ≤ x ∧ x < 18446744073709551616) (hcell : w.cell? ⟨b, o + i, none⟩ = some (.int .u64 x)) (hP : Parts x k d q code m sg) :
    Calls Facg.prog 22 #[.slice (some ⟨b, o, none⟩) n c, .int .i64 i] w fun e w' => e = .returned (.int .u8 (faultP n i k d q code m sg)) ∧ w' = w := by
  have hx0 := hx.1
  have hx1 := hx.2
  have hp := hP
  obtain ⟨gk, gd, gq, gc, gm, gs⟩ := hp
  have a2 := u64_and2 x hx0 hx1
  have a1 : bits .and .u64 x 1 = x % 2 := by
    have := and_mask x 1 hx0 hx1 (by decide)
    simpa using this
  have aD : bits .and .u64 (x / 4294967296) 65535 = d := by
    have := and_mask (x / 4294967296) 16 (by omega) (by omega) (by decide)
    rw [← gd]
    simpa using this
  have aC : bits .and .u64 (x / 4294967296) 7 = code := by
    have := and_mask (x / 4294967296) 3 (by omega) (by omega) (by decide)
    rw [← gc]
    simpa using this
  have aN := u32_andNot3 (x % 4294967296) (by omega) (by omega)
  obtain ⟨y, hy⟩ : ∃ y, y = x % 4294967296 / 4 * 4 := ⟨_, rfl⟩
  rw [← hy] at aN
  obtain ⟨W, hW⟩ : ∃ W, IntKind.i32.wrap y = W := ⟨_, rfl⟩
  have hWs : W / 4 = sg := by
    rw [← gs, ← hW, IntKind.wrap_i32]
    unfold signI
    split <;> omega
  have bW : -2147483648 ≤ W ∧ W < 2147483648 := by rw [← hW, IntKind.wrap_i32]; omega
  have by_ : 0 ≤ y ∧ y < 4294967296 := by omega
  have gq' : x / 281474976710656 = q := by omega
  have gm' : x / 34359738368 = m := by omega
  have hsg := signI_bd (x / 4)
  rw [gs] at hsg
  have bc : 0 ≤ code ∧ code < 8 := by omega
  have bm : 0 ≤ m ∧ m < 536870912 := by omega
  have bk : 0 ≤ k ∧ k < 4 := by omega
  have v2 : bits .and .u64 x 2 = if 2 ≤ k then 2 else 0 := by rw [a2]; split <;> omega
  have v1 : bits .and .u64 x 1 = k % 2 := by rw [a1]; omega
  clear gk gd gq gc gm gs hP a1 a2 hy
  by_cases h2 : 2 ≤ k
  · have hv : faultP n i k d q code m sg = 2 := by unfold faultP; rw [if_pos h2]
    rw [hv]
    clear hv
    rw [if_pos h2] at v2
    go_enter Facg.func22, Facg.ntmps22
    go_wp2
    go_ret
    exact ⟨rfl, rfl⟩
  by_cases h0 : k = 0
  · subst h0
    by_cases h8 : 8 < d
    · have hv : faultP n i 0 d q code m sg = 4 := by unfold faultP; rw [if_neg (by decide), if_pos rfl, if_pos (.inl h8)]
      rw [hv]
      clear hv
      rw [if_neg (by omega)] at v2
      rw [show (0 : Int) % 2 = 0 from rfl] at v1
      have e1 : decide (8 < d) = true := decide_eq_true (by omega)
      go_enter Facg.func22, Facg.ntmps22
      go_wp2
      go_ret
      exact ⟨rfl, rfl⟩
    by_cases h9 : 8 < q
    · have hv : faultP n i 0 d q code m sg = 4 := by unfold faultP; rw [if_neg (by decide), if_pos rfl, if_pos (.inr h9)]
      rw [hv]
      clear hv
      rw [if_neg (by omega)] at v2
      rw [show (0 : Int) % 2 = 0 from rfl] at v1
      have e1 : decide (8 < d) = false := decide_eq_false (by omega)
      have e2 : decide (8 < q) = true := decide_eq_true (by omega)
      go_enter Facg.func22, Facg.ntmps22
      go_wp2
      go_ret
      exact ⟨rfl, rfl⟩
    · have hv : faultP n i 0 d q code m sg = 5 := by unfold faultP; rw [if_neg (by decide), if_pos rfl, if_neg (by omega)]
      rw [hv]
      clear hv
      rw [if_neg (by omega)] at v2
      rw [show (0 : Int) % 2 = 0 from rfl] at v1
      have e1 : decide (8 < d) = false := decide_eq_false (by omega)
      have e2 : decide (8 < q) = false := decide_eq_false (by omega)
      go_enter Facg.func22, Facg.ntmps22
      go_wp2
      go_ret
      exact ⟨rfl, rfl⟩
  obtain rfl : k = 1 := by omega
  by_cases c2 : code < 2
  · have hv : faultP n i 1 d q code m sg = 3 := by unfold faultP; rw [if_neg (by decide), if_neg (by decide), if_pos c2]
    rw [hv]
    clear hv
    rw [if_neg (by omega)] at v2
    rw [show (1 : Int) % 2 = 1 from rfl] at v1
    have e1 : decide (code < 2) = true := decide_eq_true (by omega)
    go_enter Facg.func22, Facg.ntmps22
    go_wp2
    go_ret
    exact ⟨rfl, rfl⟩
  by_cases c7 : code < 7
  · by_cases hm : 128 < m
    · have hv : faultP n i 1 d q code m sg = 4 := by unfold faultP; rw [if_neg (by decide), if_neg (by decide), if_neg c2, if_pos c7, if_pos hm]
      rw [hv]
      clear hv
      rw [if_neg (by omega)] at v2
      rw [show (1 : Int) % 2 = 1 from rfl] at v1
      have e1 : decide (code < 2) = false := decide_eq_false (by omega)
      have e2 : decide (code < 7) = true := decide_eq_true (by omega)
      have e3 : decide (128 < m) = true := decide_eq_true (by omega)
      go_enter Facg.func22, Facg.ntmps22
      go_wp2
      go_ret
      exact ⟨rfl, rfl⟩
    · have hv : faultP n i 1 d q code m sg = 5 := by unfold faultP; rw [if_neg (by decide), if_neg (by decide), if_neg c2, if_pos c7, if_neg hm]
      rw [hv]
      clear hv
      rw [if_neg (by omega)] at v2
      rw [show (1 : Int) % 2 = 1 from rfl] at v1
      have e1 : decide (code < 2) = false := decide_eq_false (by omega)
      have e2 : decide (code < 7) = true := decide_eq_true (by omega)
      have e3 : decide (128 < m) = false := decide_eq_false (by omega)
      go_enter Facg.func22, Facg.ntmps22
      go_wp2
      go_ret
      exact ⟨rfl, rfl⟩
  obtain rfl : code = 7 := by omega
  by_cases ht : (i : Int) + 1 + sg < 1
  · have hv : faultP n i 1 d q 7 m sg = 5 := by unfold faultP; rw [if_neg (by decide), if_neg (by decide), if_neg c2, if_neg c7, if_pos (.inl ht)]
    rw [hv]
    clear hv
    rw [if_neg (by omega)] at v2
    rw [show (1 : Int) % 2 = 1 from rfl] at v1
    have e1 : decide ((i : Int) + 1 + sg ≤ 0) = true := decide_eq_true (by omega)
    go_enter Facg.func22, Facg.ntmps22
    go_wp2
    go_ret
    exact ⟨rfl, rfl⟩
  by_cases hr : (n : Int) < (i : Int) + 1 + sg + 1 + m
  · have hv : faultP n i 1 d q 7 m sg = 5 := by unfold faultP; rw [if_neg (by decide), if_neg (by decide), if_neg c2, if_neg c7, if_pos (.inr hr)]
    rw [hv]
    clear hv
    rw [if_neg (by omega)] at v2
    rw [show (1 : Int) % 2 = 1 from rfl] at v1
    have e1 : decide ((i : Int) + 1 + sg ≤ 0) = false := decide_eq_false (by omega)
    have e2 : decide ((n : Int) ≤ (i : Int) + 1 + sg + m) = true := decide_eq_true (by omega)
    go_enter Facg.func22, Facg.ntmps22
    go_wp2
    go_ret
    exact ⟨rfl, rfl⟩
  · have hv : faultP n i 1 d q 7 m sg = 6 := by unfold faultP; rw [if_neg (by decide), if_neg (by decide), if_neg c2, if_neg c7, if_neg (by omega)]
    rw [hv]
    clear hv
    rw [if_neg (by omega)] at v2
    rw [show (1 : Int) % 2 = 1 from rfl] at v1
    have e1 : decide ((i : Int) + 1 + sg ≤ 0) = false := decide_eq_false (by omega)
    have e2 : decide ((n : Int) ≤ (i : Int) + 1 + sg + m) = false := decide_eq_false (by omega)
    go_enter Facg.func22, Facg.ntmps22
    go_wp2
    go_ret
    exact ⟨rfl, rfl⟩

theorem pointerFault_any (a : Option Addr) (n c i : Nat) (f : Nat → Int) (w : World) (hn : n ≤ 256) (hi : i < n) (hA : ArenaAt w a n f) :
    Calls Facg.prog 106 #[.slice a n c, .int .u16 i] w fun e w' => e = .returned (.int .u8 (faultW (f i) n i)) ∧ w' = w := by
  obtain ⟨b, o, rfl, hc⟩ := hA.2 (by omega)
  rw [faultP_eq ⟨rfl, rfl, rfl, rfl, rfl, rfl⟩]
  exact pointerFault_p b o n c i (f i) _ _ _ _ _ _ w hn hi (hA.1 i) (hc i hi) ⟨rfl, rfl, rfl, rfl, rfl, rfl⟩
theorem ownFault_any (a : Option Addr) (n c i : Nat) (f : Nat → Int) (w : World) (hn : n ≤ 256) (hi : i < n) (hA : ArenaAt w a n f) :
    Calls Facg.prog 22 #[.slice a n c, .int .i64 i] w fun e w' => e = .returned (.int .u8 (faultW (f i) n i)) ∧ w' = w := by
  obtain ⟨b, o, rfl, hc⟩ := hA.2 (by omega)
  rw [faultP_eq ⟨rfl, rfl, rfl, rfl, rfl, rfl⟩]
  exact ownFault_p b o n c i (f i) _ _ _ _ _ _ w hn hi (hA.1 i) (hc i hi) ⟨rfl, rfl, rfl, rfl, rfl, rfl⟩
theorem faultW_bd (x : Int) (n i : Nat) : 2 ≤ faultW x n i ∧ faultW x n i ≤ 6 := by
  unfold faultW
  split
  · omega
  split
  · split <;> omega
  split
  · omega
  split
  · split <;> omega
  · split <;> omega

end Go.Proofs.Ygcfac
