import Derived.Test.YgcfacCodesWalk
namespace Go.Proofs.Ygcfac
open Go.RowKit
set_option linter.unusedVariables false

theorem pow_bd (n : Nat) (hn : n < 64) : (1 : Int) ≤ 2 ^ n ∧ (2 : Int) ^ n ≤ 9223372036854775808 := by
  have h1 : 1 ≤ 2 ^ n := Nat.one_le_two_pow
  have h2 : 2 ^ n ≤ 2 ^ 63 := Nat.pow_le_pow_right (by decide) (by omega)
  have e : ((2 ^ n : Nat) : Int) = 2 ^ n := by simp
  omega

theorem mask_any (n : Nat) (w : World) (hn : n < 64) :
    Calls Facg.prog 161 #[.int .u8 (n : Int)] w fun e w' => e = .returned (.int .u64 ((2 : Int) ^ n - 1)) ∧ w' = w := by
  go_enter Facg.func161, Facg.ntmps161
  go_wp2
  go_ret
  have := pow_bd n hn
  refine ⟨?_, rfl⟩
  have e : IntKind.u64.wrap (IntKind.u64.wrap (2 ^ n) - 1) = (2 : Int) ^ n - 1 := by
    generalize (2 : Int) ^ n = Y at *
    rw [IntKind.wrap_u64, IntKind.wrap_u64]; omega
  rw [← e]
  rfl

theorem fits_any (a n : Nat) (w : World) (ha : a < 256) (hn : n < 256) (h : a + n ≤ 64) :
    Calls Facg.prog 162 #[.int .u8 (a : Int), .int .u8 (n : Int)] w fun e w' => e = .returned (.bool true) ∧ w' = w := by
  have hd : decide ((a : Int) + (n : Int) ≤ 64) = true := by simp; omega
  go_enter Facg.func162, Facg.ntmps162
  go_wp2
  go_ret
  exact ⟨rfl, rfl⟩

theorem and_mask (x : Int) (n : Nat) (h0 : 0 ≤ x) (h1 : x < 18446744073709551616) (hn : n < 64) : bits .and .u64 x ((2 : Int) ^ n - 1) = x % 2 ^ n := by
  obtain ⟨x, rfl⟩ := Int.eq_ofNat_of_zero_le h0
  have hp := pow_bd n hn
  have e : ((2 : Int) ^ n - 1) = ((2 ^ n - 1 : Nat) : Int) := by
    have e : ((2 ^ n : Nat) : Int) = 2 ^ n := by simp
    omega
  rw [e, u64_and_nat x _ (by omega) (by have e : ((2 ^ n : Nat) : Int) = 2 ^ n := by simp
                                        omega), Nat.and_two_pow_sub_one_eq_mod]
  simp

/-- Bits a to a+n of a word. -/
theorem take_any (x : Int) (a n : Nat) (w : World) (h0 : 0 ≤ x) (h1 : x < 18446744073709551616) (h : a + n ≤ 64) (hn : n < 64) (ha : a < 64) :
    Calls Facg.prog 108 #[.int .u64 x, .int .u8 (a : Int), .int .u8 (n : Int)] w fun e w' => e = .returned (.int .u64 (x / 2 ^ a % 2 ^ n)) ∧ w' = w := by
  have hp := pow_bd a ha
  have hq : 0 ≤ x / 2 ^ a ∧ x / 2 ^ a < 18446744073709551616 := by
    refine ⟨Int.ediv_nonneg h0 (by omega), ?_⟩
    have := Int.ediv_le_self (2 ^ a) h0
    omega
  have hm := and_mask (x / 2 ^ a) n hq.1 hq.2 hn
  have hda : decide ((a : Int) < 64) = true := by simp; omega
  go_enter Facg.func108, Facg.ntmps108
  go_wp2_with (first
    | (go_at_call 162; refine (fits_any a n _ (by omega) (by omega) h).mono ?_; rintro e w' ⟨rfl, rfl⟩)
    | (go_at_call 161; refine (mask_any n _ hn).mono ?_; rintro e w' ⟨rfl, rfl⟩))
  go_ret
  exact ⟨rfl, rfl⟩

theorem xor_top (y : Nat) (h : y < 1073741824) : y ^^^ 536870912 = if y < 536870912 then y + 536870912 else y - 536870912 := by
  have e1 : (y ^^^ 536870912) % 2 ^ 29 = (y % 2 ^ 29) ^^^ (536870912 % 2 ^ 29) := Nat.xor_mod_two_pow
  have e2 : (y ^^^ 536870912) / 2 ^ 29 = (y / 2 ^ 29) ^^^ (536870912 / 2 ^ 29) := Nat.xor_div_two_pow
  rw [show 536870912 % 2 ^ 29 = 0 by decide, Nat.xor_zero] at e1
  rw [show 536870912 / 2 ^ 29 = 1 by decide] at e2
  split
  · rw [show y / 2 ^ 29 = 0 by omega] at e2
    simp at e2
    omega
  · rw [show y / 2 ^ 29 = 1 by omega] at e2
    simp at e2
    omega

/-- The offset field of a pointer word, read with its sign. -/
def signI (x : Int) : Int := if x % 1073741824 < 536870912 then x % 1073741824 else x % 1073741824 - 1073741824

theorem sign_any (x : Int) (w : World) (h0 : 0 ≤ x) (h1 : x < 18446744073709551616) :
    Calls Facg.prog 107 #[.int .u64 x, .int .u8 30] w fun e w' => e = .returned (.int .i64 (signI x)) ∧ w' = w := by
  have hm := and_mask x 30 h0 h1 (by decide)
  have e30 : ((2 : Int) ^ 30) = 1073741824 := by decide
  rw [e30] at hm
  have hx : bits .xor .u64 (x % 1073741824) 536870912 = if x % 1073741824 < 536870912 then x % 1073741824 + 536870912 else x % 1073741824 - 536870912 := by
    obtain ⟨y, hy⟩ := Int.eq_ofNat_of_zero_le (show 0 ≤ x % 1073741824 by omega)
    have hyl : y < 1073741824 := by omega
    rw [hy]
    have := u64_xor_nat y 536870912 (by omega) (by decide)
    rw [xor_top y hyl] at this
    refine this.trans ?_
    by_cases h : y < 536870912
    · rw [if_pos h, if_pos (by omega)]; omega
    · rw [if_neg h, if_neg (by omega)]; omega
  have hmask := mask_any 30 w (by decide)
  rw [e30] at hmask
  have HM := hide hmask
  clear hmask
  go_enter Facg.func107, Facg.ntmps107
  go_wp2_with (first
    | (go_at_call 161; refine HM.out.mono ?_; rintro e w' ⟨rfl, rfl⟩))
  go_ret
  refine ⟨?_, rfl⟩
  have hm2 : bits .and .u64 x 1073741823 = x % 1073741824 := hm
  have e : wrap64 (IntKind.u64.wrap (bits .xor .u64 (bits .and .u64 x 1073741823) 536870912 - 536870912)) = signI x := by
    rw [hm2, hx]
    unfold signI
    split
    · rw [IntKind.wrap_u64]; unfold wrap64; omega
    · rw [IntKind.wrap_u64]; unfold wrap64; omega
  rw [← e]
  rfl
end Go.Proofs.Ygcfac
