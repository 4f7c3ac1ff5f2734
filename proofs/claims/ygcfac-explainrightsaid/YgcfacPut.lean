import Derived.Test.YgcfacInLaw
import Derived.Test.YgcfacOwnIn
namespace Go.Proofs.Ygcfac
open Go.RowKit
set_option linter.unusedVariables false

/-- The word whose bits a to a+r are 1. -/
def runM (a r : Nat) : Nat := (2 ^ r - 1) * 2 ^ a

theorem runM_lt (a r : Nat) (h : a + r ≤ 64) : runM a r < 18446744073709551616 := by
  unfold runM
  have h1 : 2 ^ r * 2 ^ a ≤ 2 ^ 64 := by rw [← Nat.pow_add]; exact Nat.pow_le_pow_right (by decide) (by omega)
  have h2 : 0 < 2 ^ a := Nat.pow_pos (by decide)
  have h3 : 0 < 2 ^ r := Nat.pow_pos (by decide)
  have : (2 ^ r - 1) * 2 ^ a < 2 ^ r * 2 ^ a := Nat.mul_lt_mul_of_pos_right (by omega) h2
  omega

theorem runM_bit (a r i : Nat) : (runM a r).testBit i = (decide (a ≤ i) && decide (i < a + r)) := by
  unfold runM
  rw [Nat.testBit_mul_two_pow]
  by_cases h : a ≤ i
  · simp only [h, decide_true, Bool.true_and]
    rw [Nat.testBit_two_pow_sub_one]
    exact decide_eq_decide.2 (by omega)
  · simp [h]

theorem mask_64 (w : World) : Calls Facg.prog 161 #[.int .u8 64] w fun e w' => e = .returned (.int .u64 18446744073709551615) ∧ w' = w := by
  go_enter Facg.func161, Facg.ntmps161
  go_wp2
  go_ret
  exact ⟨rfl, rfl⟩

theorem mask_le (n : Nat) (w : World) (hn : n ≤ 64) :
    Calls Facg.prog 161 #[.int .u8 (n : Int)] w fun e w' => e = .returned (.int .u64 ((2 ^ n - 1 : Nat) : Int)) ∧ w' = w := by
  by_cases h : n = 64
  · subst h; exact mask_64 w
  · have := mask_any n w (by omega)
    have e : ((2 ^ n - 1 : Nat) : Int) = (2 : Int) ^ n - 1 := by
      have h1 : 1 ≤ 2 ^ n := Nat.one_le_two_pow
      have e : ((2 ^ n : Nat) : Int) = 2 ^ n := by simp
      omega
    rw [e]; exact this

theorem put_any (a r : Nat) (w : World) (h : a + r ≤ 64) (ha : a < 64) :
    Calls Facg.prog 142 #[.int .u64 0, .int .u64 18446744073709551615, .int .u8 (a : Int), .int .u8 (r : Int)] w fun e w' => e = .returned (.int .u64 (runM a r : Int)) ∧ w' = w := by
  have hM := mask_le r w (by omega)
  have hlt := runM_lt a r h
  have hm1 : 2 ^ r - 1 < 18446744073709551616 := by
    have : 2 ^ r ≤ 2 ^ 64 := Nat.pow_le_pow_right (by decide) (by omega)
    omega
  have hand : bits .and .u64 18446744073709551615 ((2 ^ r - 1 : Nat) : Int) = ((2 ^ r - 1 : Nat) : Int) := by
    rw [show (18446744073709551615 : Int) = ((2 ^ 64 - 1 : Nat) : Int) by decide, u64_and_nat _ _ (by decide) (by omega)]
    congr 1
    rw [Nat.and_comm, Nat.and_two_pow_sub_one_eq_mod, Nat.mod_eq_of_lt (by omega)]
  have hrm : ((2 ^ r - 1 : Nat) : Int) * 2 ^ a = (runM a r : Int) := by unfold runM; simp
  have hor : ∀ x : Int, bits .or .u64 (bits .andNot .u64 0 x) (runM a r : Int) = (runM a r : Int) := by
    intro x
    have : bits .andNot .u64 0 x = 0 := by simp [bits, IntKind.wrap_u64]
    rw [this]
    have := u64_or_nat 0 (runM a r) (by decide) (by omega)
    simpa using this
  have HM := hide hM
  generalize 2 ^ r - 1 = mr at *
  go_enter Facg.func142, Facg.ntmps142
  go_wp2_with (first
    | (go_at_call 162; refine (fits_any a r _ (by omega) (by omega) h).mono ?_; rintro e w' ⟨rfl, rfl⟩)
    | (go_at_call 161; refine (HM.out).mono ?_; rintro e w' ⟨rfl, rfl⟩))
  go_ret
  exact ⟨rfl, rfl⟩

set_option maxRecDepth 10000 in
theorem extent_k (k at_ d q cd m : Int) (w : World) (h : (P.mk k at_ d q cd m).Ok) (hk : ¬ k = 2) (W : Int) (hW : wordsI (P.mk k at_ d q cd m) = W) :
    Calls Facg.prog 141 #[(P.mk k at_ d q cd m).val] w fun e w' => e = .returned (.tuple #[.int .u16 (at_), .int .u16 W]) ∧ Grows w w' := by
  have HW := hide (fun w => pwords_any _ h w)
  have hb := pwords_bd _ h
  have hat := h.at_
  simp only at hat
  rw [hW] at HW hb
  clear hW h
  have e0 : (k == 2) = false := by rw [beq_eq_false_iff_ne]; exact hk
  have HBX := hide (BoxP.box w (P.mk k at_ d q cd m) 31)
  unfold P.val at *
  go_enter Facg.func141, Facg.ntmps141
  go_wp2
  go_cut [2, 3] (fun s2 s3 wc => s2 = .int .u16 (at_) ∧ s3 = .int .u16 W ∧ Grows (w.alloc (.cells #[.int .u8 k, .int .u16 at_, .int .u8 d, .int .u8 q, .int .u8 cd, .int .u16 m] 31)) wc)
  case first =>
    go_region_held (fun w' => Grows (w.alloc (.cells #[.int .u8 k, .int .u16 at_, .int .u8 d, .int .u8 q, .int .u8 cd, .int .u16 m] 31)) w' ∧ w'.cell? ⟨w.heap.size, 0, none⟩ = some (.int .u8 k) ∧ w'.cell? ⟨w.heap.size, 1, none⟩ = some (.int .u16 at_) ∧ w'.cell? ⟨w.heap.size, 2, none⟩ = some (.int .u8 d) ∧ w'.cell? ⟨w.heap.size, 3, none⟩ = some (.int .u8 q) ∧ w'.cell? ⟨w.heap.size, 4, none⟩ = some (.int .u8 cd) ∧ w'.cell? ⟨w.heap.size, 5, none⟩ = some (.int .u16 m))
      ((first | assumption | exact held6 (Kept.refl _ _).drew HBX.out | exact held6 (Kept.trans (And.left (by assumption)) hg) HBX.out))
      ((go_at_call 74; refine (HW.out _).mono ?_; rintro e wA ⟨rfl, hg⟩))
    all_goals go_wp2
    all_goals go_meet
    all_goals exact ⟨rfl, rfl, And.left (by assumption)⟩
  case rest =>
    obtain ⟨rfl, rfl, hg⟩ := hcut
    have HG := hide (((Kept.refl _ _).alloc _).trans hg)
    clear hg HBX HW
    go_wp2
    exact bodyPost_ret (by simp [results, Facg.results141, go_sem]) rfl ⟨rfl, HG.out⟩

set_option maxRecDepth 10000 in
theorem extent_2 (at_ d q cd m : Int) (w : World) (h : (P.mk 2 at_ d q cd m).Ok) (hc : ¬ cd = 7) (W : Int) (hW : wordsI (P.mk 2 at_ d q cd m) = W) :
    Calls Facg.prog 141 #[(P.mk 2 at_ d q cd m).val] w fun e w' => e = .returned (.tuple #[.int .u16 (at_), .int .u16 W]) ∧ Grows w w' := by
  have HW := hide (fun w => pwords_any _ h w)
  have hb := pwords_bd _ h
  have hat := h.at_
  simp only at hat
  rw [hW] at HW hb
  clear hW h
  have e0 : (cd == 7) = false := by rw [beq_eq_false_iff_ne]; exact hc
  have HBX := hide (BoxP.box w (P.mk 2 at_ d q cd m) 31)
  unfold P.val at *
  go_enter Facg.func141, Facg.ntmps141
  go_wp2
  go_cut [2, 3] (fun s2 s3 wc => s2 = .int .u16 (at_) ∧ s3 = .int .u16 W ∧ Grows (w.alloc (.cells #[.int .u8 2, .int .u16 at_, .int .u8 d, .int .u8 q, .int .u8 cd, .int .u16 m] 31)) wc)
  case first =>
    go_region_held (fun w' => Grows (w.alloc (.cells #[.int .u8 2, .int .u16 at_, .int .u8 d, .int .u8 q, .int .u8 cd, .int .u16 m] 31)) w' ∧ w'.cell? ⟨w.heap.size, 0, none⟩ = some (.int .u8 2) ∧ w'.cell? ⟨w.heap.size, 1, none⟩ = some (.int .u16 at_) ∧ w'.cell? ⟨w.heap.size, 2, none⟩ = some (.int .u8 d) ∧ w'.cell? ⟨w.heap.size, 3, none⟩ = some (.int .u8 q) ∧ w'.cell? ⟨w.heap.size, 4, none⟩ = some (.int .u8 cd) ∧ w'.cell? ⟨w.heap.size, 5, none⟩ = some (.int .u16 m))
      ((first | assumption | exact held6 (Kept.refl _ _).drew HBX.out | exact held6 (Kept.trans (And.left (by assumption)) hg) HBX.out))
      ((go_at_call 74; refine (HW.out _).mono ?_; rintro e wA ⟨rfl, hg⟩))
    all_goals go_wp2
    all_goals go_meet
    all_goals exact ⟨rfl, rfl, And.left (by assumption)⟩
  case rest =>
    obtain ⟨rfl, rfl, hg⟩ := hcut
    have HG := hide (((Kept.refl _ _).alloc _).trans hg)
    clear hg HBX HW
    go_wp2
    exact bodyPost_ret (by simp [results, Facg.results141, go_sem]) rfl ⟨rfl, HG.out⟩

set_option maxRecDepth 10000 in
theorem extent_7 (at_ d q m : Int) (w : World) (h : (P.mk 2 at_ d q 7 m).Ok) (h1 : 1 ≤ at_) (W : Int) (hW : wordsI (P.mk 2 at_ d q 7 m) = W) :
    Calls Facg.prog 141 #[(P.mk 2 at_ d q 7 m).val] w fun e w' => e = .returned (.tuple #[.int .u16 (at_ - 1), .int .u16 W]) ∧ Grows w w' := by
  have HW := hide (fun w => pwords_any _ h w)
  have hb := pwords_bd _ h
  have hat := h.at_
  simp only at hat
  rw [hW] at HW hb
  clear hW h
  have HWR : Hid (IntKind.u16.wrap (at_ - 1) = at_ - 1) := by unfold Hid; rw [IntKind.wrap_u16]; omega
  have HBX := hide (BoxP.box w (P.mk 2 at_ d q 7 m) 31)
  unfold P.val at *
  go_enter Facg.func141, Facg.ntmps141
  go_wp2
  go_cut [2, 3] (fun s2 s3 wc => s2 = .int .u16 (at_ - 1) ∧ s3 = .int .u16 W ∧ Grows (w.alloc (.cells #[.int .u8 2, .int .u16 at_, .int .u8 d, .int .u8 q, .int .u8 7, .int .u16 m] 31)) wc)
  case first =>
    go_region_held (fun w' => Grows (w.alloc (.cells #[.int .u8 2, .int .u16 at_, .int .u8 d, .int .u8 q, .int .u8 7, .int .u16 m] 31)) w' ∧ w'.cell? ⟨w.heap.size, 0, none⟩ = some (.int .u8 2) ∧ w'.cell? ⟨w.heap.size, 1, none⟩ = some (.int .u16 at_) ∧ w'.cell? ⟨w.heap.size, 2, none⟩ = some (.int .u8 d) ∧ w'.cell? ⟨w.heap.size, 3, none⟩ = some (.int .u8 q) ∧ w'.cell? ⟨w.heap.size, 4, none⟩ = some (.int .u8 7) ∧ w'.cell? ⟨w.heap.size, 5, none⟩ = some (.int .u16 m))
      ((first | assumption | exact held6 (Kept.refl _ _).drew HBX.out | exact held6 (Kept.trans (And.left (by assumption)) hg) HBX.out))
      ((go_at_call 74; refine (HW.out _).mono ?_; rintro e wA ⟨rfl, hg⟩))
    all_goals go_wp2
    all_goals go_meet
    all_goals exact ⟨congrArg (Value.int IntKind.u16) HWR.out, rfl, And.left (by assumption)⟩
  case rest =>
    obtain ⟨rfl, rfl, hg⟩ := hcut
    have HG := hide (((Kept.refl _ _).alloc _).trans hg)
    clear hg HBX HW
    go_wp2
    exact bodyPost_ret (by simp [results, Facg.results141, go_sem]) rfl ⟨rfl, HG.out⟩

/-- wire.Extent, of a Ptr whose first word is an index. -/
theorem extent_any (p : P) (w : World) (h : p.Ok) (h1 : 0 ≤ p.first) :
    Calls Facg.prog 141 #[p.val] w fun e w' => e = .returned (.tuple #[.int .u16 p.first, .int .u16 (wordsI p)]) ∧ Grows w w' := by
  obtain ⟨k, at_, d, q, cd, m⟩ := p
  unfold P.first at *
  simp only at *
  by_cases hk : k = 2
  · subst hk
    by_cases hc : cd = 7
    · subst hc
      rw [if_pos ⟨rfl, rfl⟩] at h1 ⊢
      exact extent_7 at_ d q m w h (by omega) _ rfl
    · rw [if_neg (by omega)] at h1 ⊢
      exact extent_2 at_ d q cd m w h hc _ rfl
  · rw [if_neg (by omega)] at h1 ⊢
    exact extent_k k at_ d q cd m w h hk _ rfl
end Go.Proofs.Ygcfac
