import Derived.Test.YgcfacInside
namespace Go.Proofs.Ygcfac
open Go.RowKit
set_option linter.unusedVariables false


set_option maxRecDepth 10000 in
theorem ow_0 (a d q c n : Int) (w : World) (hd : 0 ≤ d ∧ d < 256) (hq : 0 ≤ q ∧ q < 256) (sd sq : Bool) (h1 : decide (d ≤ 8) = sd) (h2 : decide (q ≤ 8) = sq) :
    Calls Facg.prog 21 #[(P.mk 0 a d q c n).val] w fun e w' => e = .returned (.int .i64 0) ∧ Grows w w' := by
  unfold P.val
  cases sd <;> cases sq
  all_goals (go_enter Facg.func21, Facg.ntmps21; go_wp2; go_quiet (fail); go_wp2; go_ret; exact ⟨rfl, (by first | exact (Kept.refl _ _).alloc _ | exact ((Kept.refl _ _).alloc _).drewN _)⟩)

set_option maxRecDepth 10000 in
theorem ow_1 (a d q c n : Int) (w : World) (hd : 0 ≤ d ∧ d < 256) (hq : 0 ≤ q ∧ q < 256) (sd sq : Bool) (h1 : decide (d ≤ 8) = sd) (h2 : decide (q ≤ 8) = sq) :
    Calls Facg.prog 21 #[(P.mk 1 a d q c n).val] w fun e w' => e = .returned (.int .i64 (if sd && sq then d + q else 257)) ∧ Grows w w' := by
  unfold P.val
  have hm : sd = true → sq = true → (if (257 : Int) < d + q then (257 : Int) else d + q) = d + q := by
    intro e1 e2
    subst h1 h2
    simp at e1 e2
    rw [if_neg (by omega)]
  cases sd <;> cases sq
  · clear hm; (go_enter Facg.func21, Facg.ntmps21; go_wp2; go_quiet (fail); go_wp2; go_ret; exact ⟨rfl, (by first | exact (Kept.refl _ _).alloc _ | exact ((Kept.refl _ _).alloc _).drewN _)⟩)
  · clear hm; (go_enter Facg.func21, Facg.ntmps21; go_wp2; go_quiet (fail); go_wp2; go_ret; exact ⟨rfl, (by first | exact (Kept.refl _ _).alloc _ | exact ((Kept.refl _ _).alloc _).drewN _)⟩)
  · clear hm; (go_enter Facg.func21, Facg.ntmps21; go_wp2; go_quiet (fail); go_wp2; go_ret; exact ⟨rfl, (by first | exact (Kept.refl _ _).alloc _ | exact ((Kept.refl _ _).alloc _).drewN _)⟩)
  · have hm := hm rfl rfl
    (go_enter Facg.func21, Facg.ntmps21; go_wp2; go_quiet (fail); go_wp2; go_ret; exact ⟨rfl, (by first | exact (Kept.refl _ _).alloc _ | exact ((Kept.refl _ _).alloc _).drewN _)⟩)

set_option maxRecDepth 10000 in
theorem ow_k (k a d q c n : Int) (w : World) (hk : ¬ k = 0) (hk1 : ¬ k = 1) (hk2 : ¬ k = 2) (hd : 0 ≤ d ∧ d < 256) (hq : 0 ≤ q ∧ q < 256) (sd sq : Bool) (h1 : decide (d ≤ 8) = sd) (h2 : decide (q ≤ 8) = sq) :
    Calls Facg.prog 21 #[(P.mk k a d q c n).val] w fun e w' => e = .returned (.int .i64 257) ∧ Grows w w' := by
  unfold P.val
  have e0 : (k == 0) = false := by rw [beq_eq_false_iff_ne]; exact hk
  have e1 : (k == 1) = false := by rw [beq_eq_false_iff_ne]; exact hk1
  have e2 : (k == 2) = false := by rw [beq_eq_false_iff_ne]; exact hk2
  cases sd <;> cases sq
  all_goals (go_enter Facg.func21, Facg.ntmps21; go_wp2; go_quiet (fail); go_wp2; go_ret; exact ⟨rfl, (by first | exact (Kept.refl _ _).alloc _ | exact ((Kept.refl _ _).alloc _).drewN _)⟩)

set_option maxRecDepth 10000 in
theorem ow_n (a d q c n : Int) (w : World) (hn : 128 < n) (hd : 0 ≤ d ∧ d < 256) (hq : 0 ≤ q ∧ q < 256) (sd sq : Bool) (h1 : decide (d ≤ 8) = sd) (h2 : decide (q ≤ 8) = sq) :
    Calls Facg.prog 21 #[(P.mk 2 a d q c n).val] w fun e w' => e = .returned (.int .i64 257) ∧ Grows w w' := by
  unfold P.val
  have e0 : decide (128 < n) = true := decide_eq_true hn
  cases sd <;> cases sq
  all_goals (go_enter Facg.func21, Facg.ntmps21; go_wp2; go_quiet (fail); go_wp2; go_ret; exact ⟨rfl, (by first | exact (Kept.refl _ _).alloc _ | exact ((Kept.refl _ _).alloc _).drewN _)⟩)

set_option maxRecDepth 10000 in
theorem ow_6 (a d q n : Int) (w : World) (hn0 : 0 ≤ n) (hn : n ≤ 128) (hd : 0 ≤ d ∧ d < 256) (hq : 0 ≤ q ∧ q < 256) (sd sq : Bool) (h1 : decide (d ≤ 8) = sd) (h2 : decide (q ≤ 8) = sq) :
    Calls Facg.prog 21 #[(P.mk 2 a d q 6 n).val] w fun e w' => e = .returned (.int .i64 n) ∧ Grows w w' := by
  unfold P.val
  have e0 : decide (128 < n) = false := decide_eq_false (by omega)
  have hm : (if (257 : Int) < n then (257 : Int) else n) = n := by rw [if_neg (by omega)]
  cases sd <;> cases sq
  all_goals (go_enter Facg.func21, Facg.ntmps21; go_wp2; go_quiet (fail); go_wp2; go_ret; exact ⟨rfl, (by first | exact (Kept.refl _ _).alloc _ | exact ((Kept.refl _ _).alloc _).drewN _)⟩)
end Go.Proofs.Ygcfac
