import Derived.Test.YgcfacOwnW
namespace Go.Proofs.Ygcfac
open Go.RowKit
set_option linter.unusedVariables false

set_option maxRecDepth 10000 in
theorem ow_c (a d q c n : Int) (w : World) (hn : n ≤ 128) (hc : c < 2 ∨ 7 < c) (hd : 0 ≤ d ∧ d < 256) (hq : 0 ≤ q ∧ q < 256) (sd sq : Bool) (h1 : decide (d ≤ 8) = sd) (h2 : decide (q ≤ 8) = sq) :
    Calls Facg.prog 21 #[(P.mk 2 a d q c n).val] w fun e w' => e = .returned (.int .i64 257) ∧ Grows w w' := by
  unfold P.val
  have e0 : decide (128 < n) = false := decide_eq_false (by omega)
  have e2 : (c == 2) = false := by rw [beq_eq_false_iff_ne]; omega
  have e3 : (c == 3) = false := by rw [beq_eq_false_iff_ne]; omega
  have e4 : (c == 4) = false := by rw [beq_eq_false_iff_ne]; omega
  have e5 : (c == 5) = false := by rw [beq_eq_false_iff_ne]; omega
  have e6 : (c == 6) = false := by rw [beq_eq_false_iff_ne]; omega
  have e7 : (c == 7) = false := by rw [beq_eq_false_iff_ne]; omega
  clear hc
  cases sd <;> cases sq
  all_goals (go_enter Facg.func21, Facg.ntmps21; go_wp2; go_quiet (fail); go_wp2; go_ret; exact ⟨rfl, (by first | exact (Kept.refl _ _).alloc _ | exact ((Kept.refl _ _).alloc _).drewN _)⟩)

set_option maxRecDepth 10000 in
theorem ow_7 (a d q n : Int) (w : World) (hn0 : 0 ≤ n) (hn : n ≤ 128) (hd : 0 ≤ d ∧ d ≤ 8) (hq : 0 ≤ q ∧ q ≤ 8) :
    Calls Facg.prog 21 #[(P.mk 2 a d q 7 n).val] w fun e w' => e = .returned (.int .i64 (if 257 < 1 + n * (d + q) then 257 else 1 + n * (d + q))) ∧ Grows w w' := by
  unfold P.val
  have e0 : decide (128 < n) = false := decide_eq_false (by omega)
  have h1 : decide (d ≤ 8) = true := decide_eq_true (by omega)
  have h2 : decide (q ≤ 8) = true := decide_eq_true (by omega)
  have m0 : 0 ≤ n * (d + q) := Int.mul_nonneg hn0 (by omega)
  have m1 : n * (d + q) ≤ 2048 := Int.le_trans (Int.mul_le_mul hn (by omega : d + q ≤ 16) (by omega) (by decide)) (by decide)
  go_enter Facg.func21, Facg.ntmps21
  go_wp2
  go_quiet (fail)
  go_wp2
  all_goals
    go_ret
    exact ⟨rfl, (by first | exact (Kept.refl _ _).alloc _ | exact ((Kept.refl _ _).alloc _).drewN _)⟩

set_option maxRecDepth 10000 in
theorem ow_7n (a d q n : Int) (w : World) (hn : n ≤ 128) (hd : 0 ≤ d ∧ d < 256) (hq : 0 ≤ q ∧ q < 256) (h : 8 < d ∨ 8 < q) :
    Calls Facg.prog 21 #[(P.mk 2 a d q 7 n).val] w fun e w' => e = .returned (.int .i64 257) ∧ Grows w w' := by
  unfold P.val
  have e0 : decide (128 < n) = false := decide_eq_false (by omega)
  by_cases hdd : d ≤ 8
  · have h1 : decide (d ≤ 8) = true := decide_eq_true (by omega)
    have h2 : decide (q ≤ 8) = false := decide_eq_false (by omega)
    clear h
    (go_enter Facg.func21, Facg.ntmps21; go_wp2; go_quiet (fail); go_wp2; go_ret; exact ⟨rfl, (by first | exact (Kept.refl _ _).alloc _ | exact ((Kept.refl _ _).alloc _).drewN _)⟩)
  · have h1 : decide (d ≤ 8) = false := decide_eq_false (by omega)
    clear h
    (go_enter Facg.func21, Facg.ntmps21; go_wp2; go_quiet (fail); go_wp2; go_ret; exact ⟨rfl, (by first | exact (Kept.refl _ _).alloc _ | exact ((Kept.refl _ _).alloc _).drewN _)⟩)

end Go.Proofs.Ygcfac
