import Derived.Test.YgcfacWalkW
namespace Go.Proofs.Ygcfac
open Go.RowKit
set_option linter.unusedVariables false

theorem div8 (m : Int) (h0 : 0 ≤ m) (h1 : m ≤ 2000) : IntKind.u16.wrap ((m + 7).tdiv 8) = (m + 7) / 8 := by
  rw [Int.tdiv_eq_ediv_of_nonneg (by omega), IntKind.wrap_u16]; omega

set_option maxRecDepth 10000 in
theorem words_2_2 (a d q n : Int) (w : World) (hn0 : 0 ≤ n) (hn : n ≤ 128) (hd : 0 ≤ d ∧ d < 256) (hq : 0 ≤ q ∧ q < 256) (sd sq : Bool) (h1 : decide (d ≤ 8) = sd) (h2 : decide (q ≤ 8) = sq) :
    Calls Facg.prog 74 #[(P.mk 2 a d q 2 n).val] w fun e w' => e = .returned (.int .u16 ((n + 7) / 8)) ∧ Grows w w' := by
  unfold P.val
  have e0 : decide (128 < n) = false := decide_eq_false (by omega)
  have HW := hide (fun w => width_any 2 w (by decide) (by decide))
  cases sd <;> cases sq
  all_goals
    go_enter Facg.func74, Facg.ntmps74
    go_wp2
    go_quiet ((go_at_call 133; exact Calls.quiet_of_same (HW.out _)))
    go_wp2
    go_ret
    exact ⟨congrArg (fun x => Ending.returned (Value.int .u16 x)) (div8 _ (by omega) (by omega)), (by first | exact (Kept.refl _ _).alloc _ | exact ((Kept.refl _ _).alloc _).drewN _)⟩

set_option maxRecDepth 10000 in
theorem words_2_3 (a d q n : Int) (w : World) (hn0 : 0 ≤ n) (hn : n ≤ 128) (hd : 0 ≤ d ∧ d < 256) (hq : 0 ≤ q ∧ q < 256) (sd sq : Bool) (h1 : decide (d ≤ 8) = sd) (h2 : decide (q ≤ 8) = sq) :
    Calls Facg.prog 74 #[(P.mk 2 a d q 3 n).val] w fun e w' => e = .returned (.int .u16 ((n * 2 + 7) / 8)) ∧ Grows w w' := by
  unfold P.val
  have e0 : decide (128 < n) = false := decide_eq_false (by omega)
  have HW := hide (fun w => width_any 3 w (by decide) (by decide))
  cases sd <;> cases sq
  all_goals
    go_enter Facg.func74, Facg.ntmps74
    go_wp2
    go_quiet ((go_at_call 133; exact Calls.quiet_of_same (HW.out _)))
    go_wp2
    go_ret
    exact ⟨congrArg (fun x => Ending.returned (Value.int .u16 x)) (div8 _ (by omega) (by omega)), (by first | exact (Kept.refl _ _).alloc _ | exact ((Kept.refl _ _).alloc _).drewN _)⟩

set_option maxRecDepth 10000 in
theorem words_2_4 (a d q n : Int) (w : World) (hn0 : 0 ≤ n) (hn : n ≤ 128) (hd : 0 ≤ d ∧ d < 256) (hq : 0 ≤ q ∧ q < 256) (sd sq : Bool) (h1 : decide (d ≤ 8) = sd) (h2 : decide (q ≤ 8) = sq) :
    Calls Facg.prog 74 #[(P.mk 2 a d q 4 n).val] w fun e w' => e = .returned (.int .u16 ((n * 4 + 7) / 8)) ∧ Grows w w' := by
  unfold P.val
  have e0 : decide (128 < n) = false := decide_eq_false (by omega)
  have HW := hide (fun w => width_any 4 w (by decide) (by decide))
  cases sd <;> cases sq
  all_goals
    go_enter Facg.func74, Facg.ntmps74
    go_wp2
    go_quiet ((go_at_call 133; exact Calls.quiet_of_same (HW.out _)))
    go_wp2
    go_ret
    exact ⟨congrArg (fun x => Ending.returned (Value.int .u16 x)) (div8 _ (by omega) (by omega)), (by first | exact (Kept.refl _ _).alloc _ | exact ((Kept.refl _ _).alloc _).drewN _)⟩

set_option maxRecDepth 10000 in
theorem words_2_5 (a d q n : Int) (w : World) (hn0 : 0 ≤ n) (hn : n ≤ 128) (hd : 0 ≤ d ∧ d < 256) (hq : 0 ≤ q ∧ q < 256) (sd sq : Bool) (h1 : decide (d ≤ 8) = sd) (h2 : decide (q ≤ 8) = sq) :
    Calls Facg.prog 74 #[(P.mk 2 a d q 5 n).val] w fun e w' => e = .returned (.int .u16 ((n * 8 + 7) / 8)) ∧ Grows w w' := by
  unfold P.val
  have e0 : decide (128 < n) = false := decide_eq_false (by omega)
  have HW := hide (fun w => width_any 5 w (by decide) (by decide))
  cases sd <;> cases sq
  all_goals
    go_enter Facg.func74, Facg.ntmps74
    go_wp2
    go_quiet ((go_at_call 133; exact Calls.quiet_of_same (HW.out _)))
    go_wp2
    go_ret
    exact ⟨congrArg (fun x => Ending.returned (Value.int .u16 x)) (div8 _ (by omega) (by omega)), (by first | exact (Kept.refl _ _).alloc _ | exact ((Kept.refl _ _).alloc _).drewN _)⟩

set_option maxRecDepth 10000 in
theorem words_7 (a d q n : Int) (w : World) (hn0 : 0 ≤ n) (hn : n ≤ 128) (hd : 0 ≤ d ∧ d ≤ 8) (hq : 0 ≤ q ∧ q ≤ 8) :
    Calls Facg.prog 74 #[(P.mk 2 a d q 7 n).val] w fun e w' => e = .returned (.int .u16 (if 257 < 1 + n * (d + q) then 257 else 1 + n * (d + q))) ∧ Grows w w' := by
  unfold P.val
  have e0 : decide (128 < n) = false := decide_eq_false (by omega)
  have h1 : decide (d ≤ 8) = true := decide_eq_true (by omega)
  have h2 : decide (q ≤ 8) = true := decide_eq_true (by omega)
  have m0 : 0 ≤ n * (d + q) := Int.mul_nonneg hn0 (by omega)
  have m1 : n * (d + q) ≤ 2048 := Int.le_trans (Int.mul_le_mul hn (by omega : d + q ≤ 16) (by omega) (by decide)) (by decide)
  go_enter Facg.func74, Facg.ntmps74
  go_wp2
  all_goals
    go_ret
    exact ⟨rfl, (by first | exact (Kept.refl _ _).alloc _ | exact ((Kept.refl _ _).alloc _).drewN _)⟩

end Go.Proofs.Ygcfac
