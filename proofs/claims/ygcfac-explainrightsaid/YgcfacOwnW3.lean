import Derived.Test.YgcfacOwnW2
namespace Go.Proofs.Ygcfac
open Go.RowKit
set_option linter.unusedVariables false

set_option maxHeartbeats 2000000 in
set_option maxRecDepth 10000 in
theorem ow_2_2 (a d q n : Int) (w : World) (hn0 : 0 ≤ n) (hn : n ≤ 128) (hd : 0 ≤ d ∧ d < 256) (hq : 0 ≤ q ∧ q < 256) (sd sq : Bool) (h1 : decide (d ≤ 8) = sd) (h2 : decide (q ≤ 8) = sq) :
    Calls Facg.prog 21 #[(P.mk 2 a d q 2 n).val] w fun e w' => e = .returned (.int .i64 ((n + 7) / 8)) ∧ Grows w w' := by
  unfold P.val
  have e0 : decide (128 < n) = false := decide_eq_false (by omega)
  have hix : ∀ w : World, (Instr.index 106 (.agg #[.int .i64 8, .int .i64 16, .int .i64 32, .int .i64 64]) (.int .u8 0)).run Facg.prog w = .ok (.int .i64 8) w := fun w => by kernel_rfl
  by_cases hz : n * 8 % 64 = 0
  · have tz : (n * 8 % 64 != 0) = false := by rw [hz]; rfl
    cases sd <;> cases sq
    all_goals
      go_enter Facg.func21, Facg.ntmps21
      go_wp2
      go_quiet (fail)
      go_wp2
      go_quiet (fail)
      go_wp2
      go_ret
      exact ⟨congrArg (fun x => Ending.returned (Value.int .i64 x)) (by omega : n * 8 / 64 = (n + 7) / 8), (by first | exact (Kept.refl _ _).alloc _ | exact ((Kept.refl _ _).alloc _).drewN _)⟩
  · have tz : (n * 8 % 64 != 0) = true := by rw [bne_iff_ne]; exact hz
    cases sd <;> cases sq
    all_goals
      go_enter Facg.func21, Facg.ntmps21
      go_wp2
      go_quiet (fail)
      go_wp2
      go_quiet (fail)
      go_wp2
      go_ret
      exact ⟨congrArg (fun x => Ending.returned (Value.int .i64 x)) (by omega : n * 8 / 64 + 1 = (n + 7) / 8), (by first | exact (Kept.refl _ _).alloc _ | exact ((Kept.refl _ _).alloc _).drewN _)⟩

set_option maxHeartbeats 2000000 in
set_option maxRecDepth 10000 in
theorem ow_2_3 (a d q n : Int) (w : World) (hn0 : 0 ≤ n) (hn : n ≤ 128) (hd : 0 ≤ d ∧ d < 256) (hq : 0 ≤ q ∧ q < 256) (sd sq : Bool) (h1 : decide (d ≤ 8) = sd) (h2 : decide (q ≤ 8) = sq) :
    Calls Facg.prog 21 #[(P.mk 2 a d q 3 n).val] w fun e w' => e = .returned (.int .i64 ((n * 2 + 7) / 8)) ∧ Grows w w' := by
  unfold P.val
  have e0 : decide (128 < n) = false := decide_eq_false (by omega)
  have hix : ∀ w : World, (Instr.index 106 (.agg #[.int .i64 8, .int .i64 16, .int .i64 32, .int .i64 64]) (.int .u8 1)).run Facg.prog w = .ok (.int .i64 16) w := fun w => by kernel_rfl
  by_cases hz : n * 16 % 64 = 0
  · have tz : (n * 16 % 64 != 0) = false := by rw [hz]; rfl
    cases sd <;> cases sq
    all_goals
      go_enter Facg.func21, Facg.ntmps21
      go_wp2
      go_quiet (fail)
      go_wp2
      go_quiet (fail)
      go_wp2
      go_ret
      exact ⟨congrArg (fun x => Ending.returned (Value.int .i64 x)) (by omega : n * 16 / 64 = (n * 2 + 7) / 8), (by first | exact (Kept.refl _ _).alloc _ | exact ((Kept.refl _ _).alloc _).drewN _)⟩
  · have tz : (n * 16 % 64 != 0) = true := by rw [bne_iff_ne]; exact hz
    cases sd <;> cases sq
    all_goals
      go_enter Facg.func21, Facg.ntmps21
      go_wp2
      go_quiet (fail)
      go_wp2
      go_quiet (fail)
      go_wp2
      go_ret
      exact ⟨congrArg (fun x => Ending.returned (Value.int .i64 x)) (by omega : n * 16 / 64 + 1 = (n * 2 + 7) / 8), (by first | exact (Kept.refl _ _).alloc _ | exact ((Kept.refl _ _).alloc _).drewN _)⟩

set_option maxHeartbeats 2000000 in
set_option maxRecDepth 10000 in
theorem ow_2_4 (a d q n : Int) (w : World) (hn0 : 0 ≤ n) (hn : n ≤ 128) (hd : 0 ≤ d ∧ d < 256) (hq : 0 ≤ q ∧ q < 256) (sd sq : Bool) (h1 : decide (d ≤ 8) = sd) (h2 : decide (q ≤ 8) = sq) :
    Calls Facg.prog 21 #[(P.mk 2 a d q 4 n).val] w fun e w' => e = .returned (.int .i64 ((n * 4 + 7) / 8)) ∧ Grows w w' := by
  unfold P.val
  have e0 : decide (128 < n) = false := decide_eq_false (by omega)
  have hix : ∀ w : World, (Instr.index 106 (.agg #[.int .i64 8, .int .i64 16, .int .i64 32, .int .i64 64]) (.int .u8 2)).run Facg.prog w = .ok (.int .i64 32) w := fun w => by kernel_rfl
  by_cases hz : n * 32 % 64 = 0
  · have tz : (n * 32 % 64 != 0) = false := by rw [hz]; rfl
    cases sd <;> cases sq
    all_goals
      go_enter Facg.func21, Facg.ntmps21
      go_wp2
      go_quiet (fail)
      go_wp2
      go_quiet (fail)
      go_wp2
      go_ret
      exact ⟨congrArg (fun x => Ending.returned (Value.int .i64 x)) (by omega : n * 32 / 64 = (n * 4 + 7) / 8), (by first | exact (Kept.refl _ _).alloc _ | exact ((Kept.refl _ _).alloc _).drewN _)⟩
  · have tz : (n * 32 % 64 != 0) = true := by rw [bne_iff_ne]; exact hz
    cases sd <;> cases sq
    all_goals
      go_enter Facg.func21, Facg.ntmps21
      go_wp2
      go_quiet (fail)
      go_wp2
      go_quiet (fail)
      go_wp2
      go_ret
      exact ⟨congrArg (fun x => Ending.returned (Value.int .i64 x)) (by omega : n * 32 / 64 + 1 = (n * 4 + 7) / 8), (by first | exact (Kept.refl _ _).alloc _ | exact ((Kept.refl _ _).alloc _).drewN _)⟩

set_option maxHeartbeats 2000000 in
set_option maxRecDepth 10000 in
theorem ow_2_5 (a d q n : Int) (w : World) (hn0 : 0 ≤ n) (hn : n ≤ 128) (hd : 0 ≤ d ∧ d < 256) (hq : 0 ≤ q ∧ q < 256) (sd sq : Bool) (h1 : decide (d ≤ 8) = sd) (h2 : decide (q ≤ 8) = sq) :
    Calls Facg.prog 21 #[(P.mk 2 a d q 5 n).val] w fun e w' => e = .returned (.int .i64 ((n * 8 + 7) / 8)) ∧ Grows w w' := by
  unfold P.val
  have e0 : decide (128 < n) = false := decide_eq_false (by omega)
  have hix : ∀ w : World, (Instr.index 106 (.agg #[.int .i64 8, .int .i64 16, .int .i64 32, .int .i64 64]) (.int .u8 3)).run Facg.prog w = .ok (.int .i64 64) w := fun w => by kernel_rfl
  by_cases hz : n * 64 % 64 = 0
  · have tz : (n * 64 % 64 != 0) = false := by rw [hz]; rfl
    cases sd <;> cases sq
    all_goals
      go_enter Facg.func21, Facg.ntmps21
      go_wp2
      go_quiet (fail)
      go_wp2
      go_quiet (fail)
      go_wp2
      go_ret
      exact ⟨congrArg (fun x => Ending.returned (Value.int .i64 x)) (by omega : n = (n * 8 + 7) / 8), (by first | exact (Kept.refl _ _).alloc _ | exact ((Kept.refl _ _).alloc _).drewN _)⟩
  · exact absurd (by omega) hz
end Go.Proofs.Ygcfac
