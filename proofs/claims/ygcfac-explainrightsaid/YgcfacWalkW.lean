import Derived.Test.YgcfacPtr
namespace Go.Proofs.Ygcfac
open Go.RowKit
set_option linter.unusedVariables false

theorem width_none (c : Int) (w : World) (h0 : 0 ≤ c) (h1 : c < 256) (h : c < 2 ∨ 5 < c) :
    Calls Facg.prog 133 #[.int .u8 c] w fun e w' => e = .returned (.int .u8 0) ∧ w' = w := by
  rcases h with h | h
  · have hd : decide (c < 2) = true := decide_eq_true h
    go_enter Facg.func133, Facg.ntmps133
    go_wp2
    go_ret
    exact ⟨rfl, rfl⟩
  · have hd : decide (c < 2) = false := decide_eq_false (by omega)
    have hd2 : decide (5 < c) = true := decide_eq_true h
    go_enter Facg.func133, Facg.ntmps133
    go_wp2
    go_ret
    exact ⟨rfl, rfl⟩


set_option maxRecDepth 10000 in
theorem words_0 (a d q c n : Int) (w : World) (hd : 0 ≤ d ∧ d < 256) (hq : 0 ≤ q ∧ q < 256) (sd sq : Bool) (h1 : decide (d ≤ 8) = sd) (h2 : decide (q ≤ 8) = sq) :
    Calls Facg.prog 74 #[(P.mk 0 a d q c n).val] w fun e w' => e = .returned (.int .u16 0) ∧ Grows w w' := by
  unfold P.val
  cases sd <;> cases sq
  all_goals (go_enter Facg.func74, Facg.ntmps74; go_wp2; go_ret; exact ⟨rfl, (by first | exact (Kept.refl _ _).alloc _ | exact ((Kept.refl _ _).alloc _).drewN _)⟩)

set_option maxRecDepth 10000 in
theorem words_1 (a d q c n : Int) (w : World) (hd : 0 ≤ d ∧ d < 256) (hq : 0 ≤ q ∧ q < 256) (sd sq : Bool) (h1 : decide (d ≤ 8) = sd) (h2 : decide (q ≤ 8) = sq) :
    Calls Facg.prog 74 #[(P.mk 1 a d q c n).val] w fun e w' => e = .returned (.int .u16 (if sd && sq then d + q else 257)) ∧ Grows w w' := by
  unfold P.val
  cases sd <;> cases sq
  all_goals (go_enter Facg.func74, Facg.ntmps74; go_wp2; go_ret; exact ⟨rfl, (by first | exact (Kept.refl _ _).alloc _ | exact ((Kept.refl _ _).alloc _).drewN _)⟩)

set_option maxRecDepth 10000 in
theorem words_k (k a d q c n : Int) (w : World) (hk : ¬ k = 0) (hk1 : ¬ k = 1) (hk2 : ¬ k = 2) (hd : 0 ≤ d ∧ d < 256) (hq : 0 ≤ q ∧ q < 256) (sd sq : Bool) (h1 : decide (d ≤ 8) = sd) (h2 : decide (q ≤ 8) = sq) :
    Calls Facg.prog 74 #[(P.mk k a d q c n).val] w fun e w' => e = .returned (.int .u16 257) ∧ Grows w w' := by
  unfold P.val
  have e0 : (k == 0) = false := by rw [beq_eq_false_iff_ne]; exact hk
  have e1 : (k == 1) = false := by rw [beq_eq_false_iff_ne]; exact hk1
  have e2 : (k != 2) = true := by rw [bne_iff_ne]; exact hk2
  cases sd <;> cases sq
  all_goals (go_enter Facg.func74, Facg.ntmps74; go_wp2; go_ret; exact ⟨rfl, (by first | exact (Kept.refl _ _).alloc _ | exact ((Kept.refl _ _).alloc _).drewN _)⟩)

set_option maxRecDepth 10000 in
theorem words_n (a d q c n : Int) (w : World) (hn : 128 < n) (hd : 0 ≤ d ∧ d < 256) (hq : 0 ≤ q ∧ q < 256) (sd sq : Bool) (h1 : decide (d ≤ 8) = sd) (h2 : decide (q ≤ 8) = sq) :
    Calls Facg.prog 74 #[(P.mk 2 a d q c n).val] w fun e w' => e = .returned (.int .u16 257) ∧ Grows w w' := by
  unfold P.val
  have e0 : decide (128 < n) = true := decide_eq_true hn
  cases sd <;> cases sq
  all_goals (go_enter Facg.func74, Facg.ntmps74; go_wp2; go_ret; exact ⟨rfl, (by first | exact (Kept.refl _ _).alloc _ | exact ((Kept.refl _ _).alloc _).drewN _)⟩)

set_option maxRecDepth 10000 in
theorem words_6 (a d q n : Int) (w : World) (hn : n ≤ 128) (hd : 0 ≤ d ∧ d < 256) (hq : 0 ≤ q ∧ q < 256) (sd sq : Bool) (h1 : decide (d ≤ 8) = sd) (h2 : decide (q ≤ 8) = sq) :
    Calls Facg.prog 74 #[(P.mk 2 a d q 6 n).val] w fun e w' => e = .returned (.int .u16 n) ∧ Grows w w' := by
  unfold P.val
  have e0 : decide (128 < n) = false := decide_eq_false (by omega)
  cases sd <;> cases sq
  all_goals (go_enter Facg.func74, Facg.ntmps74; go_wp2; go_ret; exact ⟨rfl, (by first | exact (Kept.refl _ _).alloc _ | exact ((Kept.refl _ _).alloc _).drewN _)⟩)

set_option maxRecDepth 10000 in
theorem words_c (a d q c n : Int) (w : World) (hn : n ≤ 128) (hc : c < 2 ∨ 7 < c) (hd : 0 ≤ d ∧ d < 256) (hq : 0 ≤ q ∧ q < 256) (sd sq : Bool) (h1 : decide (d ≤ 8) = sd) (h2 : decide (q ≤ 8) = sq) :
    Calls Facg.prog 74 #[(P.mk 2 a d q c n).val] w fun e w' => e = .returned (.int .u16 257) ∧ Grows w w' := by
  unfold P.val
  have e0 : decide (128 < n) = false := decide_eq_false (by omega)
  have e6 : (c == 6) = false := by rw [beq_eq_false_iff_ne]; omega
  have e7 : (c == 7) = false := by rw [beq_eq_false_iff_ne]; omega
  rcases hc with hc | hc
  · have e2 : decide (2 ≤ c) = false := decide_eq_false (by omega)
    cases sd <;> cases sq
    all_goals (go_enter Facg.func74, Facg.ntmps74; go_wp2; go_ret; exact ⟨rfl, (by first | exact (Kept.refl _ _).alloc _ | exact ((Kept.refl _ _).alloc _).drewN _)⟩)
  · have e2 : decide (2 ≤ c) = true := decide_eq_true (by omega)
    have e3 : decide (c ≤ 5) = false := decide_eq_false (by omega)
    cases sd <;> cases sq
    all_goals (go_enter Facg.func74, Facg.ntmps74; go_wp2; go_ret; exact ⟨rfl, (by first | exact (Kept.refl _ _).alloc _ | exact ((Kept.refl _ _).alloc _).drewN _)⟩)

set_option maxRecDepth 10000 in
theorem words_7n (a d q n : Int) (w : World) (hn : n ≤ 128) (hd : 0 ≤ d ∧ d < 256) (hq : 0 ≤ q ∧ q < 256) (h : 8 < d ∨ 8 < q) :
    Calls Facg.prog 74 #[(P.mk 2 a d q 7 n).val] w fun e w' => e = .returned (.int .u16 257) ∧ Grows w w' := by
  unfold P.val
  have e0 : decide (128 < n) = false := decide_eq_false (by omega)
  by_cases hdd : d ≤ 8
  · have h1 : decide (d ≤ 8) = true := decide_eq_true (by omega)
    have h2 : decide (q ≤ 8) = false := decide_eq_false (by omega)
    (go_enter Facg.func74, Facg.ntmps74; go_wp2; go_ret; exact ⟨rfl, (by first | exact (Kept.refl _ _).alloc _ | exact ((Kept.refl _ _).alloc _).drewN _)⟩)
  · have h1 : decide (d ≤ 8) = false := decide_eq_false (by omega)
    (go_enter Facg.func74, Facg.ntmps74; go_wp2; go_ret; exact ⟨rfl, (by first | exact (Kept.refl _ _).alloc _ | exact ((Kept.refl _ _).alloc _).drewN _)⟩)
end Go.Proofs.Ygcfac
