import Derived.Test.YgcfacClaim
namespace Go.Proofs.Ygcfac
open Go.RowKit
set_option linter.unusedVariables false

def pushA (A : Nat → Nat) (sp a n : Nat) : Nat → Nat := fun k => if sp ≤ k ∧ k < sp + n then a + (k - sp) else A k
def pushD (D : Nat → Nat) (sp d n : Nat) : Nat → Nat := fun k => if sp ≤ k ∧ k < sp + n then d else D k

theorem pushA_succ (A : Nat → Nat) (sp a i : Nat) : (fun k => if k = sp + i then a + i else pushA A sp a i k) = pushA A sp a (i + 1) := by
  funext k
  unfold pushA
  by_cases h : k = sp + i
  · rw [if_pos h, if_pos (by omega)]; omega
  · rw [if_neg h]
    by_cases h2 : sp ≤ k ∧ k < sp + i
    · rw [if_pos h2, if_pos (by omega)]
    · rw [if_neg h2, if_neg (by omega)]
theorem pushD_succ (D : Nat → Nat) (sp d i : Nat) : (fun k => if k = sp + i then d else pushD D sp d i k) = pushD D sp d (i + 1) := by
  funext k
  unfold pushD
  by_cases h : k = sp + i
  · rw [if_pos h, if_pos (by omega)]
  · rw [if_neg h]
    by_cases h2 : sp ≤ k ∧ k < sp + i
    · rw [if_pos h2, if_pos (by omega)]
    · rw [if_neg h2, if_neg (by omega)]
theorem pushA_zero (A : Nat → Nat) (sp a : Nat) : pushA A sp a 0 = A := by
  funext k; unfold pushA; rw [if_neg (by omega)]
theorem pushD_zero (D : Nat → Nat) (sp d : Nat) : pushD D sp d 0 = D := by
  funext k; unfold pushD; rw [if_neg (by omega)]

theorem WalkAt.setTop {w : World} {g : Nat} {S A D : Nat → Nat} {sp : Nat} (h : WalkAt w g S A D sp) (j x y z : Nat) (hj : j < 256) :
    WalkAt (((w.setCell ⟨g, 4 + j * 2, none⟩ (.int .u16 x)).setCell ⟨g, 4 + j * 2 + 1, none⟩ (.int .u8 y)).setCell ⟨g, 516, none⟩ (.int .u16 z)) g S (fun k => if k = j then x else A k) (fun k => if k = j then y else D k) z := by
  refine ⟨fun i hi => cell_other (cell_other (cell_other (h.set i hi) (by omega)) (by omega)) (by omega), fun k hk => ?_, fun k hk => ?_, ?_, fun i => by rw [World.frozen?_setCell, World.frozen?_setCell, World.frozen?_setCell]; exact h.free i⟩
  · by_cases e : k = j
    · subst e
      simp only [if_true]
      exact cell_other (cell_other (World.cell?_setCell_same _ _ _ (h.ats k hk)) (by omega)) (by omega)
    · simp only [if_neg e]
      exact cell_other (cell_other (cell_other (h.ats k hk) (by omega)) (by omega)) (by omega)
  · by_cases e : k = j
    · subst e
      simp only [if_true]
      exact cell_other (World.cell?_setCell_same _ _ _ (cell_other (h.dep k hk) (by omega))) (by omega)
    · simp only [if_neg e]
      exact cell_other (cell_other (cell_other (h.dep k hk) (by omega)) (by omega)) (by omega)
  · exact World.cell?_setCell_same _ _ _ (cell_other (cell_other h.sp (by omega)) (by omega))

set_option maxRecDepth 10000 in
theorem push_any (g : Nat) (S A D : Nat → Nat) (sp a n d : Nat) (w : World) (hsp : sp + n ≤ 256) (ha : a + n ≤ 65536) (ha' : a < 65536) (hd : d < 256) (hW : WalkAt w g S A D sp) :
    Calls Facg.prog 105 #[.pointer (some ⟨g, 0, none⟩), .int .u16 a, .int .u16 n, .int .u8 d] w fun e w' => e = .returned (.tuple #[]) ∧ Kept (fun k => k ≠ g) w w' ∧ WalkAt w' g S (pushA A sp a n) (pushD D sp d n) (sp + n) := by
  have HW := hide hW
  clear hW
  go_enter Facg.func105, Facg.ntmps105
  go_wp2
  go_loopw [8] (fun t wr => ∃ i : Nat, t = .int .u16 i ∧ i ≤ n ∧ Kept (fun k => k ≠ g) w wr ∧ WalkAt wr g S (pushA A sp a i) (pushD D sp d i) (sp + i)) (fun t _ => n - (intOf t).toNat)
  case atStart => exact ⟨0, rfl, Nat.zero_le _, Kept.refl _ _, by rw [pushA_zero, pushD_zero]; exact HW.out⟩
  case round =>
    obtain ⟨i, rfl, hi, hk, hw⟩ := hrel
    have HK := hide hk
    have HWr := hide hw
    by_cases hlt : i < n
    · have hd1 : decide (i < n) = true := decide_eq_true hlt
      obtain ⟨q, hq⟩ : ∃ q, q = sp + i := ⟨_, rfl⟩
      rw [← hq] at hw
      have c0 := hw.sp
      have c1 := hw.ats q (by omega)
      have c2 := hw.dep q (by omega)
      have cf := hw.free
      have HX := hide (hw.setTop q (a + i) d (q + 1) (by omega))
      have hd2 : decide (q < 256) = true := decide_eq_true (by omega)
      have hq256 : q < 256 := by omega
      have HQ := hide hq
      clear hk hw hq
      go_wp2
      go_region
      go_wp2
      go_roundw
      case rel =>
        refine ⟨i + 1, rfl, by omega, (((HK.out.setCell (.inr (fun h => h rfl)) _).setCell (.inr (fun h => h rfl)) _).setCell (.inr (fun h => h rfl)) _).drew, ?_⟩
        have h1 := HX.out.kept (q := fun _ => True) (Kept.refl _ _).drew trivial
        rw [← pushA_succ, ← pushD_succ, ← Nat.add_assoc, ← HQ.out]
        exact h1
      case measure => simp [intOf]; omega
    · have hd1 : decide (i < n) = false := decide_eq_false hlt
      clear hk hw
      go_wp2
      have hin : i = n := by omega
      subst hin
      exact bodyPost_end (by simp [results, Facg.results105, go_sem]) rfl ⟨rfl, HK.out, HWr.out⟩
end Go.Proofs.Ygcfac
