import Derived.Test.YgcfacVisit
import Derived.Laws.OwnMore
namespace Go.Proofs.Ygcfac
open Go.RowKit
set_option linter.unusedVariables false

def ModelOk (f : Nat → Int) (n : Nat) : Prop := 1 ≤ n ∧ n ≤ 256 ∧ (visitF f n 8 0 [(0, 1)]).isSome = true

set_option maxRecDepth 10000 in
theorem model_any (a : Option Addr) (n c : Nat) (f : Nat → Int) (w : World) (hn : n ≤ 9223372036854775807) (hA : ArenaAt w a n f) (hlt : ∀ b o, a = some ⟨b, o, none⟩ → b < w.heap.size) :
    Calls Facg.prog 46 #[.slice a n c] w fun e w' => ∃ r, e = .returned (.bool r) ∧ Grows w w' ∧ (r = true ↔ ModelOk f n) := by
  by_cases h0 : n = 0
  · have e0 : ((n : Int) == 0) = true := by rw [h0]; rfl
    have HF : Hid (¬ ModelOk f n) := fun h => by have := h.1; omega
    go_enter Facg.func46, Facg.ntmps46
    go_wp2
    go_ret
    exact ⟨false, rfl, Kept.refl _ _, ⟨fun h => (by cases h), fun h => absurd h HF.out⟩⟩
  have e0 : ((n : Int) == 0) = false := by rw [beq_eq_false_iff_ne]; omega
  by_cases h1 : 256 < n
  · have e1 : decide ((256 : Int) < (n : Int)) = true := decide_eq_true (by omega)
    have HF : Hid (¬ ModelOk f n) := fun h => by have := h.2.1; omega
    go_enter Facg.func46, Facg.ntmps46
    go_wp2
    go_ret
    exact ⟨false, rfl, Kept.refl _ _, ⟨fun h => (by cases h), fun h => absurd h HF.out⟩⟩
  have e1 : decide ((256 : Int) < (n : Int)) = false := decide_eq_false (by omega)
  have HA := hide hA
  have HLt := hide hlt
  clear hA hlt
  go_enter Facg.func46, Facg.ntmps46
  go_wp2_with (fail)
  have hS : VS ((w.alloc (.cells #[.int .i64 0, .int .i64 1] 164)).alloc (.cells #[.slice (some ⟨w.heap.size, 0, none⟩) 1 1] 165)) a n f (w.heap.size + 1) (.slice (some ⟨w.heap.size, 0, none⟩) 1 1) [(0, 1)] := by
    refine ⟨HA.out.grows (((Kept.refl _ _).alloc _).alloc _), fun b o e => ⟨by have := HLt.out b o e; simp; omega, by have := HLt.out b o e; omega, ?_⟩, ⟨?_, ?_, ?_, ?_⟩, ⟨by simp, by simp, by simp⟩⟩
    · have := HLt.out b o e
      intro e2
      simp [Value.ownBlock] at e2
      omega
    · simp
    · exact World.frozen?_alloc_at _ _ _ _ (by simp)
    · have := World.ownsRow_lit (base := 0) (e := 164) (size := 2) w #[.int .i64 0, .int .i64 1] 1 (Nat.zero_le _) (by decide) (by rfl)
      exact owns_kept this ((Kept.refl (fun _ => True) _).alloc _) (fun _ _ => trivial)
    · simp [Value.ownBlock]
  have HC := hide (visit_all 8 (by decide) a n c f 0 (w.heap.size + 1) _ [(0, 1)] _ (by omega) (by decide) hS)
  clear hS
  refine HC.out.mono ?_
  rintro e w2 ⟨r, L', v', rfl, hk, _, _, hF, _⟩
  have HG : Hid (Grows w w2) := (((Kept.refl _ _).alloc _).alloc _).then hk (fun i hi _ => ⟨by omega, by intro e; simp [Value.ownBlock] at e; omega⟩)
  have HF : Hid (r = true ↔ ModelOk f n) := by
    unfold Hid ModelOk
    rw [hF]
    cases r
    · simp
    · simp; omega
  clear hk hF HC
  go_wp2
  go_ret
  exact ⟨r, rfl, HG.out, HF.out⟩
end Go.Proofs.Ygcfac
