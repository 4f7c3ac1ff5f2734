/-
  law.sameTree.
-/
import Derived.Test.YgcfacEven
import Derived.Test.YgcfacKids
namespace Go.Proofs.Ygcfac
open Go.RowKit
set_option linter.unusedVariables false

theorem quiet_of_drew {P : Program} {f : FuncId} {args : Array Value} {w : World} {n : Nat} {v : Value} (h : Calls P f args (w.drewN n) fun e w' => e = .returned v ∧ ∃ k, w' = (w.drewN n).drewN k) : Calls P f args (w.drewN n) fun e w'' => e = .returned v ∧ ∃ m, w'' = w.drewN m :=
  h.mono fun _ _ ⟨he, k, hk⟩ => ⟨he, n + k, by rw [hk, World.drewN_drewN]⟩

set_option maxHeartbeats 1000000 in
set_option maxRecDepth 10000 in
/-- Two trees that read alike. -/
theorem sameTree_any (g1 g2 : Nat) (t : Tr) (w : World) (h1 : TrAt w g1 t) (h2 : TrAt w g2 t) :
    Calls Facg.prog 39 #[.pointer (some ⟨g1, 0, none⟩), .pointer (some ⟨g2, 0, none⟩)] w fun e w' => e = .returned (.bool true) ∧ Grows w w' := by
  obtain ⟨a1, c1, p0, p1, hN, hn1⟩ := h1.lift
  obtain ⟨a2, c2, q0, q1, _, hn2⟩ := h2.lift
  have H1 := hide hn1
  have H2 := hide hn2
  have HP0 := hide p0
  have HQ0 := hide q0
  have hrb := h1.1
  clear h1 h2 hn1 hn2
  obtain ⟨N, hNe⟩ : ∃ N, t.ns.length = N := ⟨_, rfl⟩
  rw [hNe] at hN p0 q0 H1 H2 HP0 HQ0
  clear hNe
  obtain ⟨R, hRe⟩ : ∃ R, t.root = R := ⟨_, rfl⟩
  rw [hRe] at p1 q1
  clear hRe hrb
  have eR : (R != R) = false := by simp
  have eN : ((N : Int) != (N : Int)) = false := by simp
  go_enter Facg.func39, Facg.ntmps39
  go_wp2
  go_quiet (fail)
  have HG0 := hide ((Kept.refl (fun _ => True) w).drewN nq)
  have p0' := HG0.out.cell HP0.out trivial
  clear p0 p1 q0 q1
  generalize w.drewN nq = w0 at *
  go_wp2
  go_loopw [35] (fun tj wr => ∃ j : Nat, tj = .int .i64 j ∧ j ≤ N ∧ Grows w wr) (fun tj _ => N - (intOf tj).toNat)
  case atStart => exact ⟨0, rfl, Nat.zero_le _, HG0.out⟩
  case round =>
    obtain ⟨j, rfl, hj, hg⟩ := hrel
    clear HG0 p0'
    have HG := hide hg
    have p0 := hg.cell HP0.out trivial
    have q0 := hg.cell HQ0.out trivial
    clear hg
    by_cases hjN : j < N
    · have hdj : decide (j < N) = true := decide_eq_true hjN
      obtain ⟨b1, o1, rfl, n1⟩ := H1.out (by omega)
      obtain ⟨b2, o2, rfl, n2⟩ := H2.out (by omega)
      obtain ⟨_, _, x0, x1, ⟨v1, x2, i1⟩, q1v, x3, i2⟩ := n1 j hjN
      obtain ⟨_, _, y0, y1, ⟨v2, y2, i3⟩, q2v, y3, i4⟩ := n2 j hjN
      have HSw : Hid (∀ w', Grows w w' → Calls Facg.prog 25 #[v1, v2] w' fun e w'' => e = .returned (.bool true) ∧ ∃ k, w'' = w'.drewN k) := fun w' hg => by
        have := same_words v1 v2 _ _ w' (i1.grows hg) (i3.grows hg)
        rwa [decide_eq_true rfl] at this
      have HSk : Hid (∀ w', Grows w w' → Calls Facg.prog 84 #[q1v, q2v] w' fun e w'' => e = .returned (.bool true) ∧ ∃ k, w'' = w'.drewN k) := fun w' hg => by
        have := same_kids q1v q2v _ _ w' (i2.grows hg) (i4.grows hg)
        rwa [decide_eq_true rfl] at this
      have X0 := hide x0
      have X1 := hide x1
      have X2 := hide x2
      have X3 := hide x3
      have Y0 := hide y0
      have Y1 := hide y1
      have Y2 := hide y2
      have Y3 := hide y3
      obtain ⟨ad1, cd1, rfl, _, _, _⟩ := i1.row
      obtain ⟨ad2, cd2, rfl, _, _, _⟩ := i3.row
      obtain ⟨ak1, ck1, rfl, _, _, _⟩ := i2.row
      obtain ⟨ak2, ck2, rfl, _, _, _⟩ := i4.row
      clear n1 n2 i1 i2 i3 i4 x0 x1 x2 x3 y0 y1 y2 y3
      go_wp2
      go_quiet (fail)
      have HG1 := hide (HG.out.drewN nq)
      clear p0 q0
      generalize wr.drewN nq = w1 at *
      have x0 := HG1.out.cell X0.out trivial
      have x1 := HG1.out.cell X1.out trivial
      have x2 := HG1.out.cell X2.out trivial
      have x3 := HG1.out.cell X3.out trivial
      have y0 := HG1.out.cell Y0.out trivial
      have y1 := HG1.out.cell Y1.out trivial
      have y2 := HG1.out.cell Y2.out trivial
      have y3 := HG1.out.cell Y3.out trivial
      have ek : ((t.nd j).kind != (t.nd j).kind) = false := by simp
      have ec : ((t.nd j).code != (t.nd j).code) = false := by simp
      go_wp2
      go_quiet (first
        | (go_at_call 25; exact quiet_of_drew (HSw.out _ (HG1.out.drewN _)))
        | (go_at_call 84; exact quiet_of_drew (HSk.out _ (HG1.out.drewN _))))
      have HG2 := hide (HG1.out.drewN nq)
      clear x0 x1 x2 x3 y0 y1 y2 y3
      generalize w1.drewN nq = w2 at *
      go_wp2
      go_roundw
      case rel => exact ⟨j + 1, by go_num, by omega, HG2.out⟩
      case measure => simp [intOf]; omega
    · have hdj : decide (j < N) = false := decide_eq_false hjN
      go_wp2
      go_ret
      exact ⟨rfl, HG.out⟩
end Go.Proofs.Ygcfac
