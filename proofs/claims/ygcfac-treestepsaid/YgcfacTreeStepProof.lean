/-
  'Rows.TreeStepSaid' ('wordview/law.TreeStep'): the row, over the walk of YgcfacTreeWalk.
-/
import Derived.Test.YgcfacTreeWalk
import Derived.Test.YgcfacOpenT
namespace Go.Proofs.Ygcfac.treeStep
open Go.ChangeShapes Go.WideShapes Go.ChangeAt Go.RowKit Go.Joins
set_option linter.unusedVariables false

section
variable {H : Type} {enc : TypeId × Value → H}

set_option maxRecDepth 100000 in
/-- A tree, by value, opened. -/
theorem tree_of {W : World} {b0 : Nat} {v : Value} {d : DataW H} {p : List MemPlace} (hv : Value.okWide Facg.prog W .any b0 65 v) (h : DataW.Trod enc Facg.prog W 0 (fun _ => true) true 65 v d p) (hw : ∀ u ∈ d.weights Facg.prog 65, u ≤ reachBytes) :
    ∃ (c : Value) (t : Tr), v = .agg #[c, .int .i16 t.root] ∧ NsAt W c t.ns ∧ (-32768 ≤ t.root ∧ t.root < 32768) ∧ Small t := by
  obtain ⟨c0, c1, y0, y1, m, rfl, rfl, rfl, hy0, hy1⟩ := open_agg2 Facg.underlying65 (by kernel_rfl) cellsOf65 hv h
  obtain ⟨ns, hN, bN⟩ := nodes_of_trod hy0
  obtain ⟨r, e1, rfl, wr⟩ := DataW.trod_int Facg.underlying63 hy1
  simp only [List.cons.injEq, and_true] at e1
  subst e1
  obtain ⟨w1, w2⟩ := bN reachBytes (fun u hu => hw u (by simp only [DataW.weights, Facg.underlying65]; exact DataW.weights_mem_each (j := 0) rfl rfl u hu))
  have br := bounds_i16 wr
  unfold reachBytes at w1 w2
  have hnd : ∀ j, j < ns.length → ns[j]? = some ((Tr.mk ns r).nd j) := fun j hj => by
    unfold Tr.nd
    rw [List.getElem?_eq_getElem hj, List.getD_eq_getElem?_getD, List.getElem?_eq_getElem hj]
    rfl
  refine ⟨c0, ⟨ns, r⟩, rfl, hN, ⟨show -32768 ≤ r by omega, show r < 32768 by omega⟩, ⟨?_, fun j hj => ?_, fun j hj => ?_⟩⟩
  · show 56 * ns.length ≤ 140737488355328
    omega
  · have := (w2 j _ (hnd j hj)).1
    omega
  · have := (w2 j _ (hnd j hj)).2
    omega
end

set_option maxRecDepth 100000 in
theorem lifted (os : Os) (started : os.Started) (H : Type) (enc : TypeId × Value → H) :
    ReturnsInHanded {} Facg.checked os 10 .any (Rows.treeStepSpec.pre6 enc Facg.prog Facg.f10 Rows.treeStepRow.domain false) (Rows.treeStepSpec.post enc Facg.prog Facg.f10 false true false false) := by
  refine returnsInHanded_of_change_sized (C := Facg.checked) own started (by kernel_rfl) Facg.func10
    (ChangeSpec.witness6 (enc := enc) (C := Facg.checked) false ⟨#[], #[.agg #[.slice none 0 0, .int .i16 0], .agg #[.slice none 0 0, .int .i16 0]], []⟩ 8 (by kernel_rfl) (by kernel_rfl) (by kernel_rfl) (by kernel_rfl)) ?_
  intro W base args ds gs before hval0 hW hcnd hsz0 _
  have hval : ∀ (j : Nat) t v, Facg.f10.params[j]? = some t → args[j]? = some v → Value.okWide Facg.prog W .any base t v := hval0
  have hsz : (DataW.weightsEach Facg.prog (Facg.f10.params.toList ++ Rows.treeStepSpec.plain.varTypes Facg.prog) (ds ++ gs)).all (· ≤ reachBytes) = true := hsz0
  have hW' := hW
  obtain ⟨p, q, hA0, hV, rfl, hfz, hnd⟩ := hW
  have hA : DataW.TrodAll enc Facg.prog W 0 (fun _ => true) true Facg.f10.params.toList args.toList ds p := hA0
  rw [Facg.params10] at hA hval hsz
  obtain ⟨v0, vs0, d0, ds0, p0, q0, hargs, rfl, rfl, h0, r0⟩ := trodAll_cons hA
  obtain ⟨v1, vs1, d1, ds1, p1, q1, rfl, rfl, rfl, h1, r1⟩ := trodAll_cons r0
  obtain ⟨rfl, rfl, rfl⟩ := trodAll_nil r1
  obtain rfl : args = #[v0, v1] := by cases args; simp_all
  obtain ⟨rfl, rfl⟩ := trodVars_none hV
  have k0 := h0
  have k1 := h1
  have lt0 : ∀ x ∈ p0, x.block < W.heap.size := by obtain ⟨m, hm⟩ := k0; exact DataW.trod_lt m _ _ _ hm
  have lt1 : ∀ x ∈ p1, x.block < W.heap.size := by obtain ⟨m, hm⟩ := k1; exact DataW.trod_lt m _ _ _ hm
  have wall0 : ∀ u ∈ d0.weights Facg.prog 65, u ≤ reachBytes := fun u hu => by
    have := List.all_eq_true.1 hsz u (DataW.weights_mem_each (j := 0) rfl rfl u hu)
    simpa using this
  have wall1 : ∀ u ∈ d1.weights Facg.prog 65, u ≤ reachBytes := fun u hu => by
    have := List.all_eq_true.1 hsz u (DataW.weights_mem_each (j := 1) rfl rfl u hu)
    simpa using this
  obtain ⟨c0, t, rfl, hN0, hr0, hs0⟩ := tree_of (hval 0 65 v0 rfl rfl) h0 wall0
  obtain ⟨c1, u, rfl, hN1, hr1, hs1⟩ := tree_of (hval 1 65 v1 rfl rfl) h1 wall1
  clear hA0 hval0 hsz hsz0
  refine (treeStep_walk c0 c1 t u W hN0 hN1 hr0 hr1 hs0 hs1).mono fun e W' ⟨he, gr⟩ => ?_
  have bel := gr.below
  subst he
  exact ⟨_, rfl, _, _, _, [], _, [], hW', trodAll_mk1 (shut_bool Facg.underlying4 _), (trodAll_cons_mk (Below.trod laidOut (by kernel_rfl) (of_decide_eq_true (by kernel_rfl)) k0 bel lt0) (trodAll_cons_mk (Below.trod laidOut (by kernel_rfl) (of_decide_eq_true (by kernel_rfl)) k1 bel lt1) trodAll_mk0)), rfl, bel.frame _, fun h => by cases h⟩

theorem over : Rows.treeStepRow.holds Facg.pinned (OpenSpec.ofChange Rows.treeStepSpec) :=
  OpenClaim.holds_of_wide 10 Facg.f10 rfl rfl rfl rfl rfl rfl rfl ⟨rfl, rfl, rfl, rfl, rfl⟩ rfl rfl rfl rfl rfl (by kernel_rfl) Facg.func10 (by kernel_rfl)
    (of_decide_eq_true (by kernel_rfl)) (by unfold Func.isWrapper; first | (rw [if_pos (by decide +kernel)]; kernel_rfl) | (rw [if_neg (by decide +kernel)]; exact ⟨rfl, rfl⟩))
    (fun os started H enc _ => lifted os started H enc)

/-- THE STATEMENT. -/
theorem proved : Rows.TreeStepSaid := over
end Go.Proofs.Ygcfac.treeStep
