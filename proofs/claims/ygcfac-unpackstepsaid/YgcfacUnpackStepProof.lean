/-
  'Rows.UnpackStepSaid' ('wordview/law.UnpackStep'): the row, over the walk of YgcfacUnpackWalk.
-/
import Derived.Test.YgcfacUnpackWalk
import Derived.Test.YgcfacOpen
import Derived.Lib.SmallJoins
namespace Go.Proofs.Ygcfac.unpackStep
open Go.ChangeShapes Go.WideShapes Go.ChangeAt Go.RowKit Go.Joins
set_option linter.unusedVariables false

theorem cells74 : Facg.prog.cellsOf 74 = 3 := by kernel_rfl
theorem bytes5 : Facg.prog.bytesOf 5 = 1 := by kernel_rfl
theorem bytes38 : Facg.prog.bytesOf 38 = 8 := by kernel_rfl

set_option maxRecDepth 100000 in
theorem lifted (os : Os) (started : os.Started) (H : Type) (enc : TypeId × Value → H) :
    ReturnsInHanded {} Facg.checked os 11 .any (Rows.unpackStepSpec.pre6 enc Facg.prog Facg.f11 Rows.unpackStepRow.domain false) (Rows.unpackStepSpec.post enc Facg.prog Facg.f11 false true false false) := by
  refine returnsInHanded_of_change_sized (C := Facg.checked) own started (by kernel_rfl) Facg.func11
    (ChangeSpec.witness6 (enc := enc) (C := Facg.checked) false ⟨#[], #[.agg #[.slice none 0 0, .int .u16 0, .slice none 0 0]], []⟩ 8 (by kernel_rfl) (by kernel_rfl) (by kernel_rfl) (by kernel_rfl)) ?_
  intro W base args ds gs before hval0 hW hcnd hsz0 _
  have hval : ∀ (j : Nat) t v, Facg.f11.params[j]? = some t → args[j]? = some v → Value.okWide Facg.prog W .any base t v := hval0
  have hsz : (DataW.weightsEach Facg.prog (Facg.f11.params.toList ++ Rows.unpackStepSpec.plain.varTypes Facg.prog) (ds ++ gs)).all (· ≤ reachBytes) = true := hsz0
  have hW' := hW
  obtain ⟨p, q, hA0, hV, rfl, hfz, hnd⟩ := hW
  have hA : DataW.TrodAll enc Facg.prog W 0 (fun _ => true) true Facg.f11.params.toList args.toList ds p := hA0
  rw [Facg.params11] at hA hval hsz
  obtain ⟨v0, d0, hargs, rfl, h0⟩ := trodAll_one hA
  obtain rfl : args = #[v0] := by cases args; simp_all
  obtain ⟨rfl, rfl⟩ := trodVars_none hV
  have k0 := h0
  have lt0 : ∀ x ∈ p, x.block < W.heap.size := by obtain ⟨m, hm⟩ := k0; exact DataW.trod_lt m _ _ _ hm
  obtain ⟨c0, c1, c2, y0, y1, y2, m, rfl, rfl, rfl, hy0, hy1, hy2⟩ := open_agg3 Facg.underlying74 (by kernel_rfl) cells74 (hval 0 74 v0 rfl rfl) h0
  obtain ⟨S, hS, bS⟩ := ints_of_trod Facg.underlying40 Facg.underlying5 (by kernel_rfl) hy0
  obtain ⟨i, e1, rfl, wi⟩ := DataW.trod_int Facg.underlying24 hy1
  obtain ⟨out, hO, bO⟩ := ints_of_trod Facg.underlying22 Facg.underlying38 (by kernel_rfl) hy2
  simp at e1
  subst e1
  have wall : ∀ u ∈ (DataW.agg [y0.1, .lit (.int .u16 i), y2.1]).weights Facg.prog 74, u ≤ reachBytes := fun u hu => by
    have := List.all_eq_true.1 hsz u (DataW.weights_mem_each (j := 0) rfl rfl u hu)
    simpa using this
  have w0 : S.length * 1 ≤ reachBytes := by
    have := bS reachBytes (fun u hu => wall u (by simp only [DataW.weights, Facg.underlying74]; exact DataW.weights_mem_each (j := 0) rfl rfl u hu))
    rwa [bytes5] at this
  have w2 : out.length * 8 ≤ reachBytes := by
    have := bO reachBytes (fun u hu => wall u (by simp only [DataW.weights, Facg.underlying74]; exact DataW.weights_mem_each (j := 2) rfl rfl u hu))
    rwa [bytes38] at this
  have bi := bounds_u16 wi
  obtain ⟨n, rfl⟩ := Int.eq_ofNat_of_zero_le bi.1
  unfold reachBytes at w0 w2
  clear hA0 hval0 hsz hsz0
  refine (unpackStep_walk c0 c2 n S out W hS hO (by omega) (by omega) (by omega)).mono fun e W' ⟨he, gr⟩ => ?_
  have bel := gr.below
  subst he
  exact ⟨_, rfl, _, _, _, [], _, [], hW', trodAll_mk1 (shut_bool Facg.underlying4 _), (trodAll_cons_mk (Below.trod laidOut (by kernel_rfl) (of_decide_eq_true (by kernel_rfl)) k0 bel lt0) trodAll_mk0), rfl, bel.frame _, fun h => by cases h⟩

theorem over : Rows.unpackStepRow.holds Facg.pinned (OpenSpec.ofChange Rows.unpackStepSpec) :=
  OpenClaim.holds_of_wide 11 Facg.f11 rfl rfl rfl rfl rfl rfl rfl ⟨rfl, rfl, rfl, rfl, rfl⟩ rfl rfl rfl rfl rfl (by kernel_rfl) Facg.func11 (by kernel_rfl)
    (of_decide_eq_true (by kernel_rfl)) (by unfold Func.isWrapper; first | (rw [if_pos (by decide +kernel)]; kernel_rfl) | (rw [if_neg (by decide +kernel)]; exact ⟨rfl, rfl⟩))
    (fun os started H enc _ => lifted os started H enc)

/-- THE STATEMENT. -/
theorem proved : Rows.UnpackStepSaid := over
end Go.Proofs.Ygcfac.unpackStep
