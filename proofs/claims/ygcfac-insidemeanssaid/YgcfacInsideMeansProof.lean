/-
  'Rows.InsideMeansSaid' ('wordview/law.InsideMeans'): the row, over the walk of YgcfacInWalk.
-/
import Derived.Test.YgcfacRows
import Derived.Test.YgcfacInWalk
import Derived.Test.YgcfacOpen
import Derived.Lib.SmallJoins
namespace Go.Proofs.Ygcfac.insideMeans
open Go.ChangeShapes Go.WideShapes Go.ChangeAt Go.RowKit Go.Joins
set_option linter.unusedVariables false

theorem cells31 : Facg.prog.cellsOf 31 = 6 := by kernel_rfl

theorem array6 {α : Type} {cs : Array α} (h : cs.size = 6) : ∃ c0 c1 c2 c3 c4 c5, cs = #[c0, c1, c2, c3, c4, c5] := by
  obtain ⟨l⟩ := cs
  match l, h with
  | [c0, c1, c2, c3, c4, c5], _ => exact ⟨c0, c1, c2, c3, c4, c5, rfl⟩

theorem list6 {α : Type} {xs : List α} (h : xs.length = 6) : ∃ c0 c1 c2 c3 c4 c5, xs = [c0, c1, c2, c3, c4, c5] := by
  match xs, h with
  | [c0, c1, c2, c3, c4, c5], _ => exact ⟨c0, c1, c2, c3, c4, c5, rfl⟩

section
variable {H : Type} {enc : TypeId × Value → H} {w : World} {base : Nat} {spare : Nat → Bool} {held : Bool}

set_option maxRecDepth 100000 in
/-- A wire.Ptr that came in. -/
theorem ptr_of {r : Reach} {b0 : Nat} {v : Value} {d : DataW H} {p : List MemPlace} (hv : Value.okWide Facg.prog w r b0 31 v) (h : DataW.Trod enc Facg.prog w base spare held 31 v d p) : ∃ q : P, v = q.val ∧ q.Ok := by
  obtain ⟨cs, rfl, hsz⟩ := okWide_struct Facg.underlying31 hv
  obtain ⟨c0, c1, c2, c3, c4, c5, rfl⟩ := array6 (hsz.trans cells31)
  obtain ⟨fuel, hf⟩ := h
  obtain ⟨xs, n, _, _, _, hlen, hf⟩ := DataW.trod_struct Facg.underlying31 hf
  have f0 := hf 0 _ rfl
  have f1 := hf 1 _ rfl
  have f2 := hf 2 _ rfl
  have f3 := hf 3 _ rfl
  have f4 := hf 4 _ rfl
  have f5 := hf 5 _ rfl
  have k5 : Facg.prog.cellsOf 5 = 1 := by kernel_rfl
  have k24 : Facg.prog.cellsOf 24 = 1 := by kernel_rfl
  simp [Value.cells, k5, k24] at f0 f1 f2 f3 f4 f5
  obtain ⟨x0, x1, x2, x3, x4, x5, rfl⟩ := list6 (show xs.length = 6 from hlen)
  obtain ⟨n0, e0, _, w0⟩ := DataW.trod_int Facg.underlying5 f0
  obtain ⟨n1, e1, _, w1⟩ := DataW.trod_int Facg.underlying24 f1
  obtain ⟨n2, e2, _, w2⟩ := DataW.trod_int Facg.underlying5 f2
  obtain ⟨n3, e3, _, w3⟩ := DataW.trod_int Facg.underlying5 f3
  obtain ⟨n4, e4, _, w4⟩ := DataW.trod_int Facg.underlying5 f4
  obtain ⟨n5, e5, _, w5⟩ := DataW.trod_int Facg.underlying24 f5
  simp at e0 e1 e2 e3 e4 e5
  subst e0 e1 e2 e3 e4 e5
  have b0 := bounds_u8 w0
  have b1 := bounds_u16 w1
  have b2 := bounds_u8 w2
  have b3 := bounds_u8 w3
  have b4 := bounds_u8 w4
  have b5 := bounds_u16 w5
  exact ⟨⟨n0, n1, n2, n3, n4, n5⟩, rfl, ⟨by simp only; omega, by simp only; omega, by simp only; omega, by simp only; omega, by simp only; omega, by simp only; omega⟩⟩
end

set_option maxRecDepth 100000 in
theorem lifted (os : Os) (started : os.Started) (H : Type) (enc : TypeId × Value → H) :
    ReturnsInHanded {} Facg.checked os 9 .any (Rows.insideMeansSpec.pre6 enc Facg.prog Facg.f9 Rows.insideMeansRow.domain false) (Rows.insideMeansSpec.post enc Facg.prog Facg.f9 false true false false) := by
  refine returnsInHanded_of_change (C := Facg.checked) own started (by kernel_rfl) Facg.func9
    (ChangeSpec.witness6 (enc := enc) (C := Facg.checked) false ⟨#[], #[.slice none 0 0, .agg #[.int .u8 0, .int .u16 0, .int .u8 0, .int .u8 0, .int .u8 0, .int .u16 0], .int .u8 0, .int .u16 0], []⟩ 8 (by kernel_rfl) (by kernel_rfl) (by kernel_rfl) (by kernel_rfl)) ?_
  intro W base args ds gs before hval0 hW hcnd _
  have hval : ∀ (j : Nat) t v, Facg.f9.params[j]? = some t → args[j]? = some v → Value.okWide Facg.prog W .any base t v := hval0
  have hW' := hW
  obtain ⟨p, q, hA0, hV, rfl, hfz, hnd⟩ := hW
  have hA : DataW.TrodAll enc Facg.prog W 0 (fun _ => true) true Facg.f9.params.toList args.toList ds p := hA0
  rw [Facg.params9] at hA hval
  obtain ⟨v0, vs0, d0, ds0, p0, q0, hargs, rfl, rfl, h0, r0⟩ := trodAll_cons hA
  obtain ⟨v1, vs1, d1, ds1, p1, q1, rfl, rfl, rfl, h1, r1⟩ := trodAll_cons r0
  obtain ⟨v2, vs2, d2, ds2, p2, q2, rfl, rfl, rfl, h2, r2⟩ := trodAll_cons r1
  obtain ⟨v3, vs3, d3, ds3, p3, q3, rfl, rfl, rfl, h3, r3⟩ := trodAll_cons r2
  obtain ⟨rfl, rfl, rfl⟩ := trodAll_nil r3
  obtain rfl : args = #[v0, v1, v2, v3] := by cases args; simp_all
  obtain ⟨rfl, rfl⟩ := trodVars_none hV
  have k0 := h0
  have k1 := h1
  have lt0 : ∀ x ∈ p0, x.block < W.heap.size := by obtain ⟨m, hm⟩ := k0; exact DataW.trod_lt m _ _ _ hm
  have lt1 : ∀ x ∈ p1, x.block < W.heap.size := by obtain ⟨m, hm⟩ := k1; exact DataW.trod_lt m _ _ _ hm
  obtain ⟨xs, hI⟩ : ∃ xs, Ints W .u64 v0 xs := by
    obtain ⟨a0, len0, cap0, rfl⟩ := okWide_slice Facg.underlying22 (hval 0 22 v0 rfl rfl)
    obtain ⟨fuel, hf⟩ := h0
    obtain ⟨xs, hx, _⟩ := ints_of_trod Facg.underlying22 Facg.underlying38 (by kernel_rfl) hf
    exact ⟨xs, hx⟩
  obtain ⟨pp, rfl, hok⟩ := ptr_of (hval 1 31 v1 rfl rfl) h1
  obtain ⟨a2, rfl, rfl, rfl, w2⟩ := open_int Facg.underlying5 (hval 2 5 v2 rfl rfl) h2
  obtain ⟨a3, rfl, rfl, rfl, w3⟩ := open_int Facg.underlying24 (hval 3 24 v3 rfl rfl) h3
  have b2 := bounds_u8 w2
  have b3 := bounds_u16 w3
  obtain ⟨i, rfl⟩ := Int.eq_ofNat_of_zero_le b2.1
  obtain ⟨j, rfl⟩ := Int.eq_ofNat_of_zero_le b3.1
  clear hA0 hval0
  refine (insideMeans_walk v0 xs pp i j W hI hok (by omega) (by omega)).mono fun e W' ⟨he, gr⟩ => ?_
  have bel := gr.below
  subst he
  exact ⟨_, rfl, _, _, _, [], _, [], hW', trodAll_mk1 (shut_bool Facg.underlying4 _), (trodAll_cons_mk (Below.trod laidOut (by kernel_rfl) (of_decide_eq_true (by kernel_rfl)) k0 bel lt0) (trodAll_cons_mk (Below.trod laidOut (by kernel_rfl) (of_decide_eq_true (by kernel_rfl)) k1 bel lt1) (trodAll_cons_mk (shut_int Facg.underlying5 w2) (trodAll_cons_mk (shut_int Facg.underlying24 w3) trodAll_mk0)))), rfl, bel.frame _, fun h => by cases h⟩

theorem over : Rows.insideMeansRow.holds Facg.pinned (OpenSpec.ofChange Rows.insideMeansSpec) :=
  OpenClaim.holds_of_wide 9 Facg.f9 rfl rfl rfl rfl rfl rfl rfl ⟨rfl, rfl, rfl, rfl, rfl⟩ rfl rfl rfl rfl rfl (by kernel_rfl) Facg.func9 (by kernel_rfl)
    (of_decide_eq_true (by kernel_rfl)) (by unfold Func.isWrapper; first | (rw [if_pos (by decide +kernel)]; kernel_rfl) | (rw [if_neg (by decide +kernel)]; exact ⟨rfl, rfl⟩))
    (fun os started H enc _ => lifted os started H enc)

/-- THE STATEMENT. -/
theorem proved : Rows.InsideMeansSaid := over
end Go.Proofs.Ygcfac.insideMeans
