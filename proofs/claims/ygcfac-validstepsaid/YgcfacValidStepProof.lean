/-
  'Rows.ValidStepSaid' ('wordview/law.ValidStep'): the row, over the walk of YgcfacValidWalk.
-/
import Derived.Test.YgcfacRows
import Derived.Test.YgcfacValidWalk
import Derived.Test.YgcfacOpen
import Derived.Lib.SmallJoins
namespace Go.Proofs.Ygcfac.validStep
open Go.ChangeShapes Go.WideShapes Go.ChangeAt Go.RowKit Go.Joins
set_option linter.unusedVariables false

theorem cells81 : Facg.prog.cellsOf 81 = 517 := by kernel_rfl
theorem cells76 : Facg.prog.cellsOf 76 = 4 := by kernel_rfl
theorem cells79 : Facg.prog.cellsOf 79 = 512 := by kernel_rfl
theorem cells78 : Facg.prog.cellsOf 78 = 2 := by kernel_rfl
theorem cells38 : Facg.prog.cellsOf 38 = 1 := by kernel_rfl
theorem cells24 : Facg.prog.cellsOf 24 = 1 := by kernel_rfl
theorem cells5 : Facg.prog.cellsOf 5 = 1 := by kernel_rfl

def intAt (cs : Array Value) (j : Nat) : Nat :=
  match cs[j]? with
  | some (.int _ n) => n.toNat
  | _ => 0
theorem intAt_of {cs : Array Value} {j : Nat} {k : IntKind} {n : Int} (h : cs[j]? = some (.int k n)) (h0 : 0 ≤ n) : cs[j]? = some (.int k (intAt cs j)) := by
  unfold intAt
  rw [h]
  simp only
  rw [Int.toNat_of_nonneg h0]

section
variable {H : Type} {enc : TypeId × Value → H} {w : World} {base : Nat} {spare : Nat → Bool} {held : Bool}

theorem get_some {α : Type} {xs : List α} {i n : Nat} (hl : xs.length = n) (hi : i < n) : ∃ y, xs[i]? = some y := ⟨xs[i], List.getElem?_eq_getElem (by omega)⟩

set_option maxRecDepth 100000 in
theorem walk_cells {cs : Array Value} {fuel : Nat} {x : DataW H × List MemPlace} (hsz : cs.size = 517) (hf : DataW.trod enc Facg.prog w base spare held fuel 81 cs.toList = some x) :
    (∀ j, j < 4 → ∃ n, cs[j]? = some (.int .u64 n) ∧ (Lit.int .u64 n).wf = true) ∧ (∀ k, k < 256 → (∃ n, cs[4 + k * 2]? = some (.int .u16 n) ∧ (Lit.int .u16 n).wf = true) ∧ ∃ n, cs[4 + k * 2 + 1]? = some (.int .u8 n) ∧ (Lit.int .u8 n).wf = true) ∧
      ∃ n, cs[516]? = some (.int .u16 n) ∧ (Lit.int .u16 n).wf = true := by
  obtain ⟨xs, n, _, _, _, hlen, hfs⟩ := DataW.trod_struct Facg.underlying81 hf
  have hlen : xs.length = 3 := hlen
  obtain ⟨x0, e0⟩ := get_some hlen (show 0 < 3 by decide)
  obtain ⟨x1, e1⟩ := get_some hlen (show 1 < 3 by decide)
  obtain ⟨x2, e2⟩ := get_some hlen (show 2 < 3 by decide)
  have f0 : DataW.trod enc Facg.prog w base spare held n 76 ((cs.toList.drop 0).take (Facg.prog.cellsOf 76)) = xs[0]? := hfs 0 _ rfl
  have f1 : DataW.trod enc Facg.prog w base spare held n 79 ((cs.toList.drop 4).take (Facg.prog.cellsOf 79)) = xs[1]? := hfs 1 _ rfl
  have f2 : DataW.trod enc Facg.prog w base spare held n 24 ((cs.toList.drop 516).take (Facg.prog.cellsOf 24)) = xs[2]? := hfs 2 _ rfl
  rw [e0, cells76] at f0
  rw [e1, cells79] at f1
  rw [e2, cells24] at f2
  refine ⟨fun j hj => ?_, fun k hk => ?_, ?_⟩
  · obtain ⟨ys, m, _, _, _, hl, ha⟩ := DataW.trod_array Facg.underlying76 f0
    obtain ⟨y, hy⟩ := get_some hl hj
    have h1 := ha j hj
    rw [hy, cells38] at h1
    obtain ⟨n, h2, _, h3⟩ := DataW.trod_int Facg.underlying38 h1
    have h4 := congrArg (fun l => l[0]?) h2
    simp [List.getElem?_drop, hj] at h4
    exact ⟨n, by simpa using h4, h3⟩
  · obtain ⟨ys, m, _, _, _, hl, ha⟩ := DataW.trod_array Facg.underlying79 f1
    obtain ⟨y, hy⟩ := get_some hl hk
    have h1 := ha k hk
    rw [hy, cells78] at h1
    obtain ⟨zs, m2, _, _, _, hl2, hb⟩ := DataW.trod_struct Facg.underlying78 h1
    have hl2 : zs.length = 2 := hl2
    obtain ⟨z0, g0⟩ := get_some hl2 (show 0 < 2 by decide)
    obtain ⟨z1, g1⟩ := get_some hl2 (show 1 < 2 by decide)
    have b0 : DataW.trod enc Facg.prog w base spare held m2 24 ((((((cs.toList.drop 4).take 512).drop (k * 2)).take 2).drop 0).take (Facg.prog.cellsOf 24)) = zs[0]? := hb 0 _ rfl
    have b1 : DataW.trod enc Facg.prog w base spare held m2 5 ((((((cs.toList.drop 4).take 512).drop (k * 2)).take 2).drop 1).take (Facg.prog.cellsOf 5)) = zs[1]? := hb 1 _ rfl
    rw [g0, cells24] at b0
    rw [g1, cells5] at b1
    obtain ⟨n0, h2, _, h3⟩ := DataW.trod_int Facg.underlying24 b0
    obtain ⟨n1, h5, _, h6⟩ := DataW.trod_int Facg.underlying5 b1
    have h4 := congrArg (fun l => l[0]?) h2
    have h7 := congrArg (fun l => l[0]?) h5
    simp [List.getElem?_take, List.getElem?_drop] at h4 h7
    refine ⟨⟨n0, ?_, h3⟩, ⟨n1, ?_, h6⟩⟩
    · exact h4.2
    · rw [Nat.add_assoc]; exact h7.2
  · obtain ⟨n, h2, _, h3⟩ := DataW.trod_int Facg.underlying24 f2
    have h4 := congrArg (fun l => l[0]?) h2
    simp [List.getElem?_drop] at h4
    exact ⟨n, by simpa using h4, h3⟩

set_option maxRecDepth 100000 in
/-- A valid.Walk that came in. -/
theorem walk_of {r : Reach} {b0 : Nat} {v : Value} {d : DataW H} {p : List MemPlace} (hv : Value.okWide Facg.prog w r b0 81 v) (h : DataW.Trod enc Facg.prog w base spare held 81 v d p) :
    ∃ cs S A D sp, v = .agg cs ∧ WalkCells cs S A D sp ∧ (∀ j, S j < 18446744073709551616) ∧ sp < 65536 ∧ (∀ k, A k < 65536) ∧ ∀ k, D k < 256 := by
  obtain ⟨cs, rfl, hsz⟩ := okWide_struct Facg.underlying81 hv
  have hsz : cs.size = 517 := hsz.trans cells81
  obtain ⟨fuel, hf⟩ := h
  obtain ⟨h1, h2, n3, h3, w3⟩ := walk_cells (cs := cs) hsz (by simpa [Value.cells] using hf)
  have b3 := bounds_u16 w3
  refine ⟨cs, fun j => if j < 4 then intAt cs j else 0, fun k => if k < 256 then intAt cs (4 + k * 2) else 0, fun k => if k < 256 then intAt cs (4 + k * 2 + 1) else 0, intAt cs 516, rfl, ⟨hsz, fun j hj => ?_, fun k hk => ?_, fun k hk => ?_, intAt_of h3 b3.1⟩, fun j => ?_, ?_, fun k => ?_, fun k => ?_⟩
  · obtain ⟨n, a, b⟩ := h1 j hj
    simp only [if_pos hj]
    exact intAt_of a (bounds_u64 b).1
  · obtain ⟨⟨n, a, b⟩, _⟩ := h2 k hk
    simp only [if_pos hk]
    exact intAt_of a (bounds_u16 b).1
  · obtain ⟨_, n, a, b⟩ := h2 k hk
    simp only [if_pos hk]
    exact intAt_of a (bounds_u8 b).1
  · by_cases hj : j < 4
    · obtain ⟨n, a, b⟩ := h1 j hj
      have := bounds_u64 b
      simp only [if_pos hj]
      unfold intAt
      rw [a]
      simp only
      omega
    · simp only [if_neg hj]; decide
  · unfold intAt
    rw [h3]
    simp only
    omega
  · by_cases hk : k < 256
    · obtain ⟨⟨n, a, b⟩, _⟩ := h2 k hk
      have := bounds_u16 b
      simp only [if_pos hk]
      unfold intAt
      rw [a]
      simp only
      omega
    · simp only [if_neg hk]; decide
  · by_cases hk : k < 256
    · obtain ⟨_, n, a, b⟩ := h2 k hk
      have := bounds_u8 b
      simp only [if_pos hk]
      unfold intAt
      rw [a]
      simp only
      omega
    · simp only [if_neg hk]; decide
end

set_option maxRecDepth 100000 in
theorem lifted (os : Os) (started : os.Started) (H : Type) (enc : TypeId × Value → H) :
    ReturnsInHanded {} Facg.checked os 12 .any (Rows.validStepSpec.pre6 enc Facg.prog Facg.f12 Rows.validStepRow.domain false) (Rows.validStepSpec.post enc Facg.prog Facg.f12 false true false false) := by
  refine returnsInHanded_of_change (C := Facg.checked) own started (by kernel_rfl) Facg.func12
    (ChangeSpec.witness6 (enc := enc) (C := Facg.checked) false ⟨#[], #[.slice none 0 0, .agg Facg.zeroCells81], []⟩ 8 (by kernel_rfl) (by kernel_rfl) (by kernel_rfl) (by kernel_rfl)) ?_
  intro W base args ds gs before hval0 hW hcnd _
  have hval : ∀ (j : Nat) t v, Facg.f12.params[j]? = some t → args[j]? = some v → Value.okWide Facg.prog W .any base t v := hval0
  have hW' := hW
  obtain ⟨p, q, hA0, hV, rfl, hfz, hnd⟩ := hW
  have hA : DataW.TrodAll enc Facg.prog W 0 (fun _ => true) true Facg.f12.params.toList args.toList ds p := hA0
  rw [Facg.params12] at hA hval
  obtain ⟨v0, vs0, d0, ds0, p0, q0, hargs, rfl, rfl, h0, r0⟩ := trodAll_cons hA
  obtain ⟨v1, vs1, d1, ds1, p1, q1, rfl, rfl, rfl, h1, r1⟩ := trodAll_cons r0
  obtain ⟨rfl, rfl, rfl⟩ := trodAll_nil r1
  obtain rfl : args = #[v0, v1] := by cases args; simp_all
  obtain ⟨rfl, rfl⟩ := trodVars_none hV
  have k0 := h0
  have k1 := h1
  have lt0 : ∀ x ∈ p0, x.block < W.heap.size := by obtain ⟨m, hm⟩ := k0; exact DataW.trod_lt m _ _ _ hm
  have lt1 : ∀ x ∈ p1, x.block < W.heap.size := by obtain ⟨m, hm⟩ := k1; exact DataW.trod_lt m _ _ _ hm
  obtain ⟨xs, hI⟩ : ∃ xs, Ints W .u64 v0 xs := by
    obtain ⟨a0, len0, cap0, rfl⟩ := okWide_slice Facg.underlying22 (hval 0 22 v0 rfl rfl)
    obtain ⟨fuel, hf⟩ := h0
    obtain ⟨xs, hx, _⟩ := ints_of_trod Facg.underlying22 Facg.underlying38 (by kernel_rfl) hf
    exact ⟨xs, hx⟩
  obtain ⟨cs, S, A, D, sp, rfl, c1, c2, c3, c4, c5⟩ := walk_of (hval 1 81 v1 rfl rfl) h1
  clear hA0 hval0
  refine (validStep_walk v0 xs cs S A D sp W hI c1 c2 c3 c4 c5).mono fun e W' ⟨he, gr⟩ => ?_
  have bel := gr.below
  subst he
  exact ⟨_, rfl, _, _, _, [], _, [], hW', trodAll_mk1 (shut_bool Facg.underlying4 _), (trodAll_cons_mk (Below.trod laidOut (by kernel_rfl) (of_decide_eq_true (by kernel_rfl)) k0 bel lt0) (trodAll_cons_mk (Below.trod laidOut (by kernel_rfl) (of_decide_eq_true (by kernel_rfl)) k1 bel lt1) trodAll_mk0)), rfl, bel.frame _, fun h => by cases h⟩

theorem over : Rows.validStepRow.holds Facg.pinned (OpenSpec.ofChange Rows.validStepSpec) :=
  OpenClaim.holds_of_wide 12 Facg.f12 rfl rfl rfl rfl rfl rfl rfl ⟨rfl, rfl, rfl, rfl, rfl⟩ rfl rfl rfl rfl rfl (by kernel_rfl) Facg.func12 (by kernel_rfl)
    (of_decide_eq_true (by kernel_rfl)) (by unfold Func.isWrapper; first | (rw [if_pos (by decide +kernel)]; kernel_rfl) | (rw [if_neg (by decide +kernel)]; exact ⟨rfl, rfl⟩))
    (fun os started H enc _ => lifted os started H enc)

/-- THE STATEMENT. -/
theorem proved : Rows.ValidStepSaid := over
end Go.Proofs.Ygcfac.validStep
