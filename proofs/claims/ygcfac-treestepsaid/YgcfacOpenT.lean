/-
  From the row's reading of a tree.Tree to what the walks ask of it.
-/
import Derived.Test.YgcfacOpen
import Derived.Test.YgcfacCopied
import Derived.Lib.SmallJoins
namespace Go.Proofs.Ygcfac
open Go.ChangeShapes Go.WideShapes Go.ChangeAt Go.RowKit Go.Joins
set_option linter.unusedVariables false

theorem weightsAll_in {H : Type} {P : Program} {e : TypeId} : ∀ {l : List (DataW H)} {d : DataW H}, d ∈ l → ∀ n ∈ d.weights P e, n ∈ DataW.weightsAll P e l
  | [], d, hd, _, _ => by simp at hd
  | x :: l, d, hd, n, hn => by
    simp only [DataW.weightsAll, List.mem_append]
    rcases List.mem_cons.1 hd with rfl | h
    · exact .inl hn
    · exact .inr (weightsAll_in h n hn)

theorem cellsOf128 : Facg.prog.cellsOf 128 = 4 := by kernel_rfl
theorem bytesOf128 : Facg.prog.bytesOf 128 = 56 := by kernel_rfl
theorem bytesOf38 : Facg.prog.bytesOf 38 = 8 := by kernel_rfl
theorem bytesOf63 : Facg.prog.bytesOf 63 = 2 := by kernel_rfl
theorem cellsOf65 : Facg.prog.cellsOf 65 = 2 := by kernel_rfl

section
variable {H : Type} {enc : TypeId × Value → H} {w : World} {base : Nat} {spare : Nat → Bool} {held : Bool}

def NdOk (B : Nat) (x : Nd) : Prop := x.data.length * 8 ≤ B ∧ x.kids.length * 2 ≤ B

set_option maxRecDepth 100000 in
theorem node_of_trod {fuel : Nat} {b o : Nat} {cs : List Value} {y : DataW H × List MemPlace} (h : DataW.trod enc Facg.prog w base spare held fuel 128 cs = some y) (hc : ∀ i, i < 4 → w.cell? ⟨b, o + i, none⟩ = cs[i]?) :
    ∃ x, NodeAt w b o x ∧ ∀ B, (∀ u ∈ y.1.weights Facg.prog 128, u ≤ B) → NdOk B x := by
  obtain ⟨y0, y1, y2, y3, n, rfl, hl, h0, h1, h2, h3⟩ := trod_struct4 Facg.underlying128 h
  rw [cellsOf128] at hl
  match cs, hl with
  | [c0, c1, c2, c3], _ =>
    have e0 := hc 0 (by decide)
    have e1 := hc 1 (by decide)
    have e2 := hc 2 (by decide)
    have e3 := hc 3 (by decide)
    simp only [List.getElem?_cons_zero, List.getElem?_cons_succ] at e0 e1 e2 e3
    have k0 : Facg.prog.cellsOf 5 = 1 := by kernel_rfl
    have k2 : Facg.prog.cellsOf 22 = 1 := by kernel_rfl
    have k3 : Facg.prog.cellsOf 126 = 1 := by kernel_rfl
    simp only [k0, k2, k3, List.drop_zero, List.drop_succ_cons, List.take_succ_cons, List.take_zero] at h0 h1 h2 h3
    obtain ⟨kd, f0, rfl, wk⟩ := DataW.trod_int Facg.underlying5 h0
    obtain ⟨cd, f1, rfl, wc⟩ := DataW.trod_int Facg.underlying5 h1
    obtain ⟨dt, hD, bD⟩ := ints_of_trod Facg.underlying22 Facg.underlying38 (by kernel_rfl) h2
    obtain ⟨ks, hK, bK⟩ := ints_of_trod Facg.underlying126 Facg.underlying63 (by kernel_rfl) h3
    simp only [List.cons.injEq, and_true] at f0 f1
    subst f0 f1
    have bk := bounds_u8 wk
    have bc := bounds_u8 wc
    refine ⟨⟨kd, cd, dt, ks⟩, ⟨⟨show 0 ≤ kd by omega, show kd < 256 by omega⟩, ⟨show 0 ≤ cd by omega, show cd < 256 by omega⟩, e0, e1, ⟨_, e2, hD⟩, _, e3, hK⟩, fun B hB => ?_⟩
    have p2 := bD B (fun u hu => hB u (by simp only [DataW.weights, Facg.underlying128]; exact DataW.weights_mem_each (j := 2) rfl rfl u hu))
    have p3 := bK B (fun u hu => hB u (by simp only [DataW.weights, Facg.underlying128]; exact DataW.weights_mem_each (j := 3) rfl rfl u hu))
    rw [bytesOf38] at p2
    rw [bytesOf63] at p3
    exact ⟨p2, p3⟩

theorem choose_list {α : Type} {p : Nat → α → Prop} : ∀ n, (∀ i, i < n → ∃ x, p i x) → ∃ l : List α, l.length = n ∧ ∀ i x, l[i]? = some x → p i x
  | 0, _ => ⟨[], rfl, fun i x h => by simp at h⟩
  | n + 1, h => by
    obtain ⟨l, hl, hp⟩ := choose_list n (fun i hi => h i (by omega))
    obtain ⟨x, hx⟩ := h n (by omega)
    refine ⟨l ++ [x], by simp [hl], fun i y hy => ?_⟩
    by_cases hi : i < l.length
    · rw [List.getElem?_append_left hi] at hy
      exact hp i y hy
    · rw [List.getElem?_append_right (by omega)] at hy
      have hlt := (List.getElem?_eq_some_iff.1 hy).1
      simp at hlt
      have e : i = n := by omega
      subst e
      rw [hl] at hy
      simp at hy
      subst hy
      exact hx

theorem nodes_of_trod {fuel : Nat} {v : Value} {x : DataW H × List MemPlace} (h : DataW.trod enc Facg.prog w base spare held fuel 62 [v] = some x) :
    ∃ ns, NsAt w v ns ∧ ∀ B, (∀ u ∈ x.1.weights Facg.prog 62, u ≤ B) → ns.length * 56 ≤ B ∧ ∀ (j : Nat) (y : Nd), ns[j]? = some y → NdOk B y := by
  rcases DataW.trod_slice Facg.underlying62 h with ⟨hcs, rfl⟩ | ⟨a, len, cap, elems, rest, n, _, hcs, rfl, hb, hlc, hm, hel, hE, _, _⟩
  · simp only [List.cons.injEq, and_true] at hcs
    subst hcs
    exact ⟨[], ⟨none, 0, rfl, Nat.le_refl _, by decide, fun h => absurd rfl h⟩, fun B _ => ⟨by simp, fun j y hy => by simp at hy⟩⟩
  · simp only [List.cons.injEq, and_true] at hcs
    subst hcs
    rw [cellsOf128] at hE
    have hw : ∀ B, (∀ u ∈ (DataW.slice (elems.map (·.1)) (rest.map (·.1))).weights Facg.prog 62, u ≤ B) → ((elems.map (·.1)).length + (rest.map (·.1)).length) * Facg.prog.bytesOf 128 ≤ B ∧ ∀ (j : Nat) (y : DataW H × List MemPlace), elems[j]? = some y → ∀ u ∈ y.1.weights Facg.prog 128, u ≤ B := fun B hB => by
      refine ⟨hB _ (by simp only [DataW.weights, Facg.underlying62]; exact List.mem_cons_self ..), fun j y hy u hu => hB u ?_⟩
      simp only [DataW.weights, Facg.underlying62]
      refine List.mem_cons_of_mem _ (List.mem_append_left _ (weightsAll_in (d := y.1) ?_ u hu))
      exact List.mem_map.2 ⟨y, List.mem_of_getElem? hy, rfl⟩
    rcases Nat.eq_zero_or_pos len with h0 | h0
    · subst h0
      exact ⟨[], ⟨some a, cap, rfl, Nat.zero_le _, hm, fun h => absurd rfl h⟩, fun B _ => ⟨by simp, fun j y hy => by simp at hy⟩⟩
    · have cell : ∀ i, i < len → ∃ cs y, elems[i]? = some y ∧ DataW.trod enc Facg.prog w base spare held n 128 cs = some y ∧ ∀ q, q < 4 → w.cell? ((a.add (i * 4)).add q) = cs[q]? := fun i hi => by
        have he := hE i hi
        rw [List.getElem?_eq_getElem (by omega : i < elems.length)] at he
        obtain ⟨cs, h1, h2⟩ := Option.bind_eq_some_iff.1 he
        obtain ⟨_, _, h3⟩ := World.cells?_some h1
        exact ⟨cs, _, List.getElem?_eq_getElem (by omega), h2, h3⟩
      obtain ⟨cs0, y0, hy0, ht0, hc0⟩ := cell 0 h0
      obtain ⟨b, off, spot⟩ := a
      have hspot : spot = none := by
        have hl := trod_struct4 Facg.underlying128 ht0
        obtain ⟨_, _, _, _, _, _, hl, _⟩ := hl
        rw [cellsOf128] at hl
        have := hc0 0 (by decide)
        rw [List.getElem?_eq_getElem (by omega : 0 < cs0.length)] at this
        simpa [Addr.add] using World.cell?_spot this
      subst hspot
      have hadd : ∀ i q, ((⟨b, off, none⟩ : Addr).add (i * 4)).add q = ⟨b, off + i * 4 + q, none⟩ := fun i q => by unfold Addr.add; cases i * 4 <;> cases q <;> simp <;> rfl
      obtain ⟨ns, hl, hp⟩ := choose_list (α := Nd) (p := fun i x => NodeAt w b (off + i * 4) x ∧ ∀ B, (∀ (y : DataW H × List MemPlace), elems[i]? = some y → ∀ u ∈ y.1.weights Facg.prog 128, u ≤ B) → NdOk B x) len (fun i hi => by
        obtain ⟨cs, y, hy, ht, hc⟩ := cell i hi
        obtain ⟨x, hx, hB⟩ := node_of_trod (b := b) (o := off + i * 4) ht (fun q hq => by rw [← hadd]; exact hc q hq)
        exact ⟨x, hx, fun B hb => hB B (hb y hy)⟩)
      refine ⟨ns, ⟨some ⟨b, off, none⟩, cap, by rw [hl], by omega, hm, fun _ => ⟨b, off, rfl, fun j x hx => (hp j x hx).1⟩⟩, fun B hB => ?_⟩
      obtain ⟨w1, w2⟩ := hw B hB
      rw [bytesOf128, List.length_map, List.length_map] at w1
      exact ⟨by rw [hl]; omega, fun j x hx => (hp j x hx).2 B (fun y hy => w2 j y hy)⟩
end
end Go.Proofs.Ygcfac
