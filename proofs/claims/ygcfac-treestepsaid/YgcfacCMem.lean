/-
  The memory that codec.Canon works in.
-/
import Derived.Test.YgcfacNMem
import Derived.Test.YgcfacMake
namespace Go.Proofs.Ygcfac
open Go.RowKit
set_option linter.unusedVariables false

structure CM (q : Nat → Prop) (w wr : World) (gC gU : Nat) (v : Value) (L : Nat) (st : List Nat) : Prop where
  gr : Kept q w wr
  qlt : ∀ b, q b → b < w.heap.size
  qC : ¬ q gC
  c0 : wr.cell? ⟨gC, 0, none⟩ = some (.pointer (some ⟨gU, 0, none⟩))
  c1 : wr.cell? ⟨gC, 1, none⟩ = some v
  cn : wr.cell? ⟨gC, 1026, none⟩ = some (.int .i64 st.length)
  fz : ∀ j, wr.frozen? ⟨gC, j, none⟩ = false
  own : ∃ xs : List Int, wr.ownsRow 0 38 1 v L (xs.map (Value.int .u64))
  vb : ∀ g, v.ownBlock = some g → ¬ q g ∧ g ≠ gC
  pos : 1 ≤ L
  sl : st.length ≤ 512
  stk : ∀ k, k < 512 → ∃ a b : Int, wr.cell? ⟨gC, 2 + k * 2, none⟩ = some (.int .u16 a) ∧ wr.cell? ⟨gC, 2 + k * 2 + 1, none⟩ = some (.int .i16 b) ∧ ∀ x, st[k]? = some x → b = (x : Int) ∧ 0 ≤ a ∧ a < L ∧ a < 65536

theorem CM.lt {q : Nat → Prop} {w wr : World} {gC gU : Nat} {v : Value} {L : Nat} {st : List Nat} (h : CM q w wr gC gU v L st) : gC < wr.heap.size := World.block_lt_of_cell? wr ⟨gC, 0, none⟩ h.c0

theorem CM.kept {q : Nat → Prop} {w wr w' : World} {gC gU : Nat} {v : Value} {L : Nat} {st : List Nat} {p : Nat → Prop} (h : CM q w wr gC gU v L st) (hk : Kept p wr w') (hw : ∀ b, q b → p b) (hC : p gC) (hv : ∀ g, v.ownBlock = some g → p g) : CM q w w' gC gU v L st := by
  refine ⟨h.gr.then hk (fun b _ hq => hw b hq), h.qlt, h.qC, hk.cell h.c0 hC, hk.cell h.c1 hC, hk.cell h.cn hC, fun j => ?_, ?_, h.vb, h.pos, h.sl, fun k hk' => ?_⟩
  · rw [hk.frozen (q := ⟨gC, j, none⟩) h.lt hC]; exact h.fz j
  · obtain ⟨xs, ho⟩ := h.own
    exact ⟨xs, owns_kept ho hk hv⟩
  · obtain ⟨a, b, h1, h2, h3⟩ := h.stk k hk'
    exact ⟨a, b, hk.cell h1 hC, hk.cell h2 hC, h3⟩

theorem CM.grow {q : Nat → Prop} {w wr w' : World} {gC gU : Nat} {v : Value} {L : Nat} {st : List Nat} (h : CM q w wr gC gU v L st) (hg : Grows wr w') : CM q w w' gC gU v L st := h.kept hg (fun _ _ => trivial) trivial (fun _ _ => trivial)

theorem cell_set_ne {w : World} {g i j : Nat} {x : Value} (hne : j ≠ i) : (w.setCell ⟨g, j, none⟩ x).cell? ⟨g, i, none⟩ = w.cell? ⟨g, i, none⟩ :=
  World.cell?_setCell_other _ _ _ _ (fun e => by injection e with _ e2 _; exact hne e2)

/-- c.stack[c.n] = slot{at, node}; c.n++ -/
theorem CM.push {q : Nat → Prop} {w wr : World} {gC gU : Nat} {v : Value} {L : Nat} {st : List Nat} (h : CM q w wr gC gU v L st) (hs : st.length < 512) {a : Nat} (ha : a < L) (ha' : a < 65536) (k : Nat) :
    CM q w (((wr.setCell ⟨gC, 2 + st.length * 2, none⟩ (.int .u16 a)).setCell ⟨gC, 2 + st.length * 2 + 1, none⟩ (.int .i16 k)).setCell ⟨gC, 1026, none⟩ (.int .i64 ((st.length : Int) + 1))) gC gU v L (st ++ [k]) := by
  obtain ⟨n, hn⟩ : ∃ n, st.length = n := ⟨_, rfl⟩
  rw [hn] at hs ⊢
  have hK : Kept (fun b => b ≠ gC) wr (((wr.setCell ⟨gC, 2 + n * 2, none⟩ (.int .u16 a)).setCell ⟨gC, 2 + n * 2 + 1, none⟩ (.int .i16 k)).setCell ⟨gC, 1026, none⟩ (.int .i64 ((n : Int) + 1))) :=
    (((Kept.refl _ _).setCell (.inr (fun h => h rfl)) _).setCell (.inr (fun h => h rfl)) _).setCell (.inr (fun h => h rfl)) _
  obtain ⟨a0, b0, s1, s2, s3⟩ := h.stk n hs
  refine ⟨h.gr.then hK (fun b _ hq e => h.qC (e ▸ hq)), h.qlt, h.qC, ?_, ?_, ?_, fun j => by simp only [World.frozen?_setCell]; exact h.fz j, ?_, h.vb, h.pos, by rw [List.length_append, hn]; simp; omega, fun q hq => ?_⟩
  · rw [cell_set_ne (by omega), cell_set_ne (by omega), cell_set_ne (by omega)]; exact h.c0
  · rw [cell_set_ne (by omega), cell_set_ne (by omega), cell_set_ne (by omega)]; exact h.c1
  · rw [List.length_append, hn]
    have : ((wr.setCell ⟨gC, 2 + n * 2, none⟩ (.int .u16 a)).setCell ⟨gC, 2 + n * 2 + 1, none⟩ (.int .i16 k)).cell? ⟨gC, 1026, none⟩ = some (.int .i64 (n : Int)) := by
      rw [cell_set_ne (by omega), cell_set_ne (by omega), h.cn, hn]
    rw [World.cell?_setCell_same _ _ _ this]
    simp
  · obtain ⟨xs, ho⟩ := h.own
    exact ⟨xs, owns_kept ho hK (fun g hg => (h.vb g hg).2)⟩
  · by_cases e : q = n
    · subst e
      refine ⟨a, k, ?_, ?_, fun x hx => ?_⟩
      · rw [cell_set_ne (by omega), cell_set_ne (by omega)]
        exact World.cell?_setCell_same _ _ _ s1
      · rw [cell_set_ne (by omega)]
        have s2' : (wr.setCell ⟨gC, 2 + q * 2, none⟩ (.int .u16 a)).cell? ⟨gC, 2 + q * 2 + 1, none⟩ = some (.int .i16 b0) := by rw [cell_set_ne (by omega)]; exact s2
        exact World.cell?_setCell_same _ _ _ s2'
      · rw [List.getElem?_append_right (by omega), hn] at hx
        simp at hx
        subst hx
        exact ⟨rfl, by omega, by omega, by omega⟩
    · obtain ⟨a1, b1, r1, r2, r3⟩ := h.stk q hq
      refine ⟨a1, b1, ?_, ?_, fun x hx => ?_⟩
      · rw [cell_set_ne (by omega), cell_set_ne (by omega), cell_set_ne (by omega)]; exact r1
      · rw [cell_set_ne (by omega), cell_set_ne (by omega), cell_set_ne (by omega)]; exact r2
      · have hl : q < n := by
          have := (List.getElem?_eq_some_iff.1 hx).1
          rw [List.length_append, hn] at this
          simp at this
          omega
        rw [List.getElem?_append_left (by omega)] at hx
        exact r3 x hx

/-- c.n-- -/
theorem CM.pop {q : Nat → Prop} {w wr : World} {gC gU : Nat} {v : Value} {L : Nat} {st : List Nat} {x : Nat} (h : CM q w wr gC gU v L (st ++ [x])) : CM q w (wr.setCell ⟨gC, 1026, none⟩ (.int .i64 st.length)) gC gU v L st := by
  have hK : Kept (fun b => b ≠ gC) wr (wr.setCell ⟨gC, 1026, none⟩ (.int .i64 st.length)) := (Kept.refl _ _).setCell (.inr (fun h => h rfl)) _
  have hs := h.sl
  rw [List.length_append] at hs
  simp at hs
  refine ⟨h.gr.then hK (fun b _ hq e => h.qC (e ▸ hq)), h.qlt, h.qC, ?_, ?_, World.cell?_setCell_same _ _ _ h.cn, fun j => by simp only [World.frozen?_setCell]; exact h.fz j, ?_, h.vb, h.pos, by omega, fun q hq => ?_⟩
  · rw [cell_set_ne (by omega)]; exact h.c0
  · rw [cell_set_ne (by omega)]; exact h.c1
  · obtain ⟨xs, ho⟩ := h.own
    exact ⟨xs, owns_kept ho hK (fun g hg => (h.vb g hg).2)⟩
  · obtain ⟨a1, b1, r1, r2, r3⟩ := h.stk q hq
    refine ⟨a1, b1, ?_, ?_, fun y hy => r3 y ?_⟩
    · rw [cell_set_ne (by omega)]; exact r1
    · rw [cell_set_ne (by omega)]; exact r2
    · rw [List.getElem?_append_left (List.getElem?_eq_some_iff.1 hy).1]; exact hy

/-- The slice of words: it has a row. -/
theorem CM.slice {q : Nat → Prop} {w wr : World} {gC gU : Nat} {v : Value} {L : Nat} {st : List Nat} (h : CM q w wr gC gU v L st) : ∃ g c, v = .slice (some ⟨g, 0, none⟩) L c ∧ g < wr.heap.size ∧ g ≠ gC ∧ L ≤ 9223372036854775807 ∧ (∀ j, j < L → ∃ x, wr.cell? ⟨g, j, none⟩ = some (.int .u64 x)) ∧ ∀ j, wr.frozen? ⟨g, j, none⟩ = false := by
  obtain ⟨xs, ho⟩ := h.own
  have hp := h.pos
  rcases ho.2 with ⟨_, e⟩ | ⟨g, cap, cur, rfl, _, hh, hnc, hcm, _, _⟩
  · omega
  · unfold maxLen at hcm
    refine ⟨g, cap, rfl, owns_lt ho rfl, (h.vb g rfl).2, by omega, fun j hj => ?_, fun j => ho.frozenAt j⟩
    have hl : xs.length = L := by simpa using ho.1
    refine ⟨xs.getD j 0, ?_⟩
    rw [ho.cellAt j (by omega), List.getElem?_map, List.getD_eq_getElem?_getD, List.getElem?_eq_getElem (by omega : j < xs.length)]
    rfl

/-- c.a[at] = x -/
theorem CM.setA {q : Nat → Prop} {w wr : World} {gC gU g c : Nat} {L : Nat} {st : List Nat} (h : CM q w wr gC gU (.slice (some ⟨g, 0, none⟩) L c) L st) (j : Nat) (x : Int) : CM q w (wr.setCell ⟨g, j, none⟩ (.int .u64 x)) gC gU (.slice (some ⟨g, 0, none⟩) L c) L st := by
  have hK : Kept (fun b => b ≠ g) wr (wr.setCell ⟨g, j, none⟩ (.int .u64 x)) := (Kept.refl _ _).setCell (.inr (fun h => h rfl)) _
  have hv := h.vb g rfl
  have hC : gC ≠ g := fun e => hv.2 e.symm
  refine ⟨h.gr.then hK (fun b _ hq e => hv.1 (e ▸ hq)), h.qlt, h.qC, hK.cell h.c0 hC, hK.cell h.c1 hC, hK.cell h.cn hC, fun j => by rw [World.frozen?_setCell]; exact h.fz j, ?_, h.vb, h.pos, h.sl, fun k hk => ?_⟩
  · obtain ⟨xs, ho⟩ := h.own
    have := (ho.stored j (.int .u64 x)).1
    rw [← List.map_set] at this
    exact ⟨_, this⟩
  · obtain ⟨a, b, h1, h2, h3⟩ := h.stk k hk
    exact ⟨a, b, hK.cell h1 hC, hK.cell h2 hC, h3⟩

/-- c.a = append(c.a, ..) -/
theorem CM.app {q : Nat → Prop} {w w0 w1 : World} {gC gU : Nat} {v v' : Value} {L L' : Nat} {st : List Nat} {ys : List Int} (h : CM q w w0 gC gU v L st) (hL : L ≤ L') (ho : w1.ownsRow 0 38 1 v' L' (ys.map (Value.int .u64))) (hk : Kept (fun k => some k ≠ v.ownBlock) w0 w1)
    (hv : v'.ownBlock = v.ownBlock ∨ ∃ g, w0.heap.size ≤ g ∧ v'.ownBlock = some g) : CM q w (w1.setCell ⟨gC, 1, none⟩ v') gC gU v' L' st := by
  have hlt := h.lt
  have hgr := h.gr.size
  have hK : Kept (fun b => b ≠ gC) w1 (w1.setCell ⟨gC, 1, none⟩ v') := (Kept.refl _ _).setCell (.inr (fun h => h rfl)) _
  have hC : some gC ≠ v.ownBlock := fun e => (h.vb gC e.symm).2 rfl
  have hsm : ∀ b, q b → some b ≠ v.ownBlock := fun b hb e => (h.vb b e.symm).1 hb
  have hb' : ∀ g, v'.ownBlock = some g → ¬ q g ∧ g ≠ gC := fun g hg => by
    rcases hv with e | ⟨g', h1, e⟩
    · rw [hg] at e; exact h.vb g e.symm
    · rw [hg] at e
      injection e with e
      exact ⟨fun hq => by have := h.qlt g hq; omega, by omega⟩
  refine ⟨(h.gr.then hk (fun b _ hq => hsm b hq)).then hK (fun b _ hq e => h.qC (e ▸ hq)), h.qlt, h.qC, ?_, World.cell?_setCell_same _ _ _ (hk.cell h.c1 hC), ?_, fun j => ?_, ⟨ys, owns_kept ho hK (fun g hg => (hb' g hg).2)⟩, hb', by have := h.pos; omega, h.sl, fun k hk' => ?_⟩
  · rw [cell_set_ne (by omega)]; exact hk.cell h.c0 hC
  · rw [cell_set_ne (by omega)]; exact hk.cell h.cn hC
  · rw [World.frozen?_setCell, hk.frozen (q := ⟨gC, j, none⟩) hlt hC]; exact h.fz j
  · obtain ⟨a, b, h1, h2, h3⟩ := h.stk k hk'
    refine ⟨a, b, ?_, ?_, fun x hx => ?_⟩
    · rw [cell_set_ne (by omega)]; exact hk.cell h1 hC
    · rw [cell_set_ne (by omega)]; exact hk.cell h2 hC
    · have := h3 x hx
      exact ⟨this.1, this.2.1, by omega, this.2.2.2⟩
end Go.Proofs.Ygcfac
