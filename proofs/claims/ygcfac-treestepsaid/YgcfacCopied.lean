/-
  law.copiedTree: a tree copied, node for node.
-/
import Derived.Test.YgcfacNMem
import Derived.Test.YgcfacEven
import Derived.Deep.RegionHeldLaw
import Derived.Deep.DeepCutAuto
namespace Go.Proofs.Ygcfac
open Go.RowKit
set_option linter.unusedVariables false

/-- A node that has been copied: its cells in the row at gN, its lists in blocks of their own. -/
def CopN (wr : World) (q : Nat → Prop) (b o : Nat) (x : Nd) : Prop :=
  (0 ≤ x.kind ∧ x.kind < 256) ∧ (0 ≤ x.code ∧ x.code < 256) ∧
  wr.cell? ⟨b, o, none⟩ = some (.int .u8 x.kind) ∧ wr.cell? ⟨b, o + 1, none⟩ = some (.int .u8 x.code) ∧
  (∃ v, wr.cell? ⟨b, o + 2, none⟩ = some v ∧ IntsO wr q .u64 v x.data) ∧ ∃ v, wr.cell? ⟨b, o + 3, none⟩ = some v ∧ IntsO wr q .i16 v x.kids

theorem CopN.node {w : World} {q : Nat → Prop} {b o : Nat} {x : Nd} (h : CopN w q b o x) : NodeAt w b o x := by
  obtain ⟨r1, r2, h0, h1, ⟨v, h2, h3⟩, u, h4, h5⟩ := h
  exact ⟨r1, r2, h0, h1, ⟨v, h2, h3.ints⟩, u, h4, h5.ints⟩

theorem CopN.grow {w w' : World} {q : Nat → Prop} {b o : Nat} {x : Nd} (h : CopN w q b o x) (hg : Grows w w') : CopN w' q b o x := by
  obtain ⟨r1, r2, h0, h1, ⟨v, h2, h3⟩, u, h4, h5⟩ := h
  exact ⟨r1, r2, hg.cell h0 trivial, hg.cell h1 trivial, ⟨v, hg.cell h2 trivial, h3.kept hg (fun _ _ hq => ⟨trivial, hq⟩)⟩, u, hg.cell h4 trivial, h5.kept hg (fun _ _ hq => ⟨trivial, hq⟩)⟩

/-- copiedTree's memory: the result's cell (R), the row (gN), the tree that is being made (gU). -/
structure CopM (w wr : World) (R gN gU : Nat) (t : Tr) (i : Nat) : Prop where
  gr : Grows w wr
  wR : w.heap.size ≤ R
  rn : R < gN
  ru : R < gU
  nu : gN ≠ gU
  r0 : wr.cell? ⟨R, 0, none⟩ = some (.slice none 0 0)
  r1 : wr.cell? ⟨R, 1, none⟩ = some (.int .i16 0)
  rf : ∀ j, wr.frozen? ⟨R, j, none⟩ = false
  u0 : wr.cell? ⟨gU, 0, none⟩ = some (.slice (some ⟨gN, 0, none⟩) t.ns.length t.ns.length)
  u1 : wr.cell? ⟨gU, 1, none⟩ = some (.int .i16 t.root)
  nl : gN < wr.heap.size
  nc : ∀ j, j < t.ns.length * 4 → ∃ x, wr.cell? ⟨gN, j, none⟩ = some x
  nf : ∀ j, wr.frozen? ⟨gN, j, none⟩ = false
  dn : ∀ j, j < i → CopN wr (fun b => R < b ∧ b ≠ gN) gN (j * 4) (t.nd j)

theorem CopM.grow {w wr w' : World} {R gN gU : Nat} {t : Tr} {i : Nat} (h : CopM w wr R gN gU t i) (hg : Grows wr w') : CopM w w' R gN gU t i := by
  have lR : R < wr.heap.size := World.block_lt_of_cell? wr ⟨R, 0, none⟩ h.r0
  refine ⟨h.gr.trans hg, h.wR, h.rn, h.ru, h.nu, hg.cell h.r0 trivial, hg.cell h.r1 trivial, fun j => ?_, hg.cell h.u0 trivial, hg.cell h.u1 trivial, Nat.lt_of_lt_of_le h.nl hg.size, fun j hj => ?_, fun j => ?_, fun j hj => (h.dn j hj).grow hg⟩
  · rw [hg.frozens R j lR]; exact h.rf j
  · obtain ⟨x, hx⟩ := h.nc j hj; exact ⟨x, hg.cell hx trivial⟩
  · rw [hg.frozens gN j h.nl]; exact h.nf j

/-- The node i is laid. -/
theorem CopM.put {w wr : World} {R gN gU : Nat} {t : Tr} {i : Nat} (h : CopM w wr R gN gU t i) (hi : i < t.ns.length) (hk : 0 ≤ (t.nd i).kind ∧ (t.nd i).kind < 256) (hc : 0 ≤ (t.nd i).code ∧ (t.nd i).code < 256) {dv kv : Value}
    (hd : IntsO wr (fun b => R < b ∧ b ≠ gN) .u64 dv (t.nd i).data) (hkd : IntsO wr (fun b => R < b ∧ b ≠ gN) .i16 kv (t.nd i).kids) :
    CopM w ((((wr.setCell ⟨gN, i * 4, none⟩ (.int .u8 (t.nd i).kind)).setCell ⟨gN, i * 4 + 1, none⟩ (.int .u8 (t.nd i).code)).setCell ⟨gN, i * 4 + 2, none⟩ dv).setCell ⟨gN, i * 4 + 3, none⟩ kv) R gN gU t (i + 1) := by
  have hrn := h.rn
  have hru := h.ru
  have hnu := h.nu
  have hwR := h.wR
  obtain ⟨x0, e0⟩ := h.nc (i * 4) (by omega)
  obtain ⟨x1, e1⟩ := h.nc (i * 4 + 1) (by omega)
  obtain ⟨x2, e2⟩ := h.nc (i * 4 + 2) (by omega)
  obtain ⟨x3, e3⟩ := h.nc (i * 4 + 3) (by omega)
  obtain ⟨W, hW⟩ : ∃ W, W = ((((wr.setCell ⟨gN, i * 4, none⟩ (.int .u8 (t.nd i).kind)).setCell ⟨gN, i * 4 + 1, none⟩ (.int .u8 (t.nd i).code)).setCell ⟨gN, i * 4 + 2, none⟩ dv).setCell ⟨gN, i * 4 + 3, none⟩ kv) := ⟨_, rfl⟩
  have hK : Kept (fun b => b ≠ gN) wr W := by
    rw [hW]
    exact ((((Kept.refl _ _).setCell (.inr (fun h => h rfl)) _).setCell (.inr (fun h => h rfl)) _).setCell (.inr (fun h => h rfl)) _).setCell (.inr (fun h => h rfl)) _
  have ne : ∀ a b : Nat, a ≠ b → (⟨gN, a, none⟩ : Addr) ≠ ⟨gN, b, none⟩ := fun a b hab e => by injection e with _ e2 _; exact hab e2
  have far : ∀ j, (j < i * 4 ∨ i * 4 + 3 < j) → W.cell? ⟨gN, j, none⟩ = wr.cell? ⟨gN, j, none⟩ := fun j hj => by
    rw [hW, World.cell?_setCell_other _ _ _ _ (ne _ _ (by omega)), World.cell?_setCell_other _ _ _ _ (ne _ _ (by omega)), World.cell?_setCell_other _ _ _ _ (ne _ _ (by omega)), World.cell?_setCell_other _ _ _ _ (ne _ _ (by omega))]
  have n0 : W.cell? ⟨gN, i * 4, none⟩ = some (.int .u8 (t.nd i).kind) := by
    rw [hW, World.cell?_setCell_other _ _ _ _ (ne _ _ (by omega)), World.cell?_setCell_other _ _ _ _ (ne _ _ (by omega)), World.cell?_setCell_other _ _ _ _ (ne _ _ (by omega))]
    exact World.cell?_setCell_same _ _ _ e0
  have n1 : W.cell? ⟨gN, i * 4 + 1, none⟩ = some (.int .u8 (t.nd i).code) := by
    rw [hW, World.cell?_setCell_other _ _ _ _ (ne _ _ (by omega)), World.cell?_setCell_other _ _ _ _ (ne _ _ (by omega))]
    exact World.cell?_setCell_same _ _ _ (u := x1) (by rw [World.cell?_setCell_other _ _ _ _ (ne _ _ (by omega))]; exact e1)
  have n2 : W.cell? ⟨gN, i * 4 + 2, none⟩ = some dv := by
    rw [hW, World.cell?_setCell_other _ _ _ _ (ne _ _ (by omega))]
    exact World.cell?_setCell_same _ _ _ (u := x2) (by rw [World.cell?_setCell_other _ _ _ _ (ne _ _ (by omega)), World.cell?_setCell_other _ _ _ _ (ne _ _ (by omega))]; exact e2)
  have n3 : W.cell? ⟨gN, i * 4 + 3, none⟩ = some kv := by
    rw [hW]
    exact World.cell?_setCell_same _ _ _ (u := x3) (by rw [World.cell?_setCell_other _ _ _ _ (ne _ _ (by omega)), World.cell?_setCell_other _ _ _ _ (ne _ _ (by omega)), World.cell?_setCell_other _ _ _ _ (ne _ _ (by omega))]; exact e3)
  have fz : ∀ b j, W.frozen? ⟨b, j, none⟩ = wr.frozen? ⟨b, j, none⟩ := fun b j => by rw [hW, World.frozen?_setCell, World.frozen?_setCell, World.frozen?_setCell, World.frozen?_setCell]
  rw [← hW]
  refine ⟨h.gr.then hK (fun b hb _ => by omega), h.wR, h.rn, h.ru, h.nu, hK.cell h.r0 (by show R ≠ gN; omega), hK.cell h.r1 (by show R ≠ gN; omega), fun j => by rw [fz]; exact h.rf j, hK.cell h.u0 (by show gU ≠ gN; omega), hK.cell h.u1 (by show gU ≠ gN; omega), Nat.lt_of_lt_of_le h.nl hK.size, fun j hj => ?_, fun j => by rw [fz]; exact h.nf j, fun j hj => ?_⟩
  · by_cases h1 : j < i * 4 ∨ i * 4 + 3 < j
    · rw [far j h1]; exact h.nc j hj
    · have : j = i * 4 ∨ j = i * 4 + 1 ∨ j = i * 4 + 2 ∨ j = i * 4 + 3 := by omega
      rcases this with rfl | rfl | rfl | rfl
      · exact ⟨_, n0⟩
      · exact ⟨_, n1⟩
      · exact ⟨_, n2⟩
      · exact ⟨_, n3⟩
  · by_cases h1 : j = i
    · subst h1
      exact ⟨hk, hc, n0, n1, ⟨dv, n2, hd.kept hK (fun b _ hq => ⟨hq.2, hq⟩)⟩, kv, n3, hkd.kept hK (fun b _ hq => ⟨hq.2, hq⟩)⟩
    · obtain ⟨r1, r2, h0, h1, ⟨v, h2, h3⟩, u, h4, h5⟩ := h.dn j (by omega)
      refine ⟨r1, r2, ?_, ?_, ⟨v, ?_, h3.kept hK (fun b _ hq => ⟨hq.2, hq⟩)⟩, u, ?_, h5.kept hK (fun b _ hq => ⟨hq.2, hq⟩)⟩
      · rw [far _ (by omega)]; exact h0
      · rw [far _ (by omega)]; exact h1
      · rw [far _ (by omega)]; exact h2
      · rw [far _ (by omega)]; exact h4

theorem info63c : (Facg.prog.info? 63).map (fun i => (i.zero, i.size, i.bytes)) = some (some (.int .i16 0), 1, 2) := by kernel_rfl
theorem info128c : (Facg.prog.info? 128).map (fun i => (i.zero, i.size, i.bytes)) = some (some (.agg #[.int .u8 0, .int .u8 0, .slice none 0 0, .slice none 0 0]), 4, 56) := by kernel_rfl

def rowN (N : Nat) : Array Value := madeCells #[.int .u8 0, .int .u8 0, .slice none 0 0, .slice none 0 0] (N * 4)

theorem rowN_some (N j : Nat) (hj : j < N * 4) : ∃ x, (rowN N)[j]? = some x := by
  have : (rowN N).size = N * 4 := by simp [rowN, madeCells]
  exact ⟨_, Array.getElem?_eq_getElem (by omega)⟩

theorem make128 (N : Nat) (hN : 56 * N ≤ 281474976710656) (w : World) : (Instr.makeSlice 62 (.int .i64 N) (.int .i64 N)).run Facg.prog w = .ok (.slice (some ⟨w.heap.size, 0, none⟩) N N) (w.alloc (.cells (rowN N) 128)) := by
  obtain ⟨i, hi, hz, hs, hb⟩ := info_parts info128c
  have := run_make (P := Facg.prog) w 62 128 i (.agg #[.int .u8 0, .int .u8 0, .slice none 0 0, .slice none 0 0]) Facg.underlying62 hi hz .i64 .i64 N N (by omega) (by omega) (by rw [hb]; omega) (by omega)
  rw [hs] at this
  rw [this]
  rfl

/-- Ahead of the loop. -/
theorem CopM.start {w wc : World} {t : Tr} {gN gU : Nat} (hg : Grows w wc) (hR : wc.heap[w.heap.size]? = some (.cells #[.slice none 0 0, .int .i16 0] 65 (0, 0)))
    (hN : wc.heap[gN]? = some (.cells (rowN t.ns.length) 128 (0, 0))) (hU : wc.heap[gU]? = some (.cells #[.slice (some ⟨gN, 0, none⟩) t.ns.length t.ns.length, .int .i16 t.root] 65 (0, 0))) (h1 : w.heap.size < gN) (h2 : w.heap.size < gU) (h3 : gN ≠ gU) :
    CopM w wc w.heap.size gN gU t 0 := by
  refine ⟨hg, Nat.le_refl _, h1, h2, h3, by simp [World.cell?, hR], by simp [World.cell?, hR], fun j => by simp [World.frozen?, hR], by simp [World.cell?, hU], by simp [World.cell?, hU], ?_, fun j hj => ?_, fun j => by simp [World.frozen?, hN], fun j hj => absurd hj (Nat.not_lt_zero _)⟩
  · rcases Nat.lt_or_ge gN wc.heap.size with h | h
    · exact h
    · rw [Array.getElem?_eq_none h] at hN; cases hN
  · obtain ⟨x, hx⟩ := rowN_some t.ns.length j hj
    exact ⟨x, by simp [World.cell?, hN, hx]⟩

theorem blk_at (w : World) (o : Obj) (n : Nat) (h : w.heap.size = n) : (w.alloc o).heap[n]? = some o := by subst h; exact Go.Deep.blk_alloc_new _ _
theorem blk_lt (w : World) (o : Obj) (k : Nat) (h : k < w.heap.size) : (w.alloc o).heap[k]? = w.heap[k]? := Go.Deep.blk_alloc_lt _ _ _ h

theorem copm3 (w : World) (a b c : Obj) : ((((w.alloc a).alloc b).alloc c).drew).heap[w.heap.size]? = some a ∧ ((((w.alloc a).alloc b).alloc c).drew).heap[w.heap.size + 1]? = some b ∧ ((((w.alloc a).alloc b).alloc c).drew).heap[w.heap.size + 1 + 1]? = some c := by
  refine ⟨?_, ?_, ?_⟩
  · show (((w.alloc a).alloc b).alloc c).heap[w.heap.size]? = some a
    rw [blk_lt _ _ _ (by simp; omega), blk_lt _ _ _ (by simp), blk_at _ _ _ rfl]
  · show (((w.alloc a).alloc b).alloc c).heap[w.heap.size + 1]? = some b
    rw [blk_lt _ _ _ (by simp), blk_at _ _ _ (by simp)]
  · show (((w.alloc a).alloc b).alloc c).heap[w.heap.size + 1 + 1]? = some c
    rw [blk_at _ _ _ (by simp)]

theorem cells4 (w : World) (a b c d : Value) : (w.alloc (.cells #[a, b, c, d] 128)).cell? ⟨w.heap.size, 0, none⟩ = some a ∧ (w.alloc (.cells #[a, b, c, d] 128)).cell? ⟨w.heap.size, 1, none⟩ = some b ∧ (w.alloc (.cells #[a, b, c, d] 128)).cell? ⟨w.heap.size, 2, none⟩ = some c ∧ (w.alloc (.cells #[a, b, c, d] 128)).cell? ⟨w.heap.size, 3, none⟩ = some d :=
  ⟨by rw [World.cell?_alloc_at _ _ _ _ rfl]; rfl, by rw [World.cell?_alloc_at _ _ _ _ rfl]; rfl, by rw [World.cell?_alloc_at _ _ _ _ rfl]; rfl, by rw [World.cell?_alloc_at _ _ _ _ rfl]; rfl⟩

theorem held_node {W0 w' : World} {B gU gN : Nat} {x0 x1 x2 x3 x4 : Value} (hB : B ≠ gN) (hU : gU ≠ gN) (hg : Kept (fun b => b ≠ gN) W0 w') (c0 : W0.cell? ⟨B, 0, none⟩ = some x0) (c1 : W0.cell? ⟨B, 1, none⟩ = some x1) (c2 : W0.cell? ⟨B, 2, none⟩ = some x2) (c3 : W0.cell? ⟨B, 3, none⟩ = some x3) (c4 : W0.cell? ⟨gU, 0, none⟩ = some x4) :
    Kept (fun b => b ≠ gN) W0 w' ∧ w'.cell? ⟨B, 0, none⟩ = some x0 ∧ w'.cell? ⟨B, 1, none⟩ = some x1 ∧ w'.cell? ⟨B, 2, none⟩ = some x2 ∧ w'.cell? ⟨B, 3, none⟩ = some x3 ∧ w'.cell? ⟨gU, 0, none⟩ = some x4 :=
  ⟨hg, hg.cell c0 hB, hg.cell c1 hB, hg.cell c2 hB, hg.cell c3 hB, hg.cell c4 hU⟩

def CopP (w : World) (t : Tr) (e : Ending) (w' : World) : Prop := ∃ v, e = .returned (.agg #[v, .int .i16 t.root]) ∧ Grows w w' ∧ NsAt w' v t.ns

theorem CopM.done {w wr : World} {gN gU N : Nat} {t : Tr} (h : CopM w wr w.heap.size gN gU t N) (hN : t.ns.length = N) (hm : N ≤ maxLen) {v0 v1 : Value} :
    Grows w ((wr.setCell ⟨w.heap.size, 0, none⟩ v0).setCell ⟨w.heap.size, 1, none⟩ v1) ∧ NsAt ((wr.setCell ⟨w.heap.size, 0, none⟩ v0).setCell ⟨w.heap.size, 1, none⟩ v1) (.slice (some ⟨gN, 0, none⟩) N N) t.ns := by
  have hrn := h.rn
  have hK : Kept (fun b => b ≠ w.heap.size) wr ((wr.setCell ⟨w.heap.size, 0, none⟩ v0).setCell ⟨w.heap.size, 1, none⟩ v1) := ((Kept.refl _ _).setCell (.inr (fun h => h rfl)) _).setCell (.inr (fun h => h rfl)) _
  refine ⟨(h.gr.setCell (.inl (Nat.le_refl _)) _).setCell (.inl (Nat.le_refl _)) _, some ⟨gN, 0, none⟩, N, by rw [hN], by omega, hm, fun _ => ⟨gN, 0, rfl, fun j x hx => ?_⟩⟩
  · have hj : j < t.ns.length := (List.getElem?_eq_some_iff.1 hx).1
    have hx' : t.nd j = x := by unfold Tr.nd; rw [List.getD_eq_getElem?_getD, hx]; rfl
    obtain ⟨r1, r2, h0, h1, ⟨v, h2, h3⟩, u, h4, h5⟩ := h.dn j (by omega)
    rw [hx'] at r1 r2 h0 h1 h3 h5
    have hne : gN ≠ w.heap.size := by omega
    rw [Nat.zero_add]
    exact ⟨r1, r2, hK.cell h0 hne, hK.cell h1 hne, ⟨v, hK.cell h2 hne, (h3.kept hK (q' := fun _ => True) (fun b _ hq => ⟨by have := hq.1; omega, trivial⟩)).ints⟩, u, hK.cell h4 hne, (h5.kept hK (q' := fun _ => True) (fun b _ hq => ⟨by have := hq.1; omega, trivial⟩)).ints⟩

structure Small (t : Tr) : Prop where
  ns : 56 * t.ns.length ≤ 140737488355328
  dt : ∀ j, j < t.ns.length → (t.nd j).data.length * 8 ≤ 140737488355328
  kd : ∀ j, j < t.ns.length → (t.nd j).kids.length * 2 ≤ 140737488355328

set_option maxHeartbeats 4000000 in
set_option maxRecDepth 100000 in
theorem copied_any (g : Nat) (t : Tr) (w : World) (ht : TrAt w g t) (hs : Small t) : Calls Facg.prog 34 #[.pointer (some ⟨g, 0, none⟩)] w (CopP w t) := by
  obtain ⟨a, cN, t0, t1, hN, hns⟩ := ht.lift
  have HNs := hide hns
  have HS := hide hs
  have HT0 := hide t0
  have hgl : g < w.heap.size := World.block_lt_of_cell? w ⟨g, 0, none⟩ t0
  obtain ⟨N, hNe⟩ : ∃ N, t.ns.length = N := ⟨_, rfl⟩
  obtain ⟨R, hRe⟩ : ∃ R, t.root = R := ⟨_, rfl⟩
  have hmk := make128 N (by have := hs.ns; omega)
  rw [hNe] at hN HT0 HNs t0
  rw [hRe] at t1
  have HNe := hide hNe
  have HRe := hide hRe
  clear ht hs hns hNe hRe
  have hg1 : g < w.heap.size + 1 := by omega
  have hg2 : g < w.heap.size + 1 + 1 := by omega
  go_enter Facg.func34, Facg.ntmps34
  go_wp2
  go_cut [3] (fun s3 wc => ∃ gN gU, s3 = .pointer (some ⟨gU, 0, none⟩) ∧ CopM w wc w.heap.size gN gU t 0)
  case first =>
    go_region
    all_goals go_wp2_with (fail)
    all_goals go_meet
    · obtain ⟨e0, e1, e2⟩ := copm3 w (.cells #[.slice none 0 0, .int .i16 0] 65) (.cells (rowN N) 128) (.cells #[.slice (some ⟨w.heap.size + 1, 0, none⟩) N N, .int .i16 R] 65)
      refine ⟨w.heap.size + 1, w.heap.size + 1 + 1, rfl, CopM.start ((((Kept.refl _ _).alloc _).alloc _).alloc _).drew e0 ?_ ?_ (by omega) (by omega) (by omega)⟩
      · rw [HNe.out]; exact e1
      · rw [HNe.out, HRe.out]; exact e2
    · obtain ⟨e0, e1, e2⟩ := copm3 w (.cells #[.slice none 0 0, .int .i16 0] 65) (.cells #[.slice (some ⟨w.heap.size + 1 + 1, 0, none⟩) N N, .int .i16 R] 65) (.cells (rowN N) 128)
      refine ⟨w.heap.size + 1 + 1, w.heap.size + 1, rfl, CopM.start ((((Kept.refl _ _).alloc _).alloc _).alloc _).drew e0 ?_ ?_ (by omega) (by omega) (by omega)⟩
      · rw [HNe.out]; exact e2
      · rw [HNe.out, HRe.out]; exact e1
  case rest =>
    obtain ⟨gN, gU, rfl, hcm⟩ := hcut
    have HM := hide hcm
    have s0 := hcm.gr.cell HT0.out trivial
    clear hcm t0 t1 hmk
    go_wp2
    go_loopw [22] (fun ti wr => ∃ i : Nat, ti = .int .i64 i ∧ i ≤ N ∧ CopM w wr w.heap.size gN gU t i) (fun ti _ => N - (intOf ti).toNat)
    case atStart => exact ⟨0, rfl, Nat.zero_le _, HM.out⟩
    case round =>
      clear HM s0
      obtain ⟨i, rfl, hi, hcm⟩ := hrel
      have HM := hide hcm
      have u0 := hcm.u0
      have u1 := hcm.u1
      have r0 := hcm.r0
      have r1 := hcm.r1
      have rf := hcm.rf
      rw [HNe.out] at u0
      rw [HRe.out] at u1
      clear hcm
      by_cases hiN : i < N
      · have hdi : decide (i < N) = true := decide_eq_true hiN
        obtain ⟨b, o, rfl, hnode⟩ := HNs.out (by omega)
        obtain ⟨hkr, hcr, c0, c1, ⟨vd, c2, hdI⟩, vk, c3, hkI⟩ := (hnode i hiN).grows HM.out.gr
        obtain ⟨ad, cd, rfl, _, _, hdw⟩ := hdI.row
        obtain ⟨ak, ck, rfl, _, _, hkw⟩ := hkI.row
        obtain ⟨_, _, _, _, ⟨vd0, c20, hdI0⟩, vk0, c30, hkI0⟩ := hnode i hiN
        have c21 := HM.out.gr.cell c20 trivial
        have c31 := HM.out.gr.cell c30 trivial
        obtain rfl : vd0 = .slice ad (t.nd i).data.length cd := by rw [c2] at c21; exact (Option.some.inj c21).symm
        obtain rfl : vk0 = .slice ak (t.nd i).kids.length ck := by rw [c3] at c31; exact (Option.some.inj c31).symm
        have HD := hide hdI0
        have HK := hide hkI0
        clear c21 c31 c20 c30 hdI0 hkI0
        have HDw := hide hdw
        have HKw := hide hkw
        have bD := HS.out.dt i (by rw [HNe.out]; exact hiN)
        have bK := HS.out.kd i (by rw [HNe.out]; exact hiN)
        have hgU : gU < wr.heap.size := World.block_lt_of_cell? wr ⟨gU, 0, none⟩ u0
        have hgN : gN < wr.heap.size := HM.out.nl
        have hgU1 : gU < wr.heap.size + 1 := by omega
        have hgN1 : gN < wr.heap.size + 1 := by omega
        obtain ⟨y0, q0⟩ := HM.out.nc (i * 4) (by rw [HNe.out]; omega)
        obtain ⟨y1, q1⟩ := HM.out.nc (i * 4 + 1) (by rw [HNe.out]; omega)
        obtain ⟨y2, q2⟩ := HM.out.nc (i * 4 + 2) (by rw [HNe.out]; omega)
        obtain ⟨y3, q3⟩ := HM.out.nc (i * 4 + 3) (by rw [HNe.out]; omega)
        have hnf := HM.out.nf
        have hUN : gU ≠ gN := fun e => HM.out.nu e.symm
        have hBN : wr.heap.size ≠ gN := by omega
        have HW := hide (cells4 wr (.int .u8 (t.nd i).kind) (.int .u8 (t.nd i).code) (.slice ad (t.nd i).data.length cd) (.slice ak (t.nd i).kids.length ck))
        have HW4 : Hid ((wr.alloc (.cells #[.int .u8 (t.nd i).kind, .int .u8 (t.nd i).code, .slice ad (t.nd i).data.length cd, .slice ak (t.nd i).kids.length ck] 128)).cell? ⟨gU, 0, none⟩ = some (.slice (some ⟨gN, 0, none⟩) N N)) := ((Kept.refl (fun _ => True) wr).alloc _).cell u0 trivial
        have HGr : Hid (∀ w', Kept (fun b => b ≠ gN) (wr.alloc (.cells #[.int .u8 (t.nd i).kind, .int .u8 (t.nd i).code, .slice ad (t.nd i).data.length cd, .slice ak (t.nd i).kids.length ck] 128)) w' → Grows w w') := fun w' hk => (HM.out.gr.alloc _).then hk (fun b hb _ => by have := HM.out.rn; omega)
        clear hdI hkI hnode hdw hkw r0 r1 rf u1
        go_wp2
        go_region_held_law (fun w' => Kept (fun b => b ≠ gN) (wr.alloc (.cells #[.int .u8 (t.nd i).kind, .int .u8 (t.nd i).code, .slice ad (t.nd i).data.length cd, .slice ak (t.nd i).kids.length ck] 128)) w' ∧ w'.cell? ⟨wr.heap.size, 0, none⟩ = some (.int .u8 (t.nd i).kind) ∧ w'.cell? ⟨wr.heap.size, 1, none⟩ = some (.int .u8 (t.nd i).code) ∧ w'.cell? ⟨wr.heap.size, 2, none⟩ = some (.slice ad (t.nd i).data.length cd) ∧ w'.cell? ⟨wr.heap.size, 3, none⟩ = some (.slice ak (t.nd i).kids.length ck) ∧ w'.cell? ⟨gU, 0, none⟩ = some (.slice (some ⟨gN, 0, none⟩) N N))
          ((refine held_node hBN hUN ?_ HW.out.1 HW.out.2.1 HW.out.2.2.1 HW.out.2.2.2 HW4.out; repeat (first | exact Kept.refl _ _ | refine Kept.drew ?_ | refine Kept.setCell ?_ (.inr (fun h => h rfl)) _ | refine Kept.then ?_ gD (fun _ _ _ => trivial) | refine Kept.then ?_ gK (fun _ _ _ => trivial))))
          (first
            | (refine step_copyapp _ rfl (.tmp 35) 22 rfl 38 (.int .u64 0) 8 Facg.underlying22 info38 rfl .u64 _ (t.nd i).data rfl (by exact HD.out.grows (HGr.out _ (And.left (by assumption)))) bD ?_; intro aD cD wD oD gD fD; have lD := fun x hx => (oD.lt x hx).2; have sD := gD.size; (try simp only [World.size_alloc, World.size_drew] at sD); have e1 := gD.cells; have e2 := gD.frozens; have e3 := fun (b : Nat) (hb : b < _) => Nat.lt_of_lt_of_le hb gD.size)
            | (refine step_copyapp _ rfl (.tmp 38) 126 rfl 63 (.int .i16 0) 2 Facg.underlying126 info63c rfl .i16 _ (t.nd i).kids rfl (by exact HK.out.grows (HGr.out _ (And.left (by assumption)))) bK ?_; intro aK cK wK oK gK fK; have lK := fun x hx => (oK.lt x hx).2; have sK := gK.size; (try simp only [World.size_alloc, World.size_drew] at sK); have e1 := gK.cells; have e2 := gK.frozens; have e3 := fun (b : Nat) (hb : b < _) => Nat.lt_of_lt_of_le hb gK.size))
        all_goals
          go_wp2
          go_roundw
          case rel =>
            have hgw : Grows wr wK := ((Kept.refl _ _).alloc _).drew.trans (gD.trans gK)
            simp only [World.size_alloc, World.size_drew] at fD
            have hrn := HM.out.rn
            refine ⟨i + 1, by go_num, by omega, (HM.out.grow hgw).put (by rw [HNe.out]; exact hiN) hkr hcr ?_ ?_⟩
            · exact (IntsO.of_ints (q := fun b => w.heap.size < b ∧ b ≠ gN) (Ints.of_owns oD HDw.out) (fun g hg => by have := fD g hg; omega)).kept gK (fun _ _ hq => ⟨trivial, hq⟩)
            · exact IntsO.of_ints (Ints.of_owns oK HKw.out) (fun g hg => by have := fK g hg; omega)
          case measure => simp [intOf]; omega
      · have hdi : decide (i < N) = false := decide_eq_false hiN
        obtain rfl : i = N := by omega
        have HR : Hid (R = t.root) := HRe.out.symm
        have rf0 := rf 0
        have rf1 := rf 1
        clear rf
        go_wp2
        have z0 : ((wr.setCell ⟨w.heap.size, 0, none⟩ (.slice (some ⟨gN, 0, none⟩) i i)).setCell ⟨w.heap.size, 1, none⟩ (.int .i16 R)).cell? ⟨w.heap.size, 0, none⟩ = some (.slice (some ⟨gN, 0, none⟩) i i) := by rw [World.cell?_setCell_other _ _ _ _ (by simp)]; exact World.cell?_setCell_same _ _ _ r0
        have z1 : ((wr.setCell ⟨w.heap.size, 0, none⟩ (.slice (some ⟨gN, 0, none⟩) i i)).setCell ⟨w.heap.size, 1, none⟩ (.int .i16 R)).cell? ⟨w.heap.size, 1, none⟩ = some (.int .i16 R) := World.cell?_setCell_same _ _ _ (u := .int .i16 0) (by rw [World.cell?_setCell_other _ _ _ _ (by simp)]; exact r1)
        refine bodyPost_ret (v := .agg #[.slice (some ⟨gN, 0, none⟩) i i, .int .i16 R]) (by simp [results, Facg.results34, go_sem, z0, z1]) rfl ?_
        rw [HR.out]
        exact ⟨_, rfl, HM.out.done HNe.out (by unfold maxLen; omega)⟩
end Go.Proofs.Ygcfac
