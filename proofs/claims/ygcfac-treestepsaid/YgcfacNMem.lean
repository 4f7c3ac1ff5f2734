/-
  The memory that tree.Norm works in.
-/
import Derived.Test.YgcfacBounded
import Derived.Test.YgcfacSized
import Derived.Laws.OwnMore
namespace Go.Proofs.Ygcfac
open Go.RowKit
set_option linter.unusedVariables false

/-- A slice of integers whose row lies in a block of which q holds. -/
def IntsO (w : World) (q : Nat → Prop) (k : IntKind) (v : Value) (xs : List Int) : Prop :=
  ∃ a c, v = .slice a xs.length c ∧ xs.length ≤ c ∧ c ≤ maxLen ∧ (∀ x ∈ xs, (Lit.int k x).wf = true) ∧
    (xs ≠ [] → ∃ b o, a = some ⟨b, o, none⟩ ∧ q b ∧ ∀ j, j < xs.length → w.cell? ⟨b, o + j, none⟩ = some (.int k (xs.getD j 0)))

theorem IntsO.ints {w : World} {q : Nat → Prop} {k : IntKind} {v : Value} {xs : List Int} (h : IntsO w q k v xs) : Ints w k v xs := by
  obtain ⟨a, c, h1, h2, h3, h4, h5⟩ := h
  exact ⟨a, c, h1, h2, h3, h4, fun hn => by obtain ⟨b, o, e, _, hc⟩ := h5 hn; exact ⟨b, o, e, hc⟩⟩

/-- .. kept where the blocks are; what is said of them may turn. -/
theorem IntsO.kept {w w' : World} {q q' p : Nat → Prop} {k : IntKind} {v : Value} {xs : List Int} (h : IntsO w q k v xs) (hk : Kept p w w') (hp : ∀ b, b < w.heap.size → q b → p b ∧ q' b) : IntsO w' q' k v xs := by
  obtain ⟨a, c, h1, h2, h3, h4, h5⟩ := h
  refine ⟨a, c, h1, h2, h3, h4, fun hn => ?_⟩
  obtain ⟨b, o, e, hq, hc⟩ := h5 hn
  have h0 : 0 < xs.length := by
    cases xs with
    | nil => exact absurd rfl hn
    | cons x xs => simp
  have hb : b < w.heap.size := World.block_lt_of_cell? w ⟨b, o + 0, none⟩ (hc 0 h0)
  obtain ⟨p1, p2⟩ := hp b hb hq
  exact ⟨b, o, e, p2, fun j hj => hk.cell (hc j hj) p1⟩

theorem Kept.size_le {p : Nat → Prop} {w w' : World} (h : Kept p w w') : w.heap.size ≤ w'.heap.size := h.size

def QB (B H : Nat) (v : Value) (b : Nat) : Prop := b < H ∧ (B ≤ b ∧ ¬ (B + 1 ≤ b ∧ b ≤ B + 4)) ∧ some b ≠ v.ownBlock

/-- A finished node in the row of cells. -/
def FinN (wr : World) (q : Nat → Prop) (cs : List Value) (i : Nat) (x : Nd) : Prop :=
  (0 ≤ x.kind ∧ x.kind < 256) ∧ (0 ≤ x.code ∧ x.code < 256) ∧ ∃ dv kv, cs[i * 4]? = some (.int .u8 x.kind) ∧ cs[i * 4 + 1]? = some (.int .u8 x.code) ∧ cs[i * 4 + 2]? = some dv ∧ cs[i * 4 + 3]? = some kv ∧ IntsO wr q .u64 dv x.data ∧ IntsO wr q .i16 kv x.kids

structure NM (w wr : World) (B H : Nat) (v : Value) (L : Nat) (cs : List Value) (F D P : Nat → Nat) (ns : List Nd) : Prop where
  gr : Grows w wr
  wB : w.heap.size ≤ B
  bh : B + 4 < H
  hh : H ≤ wr.heap.size
  fF : Arr wr (B + 2) 512 (fun k => .int .i16 (F k))
  fD : Arr wr (B + 3) 512 (fun k => .int .i64 (D k))
  fP : Arr wr (B + 4) 512 (fun k => .int .i64 (P k))
  t0 : wr.cell? ⟨B + 1, 0, none⟩ = some v
  t1 : wr.cell? ⟨B + 1, 1, none⟩ = some (.int .i16 0)
  tf : ∀ j, wr.frozen? ⟨B + 1, j, none⟩ = false
  own : wr.ownsRow 0 128 4 v L cs
  gN : ∃ gn, v.ownBlock = some gn ∧ (gn = B ∨ B + 4 < gn)
  fin : ∀ i x, ns[i]? = some x → FinN wr (QB B H v) cs i x

theorem owns_lt {w : World} {e : TypeId} {size : Nat} {v : Value} {n : Nat} {xs : List Value} (h : w.ownsRow 0 e size v n xs) {g : Nat} (hg : v.ownBlock = some g) : g < w.heap.size := by
  rcases h.2 with ⟨rfl, _⟩ | ⟨g', cap, cur, rfl, _, hh, _⟩
  · simp [Value.ownBlock] at hg
  · simp [Value.ownBlock] at hg
    subst hg
    rcases Nat.lt_or_ge g' w.heap.size with h | h
    · exact h
    · rw [Array.getElem?_eq_none h] at hh
      cases hh

theorem FinN.kept {w w' : World} {q q' p : Nat → Prop} {cs : List Value} {i : Nat} {x : Nd} (h : FinN w q cs i x) (hk : Kept p w w') (hp : ∀ b, b < w.heap.size → q b → p b ∧ q' b) : FinN w' q' cs i x := by
  obtain ⟨h1, h2, dv, kv, h3, h4, h5, h6, h7, h8⟩ := h
  exact ⟨h1, h2, dv, kv, h3, h4, h5, h6, h7.kept hk hp, h8.kept hk hp⟩

theorem NM.kept {w wr w' : World} {B H : Nat} {v : Value} {L : Nat} {cs : List Value} {F D P : Nat → Nat} {ns : List Nd} {p : Nat → Prop} (h : NM w wr B H v L cs F D P ns) (hk : Kept p wr w') (hp : ∀ b, b < H → p b) (hv : ∀ g, v.ownBlock = some g → p g) :
    NM w w' B H v L cs F D P ns := by
  have hb := h.bh
  have hw := h.wB
  refine ⟨h.gr.then hk (fun b hb' _ => hp b (by omega)), h.wB, h.bh, Nat.le_trans h.hh hk.size, h.fF.kept (by decide) hk (hp _ (by omega)), h.fD.kept (by decide) hk (hp _ (by omega)), h.fP.kept (by decide) hk (hp _ (by omega)),
    hk.cell h.t0 (hp _ (by show B + 1 < H; omega)), hk.cell h.t1 (hp _ (by show B + 1 < H; omega)), fun j => ?_, owns_kept h.own hk (fun g hg => hv g hg), h.gN, fun i x hx => (h.fin i x hx).kept hk (fun b _ hq => ⟨hp b hq.1, hq⟩)⟩
  rw [hk.frozen (q := ⟨B + 1, j, none⟩) (World.block_lt_of_cell? wr ⟨B + 1, 0, none⟩ h.t0) (hp _ (by show B + 1 < H; omega))]
  exact h.tf j

theorem NM.setF {w wr : World} {B H : Nat} {v : Value} {L : Nat} {cs : List Value} {F D P : Nat → Nat} {ns : List Nd} (h : NM w wr B H v L cs F D P ns) {k : Nat} (hk : k < 512) (x : Nat) :
    NM w (wr.setCell ⟨B + 2, k, none⟩ (.int .i16 x)) B H v L cs (fun q => if q = k then x else F q) D P ns := by
  have hK : Kept (fun b => b ≠ B + 2) wr (wr.setCell ⟨B + 2, k, none⟩ (.int .i16 x)) := (Kept.refl _ _).setCell (.inr (fun h => h rfl)) _
  obtain ⟨gn, hg1, hg2⟩ := h.gN
  have hb := h.bh
  have hw := h.wB
  refine ⟨h.gr.then hK (fun b hb' _ => by omega), h.wB, h.bh, Nat.le_trans h.hh hK.size, (h.fF.set hk _).congr (fun q _ => ?_), h.fD.kept (by decide) hK (by omega), h.fP.kept (by decide) hK (by omega),
    hK.cell h.t0 (by show B + 1 ≠ B + 2; omega), hK.cell h.t1 (by show B + 1 ≠ B + 2; omega), fun j => by rw [World.frozen?_setCell]; exact h.tf j, owns_kept h.own hK (fun g hg => by rw [hg1] at hg; injection hg with hg; omega), h.gN,
    fun i y hy => (h.fin i y hy).kept hK (fun b _ hq => ⟨by have := hq.2.1; omega, hq⟩)⟩
  show (if q = k then Value.int .i16 x else .int .i16 (F q)) = .int .i16 ((if q = k then x else F q : Nat) : Int)
  split <;> rfl

theorem NM.setD {w wr : World} {B H : Nat} {v : Value} {L : Nat} {cs : List Value} {F D P : Nat → Nat} {ns : List Nd} (h : NM w wr B H v L cs F D P ns) {k : Nat} (hk : k < 512) (x : Nat) :
    NM w (wr.setCell ⟨B + 3, k, none⟩ (.int .i64 x)) B H v L cs F (fun q => if q = k then x else D q) P ns := by
  have hK : Kept (fun b => b ≠ B + 3) wr (wr.setCell ⟨B + 3, k, none⟩ (.int .i64 x)) := (Kept.refl _ _).setCell (.inr (fun h => h rfl)) _
  obtain ⟨gn, hg1, hg2⟩ := h.gN
  have hb := h.bh
  have hw := h.wB
  refine ⟨h.gr.then hK (fun b hb' _ => by omega), h.wB, h.bh, Nat.le_trans h.hh hK.size, h.fF.kept (by decide) hK (by omega), (h.fD.set hk _).congr (fun q _ => ?_), h.fP.kept (by decide) hK (by omega),
    hK.cell h.t0 (by show B + 1 ≠ B + 3; omega), hK.cell h.t1 (by show B + 1 ≠ B + 3; omega), fun j => by rw [World.frozen?_setCell]; exact h.tf j, owns_kept h.own hK (fun g hg => by rw [hg1] at hg; injection hg with hg; omega), h.gN,
    fun i y hy => (h.fin i y hy).kept hK (fun b _ hq => ⟨by have := hq.2.1; omega, hq⟩)⟩
  show (if q = k then Value.int .i64 x else .int .i64 (D q)) = .int .i64 ((if q = k then x else D q : Nat) : Int)
  split <;> rfl

theorem NM.setP {w wr : World} {B H : Nat} {v : Value} {L : Nat} {cs : List Value} {F D P : Nat → Nat} {ns : List Nd} (h : NM w wr B H v L cs F D P ns) {k : Nat} (hk : k < 512) (x : Nat) :
    NM w (wr.setCell ⟨B + 4, k, none⟩ (.int .i64 x)) B H v L cs F D (fun q => if q = k then x else P q) ns := by
  have hK : Kept (fun b => b ≠ B + 4) wr (wr.setCell ⟨B + 4, k, none⟩ (.int .i64 x)) := (Kept.refl _ _).setCell (.inr (fun h => h rfl)) _
  obtain ⟨gn, hg1, hg2⟩ := h.gN
  have hb := h.bh
  have hw := h.wB
  refine ⟨h.gr.then hK (fun b hb' _ => by omega), h.wB, h.bh, Nat.le_trans h.hh hK.size, h.fF.kept (by decide) hK (by omega), h.fD.kept (by decide) hK (by omega), (h.fP.set hk _).congr (fun q _ => ?_),
    hK.cell h.t0 (by show B + 1 ≠ B + 4; omega), hK.cell h.t1 (by show B + 1 ≠ B + 4; omega), fun j => by rw [World.frozen?_setCell]; exact h.tf j, owns_kept h.own hK (fun g hg => by rw [hg1] at hg; injection hg with hg; omega), h.gN,
    fun i y hy => (h.fin i y hy).kept hK (fun b _ hq => ⟨by have := hq.2.1; omega, hq⟩)⟩
  show (if q = k then Value.int .i64 x else .int .i64 (P q)) = .int .i64 ((if q = k then x else P q : Nat) : Int)
  split <;> rfl

/-- The node that is being made. -/
structure MM (wr : World) (H gM : Nat) (v : Value) (kd cd : Int) (dv kv : Value) (xs ks : List Int) : Prop where
  gm : H ≤ gM
  c0 : wr.cell? ⟨gM, 0, none⟩ = some (.int .u8 kd)
  c1 : wr.cell? ⟨gM, 1, none⟩ = some (.int .u8 cd)
  c2 : wr.cell? ⟨gM, 2, none⟩ = some dv
  c3 : wr.cell? ⟨gM, 3, none⟩ = some kv
  cf : ∀ j, wr.frozen? ⟨gM, j, none⟩ = false
  dat : IntsO wr (fun b => H ≤ b ∧ b ≠ gM ∧ some b ≠ v.ownBlock ∧ some b ≠ kv.ownBlock) .u64 dv xs
  kown : wr.ownsRow 0 63 1 kv ks.length (ks.map (Value.int .i16))
  kwf : ∀ x ∈ ks, (Lit.int .i16 x).wf = true
  kb : ∀ gk, kv.ownBlock = some gk → H ≤ gk ∧ gk ≠ gM ∧ some gk ≠ v.ownBlock
  vb : v.ownBlock ≠ some gM

theorem MM.lt {wr : World} {H gM : Nat} {v : Value} {kd cd : Int} {dv kv : Value} {xs ks : List Int} (h : MM wr H gM v kd cd dv kv xs ks) : gM < wr.heap.size := World.block_lt_of_cell? wr ⟨gM, 0, none⟩ h.c0

theorem MM.kept {wr w' : World} {H gM : Nat} {v : Value} {kd cd : Int} {dv kv : Value} {xs ks : List Int} {p : Nat → Prop} (h : MM wr H gM v kd cd dv kv xs ks) (hk : Kept p wr w') (hp : ∀ b, H ≤ b → some b ≠ v.ownBlock → p b) : MM w' H gM v kd cd dv kv xs ks := by
  have hm := hp gM h.gm (fun e => h.vb e.symm)
  refine ⟨h.gm, hk.cell h.c0 hm, hk.cell h.c1 hm, hk.cell h.c2 hm, hk.cell h.c3 hm, fun j => ?_, h.dat.kept hk (fun b _ hq => ⟨hp b hq.1 hq.2.2.1, hq⟩), owns_kept h.kown hk (fun g hg => hp g (h.kb g hg).1 (h.kb g hg).2.2), h.kwf, h.kb, h.vb⟩
  rw [hk.frozen (q := ⟨gM, j, none⟩) h.lt hm]
  exact h.cf j

theorem IntsO.of_ints {w : World} {k : IntKind} {v : Value} {xs : List Int} {q : Nat → Prop} (h : Ints w k v xs) (hq : ∀ g, v.ownBlock = some g → q g) : IntsO w q k v xs := by
  obtain ⟨a, c, rfl, h2, h3, h4, h5⟩ := h
  refine ⟨a, c, rfl, h2, h3, h4, fun hn => ?_⟩
  obtain ⟨b, o, rfl, hc⟩ := h5 hn
  exact ⟨b, o, rfl, hq b rfl, hc⟩

def z4 : List Value := [.int .u8 0, .int .u8 0, .slice none 0 0, .slice none 0 0]

/-- 'out.N = append(out.N, Node{})': the row has grown, and lies where it lay or anew; then the tree's own cell. -/
theorem NM.push {w w0 w1 : World} {B H gM L : Nat} {v v' : Value} {cs : List Value} {F D P : Nat → Nat} {ns : List Nd} {kd cd : Int} {dv kv : Value} {xs ks : List Int}
    (h : NM w w0 B H v L cs F D P ns) (hm : MM w0 H gM v kd cd dv kv xs ks) (ho : w1.ownsRow 0 128 4 v' (L + 1) (cs ++ z4)) (hk : Kept (fun k => some k ≠ v.ownBlock) w0 w1)
    (hv : v'.ownBlock = v.ownBlock ∨ ∃ g, w0.heap.size ≤ g ∧ v'.ownBlock = some g) :
    NM w (w1.setCell ⟨B + 1, 0, none⟩ v') B H v' (L + 1) (cs ++ z4) F D P ns ∧ MM (w1.setCell ⟨B + 1, 0, none⟩ v') H gM v' kd cd dv kv xs ks := by
  have hb := h.bh
  have hw := h.wB
  have hH := h.hh
  have hms := hm.gm
  obtain ⟨gn, hg1, hg2⟩ := h.gN
  have hvn : ∀ b, b < w0.heap.size → some b ≠ v.ownBlock → some b ≠ v'.ownBlock := fun b hb' hb2 e => by
    rcases hv with e1 | ⟨g, g1, e1⟩
    · rw [e1] at e; exact hb2 e
    · rw [e1] at e; injection e with e; omega
  have hgn' : ∃ g', v'.ownBlock = some g' ∧ (g' = B ∨ B + 4 < g') := by
    rcases hv with e1 | ⟨g, g1, e1⟩
    · exact ⟨gn, by rw [e1, hg1], hg2⟩
    · exact ⟨g, e1, by omega⟩
  have hK : Kept (fun b => b ≠ B + 1) w1 (w1.setCell ⟨B + 1, 0, none⟩ v') := (Kept.refl _ _).setCell (.inr (fun h => h rfl)) _
  have hP : ∀ b, b ≠ gn → some b ≠ v.ownBlock := fun b hb' e => by rw [hg1] at e; injection e with e; exact hb' e
  have f1 : w1.cell? ⟨B + 1, 1, none⟩ = some (.int .i16 0) := hk.cell h.t1 (hP _ (by show B + 1 ≠ gn; omega))
  have f0 : w1.cell? ⟨B + 1, 0, none⟩ = some v := hk.cell h.t0 (hP _ (by show B + 1 ≠ gn; omega))
  have hs1 := hk.size
  obtain ⟨g', hg1', hg2'⟩ := hgn'
  refine ⟨⟨(h.gr.then hk (fun b hb' _ => hP b (by omega))).then hK (fun b hb' _ => by omega), h.wB, h.bh, by have := hK.size; omega, (h.fF.kept (by decide) hk (hP _ (by omega))).kept (by decide) hK (by omega), (h.fD.kept (by decide) hk (hP _ (by omega))).kept (by decide) hK (by omega), (h.fP.kept (by decide) hk (hP _ (by omega))).kept (by decide) hK (by omega),
    World.cell?_setCell_same _ _ _ f0, ?_, fun j => ?_, owns_kept ho hK (fun g hg => by rw [hg1'] at hg; injection hg with hg; omega), ⟨g', hg1', hg2'⟩, fun i x hx => ?_⟩, ?_⟩
  · rw [World.cell?_setCell_other _ _ _ _ (fun e => by injection e with _ e2 _; omega)]
    exact f1
  · rw [World.frozen?_setCell, hk.frozen (q := ⟨B + 1, j, none⟩) (World.block_lt_of_cell? w0 ⟨B + 1, 0, none⟩ h.t0) (hP _ (by show B + 1 ≠ gn; omega))]
    exact h.tf j
  · obtain ⟨r1, r2, dv, kv, h3, h4, h5, h6, h7, h8⟩ := h.fin i x hx
    have app : ∀ j u, cs[j]? = some u → (cs ++ z4)[j]? = some u := fun j u hj => by
      rw [List.getElem?_append_left (List.getElem?_eq_some_iff.1 hj).1]; exact hj
    have hq : ∀ b, b < w0.heap.size → QB B H v b → (some b ≠ v.ownBlock ∧ QB B H v' b) := fun b hb' hq => ⟨hq.2.2, hq.1, hq.2.1, hvn b hb' hq.2.2⟩
    exact ⟨r1, r2, dv, kv, app _ _ h3, app _ _ h4, app _ _ h5, app _ _ h6, (h7.kept hk hq).kept hK (fun b _ hq => ⟨by have := hq.2.1; omega, hq⟩), (h8.kept hk hq).kept hK (fun b _ hq => ⟨by have := hq.2.1; omega, hq⟩)⟩
  · have hm1 : some gM ≠ v.ownBlock := fun e => hm.vb e.symm
    have hmne : gM ≠ B + 1 := by omega
    refine ⟨hm.gm, hK.cell (hk.cell hm.c0 hm1) hmne, hK.cell (hk.cell hm.c1 hm1) hmne, hK.cell (hk.cell hm.c2 hm1) hmne, hK.cell (hk.cell hm.c3 hm1) hmne, fun j => ?_, (hm.dat.kept hk (fun b hb' hq => ⟨hq.2.2.1, hq.1, hq.2.1, hvn b hb' hq.2.2.1, hq.2.2.2⟩)).kept hK (fun b _ hq => ⟨by have := hq.1; omega, hq⟩),
      owns_kept (owns_kept hm.kown hk (fun g hg => (hm.kb g hg).2.2)) hK (fun g hg => by have := (hm.kb g hg).1; omega), hm.kwf, fun gk hgk => ⟨(hm.kb gk hgk).1, (hm.kb gk hgk).2.1, hvn gk (owns_lt hm.kown hgk) (hm.kb gk hgk).2.2⟩, fun e => hvn gM hm.lt hm1 e.symm⟩
    rw [World.frozen?_setCell, hk.frozen (q := ⟨gM, j, none⟩) hm.lt hm1]
    exact hm.cf j

/-- 'm.Kids = append(m.Kids, x)'. -/
theorem MM.push {w w0 w1 : World} {B H gM L : Nat} {v kv' : Value} {cs : List Value} {F D P : Nat → Nat} {ns : List Nd} {kd cd : Int} {dv kv : Value} {xs ks : List Int} {x : Int}
    (h : NM w w0 B H v L cs F D P ns) (hm : MM w0 H gM v kd cd dv kv xs ks) (ho : w1.ownsRow 0 63 1 kv' (ks.length + 1) (ks.map (Value.int .i16) ++ [.int .i16 x])) (hx : (Lit.int .i16 x).wf = true) (hk : Kept (fun k => some k ≠ kv.ownBlock) w0 w1)
    (hv : kv'.ownBlock = kv.ownBlock ∨ ∃ g, w0.heap.size ≤ g ∧ kv'.ownBlock = some g) :
    NM w (w1.setCell ⟨gM, 3, none⟩ kv') B H v L cs F D P ns ∧ MM (w1.setCell ⟨gM, 3, none⟩ kv') H gM v kd cd dv kv' xs (ks ++ [x]) := by
  have hb := h.bh
  have hH := h.hh
  have hms := hm.gm
  have hml := hm.lt
  obtain ⟨gn, hg1, hg2⟩ := h.gN
  have hgn : gn < w0.heap.size := owns_lt h.own hg1
  have hvn : ∀ b, b < w0.heap.size → some b ≠ kv.ownBlock → some b ≠ kv'.ownBlock := fun b hb' hb2 e => by
    rcases hv with e1 | ⟨g, g1, e1⟩
    · rw [e1] at e; exact hb2 e
    · rw [e1] at e; injection e with e; omega
  have hK : Kept (fun b => b ≠ gM) w1 (w1.setCell ⟨gM, 3, none⟩ kv') := (Kept.refl _ _).setCell (.inr (fun h => h rfl)) _
  have hsm : ∀ b, b < H → some b ≠ kv.ownBlock := fun b hb' e => by have := (hm.kb b e.symm).1; omega
  have hvk : ∀ g, v.ownBlock = some g → some g ≠ kv.ownBlock := fun g hg e => (hm.kb g e.symm).2.2 hg.symm
  have hmk : some gM ≠ kv.ownBlock := fun e => (hm.kb gM e.symm).2.1 rfl
  refine ⟨(h.kept hk hsm hvk).kept hK (fun b hb' => by omega) (fun g hg e => hm.vb (by rw [hg, e])), ?_⟩
  have f3 := hk.cell hm.c3 hmk
  refine ⟨hm.gm, ?_, ?_, ?_, World.cell?_setCell_same _ _ _ f3, fun j => ?_, (hm.dat.kept hk (fun b hb' hq => ⟨hq.2.2.2, hq.1, hq.2.1, hq.2.2.1, hvn b hb' hq.2.2.2⟩)).kept hK (fun b _ hq => ⟨hq.2.1, hq⟩), ?_, ?_, fun gk hgk => ?_, hm.vb⟩
  · rw [World.cell?_setCell_other _ _ _ _ (fun e => by injection e with _ e2 _; omega)]
    exact hk.cell hm.c0 hmk
  · rw [World.cell?_setCell_other _ _ _ _ (fun e => by injection e with _ e2 _; omega)]
    exact hk.cell hm.c1 hmk
  · rw [World.cell?_setCell_other _ _ _ _ (fun e => by injection e with _ e2 _; omega)]
    exact hk.cell hm.c2 hmk
  · rw [World.frozen?_setCell, hk.frozen (q := ⟨gM, j, none⟩) hml hmk]
    exact hm.cf j
  · rw [List.length_append, List.map_append]
    refine owns_kept ho hK (fun g hg e => ?_)
    rcases hv with e1 | ⟨g', g1, e1⟩
    · rw [hg] at e1; exact hmk (by rw [← e1, e])
    · rw [hg] at e1; injection e1 with e1; omega
  · intro y hy
    rcases List.mem_append.1 hy with h1 | h1
    · exact hm.kwf y h1
    · simp at h1; subst h1; exact hx
  · rcases hv with e1 | ⟨g', g1, e1⟩
    · rw [hgk] at e1
      exact hm.kb gk e1.symm
    · rw [hgk] at e1
      injection e1 with e1
      subst e1
      exact ⟨by omega, by omega, fun e => by rw [hg1] at e; injection e with e; omega⟩

/-- A new node, its slices nil. -/
theorem MM.start {w wr : World} {B H L : Nat} {v : Value} {cs : List Value} {F D P : Nat → Nat} {ns : List Nd} (h : NM w wr B H v L cs F D P ns) (kd cd : Int) :
    MM (wr.alloc (.cells #[.int .u8 kd, .int .u8 cd, .slice none 0 0, .slice none 0 0] 128)) H wr.heap.size v kd cd (.slice none 0 0) (.slice none 0 0) [] [] := by
  have cell : ∀ i u, (#[Value.int .u8 kd, .int .u8 cd, .slice none 0 0, .slice none 0 0] : Array Value)[i]? = some u → (wr.alloc (.cells #[.int .u8 kd, .int .u8 cd, .slice none 0 0, .slice none 0 0] 128)).cell? ⟨wr.heap.size, i, none⟩ = some u := fun i u hi => by
    rw [World.cell?_alloc_at _ _ _ _ rfl]
    exact hi
  refine ⟨h.hh, cell 0 _ rfl, cell 1 _ rfl, cell 2 _ rfl, cell 3 _ rfl, fun j => World.frozen?_alloc_at _ _ _ _ rfl, ⟨none, 0, rfl, Nat.le_refl _, by decide, by simp, fun h => absurd rfl h⟩, World.ownsRow_nil _ _ _ _, by simp, fun gk hgk => by simp [Value.ownBlock] at hgk, fun e => ?_⟩
  have := owns_lt h.own e
  omega

/-- m.Data. -/
theorem MM.setData {w wr : World} {B H gM L : Nat} {v : Value} {cs : List Value} {F D P : Nat → Nat} {ns : List Nd} {kd cd : Int} {dv dv' : Value} {xs xs' : List Int} (h : NM w wr B H v L cs F D P ns) (hm : MM wr H gM v kd cd dv (.slice none 0 0) xs []) (hd : Ints wr .u64 dv' xs') (hb : ∀ g, dv'.ownBlock = some g → gM < g ∧ some g ≠ v.ownBlock) :
    NM w (wr.setCell ⟨gM, 2, none⟩ dv') B H v L cs F D P ns ∧ MM (wr.setCell ⟨gM, 2, none⟩ dv') H gM v kd cd dv' (.slice none 0 0) xs' [] := by
  have hK : Kept (fun b => b ≠ gM) wr (wr.setCell ⟨gM, 2, none⟩ dv') := (Kept.refl _ _).setCell (.inr (fun h => h rfl)) _
  have hms := hm.gm
  refine ⟨h.kept hK (fun b hb' => by omega) (fun g hg e => hm.vb (by rw [hg, e])), ?_⟩
  have hdo : IntsO wr (fun b => H ≤ b ∧ b ≠ gM ∧ some b ≠ v.ownBlock ∧ some b ≠ (Value.slice none 0 0).ownBlock) .u64 dv' xs' := IntsO.of_ints hd (fun g hg => by
    have := hb g hg
    exact ⟨by omega, by omega, this.2, by simp [Value.ownBlock]⟩)
  refine ⟨hm.gm, ?_, ?_, World.cell?_setCell_same _ _ _ hm.c2, ?_, fun j => by rw [World.frozen?_setCell]; exact hm.cf j, hdo.kept hK (fun b _ hq => ⟨hq.2.1, hq⟩), World.ownsRow_nil _ _ _ _, by simp, fun gk hgk => by simp [Value.ownBlock] at hgk, hm.vb⟩
  · rw [World.cell?_setCell_other _ _ _ _ (fun e => by injection e with _ e2 _; omega)]; exact hm.c0
  · rw [World.cell?_setCell_other _ _ _ _ (fun e => by injection e with _ e2 _; omega)]; exact hm.c1
  · rw [World.cell?_setCell_other _ _ _ _ (fun e => by injection e with _ e2 _; omega)]; exact hm.c3

/-- 'out.N[i] = m'. -/
theorem NM.finish {w wr : World} {B H gM L : Nat} {g cap : Nat} {cs : List Value} {F D P : Nat → Nat} {ns : List Nd} {kd cd : Int} {dv kv : Value} {xs ks : List Int} (hkd : 0 ≤ kd ∧ kd < 256) (hcd : 0 ≤ cd ∧ cd < 256)
    (h : NM w wr B H (.slice (some ⟨g, 0, none⟩) L cap) L cs F D P ns) (hm : MM wr H gM (.slice (some ⟨g, 0, none⟩) L cap) kd cd dv kv xs ks) (hi : ns.length < L) :
    NM w ((((wr.setCell ⟨g, ns.length * 4, none⟩ (.int .u8 kd)).setCell ⟨g, ns.length * 4 + 1, none⟩ (.int .u8 cd)).setCell ⟨g, ns.length * 4 + 2, none⟩ dv).setCell ⟨g, ns.length * 4 + 3, none⟩ kv) B wr.heap.size (.slice (some ⟨g, 0, none⟩) L cap) L
      ((((cs.set (ns.length * 4) (.int .u8 kd)).set (ns.length * 4 + 1) (.int .u8 cd)).set (ns.length * 4 + 2) dv).set (ns.length * 4 + 3) kv) F D P (ns ++ [⟨kd, cd, xs, ks⟩]) := by
  obtain ⟨i, hie⟩ : ∃ i, ns.length = i := ⟨_, rfl⟩
  rw [hie] at hi ⊢
  have hb := h.bh
  have hw := h.wB
  have hH := h.hh
  have hcl : cs.length = L * 4 := h.own.1
  obtain ⟨gn, hg1, hg2⟩ := h.gN
  obtain rfl : g = gn := by simpa [Value.ownBlock] using hg1
  have o1 := (h.own.stored (i * 4) (.int .u8 kd)).1
  have o2 := (o1.stored (i * 4 + 1) (.int .u8 cd)).1
  have o3 := (o2.stored (i * 4 + 2) dv).1
  have o4 := (o3.stored (i * 4 + 3) kv).1
  have hK : Kept (fun b => b ≠ g) wr ((((wr.setCell ⟨g, i * 4, none⟩ (.int .u8 kd)).setCell ⟨g, i * 4 + 1, none⟩ (.int .u8 cd)).setCell ⟨g, i * 4 + 2, none⟩ dv).setCell ⟨g, i * 4 + 3, none⟩ kv) :=
    ((((Kept.refl _ _).setCell (.inr (fun h => h rfl)) _).setCell (.inr (fun h => h rfl)) _).setCell (.inr (fun h => h rfl)) _).setCell (.inr (fun h => h rfl)) _
  have hne : ∀ b, some b ≠ (Value.slice (some ⟨g, 0, none⟩) L cap).ownBlock → b ≠ g := fun b hb' e => hb' (by simp [Value.ownBlock, e])
  refine ⟨h.gr.then hK (fun b hb' _ => by omega), h.wB, by omega, by have := hK.size; omega, h.fF.kept (by decide) hK (by omega), h.fD.kept (by decide) hK (by omega), h.fP.kept (by decide) hK (by omega),
    hK.cell h.t0 (by show B + 1 ≠ g; omega), hK.cell h.t1 (by show B + 1 ≠ g; omega), fun j => by simp only [World.frozen?_setCell]; exact h.tf j, o4, h.gN, fun q x hx => ?_⟩
  by_cases hq : q < i
  · have hx' : ns[q]? = some x := by rw [List.getElem?_append_left (by omega)] at hx; exact hx
    obtain ⟨r1, r2, dv', kv', h3, h4, h5, h6, h7, h8⟩ := h.fin q x hx'
    have st : ∀ j u, j < i * 4 → cs[j]? = some u → ((((cs.set (i * 4) (.int .u8 kd)).set (i * 4 + 1) (.int .u8 cd)).set (i * 4 + 2) dv).set (i * 4 + 3) kv)[j]? = some u := fun j u hj hu => by
      rw [List.getElem?_set_ne (by omega), List.getElem?_set_ne (by omega), List.getElem?_set_ne (by omega), List.getElem?_set_ne (by omega)]
      exact hu
    refine ⟨r1, r2, dv', kv', st _ _ (by omega) h3, st _ _ (by omega) h4, st _ _ (by omega) h5, st _ _ (by omega) h6, h7.kept hK (fun b hb' hq => ⟨hne b hq.2.2, by have := hq.1; omega, hq.2⟩), h8.kept hK (fun b hb' hq => ⟨hne b hq.2.2, by have := hq.1; omega, hq.2⟩)⟩
  · have hq' : q = i := by
      have := (List.getElem?_eq_some_iff.1 hx).1
      rw [List.length_append, hie] at this
      simp at this
      omega
    subst hq'
    rw [List.getElem?_append_right (by omega), hie] at hx
    simp at hx
    subst hx
    refine ⟨hkd, hcd, dv, kv, ?_, ?_, ?_, ?_, hm.dat.kept hK (fun b hb' hq => ⟨hne b hq.2.2.1, hb', by have := hq.1; omega, hq.2.2.1⟩), ?_⟩
    · rw [List.getElem?_set_ne (by omega), List.getElem?_set_ne (by omega), List.getElem?_set_ne (by omega), List.getElem?_set_self (by omega)]
    · rw [List.getElem?_set_ne (by omega), List.getElem?_set_ne (by omega), List.getElem?_set_self (by simp; omega)]
    · rw [List.getElem?_set_ne (by omega), List.getElem?_set_self (by simp; omega)]
    · rw [List.getElem?_set_self (by simp; omega)]
    · have hki : Ints wr .i16 kv ks := Ints.of_owns hm.kown hm.kwf
      exact (IntsO.of_ints (q := fun b => b < wr.heap.size ∧ H ≤ b ∧ some b ≠ (Value.slice (some ⟨g, 0, none⟩) L cap).ownBlock) hki (fun gk hgk => ⟨owns_lt hm.kown hgk, (hm.kb gk hgk).1, (hm.kb gk hgk).2.2⟩)).kept hK (fun b hb' hq => ⟨hne b hq.2.2, hq.1, by have := hq.2.1; omega, hq.2.2⟩)

/-- All nodes are finished: a tree. -/
theorem NM.tree {w wr : World} {B H L : Nat} {v : Value} {cs : List Value} {F D P : Nat → Nat} {ns : List Nd} (h : NM w wr B H v L cs F D P ns) (hl : ns.length = L) : TrAt wr (B + 1) ⟨ns, 0⟩ := by
  refine ⟨⟨show (-32768 : Int) ≤ 0 by decide, show (0 : Int) < 32768 by decide⟩, ⟨v, h.t0, ?_⟩, h.t1⟩
  obtain ⟨gn, hg1, _⟩ := h.gN
  rcases h.own.2 with ⟨rfl, _⟩ | ⟨g, cap, cur, rfl, _, _, hnc, hcm, _, _⟩
  · simp [Value.ownBlock] at hg1
  · refine ⟨some ⟨g, 0, none⟩, cap, by rw [hl], by show ns.length ≤ cap; omega, hcm, fun _ => ⟨g, 0, rfl, fun j x hx => ?_⟩⟩
    have hj : j < L := by rw [← hl]; exact (List.getElem?_eq_some_iff.1 hx).1
    obtain ⟨r1, r2, dv, kv, h3, h4, h5, h6, h7, h8⟩ := h.fin j x hx
    rw [Nat.zero_add]
    refine ⟨r1, r2, ?_, ?_, ⟨dv, ?_, h7.ints⟩, kv, ?_, h8.ints⟩
    · rw [h.own.cellAt (j * 4) (by omega)]; exact h3
    · rw [h.own.cellAt (j * 4 + 1) (by omega)]; exact h4
    · rw [h.own.cellAt (j * 4 + 2) (by omega)]; exact h5
    · rw [h.own.cellAt (j * 4 + 3) (by omega)]; exact h6

theorem zero139 : Facg.zeroCells139 = Array.replicate 512 (Value.int .i16 0) := by kernel_rfl
theorem zero140 : Facg.zeroCells140 = Array.replicate 512 (Value.int .i64 0) := by kernel_rfl

/-- Ahead of the loops. -/
theorem NM.start {w w2 : World} (hg : Grows w w2) (r : Nat) :
    NM w (((((w2.alloc (.cells #[.int .u8 0, .int .u8 0, .slice none 0 0, .slice none 0 0] 128)).alloc (.cells #[.slice (some ⟨w2.heap.size, 0, none⟩) 1 1, .int .i16 0] 65)).alloc (.cells (Facg.zeroCells139.setIfInBounds 0 (.int .i16 r)) 139)).alloc (.cells Facg.zeroCells140 140)).alloc (.cells Facg.zeroCells140 140))
      w2.heap.size (w2.heap.size + 5) (.slice (some ⟨w2.heap.size, 0, none⟩) 1 1) 1 z4 (fun k => if k = 0 then r else 0) (fun _ => 0) (fun _ => 0) [] := by
  obtain ⟨wa, hwa⟩ : ∃ x, x = w2.alloc (.cells #[.int .u8 0, .int .u8 0, .slice none 0 0, .slice none 0 0] 128) := ⟨_, rfl⟩
  obtain ⟨wb, hwb⟩ : ∃ x, x = wa.alloc (.cells #[.slice (some ⟨w2.heap.size, 0, none⟩) 1 1, .int .i16 0] 65) := ⟨_, rfl⟩
  obtain ⟨wc, hwc⟩ : ∃ x, x = wb.alloc (.cells (Facg.zeroCells139.setIfInBounds 0 (.int .i16 r)) 139) := ⟨_, rfl⟩
  obtain ⟨wd, hwd⟩ : ∃ x, x = wc.alloc (.cells Facg.zeroCells140 140) := ⟨_, rfl⟩
  obtain ⟨we, hwe⟩ : ∃ x, x = wd.alloc (.cells Facg.zeroCells140 140) := ⟨_, rfl⟩
  have sa : wa.heap.size = w2.heap.size + 1 := by rw [hwa]; simp
  have sb : wb.heap.size = w2.heap.size + 2 := by rw [hwb]; simp [sa]
  have sc : wc.heap.size = w2.heap.size + 3 := by rw [hwc]; simp [sb]
  have sd : wd.heap.size = w2.heap.size + 4 := by rw [hwd]; simp [sc]
  have se : we.heap.size = w2.heap.size + 5 := by rw [hwe]; simp [sd]
  have kb : Grows wb wc := by rw [hwc]; exact (Kept.refl _ _).alloc _
  have kc : Grows wc wd := by rw [hwd]; exact (Kept.refl _ _).alloc _
  have kd : Grows wd we := by rw [hwe]; exact (Kept.refl _ _).alloc _
  have ka : Grows wa wb := by rw [hwb]; exact (Kept.refl _ _).alloc _
  have k2 : Grows w2 wa := by rw [hwa]; exact (Kept.refl _ _).alloc _
  rw [← hwa, ← hwb, ← hwc, ← hwd, ← hwe]
  have hT : ∀ i u, (#[Value.slice (some ⟨w2.heap.size, 0, none⟩) 1 1, .int .i16 0] : Array Value)[i]? = some u → wb.cell? ⟨w2.heap.size + 1, i, none⟩ = some u := fun i u hi => by
    rw [hwb, ← sa, World.cell?_alloc_at _ _ _ _ rfl]
    exact hi
  refine ⟨((((hg.trans k2).trans ka).trans kb).trans kc).trans kd, hg.size, by omega, by omega, ?_, ?_, ?_, ((kb.trans kc).trans kd).cell (hT 0 _ rfl) trivial, ((kb.trans kc).trans kd).cell (hT 1 _ rfl) trivial, fun j => ?_, ?_, ⟨w2.heap.size, rfl, .inl rfl⟩, fun i x hx => by simp at hx⟩
  · refine Arr.kept (q := fun _ => True) (w := wc) ?_ (by decide) (kc.trans kd) trivial
    rw [← sb, hwc]
    refine ⟨fun k hk => ?_, fun j => World.frozen?_alloc_at _ _ _ _ rfl⟩
    rw [World.cell?_alloc_at _ _ _ _ rfl, zero139, Array.getElem?_setIfInBounds]
    by_cases e : 0 = k
    · subst e; simp
    · rw [if_neg e, Array.getElem?_replicate, if_pos hk]
      show some (Value.int .i16 0) = some (Value.int .i16 ((if k = 0 then r else 0 : Nat) : Int))
      rw [if_neg (fun e' : k = 0 => e e'.symm)]
      rfl
  · refine Arr.kept (q := fun _ => True) (w := wd) ?_ (by decide) kd trivial
    rw [← sc, hwd]
    exact Arr.alloc wc 512 Facg.zeroCells140 140 (.int .i64 0) zero140
  · rw [← sd, hwe]
    exact Arr.alloc wd 512 Facg.zeroCells140 140 (.int .i64 0) zero140
  · have e : we.frozen? ⟨w2.heap.size + 1, j, none⟩ = wb.frozen? ⟨w2.heap.size + 1, j, none⟩ := Grows.frozens ((kb.trans kc).trans kd) _ _ (by omega)
    rw [e, ← sa, hwb]
    exact World.frozen?_alloc_at _ _ _ _ rfl
  · refine owns_kept (w := wa) ?_ (((ka.trans kb).trans kc).trans kd) (fun _ _ => trivial)
    rw [hwa]
    exact World.ownsRow_lit w2 #[.int .u8 0, .int .u8 0, .slice none 0 0, .slice none 0 0] 1 (Nat.zero_le _) (by decide) rfl

theorem MM.after {w0 w1 : World} {H gM : Nat} {v : Value} {kd cd : Int} {dv kv : Value} {xs ks : List Int} (hm : MM w0 H gM v kd cd dv kv xs ks) (hk : Kept (fun k => some k ≠ kv.ownBlock) w0 w1) : w1.cell? ⟨gM, 3, none⟩ = some kv ∧ w1.frozen? ⟨gM, 3, none⟩ = false := by
  have hmk : some gM ≠ kv.ownBlock := fun e => (hm.kb gM e.symm).2.1 rfl
  refine ⟨hk.cell hm.c3 hmk, ?_⟩
  rw [hk.frozen (q := ⟨gM, 3, none⟩) hm.lt hmk]
  exact hm.cf 3

theorem NM.after {w w0 w1 : World} {B H L : Nat} {v : Value} {cs : List Value} {F D P : Nat → Nat} {ns : List Nd} (h : NM w w0 B H v L cs F D P ns) (hk : Kept (fun k => some k ≠ v.ownBlock) w0 w1) : w1.cell? ⟨B + 1, 0, none⟩ = some v ∧ w1.frozen? ⟨B + 1, 0, none⟩ = false := by
  obtain ⟨gn, hg1, hg2⟩ := h.gN
  have hP : some (B + 1) ≠ v.ownBlock := fun e => by rw [hg1] at e; injection e with e; omega
  refine ⟨hk.cell h.t0 hP, ?_⟩
  rw [hk.frozen (q := ⟨B + 1, 0, none⟩) (World.block_lt_of_cell? w0 ⟨B + 1, 0, none⟩ h.t0) hP]
  exact h.tf 0

/-- An allocation ahead of the append. -/
theorem NM.alloc {w wr : World} {B H L : Nat} {v : Value} {cs : List Value} {F D P : Nat → Nat} {ns : List Nd} (h : NM w wr B H v L cs F D P ns) (o : Obj) : NM w (wr.alloc o) B H v L cs F D P ns := h.kept ((Kept.refl (fun _ => True) wr).alloc o) (fun _ _ => trivial) (fun _ _ => trivial)
theorem MM.alloc {wr : World} {H gM : Nat} {v : Value} {kd cd : Int} {dv kv : Value} {xs ks : List Int} (h : MM wr H gM v kd cd dv kv xs ks) (o : Obj) : MM (wr.alloc o) H gM v kd cd dv kv xs ks := h.kept ((Kept.refl (fun _ => True) wr).alloc o) (fun _ _ _ => trivial)
theorem NM.grow {w wr w' : World} {B H L : Nat} {v : Value} {cs : List Value} {F D P : Nat → Nat} {ns : List Nd} (h : NM w wr B H v L cs F D P ns) (hg : Grows wr w') : NM w w' B H v L cs F D P ns := h.kept hg (fun _ _ => trivial) (fun _ _ => trivial)
theorem MM.grow {wr w' : World} {H gM : Nat} {v : Value} {kd cd : Int} {dv kv : Value} {xs ks : List Int} (h : MM wr H gM v kd cd dv kv xs ks) (hg : Grows wr w') : MM w' H gM v kd cd dv kv xs ks := h.kept hg (fun _ _ _ => trivial)
/-- Stores into the arrays leave the node that is being made. -/
theorem MM.arr {wr : World} {H gM b k : Nat} {v : Value} {kd cd : Int} {dv kv : Value} {xs ks : List Int} (h : MM wr H gM v kd cd dv kv xs ks) (hb : b < H) (u : Value) : MM (wr.setCell ⟨b, k, none⟩ u) H gM v kd cd dv kv xs ks :=
  h.kept (p := fun x => x ≠ b) ((Kept.refl _ _).setCell (.inr (fun h => h rfl)) _) (fun x hx _ => by omega)

/-! ### A tree whose memory lies in blocks of which q holds -/
def NodeQ (w : World) (q : Nat → Prop) (b o : Nat) (x : Nd) : Prop :=
  (0 ≤ x.kind ∧ x.kind < 256) ∧ (0 ≤ x.code ∧ x.code < 256) ∧ q b ∧
  w.cell? ⟨b, o, none⟩ = some (.int .u8 x.kind) ∧ w.cell? ⟨b, o + 1, none⟩ = some (.int .u8 x.code) ∧
  (∃ v, w.cell? ⟨b, o + 2, none⟩ = some v ∧ IntsO w q .u64 v x.data) ∧ ∃ v, w.cell? ⟨b, o + 3, none⟩ = some v ∧ IntsO w q .i16 v x.kids

theorem NodeQ.node {w : World} {q : Nat → Prop} {b o : Nat} {x : Nd} (h : NodeQ w q b o x) : NodeAt w b o x := by
  obtain ⟨r1, r2, _, h0, h1, ⟨v, h2, h3⟩, u, h4, h5⟩ := h
  exact ⟨r1, r2, h0, h1, ⟨v, h2, h3.ints⟩, u, h4, h5.ints⟩

theorem NodeQ.kept {w w' : World} {q q' p : Nat → Prop} {b o : Nat} {x : Nd} (h : NodeQ w q b o x) (hk : Kept p w w') (hp : ∀ b, b < w.heap.size → q b → p b ∧ q' b) : NodeQ w' q' b o x := by
  obtain ⟨r1, r2, hq, h0, h1, ⟨v, h2, h3⟩, u, h4, h5⟩ := h
  have hb : b < w.heap.size := World.block_lt_of_cell? w ⟨b, o, none⟩ h0
  obtain ⟨p1, p2⟩ := hp b hb hq
  exact ⟨r1, r2, p2, hk.cell h0 p1, hk.cell h1 p1, ⟨v, hk.cell h2 p1, h3.kept hk hp⟩, u, hk.cell h4 p1, h5.kept hk hp⟩

def TrQ (w : World) (q : Nat → Prop) (g : Nat) (t : Tr) : Prop :=
  (-32768 ≤ t.root ∧ t.root < 32768) ∧ q g ∧ (∃ a c, w.cell? ⟨g, 0, none⟩ = some (.slice a t.ns.length c) ∧ t.ns.length ≤ c ∧ c ≤ maxLen ∧ (t.ns ≠ [] → ∃ b o, a = some ⟨b, o, none⟩ ∧ ∀ j x, t.ns[j]? = some x → NodeQ w q b (o + j * 4) x)) ∧ w.cell? ⟨g, 1, none⟩ = some (.int .i16 t.root)

theorem TrQ.tr {w : World} {q : Nat → Prop} {g : Nat} {t : Tr} (h : TrQ w q g t) : TrAt w g t := by
  obtain ⟨r, _, ⟨a, c, h1, h2, h3, h4⟩, h5⟩ := h
  refine ⟨r, ⟨_, h1, a, c, rfl, h2, h3, fun hn => ?_⟩, h5⟩
  obtain ⟨b, o, e, hx⟩ := h4 hn
  exact ⟨b, o, e, fun j x hj => (hx j x hj).node⟩

theorem TrQ.kept {w w' : World} {q q' p : Nat → Prop} {g : Nat} {t : Tr} (h : TrQ w q g t) (hk : Kept p w w') (hp : ∀ b, b < w.heap.size → q b → p b ∧ q' b) : TrQ w' q' g t := by
  obtain ⟨r, hq, ⟨a, c, h1, h2, h3, h4⟩, h5⟩ := h
  obtain ⟨p1, p2⟩ := hp g (World.block_lt_of_cell? w ⟨g, 0, none⟩ h1) hq
  refine ⟨r, p2, ⟨a, c, hk.cell h1 p1, h2, h3, fun hn => ?_⟩, hk.cell h5 p1⟩
  obtain ⟨b, o, e, hx⟩ := h4 hn
  exact ⟨b, o, e, fun j x hj => (hx j x hj).kept hk hp⟩

/-- .. of Norm's tree: its memory is new. -/
theorem NM.treeQ {w wr : World} {B H L : Nat} {v : Value} {cs : List Value} {F D P : Nat → Nat} {ns : List Nd} (h : NM w wr B H v L cs F D P ns) (hl : ns.length = L) : TrQ wr (fun b => w.heap.size ≤ b) (B + 1) ⟨ns, 0⟩ := by
  have hw := h.wB
  refine ⟨⟨show (-32768 : Int) ≤ 0 by decide, show (0 : Int) < 32768 by decide⟩, by omega, ?_, h.t1⟩
  obtain ⟨gn, hg1, hg2⟩ := h.gN
  have ht0 := h.t0
  rcases h.own.2 with ⟨rfl, _⟩ | ⟨g, cap, cur, rfl, _, _, hnc, hcm, _, _⟩
  · simp [Value.ownBlock] at hg1
  · refine ⟨some ⟨g, 0, none⟩, cap, by rw [ht0, hl], by show ns.length ≤ cap; omega, hcm, fun _ => ⟨g, 0, rfl, fun j x hx => ?_⟩⟩
    have hj : j < L := by rw [← hl]; exact (List.getElem?_eq_some_iff.1 hx).1
    obtain ⟨r1, r2, dv, kv, h3, h4, h5, h6, h7, h8⟩ := h.fin j x hx
    have hgn : g = gn := by simpa [Value.ownBlock] using hg1
    have hq : ∀ b, b < wr.heap.size → QB B H (.slice (some ⟨g, 0, none⟩) L cap) b → (True ∧ w.heap.size ≤ b) := fun b _ hb => ⟨trivial, by have := hb.2.1.1; omega⟩
    rw [Nat.zero_add]
    refine ⟨r1, r2, by omega, ?_, ?_, ⟨dv, ?_, h7.kept (p := fun _ => True) (Kept.refl _ _) hq⟩, kv, ?_, h8.kept (p := fun _ => True) (Kept.refl _ _) hq⟩
    · rw [h.own.cellAt (j * 4) (by omega)]; exact h3
    · rw [h.own.cellAt (j * 4 + 1) (by omega)]; exact h4
    · rw [h.own.cellAt (j * 4 + 2) (by omega)]; exact h5
    · rw [h.own.cellAt (j * 4 + 3) (by omega)]; exact h6
end Go.Proofs.Ygcfac
