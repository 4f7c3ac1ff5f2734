/-
  codec.Canon: its own struct, made.
-/
import Derived.Test.YgcfacCStr
import Derived.Test.YgcfacNNull
import Derived.Deep.MidRow
import Derived.Deep.WholeRow
namespace Go.Proofs.Ygcfac
open Go.RowKit
set_option linter.unusedVariables false

def c16 : Array Value := #[.int .u64 0, .int .u64 0, .int .u64 0, .int .u64 0, .int .u64 0, .int .u64 0, .int .u64 0, .int .u64 0, .int .u64 0, .int .u64 0, .int .u64 0, .int .u64 0, .int .u64 0, .int .u64 0, .int .u64 0, .int .u64 0]
theorem make16 (w : World) : (Instr.makeSlice 22 (.int .i64 1) (.int .i64 16)).run Facg.prog w = .ok (.slice (some ⟨w.heap.size, 0, none⟩) 1 16) (w.alloc (.cells c16 38)) := by
  obtain ⟨i, hi, hz, hs, hb⟩ := info_parts info38
  have := run_make (P := Facg.prog) w 22 38 i (.int .u64 0) Facg.underlying22 hi hz .i64 .i64 1 16 (by decide) (by decide) (by rw [hb]; decide) (by decide)
  rw [hs] at this
  rw [this]
  have e : madeCells (Value.int .u64 0).cells (Int.toNat 16 * 1) = c16 := by
    show madeCells #[.int .u64 0] 16 = c16
    rw [made_list]
    rfl
  rw [e]
  rfl

theorem size151 : (Facg.prog.info? 151).map (·.size) = some 1027 := by kernel_rfl
theorem zsize151 : Facg.zeroCells151.size = 1027 := by kernel_rfl
theorem zlist151 : Facg.zeroCells151.toList = [.pointer none, .slice none 0 0] ++ ((List.replicate 512 [Value.int .u16 0, .int .i16 0]).flatten ++ [.int .i64 0]) := by kernel_rfl
theorem zone151 : ∀ v ∈ Facg.zeroCells151, v.oneCell' = true := by
  intro v hv
  have hv' : v ∈ Facg.zeroCells151.toList := by simpa using hv
  rw [zlist151] at hv'
  rcases List.mem_append.1 hv' with h | h
  · simp at h
    rcases h with rfl | rfl <;> rfl
  · rcases List.mem_append.1 h with h | h
    · obtain ⟨l, hl, hvl⟩ := List.mem_flatten.1 h
      have := List.eq_of_mem_replicate hl
      subst this
      simp at hvl
      rcases hvl with rfl | rfl <;> rfl
    · simp at h
      subst h
      rfl
def c151 (gU b : Nat) : Array Value := (Value.pointer (some ⟨gU, 0, none⟩) :: .slice (some ⟨b, 0, none⟩) 1 16 :: ((List.replicate 512 [Value.int .u16 0, .int .i16 0]).flatten ++ [.int .i64 0])).toArray
theorem set_two (x0 x1 a b : Value) (r : List Value) : (([x0, x1] ++ r).set 0 a).set 1 b = a :: b :: r := rfl
theorem c151_eq (gU b : Nat) : c151 gU b = (Facg.zeroCells151.setIfInBounds 0 (.pointer (some ⟨gU, 0, none⟩))).setIfInBounds 1 (.slice (some ⟨b, 0, none⟩) 1 16) := by
  apply Array.toList_inj.1
  rw [Array.toList_setIfInBounds, Array.toList_setIfInBounds, zlist151, set_two]
  rfl
theorem c151_size (gU b : Nat) : (c151 gU b).size = 1027 := by rw [c151_eq]; rw [Array.size_setIfInBounds, Array.size_setIfInBounds, zsize151]
theorem c151_one (gU b : Nat) : (c151 gU b).all (·.oneCell') = true := by
  rw [Array.all_eq_true_iff_forall_mem]
  intro v hv
  have h0 := zone151
  rw [c151_eq] at hv
  rcases Array.mem_or_eq_of_mem_setIfInBounds hv with h | h
  · rcases Array.mem_or_eq_of_mem_setIfInBounds h with h | h
    · exact h0 v h
    · subst h; rfl
  · subst h; rfl
theorem c151_list (gU b : Nat) : (c151 gU b).toList = (Facg.zeroCells151.toList.set 0 (.pointer (some ⟨gU, 0, none⟩))).set 1 (.slice (some ⟨b, 0, none⟩) 1 16) := by
  rw [c151_eq]
  rw [Array.toList_setIfInBounds, Array.toList_setIfInBounds]

theorem flat_at : ∀ (n k : Nat), k < n → ∀ (r : List Value), ((List.replicate n [Value.int .u16 0, .int .i16 0]).flatten ++ r)[k * 2]? = some (.int .u16 0) ∧ ((List.replicate n [Value.int .u16 0, .int .i16 0]).flatten ++ r)[k * 2 + 1]? = some (.int .i16 0)
  | 0, k, h, r => absurd h (Nat.not_lt_zero _)
  | n + 1, 0, _, r => by
    rw [List.replicate_succ, List.flatten_cons]
    exact ⟨rfl, rfl⟩
  | n + 1, k + 1, h, r => by
    rw [List.replicate_succ, List.flatten_cons, show (k + 1) * 2 = k * 2 + 1 + 1 by omega]
    simp only [List.cons_append, List.nil_append, List.getElem?_cons_succ]
    exact flat_at n k (by omega) r
theorem flat_end : ∀ (n : Nat) (x : Value), ((List.replicate n [Value.int .u16 0, .int .i16 0]).flatten ++ [x])[n * 2]? = some x
  | 0, x => rfl
  | n + 1, x => by
    rw [List.replicate_succ, List.flatten_cons, show (n + 1) * 2 = n * 2 + 1 + 1 by omega]
    simp only [List.cons_append, List.nil_append, List.getElem?_cons_succ]
    exact flat_end n x

theorem at_two (a b : Value) (r : List Value) (n : Nat) : (a :: b :: r)[n + 1 + 1]? = r[n]? := rfl
theorem row_whole (z c : Array Value) (h : c.size = z.size) : (z.toList.take (0 + 0) ++ c.toList ++ z.toList.drop (0 + 0 + c.toList.length)).toArray = c := by
  rw [Array.length_toList, h, Nat.zero_add, Nat.zero_add, List.take_zero, List.nil_append, List.drop_of_length_le (by rw [Array.length_toList]; exact Nat.le_refl _), List.append_nil, Array.toArray_toList]

theorem c151_cell (gU b : Nat) : (c151 gU b)[0]? = some (.pointer (some ⟨gU, 0, none⟩)) ∧ (c151 gU b)[1]? = some (.slice (some ⟨b, 0, none⟩) 1 16) ∧ (c151 gU b)[1026]? = some (.int .i64 0) ∧ ∀ k, k < 512 → (c151 gU b)[2 + k * 2]? = some (.int .u16 0) ∧ (c151 gU b)[2 + k * 2 + 1]? = some (.int .i16 0) := by
  have e : ∀ j, (c151 gU b)[j]? = ((c151 gU b).toList)[j]? := fun j => by rw [Array.getElem?_toList]
  have z : (c151 gU b).toList = .pointer (some ⟨gU, 0, none⟩) :: .slice (some ⟨b, 0, none⟩) 1 16 :: ((List.replicate 512 [Value.int .u16 0, .int .i16 0]).flatten ++ [.int .i64 0]) := by
    rw [c151_list, zlist151, set_two]
  have f1 := flat_end 512 (.int .i64 0)
  have f2 := fun k hk => flat_at 512 k hk [.int .i64 0]
  generalize (List.replicate 512 [Value.int .u16 0, .int .i16 0]).flatten ++ [.int .i64 0] = r at z f1 f2
  refine ⟨by rw [e, z]; rfl, by rw [e, z]; rfl, ?_, fun k hk => ?_⟩
  · rw [e, z, show 1026 = 512 * 2 + 1 + 1 from rfl, at_two]
    exact f1
  · rw [e, e, z, show 2 + k * 2 = k * 2 + 1 + 1 by omega, show k * 2 + 1 + 1 + 1 = (k * 2 + 1) + 1 + 1 from rfl, at_two, at_two]
    exact f2 k hk

theorem store151 (X : World) (k gU b : Nat) (h : X.heap[k]? = some (.cells Facg.zeroCells151 151 (0, 0))) :
    (storeCells ⟨k, 0, none⟩ ((Facg.zeroCells151.toList.set 0 (.pointer (some ⟨gU, 0, none⟩))).set 1 (.slice (some ⟨b, 0, none⟩) 1 16))).run Facg.prog X = .ok () (X.setRow k (c151 gU b)) := by
  rw [← c151_list]
  have := run_storeCells_at (P := Facg.prog) k 0 151 (c151 gU b).toList 0 Facg.zeroCells151 X h (by rw [Array.length_toList, c151_size, zsize151]; omega) (fun v hv => Array.all_eq_true_iff_forall_mem.1 (c151_one gU b) v (by simpa using hv))
  rw [row_whole _ _ (by rw [c151_size, zsize151])] at this
  exact this

theorem Kept.setRow {p : Nat → Prop} {a w : World} (h : Kept p a w) {g : Nat} (hq : a.heap.size ≤ g ∨ ¬ p g) (cs : Array Value) : Kept p a (w.setRow g cs) := by
  refine ⟨h.os, h.tape, h.output, by rw [setRow_size]; exact h.size, fun k hk hp => ?_⟩
  rw [setRow_other w g k cs (fun e => by subst e; exact hq.elim (fun h1 => by omega) (fun h1 => h1 hp))]
  exact h.block k hk hp

theorem CM.start {Q : Nat → Prop} {w X : World} {gC gU b : Nat} (hX : Kept Q w X) (hz : X.heap[gC]? = some (.cells Facg.zeroCells151 151 (0, 0))) (hb : X.heap[b]? = some (.cells c16 38 (0, 0)))
    (hlt : ∀ b, Q b → b < w.heap.size) (hC : ¬ Q gC) (hB : ¬ Q b) (hne : b ≠ gC) : CM Q w (X.setRow gC (c151 gU b)) gC gU (.slice (some ⟨b, 0, none⟩) 1 16) 1 [] := by
  obtain ⟨e0, e1, e2, e3⟩ := c151_cell gU b
  have cell : ∀ j, (X.setRow gC (c151 gU b)).cell? ⟨gC, j, none⟩ = (c151 gU b)[j]? := fun j => cell_setRow_same X gC j _ _ _ _ hz
  have hb' : (X.setRow gC (c151 gU b)).heap[b]? = some (.cells c16 38 (0, 0)) := by rw [setRow_other _ _ _ _ hne]; exact hb
  refine ⟨hX.setRow (.inr hC) _, hlt, hC, by rw [cell]; exact e0, by rw [cell]; exact e1, by rw [cell]; exact e2, fun j => ?_, ⟨[0], ?_⟩, fun g hg => ?_, Nat.le_refl _, Nat.zero_le _, fun k hk => ?_⟩
  · have := setRow_heap X gC _ (c151 gU b) _ _ hz
    simp [World.frozen?, this]
  · exact ⟨rfl, .inr ⟨b, 16, c16, rfl, Nat.zero_le _, hb', by decide, by decide, rfl, rfl⟩⟩
  · have : b = g := by simpa [Value.ownBlock] using hg
    subst this
    exact ⟨hB, hne⟩
  · obtain ⟨f1, f2⟩ := e3 k hk
    exact ⟨0, 0, by rw [cell]; exact f1, by rw [cell]; exact f2, fun x hx => by simp at hx⟩

/-- Canon's memory behind its first statement. -/
def CanS (w : World) (s : Value) (wc : World) : Prop := ∃ Q w0 gC gU u v, s = .pointer (some ⟨gC, 0, none⟩) ∧ Grows w w0 ∧ (∀ b, b < w.heap.size → Q b) ∧ TrQ w0 Q gU u ∧ CheckOk u ∧ EvenT u ∧ CM Q w0 wc gC gU v 1 []

theorem canon_start {w X0 w3 X : World} {gC gU b : Nat} {u : Tr} (h0 : Grows w X0) (h1 : Grows X0 w3) (hU : TrQ w3 (fun b => X0.heap.size ≤ b) gU u) (hc : CheckOk u) (hev : EvenT u) (h2 : Grows w3 X)
    (hz : X.heap[gC]? = some (.cells Facg.zeroCells151 151 (0, 0))) (hb : X.heap[b]? = some (.cells c16 38 (0, 0))) (hC : w.heap.size ≤ gC ∧ gC < X0.heap.size ∨ w3.heap.size ≤ gC) (hB : w.heap.size ≤ b ∧ b < X0.heap.size ∨ w3.heap.size ≤ b) (hne : b ≠ gC) :
    CanS w (.pointer (some ⟨gC, 0, none⟩)) (X.setRow gC (c151 gU b)) := by
  have s0 := h0.size
  have s1 := h1.size
  have s2 := h2.size
  refine ⟨fun b => b < w.heap.size ∨ (X0.heap.size ≤ b ∧ b < w3.heap.size), w3, gC, gU, u, _, rfl, h0.trans h1, fun b hb => .inl hb, ?_, hc, hev, CM.start (h2.mono (fun _ _ _ => trivial)) hz hb (fun b hb => by omega) (by omega) (by omega) hne⟩
  exact hU.kept (p := fun _ => True) (Kept.refl _ _) (fun b hb hq => ⟨trivial, .inr ⟨hq, hb⟩⟩)
/-- The new struct lies in block k. -/
def ZAt (X : World) (k : Nat) : Prop := X.heap[k]? = some (.cells Facg.zeroCells151 151 (0, 0))
theorem ZAt.new (w : World) (n : Nat) (h : w.heap.size = n) : ZAt (w.alloc (.cells Facg.zeroCells151 151)) n := by subst h; exact Go.Deep.blk_alloc_new _ _
theorem ZAt.lt {w : World} {k : Nat} (h : ZAt w k) : k < w.heap.size := by
  rcases Nat.lt_or_ge k w.heap.size with h1 | h1
  · exact h1
  · unfold ZAt at h; rw [Array.getElem?_eq_none h1] at h; cases h
theorem ZAt.old (w : World) (k : Nat) (o : Obj) (h : ZAt w k) : ZAt (w.alloc o) k := (Go.Deep.blk_alloc_lt _ _ _ h.lt).trans h
theorem ZAt.grow {w w' : World} (hg : Grows w w') (k : Nat) (h : ZAt w k) : ZAt w' k := (hg.block k h.lt trivial).trans h
theorem ZAt.d1 (w : World) : ZAt (w.drew.alloc (.cells Facg.zeroCells151 151)) w.heap.size := ZAt.new _ _ rfl
theorem ZAt.d2 (w : World) (C : Array Value) (ty : TypeId) : ZAt ((w.drew.alloc (.cells C ty)).alloc (.cells Facg.zeroCells151 151)) (w.heap.size + 1) := ZAt.new _ _ (by simp)
theorem ZAt.d3 (w : World) (C : Array Value) (ty : TypeId) : ZAt ((w.drew.alloc (.cells Facg.zeroCells151 151)).alloc (.cells C ty)) w.heap.size := ZAt.old _ _ _ (ZAt.d1 w)
theorem ZAt.e1 (w : World) : ZAt (w.alloc (.cells Facg.zeroCells151 151)) w.heap.size := ZAt.new _ _ rfl
theorem ZAt.e2 (w : World) (C : Array Value) (ty : TypeId) : ZAt ((w.alloc (.cells C ty)).alloc (.cells Facg.zeroCells151 151)) (w.heap.size + 1) := ZAt.new _ _ (by simp)
theorem ZAt.e3 (w : World) (C : Array Value) (ty : TypeId) : ZAt ((w.alloc (.cells Facg.zeroCells151 151)).alloc (.cells C ty)) w.heap.size := ZAt.old _ _ _ (ZAt.e1 w)
theorem ZAt.f1 (w : World) : ZAt (w.alloc (.cells Facg.zeroCells151 151)).drew w.heap.size := ZAt.e1 w
theorem ZAt.f2 (w : World) (C : Array Value) (ty : TypeId) : ZAt ((w.alloc (.cells C ty)).alloc (.cells Facg.zeroCells151 151)).drew (w.heap.size + 1) := ZAt.e2 w C ty
theorem ZAt.f3 (w : World) (C : Array Value) (ty : TypeId) : ZAt ((w.alloc (.cells Facg.zeroCells151 151)).alloc (.cells C ty)).drew w.heap.size := ZAt.e3 w C ty
theorem ZAt.store (X : World) (k gU b : Nat) (h : ZAt X k) :
    (storeCells ⟨k, 0, none⟩ ((Facg.zeroCells151.toList.set 0 (.pointer (some ⟨gU, 0, none⟩))).set 1 (.slice (some ⟨b, 0, none⟩) 1 16))).run Facg.prog X = .ok () (X.setRow k (c151 gU b)) := store151 X k gU b h

theorem blk1 (w : World) (o : Obj) (n : Nat) (h : w.heap.size = n) : (w.alloc o).heap[n]? = some o := by subst h; exact Go.Deep.blk_alloc_new _ _
theorem blk0 (w : World) (o o' : Obj) (k : Nat) (h : w.heap[k]? = some o') : (w.alloc o).heap[k]? = some o' := by
  rw [Go.Deep.blk_alloc_lt _ _ _ ?_]
  · exact h
  · rcases Nat.lt_or_ge k w.heap.size with h1 | h1
    · exact h1
    · rw [Array.getElem?_eq_none h1] at h; cases h
theorem blkg {w w' : World} (hg : Grows w w') (k : Nat) (o : Obj) (h : w.heap[k]? = some o) : w'.heap[k]? = some o := by
  rw [hg.block k ?_ trivial]
  · exact h
  · rcases Nat.lt_or_ge k w.heap.size with h1 | h1
    · exact h1
    · rw [Array.getElem?_eq_none h1] at h; cases h

section
variable {w w2 w3 : World} {gU : Nat} {u : Tr}
theorem order1 (hg : Grows w w2) (h : Grows w2.drew w3 ∧ TrQ w3 (fun b => w2.drew.heap.size ≤ b) gU u ∧ CheckOk u ∧ EvenT u) : CanS w (.pointer (some ⟨w3.heap.size + 1, 0, none⟩)) (((w3.alloc (.cells c16 38)).alloc (.cells Facg.zeroCells151 151)).setRow (w3.heap.size + 1) (c151 gU w3.heap.size)) := by
  obtain ⟨h1, h2, h3, h4⟩ := h
  exact canon_start hg.drew h1 h2 h3 h4 (((Kept.refl _ _).alloc _).alloc _) (blk1 _ _ _ (by simp)) (blk0 _ _ _ _ (blk1 _ _ _ rfl)) (.inr (by omega)) (.inr (by omega)) (by omega)
theorem order2 (hg : Grows w w2) (h : Grows w2.drew w3 ∧ TrQ w3 (fun b => w2.drew.heap.size ≤ b) gU u ∧ CheckOk u ∧ EvenT u) : CanS w (.pointer (some ⟨w3.heap.size, 0, none⟩)) (((w3.alloc (.cells Facg.zeroCells151 151)).alloc (.cells c16 38)).setRow w3.heap.size (c151 gU (w3.heap.size + 1))) := by
  obtain ⟨h1, h2, h3, h4⟩ := h
  exact canon_start hg.drew h1 h2 h3 h4 (((Kept.refl _ _).alloc _).alloc _) (blk0 _ _ _ _ (blk1 _ _ _ rfl)) (blk1 _ _ _ (by simp)) (.inr (by omega)) (.inr (by omega)) (by omega)
theorem order3 (hg : Grows w w2) (h : Grows (w2.alloc (.cells c16 38)).drew w3 ∧ TrQ w3 (fun b => (w2.alloc (.cells c16 38)).drew.heap.size ≤ b) gU u ∧ CheckOk u ∧ EvenT u) : CanS w (.pointer (some ⟨w3.heap.size, 0, none⟩)) ((w3.alloc (.cells Facg.zeroCells151 151)).setRow w3.heap.size (c151 gU w2.heap.size)) := by
  obtain ⟨h1, h2, h3, h4⟩ := h
  have s := h1.size
  have s2 := hg.size
  have e : (w2.alloc (.cells c16 38)).drew.heap.size = w2.heap.size + 1 := by simp
  have e0 : (w2.alloc (.cells c16 38)).drew.heap[w2.heap.size]? = some (.cells c16 38) := blk1 _ _ _ rfl
  exact canon_start (hg.alloc _).drew h1 h2 h3 h4 ((Kept.refl _ _).alloc _) (blk1 _ _ _ rfl) (blk0 _ _ _ _ (blkg h1 _ _ e0)) (.inr (by omega)) (.inl ⟨by omega, by omega⟩) (by omega)
theorem order4 (hg : Grows w w2) (h : Grows ((w2.alloc (.cells c16 38)).alloc (.cells Facg.zeroCells151 151)).drew w3 ∧ TrQ w3 (fun b => ((w2.alloc (.cells c16 38)).alloc (.cells Facg.zeroCells151 151)).drew.heap.size ≤ b) gU u ∧ CheckOk u ∧ EvenT u) : CanS w (.pointer (some ⟨w2.heap.size + 1, 0, none⟩)) (w3.setRow (w2.heap.size + 1) (c151 gU w2.heap.size)) := by
  obtain ⟨h1, h2, h3, h4⟩ := h
  have s2 := hg.size
  have e : ((w2.alloc (.cells c16 38)).alloc (.cells Facg.zeroCells151 151)).drew.heap.size = w2.heap.size + 2 := by simp
  have e0 : ((w2.alloc (.cells c16 38)).alloc (.cells Facg.zeroCells151 151)).drew.heap[w2.heap.size]? = some (.cells c16 38) := blk0 _ _ _ _ (blk1 _ _ _ rfl)
  have e1 : ((w2.alloc (.cells c16 38)).alloc (.cells Facg.zeroCells151 151)).drew.heap[w2.heap.size + 1]? = some (.cells Facg.zeroCells151 151) := blk1 _ _ _ (by simp)
  exact canon_start ((hg.alloc _).alloc _).drew h1 h2 h3 h4 (Kept.refl _ _) (blkg h1 _ _ e1) (blkg h1 _ _ e0) (.inl ⟨by omega, by omega⟩) (.inl ⟨by omega, by omega⟩) (by omega)
theorem order5 (hg : Grows w w2) (h : Grows (w2.alloc (.cells Facg.zeroCells151 151)).drew w3 ∧ TrQ w3 (fun b => (w2.alloc (.cells Facg.zeroCells151 151)).drew.heap.size ≤ b) gU u ∧ CheckOk u ∧ EvenT u) : CanS w (.pointer (some ⟨w2.heap.size, 0, none⟩)) ((w3.alloc (.cells c16 38)).setRow w2.heap.size (c151 gU w3.heap.size)) := by
  obtain ⟨h1, h2, h3, h4⟩ := h
  have s := h1.size
  have s2 := hg.size
  have e : (w2.alloc (.cells Facg.zeroCells151 151)).drew.heap.size = w2.heap.size + 1 := by simp
  have e0 : (w2.alloc (.cells Facg.zeroCells151 151)).drew.heap[w2.heap.size]? = some (.cells Facg.zeroCells151 151) := blk1 _ _ _ rfl
  exact canon_start (hg.alloc _).drew h1 h2 h3 h4 ((Kept.refl _ _).alloc _) (blk0 _ _ _ _ (blkg h1 _ _ e0)) (blk1 _ _ _ rfl) (.inl ⟨by omega, by omega⟩) (.inr (by omega)) (by omega)
theorem order6 (hg : Grows w w2) (h : Grows ((w2.alloc (.cells Facg.zeroCells151 151)).alloc (.cells c16 38)).drew w3 ∧ TrQ w3 (fun b => ((w2.alloc (.cells Facg.zeroCells151 151)).alloc (.cells c16 38)).drew.heap.size ≤ b) gU u ∧ CheckOk u ∧ EvenT u) : CanS w (.pointer (some ⟨w2.heap.size, 0, none⟩)) (w3.setRow w2.heap.size (c151 gU (w2.heap.size + 1))) := by
  obtain ⟨h1, h2, h3, h4⟩ := h
  have s2 := hg.size
  have e : ((w2.alloc (.cells Facg.zeroCells151 151)).alloc (.cells c16 38)).drew.heap.size = w2.heap.size + 2 := by simp
  have e0 : ((w2.alloc (.cells Facg.zeroCells151 151)).alloc (.cells c16 38)).drew.heap[w2.heap.size]? = some (.cells Facg.zeroCells151 151) := blk0 _ _ _ _ (blk1 _ _ _ rfl)
  have e1 : ((w2.alloc (.cells Facg.zeroCells151 151)).alloc (.cells c16 38)).drew.heap[w2.heap.size + 1]? = some (.cells c16 38) := blk1 _ _ _ (by simp)
  exact canon_start ((hg.alloc _).alloc _).drew h1 h2 h3 h4 (Kept.refl _ _) (blkg h1 _ _ e0) (blkg h1 _ _ e1) (.inl ⟨by omega, by omega⟩) (.inl ⟨by omega, by omega⟩) (by omega)
end

/-- The root's slot, pushed. -/
def PushP (Q : Nat → Prop) (w0 : World) (gC gU : Nat) (u : Tr) (e : Ending) (w' : World) : Prop := e = .returned (.tuple #[]) ∧ ∃ v st ps, CM Q w0 w' gC gU v 1 st ∧ CI u st ps

theorem CI.none (u : Tr) : CI u [] [] := ⟨by simp, by simp, by simp, by simp, by simp⟩

theorem root_push {Q : Nat → Prop} {w0 wr : World} {gC gU : Nat} {u : Tr} {v : Value} (h : CM Q w0 wr gC gU v 1 []) (hc : CheckOk u) : Calls Facg.prog 82 #[.pointer (some ⟨gC, 0, none⟩), .int .u16 0, .int .i16 u.root] wr (PushP Q w0 gC gU u) := by
  by_cases hr : u.root = -1
  · rw [hr]
    exact (cpush_null Q w0 wr gC gU 1 0 v [] h).mono fun e w' ⟨h1, v', h2⟩ => ⟨h1, v', [], [], h2, CI.none u⟩
  · have h1 := hc.lo
    have h2 := hc.hi
    have h3 := hc.len
    obtain ⟨r, hre⟩ := Int.eq_ofNat_of_zero_le (show 0 ≤ u.root by omega)
    rw [hre]
    exact (cpush_kid Q w0 wr gC gU 1 0 r v [] h (by decide) (by decide) (by decide) (by omega)).mono fun e w' ⟨h1, v', h2⟩ => ⟨h1, v', [r], [r], h2, CI.start hre (by omega)⟩
end Go.Proofs.Ygcfac
