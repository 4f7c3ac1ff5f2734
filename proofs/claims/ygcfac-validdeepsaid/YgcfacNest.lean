import Derived.Test.YgcfacClaimed
import Derived.Laws.OwnMore
namespace Go.Proofs.Ygcfac
open Go.RowKit
set_option linter.unusedVariables false

theorem info3 : (Facg.prog.info? 3).map (fun i => (i.zero, i.size, i.bytes)) = some (some (.int .i64 0), 1, 8) := by kernel_rfl

def intsOf (Y : List Nat) : List Value := Y.map fun (y : Nat) => Value.int .i64 (y : Int)

/-- The arena and the slots, as nest holds them. -/
structure NestS (w wr : World) (va vs : Value) (X : List Int) (Y : List Nat) : Prop where
  grows : Grows w wr
  ra : wr.ownsRow 0 38 1 va X.length (X.map (Value.int .u64))
  rs : wr.ownsRow 0 3 1 vs Y.length (intsOf Y)
  fa : ∀ g, va.ownBlock = some g → w.heap.size ≤ g
  fs : ∀ g, vs.ownBlock = some g → w.heap.size ≤ g
  ne : ∀ g, va.ownBlock = some g → vs.ownBlock ≠ some g
  xr : ∀ x ∈ X, 0 ≤ x ∧ x < 18446744073709551616
  yr : ∀ y ∈ Y, y < X.length
  lo : 1 ≤ X.length
  hi : X.length ≤ 256

theorem owns_lt {w : World} {e : TypeId} {v : Value} {n g : Nat} {xs : List Value} (h : w.ownsRow 0 e 1 v n xs) (hg : v.ownBlock = some g) : g < w.heap.size := by
  rcases h.2 with ⟨rfl, _⟩ | ⟨g', cap, cur, rfl, _, hb, _⟩
  · simp [Value.ownBlock] at hg
  · simp [Value.ownBlock] at hg
    subst hg
    exact (Array.getElem?_eq_some_iff.1 hb).1

theorem NestS.grow {w wr wx : World} {va vs : Value} {X : List Int} {Y : List Nat} (h : NestS w wr va vs X Y) (hg : Grows wr wx) : NestS w wx va vs X Y :=
  ⟨h.grows.trans hg, owns_kept h.ra hg (fun _ _ => trivial), owns_kept h.rs hg (fun _ _ => trivial), h.fa, h.fs, h.ne, h.xr, h.yr, h.lo, h.hi⟩

/-- a = append(a, 0). -/
theorem NestS.pushA {w wr w' : World} {va vs : Value} {X : List Int} {Y : List Nat} {a' : Option Addr} {c' : Nat} (h : NestS w wr va vs X Y) (hlen : X.length < 256)
    (ho : w'.ownsRow 0 38 1 (.slice a' (X.length + 1) c') (X.length + 1) (X.map (Value.int .u64) ++ [.int .u64 0])) (hk : Kept (fun k => some k ≠ va.ownBlock) wr w')
    (hb : (Value.slice a' (X.length + 1) c').ownBlock = va.ownBlock ∨ ∃ g, wr.heap.size ≤ g ∧ (Value.slice a' (X.length + 1) c').ownBlock = some g) : NestS w w' (.slice a' (X.length + 1) c') vs (X ++ [0]) Y := by
  have hsz := h.grows.size
  refine ⟨h.grows.then hk (fun i hi _ e => by have := h.fa i e.symm; omega), by simpa using ho, owns_kept h.rs hk (fun g hg e => h.ne g e.symm hg), fun g hg => ?_, h.fs, fun g hg => ?_, fun x hx => ?_, fun y hy => by have := h.yr y hy; simp; omega, by simp, by simp; omega⟩
  · rcases hb with e | ⟨g2, h2, e⟩
    · exact h.fa g (by rw [← e]; exact hg)
    · rw [e] at hg; injection hg with hg; omega
  · rcases hb with e | ⟨g2, h2, e⟩
    · exact h.ne g (by rw [← e]; exact hg)
    · intro hs
      have := owns_lt h.rs hs
      rw [e] at hg; injection hg with hg; omega
  · rcases List.mem_append.1 hx with hx | hx
    · exact h.xr x hx
    · simp at hx; subst hx; decide

/-- slot = append(slot, y). -/
theorem NestS.pushS {w wr w' : World} {va vs : Value} {X : List Int} {Y : List Nat} {a' : Option Addr} {c' y : Nat} (h : NestS w wr va vs X Y) (hy : y < X.length)
    (ho : w'.ownsRow 0 3 1 (.slice a' (Y.length + 1) c') (Y.length + 1) (intsOf Y ++ [.int .i64 (y : Int)])) (hk : Kept (fun k => some k ≠ vs.ownBlock) wr w')
    (hb : (Value.slice a' (Y.length + 1) c').ownBlock = vs.ownBlock ∨ ∃ g, wr.heap.size ≤ g ∧ (Value.slice a' (Y.length + 1) c').ownBlock = some g) : NestS w w' va (.slice a' (Y.length + 1) c') X (Y ++ [y]) := by
  have hsz := h.grows.size
  refine ⟨h.grows.then hk (fun i hi _ e => by have := h.fs i e.symm; omega), owns_kept h.ra hk (fun g hg e => h.ne g hg e.symm), by simpa [intsOf] using ho, h.fa, fun g hg => ?_, fun g hg => ?_, h.xr, fun z hz => ?_, h.lo, h.hi⟩
  · rcases hb with e | ⟨g2, h2, e⟩
    · exact h.fs g (by rw [← e]; exact hg)
    · rw [e] at hg; injection hg with hg; omega
  · rcases hb with e | ⟨g2, h2, e⟩
    · rw [e]; exact h.ne g hg
    · have := owns_lt h.ra hg
      rw [e]
      intro e2
      injection e2 with e2
      omega
  · rcases List.mem_append.1 hz with hz | hz
    · exact h.yr z hz
    · simp at hz; subst hz; exact hy

/-- slot = nil. -/
theorem NestS.nil {w wr : World} {va vs : Value} {X : List Int} {Y : List Nat} (h : NestS w wr va vs X Y) : NestS w wr va (.slice none 0 0) X [] :=
  ⟨h.grows, h.ra, World.ownsRow_nil _ _ _ _, h.fa, fun g hg => by simp [Value.ownBlock] at hg, fun g _ hg => by simp [Value.ownBlock] at hg, h.xr, fun y hy => by simp at hy, h.lo, h.hi⟩

theorem NestS.formA {w wr : World} {va vs : Value} {X : List Int} {Y : List Nat} (h : NestS w wr va vs X Y) : ∃ g c, va = .slice (some ⟨g, 0, none⟩) X.length c := by
  obtain ⟨g, c, h1, _⟩ := h.ra.form h.lo
  exact ⟨g, c, h1⟩
theorem NestS.formS {w wr : World} {va vs : Value} {X : List Int} {Y : List Nat} (h : NestS w wr va vs X Y) (hY : 0 < Y.length) : ∃ g c, vs = .slice (some ⟨g, 0, none⟩) Y.length c ∧ Y.length ≤ c := by
  rcases h.rs.2 with ⟨_, h0⟩ | ⟨g, cap, cur, h1, _, _, h2, _⟩
  · omega
  · exact ⟨g, cap, h1, h2⟩

/-- a[i] = z. -/
theorem NestS.setA {w wr : World} {vs : Value} {X : List Int} {Y : List Nat} {g c i : Nat} {z : Int} (h : NestS w wr (.slice (some ⟨g, 0, none⟩) X.length c) vs X Y) (hi : i < X.length) (hz : 0 ≤ z ∧ z < 18446744073709551616) :
    NestS w (wr.setCell ⟨g, i, none⟩ (.int .u64 z)) (.slice (some ⟨g, 0, none⟩) X.length c) vs (X.set i z) Y := by
  have hgf : w.heap.size ≤ g := h.fa g rfl
  refine ⟨h.grows.setCell (.inl hgf) _, ?_, owns_kept h.rs ((Kept.refl (fun k => k ≠ g) _).setCell (.inr (fun h => h rfl)) _) (fun g2 hg2 e => h.ne g rfl (by rw [hg2, e])), h.fa, h.fs, h.ne, fun x hx => ?_, fun y hy => by rw [List.length_set]; exact h.yr y hy, by rw [List.length_set]; exact h.lo, by rw [List.length_set]; exact h.hi⟩
  · have := (h.ra.stored i (.int .u64 z)).1
    rw [List.length_set, List.map_set]
    exact this
  · rcases List.mem_or_eq_of_mem_set hx with hx | hx
    · exact h.xr x hx
    · rw [hx]; exact hz

theorem NestS.cellA {w wr : World} {vs : Value} {X : List Int} {Y : List Nat} {g c i : Nat} (h : NestS w wr (.slice (some ⟨g, 0, none⟩) X.length c) vs X Y) (hi : i < X.length) : (∃ x, wr.cell? ⟨g, i, none⟩ = some (.int .u64 x)) ∧ wr.frozen? ⟨g, i, none⟩ = false := by
  refine ⟨⟨X[i], ?_⟩, h.ra.frozenAt i⟩
  rw [h.ra.cellAt i (by omega)]
  simp [hi]
theorem NestS.cellS {w wr : World} {va : Value} {X : List Int} {Y : List Nat} {g c i : Nat} (h : NestS w wr va (.slice (some ⟨g, 0, none⟩) Y.length c) X Y) (hi : i < Y.length) : wr.cell? ⟨g, i, none⟩ = some (.int .i64 (Y[i] : Int)) := by
  rw [h.rs.cellAt i (by omega)]
  simp [intsOf, hi]

theorem idxA (r : Nat) (hr : r < 4) : ∃ t : Nat, 1 ≤ t ∧ t ≤ 128 ∧ ∀ w : World, (Instr.index 106 (.agg #[.int .i64 1, .int .i64 2, .int .i64 8, .int .i64 128]) (.int .i64 (r : Int))).run Facg.prog w = .ok (.int .i64 t) w := by
  have : r = 0 ∨ r = 1 ∨ r = 2 ∨ r = 3 := by omega
  rcases this with rfl | rfl | rfl | rfl
  · exact ⟨1, by decide, by decide, fun w => by kernel_rfl⟩
  · exact ⟨2, by decide, by decide, fun w => by kernel_rfl⟩
  · exact ⟨8, by decide, by decide, fun w => by kernel_rfl⟩
  · exact ⟨128, by decide, by decide, fun w => by kernel_rfl⟩
theorem idxB (r : Nat) (hr : r < 4) : ∃ t : Nat, 1 ≤ t ∧ t ≤ 128 ∧ ∀ w : World, (Instr.index 106 (.agg #[.int .i64 1, .int .i64 2, .int .i64 3, .int .i64 8]) (.int .i64 (r : Int))).run Facg.prog w = .ok (.int .i64 t) w := by
  have : r = 0 ∨ r = 1 ∨ r = 2 ∨ r = 3 := by omega
  rcases this with rfl | rfl | rfl | rfl
  · exact ⟨1, by decide, by decide, fun w => by kernel_rfl⟩
  · exact ⟨2, by decide, by decide, fun w => by kernel_rfl⟩
  · exact ⟨3, by decide, by decide, fun w => by kernel_rfl⟩
  · exact ⟨8, by decide, by decide, fun w => by kernel_rfl⟩
end Go.Proofs.Ygcfac
