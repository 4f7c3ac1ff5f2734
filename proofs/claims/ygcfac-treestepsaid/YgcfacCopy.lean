/-
  'append([]T(nil), xs...)': a copy. And what a slice of integers that is only read looks like.
-/
import Derived.Test.YgcfacMem
namespace Go.Proofs.Ygcfac
open Go.RowKit

/-- A slice value whose elements are the integers xs. -/
def Ints (w : World) (k : IntKind) (v : Value) (xs : List Int) : Prop :=
  ∃ a c, v = .slice a xs.length c ∧ xs.length ≤ c ∧ c ≤ maxLen ∧ (∀ x ∈ xs, (Lit.int k x).wf = true) ∧
    (xs ≠ [] → ∃ b o, a = some ⟨b, o, none⟩ ∧ ∀ j, j < xs.length → w.cell? ⟨b, o + j, none⟩ = some (.int k (xs.getD j 0)))

/-- All that was there is as it was. -/
abbrev Grows (w w' : World) : Prop := Kept (fun _ => True) w w'

theorem Grows.cells {w w' : World} (h : Grows w w') (b o : Nat) (hb : b < w.heap.size) : w'.cell? ⟨b, o, none⟩ = w.cell? ⟨b, o, none⟩ := World.cell?_of_block (a := ⟨b, o, none⟩) (h.block b hb trivial)
theorem Grows.frozens {w w' : World} (h : Grows w w') (b o : Nat) (hb : b < w.heap.size) : w'.frozen? ⟨b, o, none⟩ = w.frozen? ⟨b, o, none⟩ := World.frozen?_of_block (a := ⟨b, o, none⟩) (h.block b hb trivial)
theorem Grows.of_below {w w' : World} (h : Below w.heap.size w w') : Grows w w' := Kept.of_below h (fun _ hk _ => hk)
theorem Grows.below {w w' : World} (h : Grows w w') : Below w.heap.size w w' := Kept.below h (fun _ _ => trivial)

theorem Ints.grows {w w' : World} {k : IntKind} {v : Value} {xs : List Int} (h : Ints w k v xs) (hg : Grows w w') : Ints w' k v xs := by
  obtain ⟨a, c, rfl, hc, hm, hw, hr⟩ := h
  refine ⟨a, c, rfl, hc, hm, hw, fun hne => ?_⟩
  obtain ⟨b, o, rfl, hcell⟩ := hr hne
  exact ⟨b, o, rfl, fun j hj => hg.cell (hcell j hj) trivial⟩

/-- A row of the call's own, read. -/
theorem Ints.of_owns {w : World} {e : TypeId} {k : IntKind} {v : Value} {n : Nat} {xs : List Int} (h : w.ownsRow 0 e 1 v n (xs.map (Value.int k))) (hw : ∀ x ∈ xs, (Lit.int k x).wf = true) : Ints w k v xs := by
  have hl : xs.length = n := by simpa using h.1
  rcases h.2 with ⟨rfl, rfl⟩ | ⟨g, cap, cur, rfl, hb, hg, hnc, hcm, hcs, htake⟩
  · have : xs = [] := List.eq_nil_of_length_eq_zero hl
    subst this
    exact ⟨none, 0, rfl, Nat.le_refl _, by decide, by simp, fun h => absurd rfl h⟩
  · refine ⟨some ⟨g, 0, none⟩, cap, by rw [hl], by omega, hcm, hw, fun _ => ⟨g, 0, rfl, fun j hj => ?_⟩⟩
    have hc := h.cells (g := g) rfl j (.int k (xs.getD j 0)) (by simp [List.getElem?_eq_getElem hj])
    have hadd : (⟨g, 0, none⟩ : Addr).add j = ⟨g, 0 + j, none⟩ := by unfold Addr.add; split <;> simp_all
    rw [hadd] at hc
    exact hc

theorem run_copyapp {P : Program} (w : World) (t ty e : TypeId) (z : Value) (bytes : Nat) (ht : P.underlying t = some (.slice e)) (hi : (P.info? e).map (fun i => (i.zero, i.size, i.bytes)) = some (some z, 1, bytes)) (hzs : z.cells.size = 1)
    (k : IntKind) (v : Value) (xs : List Int) (hv : Ints w k v xs) (hbytes : xs.length * bytes ≤ 140737488355328) :
    ∃ v' w', (Builtin.append_ #[t, t] ty #[.slice none 0 0, v]).run P w = .ok v' w' ∧ w'.ownsRow 0 e 1 v' xs.length (xs.map (Value.int k)) ∧ Grows w w' ∧ ∀ g, v'.ownBlock = some g → w.heap.size ≤ g := by
  obtain ⟨a, c, rfl, hc, hm, _, hr⟩ := hv
  obtain ⟨i, hi, hz, hsize, hby⟩ := info_parts hi
  by_cases hx : xs = []
  · subst hx
    refine ⟨.slice none 0 0, w, ?_, World.ownsRow_nil _ _ _ _, Kept.refl _ _, by simp [Value.ownBlock]⟩
    cases a with
    | none => simp [Builtin.append_, run_underlying ht, sizeOf, typeInfo, hi, Builtin.lenOf, Builtin.firstCells]
    | some ad => simp [Builtin.append_, run_underlying ht, sizeOf, typeInfo, hi, Builtin.lenOf, Builtin.firstCells, loadCells, loadCellsFrom]
  · obtain ⟨b, o, rfl, hcell⟩ := hr hx
    obtain ⟨v', w', hrun, ho, hk, hp⟩ := run_app (P := P) w t ty e i z 1 bytes ht hi hz hsize hby hzs (by decide) (.slice none 0 0) 0 [] (World.ownsRow_nil _ _ _ _) ⟨b, o, none⟩ xs.length c (xs.map (Value.int k)) (by simp)
      (fun j u hu => by
        have hj : j < xs.length := by
          rcases Nat.lt_or_ge j xs.length with h | h
          · exact h
          · simp [List.getElem?_eq_none h] at hu
        have hadd : (⟨b, o, none⟩ : Addr).add j = ⟨b, o + j, none⟩ := by unfold Addr.add; split <;> simp_all
        rw [hadd, hcell j hj]
        simpa [List.getElem?_eq_getElem hj] using hu) (fun u hu => by obtain ⟨x, _, rfl⟩ := List.mem_map.1 hu; rfl) (by simp only [maxLen] at *; omega) (by simpa using hbytes)
    refine ⟨v', w', hrun, by simpa using ho, hk.mono (fun _ _ _ => by simp [Value.ownBlock]), fun g hg => ?_⟩
    rcases hp with e | ⟨g', hg', e⟩
    · rw [e] at hg; simp [Value.ownBlock] at hg
    · rw [hg] at e; injection e with e; omega

theorem wp_copyapp {P : Program} (w : World) {o : Oper} {a : Act} {K : Act → World → Prop} {Q : Exit → Act → World → Prop} (x : Operand) (t : TypeId)
    (ho : o.op = .call { callee := .builtin .append, args := #[.const (.slice none 0 0), x], argTypes := #[t, t] })
    (e : TypeId) (z : Value) (bytes : Nat) (ht : P.underlying t = some (.slice e)) (hi : (P.info? e).map (fun i => (i.zero, i.size, i.bytes)) = some (some z, 1, bytes)) (hzs : z.cells.size = 1)
    (k : IntKind) (v : Value) (xs : List Int) (hx : a.eval x = v) (hv : Ints w k v xs) (hbytes : xs.length * bytes ≤ 140737488355328)
    (h : ∀ a' c' w', w'.ownsRow 0 e 1 (.slice a' xs.length c') xs.length (xs.map (Value.int k)) → Grows w w' → (∀ g, (Value.slice a' xs.length c').ownBlock = some g → w.heap.size ≤ g) → K (a.put o.dst (.slice a' xs.length c')) w') : o.wp P a w K Q := by
  obtain ⟨v', w', hr, h2, h3, h4⟩ := run_copyapp (P := P) w t o.type e z bytes ht hi hzs k v xs hv hbytes
  have hn : a.eval (.const (.slice none 0 0)) = .slice none 0 0 := rfl
  unfold Oper.wp execOp
  simp only [ho, resolve, invoke, builtin, Sem.run_bind, Sem.run_pure, Result.andThen_ok, List.map_toArray, List.map_cons, List.map_nil, hx, hn, hr]
  obtain ⟨a', c', rfl⟩ := owns_slice h2
  exact h a' c' w' h2 h3 h4

theorem wpList_copyapp {P : Program} (w : World) {ops : Array Oper} {rest : List Oper} {o : Oper} {a : Act} {Q : Exit → Act → World → Prop} (hgd : o.guard = none) (x : Operand) (t : TypeId)
    (ho : o.op = .call { callee := .builtin .append, args := #[.const (.slice none 0 0), x], argTypes := #[t, t] })
    (e : TypeId) (z : Value) (bytes : Nat) (ht : P.underlying t = some (.slice e)) (hi : (P.info? e).map (fun i => (i.zero, i.size, i.bytes)) = some (some z, 1, bytes)) (hzs : z.cells.size = 1)
    (k : IntKind) (v : Value) (xs : List Int) (hx : a.eval x = v) (hv : Ints w k v xs) (hbytes : xs.length * bytes ≤ 140737488355328)
    (h : ∀ a' c' w', w'.ownsRow 0 e 1 (.slice a' xs.length c') xs.length (xs.map (Value.int k)) → Grows w w' → (∀ g, (Value.slice a' xs.length c').ownBlock = some g → w.heap.size ≤ g) → wpList P ops Q rest (a.put o.dst (.slice a' xs.length c')) w') : wpList P ops Q (o :: rest) a w :=
  wpList_plain hgd fun _ hK => wp_copyapp w x t ho e z bytes ht hi hzs k v xs hx hv hbytes fun a' c' w' h1 h2 h3 => hK _ _ (h a' c' w' h1 h2 h3)

theorem step_copyapp {P : Program} (w : World) {ops : Array Oper} {o : Oper} {a : Act} {K : Act → World → Prop} {Q : Exit → Act → World → Prop} {E : Prop} (hgd : o.guard = none) (x : Operand) (t : TypeId)
    (ho : o.op = .call { callee := .builtin .append, args := #[.const (.slice none 0 0), x], argTypes := #[t, t] })
    (e : TypeId) (z : Value) (bytes : Nat) (ht : P.underlying t = some (.slice e)) (hi : (P.info? e).map (fun i => (i.zero, i.size, i.bytes)) = some (some z, 1, bytes)) (hzs : z.cells.size = 1)
    (k : IntKind) (v : Value) (xs : List Int) (hx : a.eval x = v) (hv : Ints w k v xs) (hbytes : xs.length * bytes ≤ 140737488355328)
    (h : ∀ a' c' w', w'.ownsRow 0 e 1 (.slice a' xs.length c') xs.length (xs.map (Value.int k)) → Grows w w' → (∀ g, (Value.slice a' xs.length c').ownBlock = some g → w.heap.size ≤ g) → K (a.put o.dst (.slice a' xs.length c')) w') :
    if Region.wanted o (yielded ops a.tmps) = true then Oper.wp P o a w K Q else E := by
  rw [if_pos (by simp [Region.wanted, hgd])]
  exact wp_copyapp w x t ho e z bytes ht hi hzs k v xs hx hv hbytes h
end Go.Proofs.Ygcfac
