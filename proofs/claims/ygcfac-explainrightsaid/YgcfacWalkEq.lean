import Derived.Test.YgcfacMidLaw
import Derived.DeepKeys
namespace Go.Proofs.Ygcfac
open Go.RowKit
set_option linter.unusedVariables false

theorem alloc81 : ∃ zs : Array Value, zs.size = 517 ∧ ∀ w, (Instr.alloc 81 true (.tuple #[])).run Facg.prog w = .ok (.pointer (some ⟨w.heap.size, 0, none⟩)) (w.alloc (.cells zs 81)) := by
  have hi : (Facg.prog.info? 81).map (fun i => i.zero.map (fun z => z.cells.size)) = some (some 517) := by kernel_rfl
  cases hq : Facg.prog.info? 81 with
  | none => rw [hq] at hi; cases hi
  | some i =>
    rw [hq] at hi
    cases hz : i.zero with
    | none => simp [hz] at hi
    | some z =>
      simp [hz] at hi
      refine ⟨z.cells, hi, fun w => ?_⟩
      simp [Instr.alloc, zeroValue, typeInfo, hq, hz, newVar, newRow, go_sem]

/-- The 517 cells of a valid.Walk. -/
structure WalkCells (cs : Array Value) (S A D : Nat → Nat) (sp : Nat) : Prop where
  size : cs.size = 517
  set : ∀ j, j < 4 → cs[j]? = some (.int .u64 (S j))
  ats : ∀ k, k < 256 → cs[4 + k * 2]? = some (.int .u16 (A k))
  dep : ∀ k, k < 256 → cs[4 + k * 2 + 1]? = some (.int .u8 (D k))
  sp : cs[516]? = some (.int .u16 sp)

/-! ### '==' of a Walk with itself -/
theorem eqItems_refl {P : Program} (w : World) (d : Nat) (e : TypeId) (n : Nat) (xs : Array Value) : ∀ is : List Nat, (∀ i ∈ is, ∃ a, (part e xs (i * n)).run P w = .ok a w ∧ (Op.equalIn d e a a).run P w = .ok true w) →
    (Op.eqItems d e n xs xs is).run P w = .ok true w
  | [], _ => by simp [Op.eqItems]
  | i :: is, h => by
    obtain ⟨a, h1, h2⟩ := h i (by simp)
    simp only [Op.eqItems, Sem.run_bind, h1, h2, Result.andThen_ok]
    simpa using eqItems_refl w d e n xs is (fun j hj => h j (by simp [hj]))

theorem eqFields_refl {P : Program} (w : World) (d : Nat) (xs : Array Value) : ∀ fs : List Field, (∀ f ∈ fs, ∃ a, (part f.type xs f.offset).run P w = .ok a w ∧ (Op.equalIn d f.type a a).run P w = .ok true w) →
    (Op.eqFields d xs xs fs).run P w = .ok true w
  | [], _ => by simp [Op.eqFields]
  | f :: fs, h => by
    obtain ⟨a, h1, h2⟩ := h f (by simp)
    have ih := eqFields_refl w d xs fs (fun g hg => h g (by simp [hg]))
    by_cases hn : f.name = "_"
    · simp [Op.eqFields, hn, ih]
    · simp [Op.eqFields, hn, Sem.run_bind, h1, h2, ih]

theorem part_cell (w : World) (t : TypeId) (k : IntKind) (ht : Facg.prog.underlying t = some (.int k)) (xs : Array Value) (o : Nat) (v : Value) (h : xs[o]? = some v) : (part t xs o).run Facg.prog w = .ok v w := by
  have hagg : (isAgg t).run Facg.prog w = .ok false w := by
    unfold isAgg
    rw [Sem.run_bind, run_underlying ht w]
    simp
  simp [part, Sem.run_bind, hagg, h]

theorem part_agg (w : World) (t : TypeId) (dd : TypeDesc) (n : Nat) (ht : Facg.prog.underlying t = some dd) (hd : dd.isRow = true) (hs : (Facg.prog.info? t).map (·.size) = some n) (xs : Array Value) (o : Nat) : (part t xs o).run Facg.prog w = .ok (.agg (xs.extract o (o + n))) w := by
  have hagg : (isAgg t).run Facg.prog w = .ok true w := by
    unfold isAgg
    rw [Sem.run_bind, run_underlying ht w]
    cases dd <;> simp_all
  cases hq : Facg.prog.info? t with
  | none => simp [hq] at hs
  | some i =>
    have : i.size = n := by simpa [hq] using hs
    simp [part, Sem.run_bind, hagg, sizeOf, typeInfo, hq, this]

theorem equal_int (w : World) (d : Nat) (t : TypeId) (k : IntKind) (ht : Facg.prog.underlying t = some (.int k)) (x : Int) : (Op.equalIn (d + 1) t (.int k x) (.int k x)).run Facg.prog w = .ok true w := by
  rw [run_equalIn_int w d t k k x x ht]; simp

theorem equal78 (w : World) (d : Nat) (xs : Array Value) (a b : Int) (h0 : xs[0]? = some (.int .u16 a)) (h1 : xs[1]? = some (.int .u8 b)) : (Op.equalIn (d + 2) 78 (.agg xs) (.agg xs)).run Facg.prog w = .ok true w := by
  have hS : Facg.prog.underlying 78 = some (.struct (Facg.prog.fieldsOf 78)) := by kernel_rfl
  have hp : Facg.prog.stoodInHeld 78 = false := by kernel_rfl
  rw [run_equalIn_struct w (d + 1) 78 _ _ hS hp]
  simp only [Program.fieldsOf, Facg.underlying78]
  simp [Op.eqFields, part_cell w 24 .u16 Facg.underlying24 xs 0 _ h0, part_cell w 5 .u8 Facg.underlying5 xs 1 _ h1, equal_int w d 24 .u16 Facg.underlying24, equal_int w d 5 .u8 Facg.underlying5]

theorem info76 : (Facg.prog.info? 76).map (·.size) = some 4 := by kernel_rfl
theorem info79 : (Facg.prog.info? 79).map (·.size) = some 512 := by kernel_rfl
theorem info78s : (Facg.prog.info? 78).map (·.size) = some 2 := by kernel_rfl

theorem equal76 (w : World) (d : Nat) (xs : Array Value) (f : Nat → Int) (h : ∀ i, i < 4 → xs[i]? = some (.int .u64 (f i))) : (Op.equalIn (d + 2) 76 (.agg xs) (.agg xs)).run Facg.prog w = .ok true w := by
  have hc : Facg.prog.cellsOf 38 = 1 := by kernel_rfl
  obtain ⟨i, hi, _⟩ := info_parts info38
  rw [run_equalIn_array w (d + 1) xs xs Facg.underlying76 hi]
  refine eqItems_refl w _ _ _ _ _ (fun j hj => ?_)
  rw [hc, Nat.mul_one]
  exact ⟨_, part_cell w 38 .u64 Facg.underlying38 xs j _ (h j (List.mem_range.1 hj)), equal_int w d 38 .u64 Facg.underlying38 _⟩

theorem equal79 (w : World) (d : Nat) (xs : Array Value) (f g : Nat → Int) (hsz : xs.size = 512) (h : ∀ i, i < 256 → xs[i * 2]? = some (.int .u16 (f i)) ∧ xs[i * 2 + 1]? = some (.int .u8 (g i))) : (Op.equalIn (d + 3) 79 (.agg xs) (.agg xs)).run Facg.prog w = .ok true w := by
  have hc : Facg.prog.cellsOf 78 = 2 := by kernel_rfl
  obtain ⟨i, hi⟩ : ∃ i, Facg.prog.info? 78 = some i := info_of_underlying Facg.underlying78
  rw [run_equalIn_array w (d + 2) xs xs Facg.underlying79 hi]
  refine eqItems_refl w _ _ _ _ _ (fun j hj => ?_)
  rw [hc]
  have hj := List.mem_range.1 hj
  obtain ⟨h1, h2⟩ := h j hj
  refine ⟨_, part_agg w 78 _ 2 Facg.underlying78 rfl info78s xs (j * 2), equal78 w d _ (f j) (g j) ?_ ?_⟩
  · rw [Array.getElem?_extract]
    simp [hsz]
    exact ⟨by omega, h1⟩
  · rw [Array.getElem?_extract]
    simp [hsz]
    exact ⟨by omega, h2⟩

theorem extract_get {xs : Array Value} {o n i : Nat} {v : Value} (hn : i < n) (h : xs[o + i]? = some v) : (xs.extract o (o + n))[i]? = some v := by
  have hlt : o + i < xs.size := (Array.getElem?_eq_some_iff.1 h).1
  rw [Array.getElem?_extract, if_pos (by omega)]
  exact h

theorem equal81 (w : World) {cs : Array Value} {S A D : Nat → Nat} {sp : Nat} (h : WalkCells cs S A D sp) : (binOp .eql 81 (.agg cs) (.agg cs)).run Facg.prog w = .ok (.bool true) w := by
  have hS : Facg.prog.underlying 81 = some (.struct (Facg.prog.fieldsOf 81)) := by kernel_rfl
  have hp : Facg.prog.stoodInHeld 81 = false := by kernel_rfl
  rw [run_eql_struct, show (10000 : Nat) = 9996 + 3 + 1 from rfl, run_equalIn_struct w (9996 + 3) 81 _ _ hS hp]
  simp only [Program.fieldsOf, Facg.underlying81]
  have e0 := equal76 w (9996 + 1) (cs.extract 0 (0 + 4)) (fun j => S j) (fun i hi => extract_get hi (by rw [Nat.zero_add]; exact h.set i hi))
  have e1 := equal79 w 9996 (cs.extract 4 (4 + 512)) (fun j => A j) (fun j => D j) (by rw [Array.size_extract, h.size]; decide) (fun i hi => ⟨extract_get (by omega) (h.ats i hi), extract_get (by omega) (h.dep i hi)⟩)
  have e2 := equal_int w (9996 + 2) 24 .u16 Facg.underlying24 sp
  rw [eqFields_refl w _ cs _ (fun f hf => ?_)]
  · rfl
  · simp only [List.mem_cons, List.not_mem_nil, or_false] at hf
    rcases hf with rfl | rfl | rfl
    · exact ⟨_, part_agg w 76 _ 4 Facg.underlying76 rfl info76 cs 0, e0⟩
    · exact ⟨_, part_agg w 79 _ 512 Facg.underlying79 rfl info79 cs 4, e1⟩
    · exact ⟨_, part_cell w 24 .u16 Facg.underlying24 cs 516 _ h.sp, e2⟩
end Go.Proofs.Ygcfac
