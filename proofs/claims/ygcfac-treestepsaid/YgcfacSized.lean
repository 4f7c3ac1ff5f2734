/-
  tree.sized.
-/
import Derived.Test.YgcfacKids
import Derived.Deep.OwnRows
import Derived.Laws.CopyOwn
namespace Go.Proofs.Ygcfac
open Go.RowKit
set_option linter.unusedVariables false

/-- The first n of xs, zeros beyond. -/
def sizeL (xs : List Int) (n : Nat) : List Int := (List.range n).map (fun j => xs.getD j 0)

theorem sizeL_length (xs : List Int) (n : Nat) : (sizeL xs n).length = n := by simp [sizeL]
theorem sizeL_getD (xs : List Int) (n j : Nat) : (sizeL xs n).getD j 0 = if j < n then xs.getD j 0 else 0 := by
  unfold sizeL
  by_cases h : j < n
  · rw [List.getD_eq_getElem?_getD, List.getElem?_map, List.getElem?_range h, if_pos h]
    rfl
  · rw [List.getD_eq_getElem?_getD, List.getElem?_map, List.getElem?_eq_none (by simpa using h), if_neg h]
    rfl

theorem made_list (z : Value) (n : Nat) : madeCells #[z] n = (List.replicate n z).toArray := by
  apply Array.ext
  · simp [madeCells]
  · intro i h1 h2
    simp [madeCells, Nat.mod_one]

def SizedP (w : World) (xs : List Int) (n : Nat) (e : Ending) (w' : World) : Prop := ∃ v', e = .returned v' ∧ Grows w w' ∧ Ints w' .u64 v' (sizeL xs n) ∧ ∀ g, v'.ownBlock = some g → w.heap.size ≤ g

theorem sizeL_wf {xs : List Int} {n : Nat} (h : ∀ x ∈ xs, (Lit.int .u64 x).wf = true) : ∀ x ∈ sizeL xs n, (Lit.int .u64 x).wf = true := by
  intro x hx
  unfold sizeL at hx
  obtain ⟨j, _, rfl⟩ := List.mem_map.1 hx
  by_cases hj : j < xs.length
  · exact h _ (by rw [List.getD_eq_getElem?_getD, List.getElem?_eq_getElem hj]; exact List.getElem_mem hj)
  · rw [List.getD_eq_getElem?_getD, List.getElem?_eq_none (by omega)]
    rfl

def copyL (xs : List Int) (n : Nat) : List Value := (xs.take n).map (Value.int .u64)
theorem copyL_len (xs : List Int) (n : Nat) : (copyL xs n).length = Nat.min xs.length n := by
  unfold copyL
  rw [List.length_map, List.length_take]
  exact Nat.min_comm _ _
theorem copyL_one (xs : List Int) (n : Nat) : ∀ u ∈ copyL xs n, u.oneCell' = true := by
  intro u hu
  obtain ⟨x, _, rfl⟩ := List.mem_map.1 hu
  rfl
theorem copyL_fit (xs : List Int) (n : Nat) : 0 + (copyL xs n).length ≤ (List.replicate n (Value.int .u64 0)).length := by
  rw [copyL_len, List.length_replicate]
  have := Nat.min_le_right xs.length n
  have e : Nat.min xs.length n = min xs.length n := rfl
  omega
def Made (w : World) (n : Nat) : World := w.alloc (.cells (madeCells #[.int .u64 0] n) 38)
theorem Made.row (w : World) (n : Nat) : (Made w n).heap[w.heap.size]? = some (.cells (List.replicate n (.int .u64 0)).toArray 38 (0, 0)) := by
  unfold Made
  rw [made_list]
  exact Go.Deep.blk_alloc_new _ _
theorem Made.below (w : World) (n : Nat) : Below w.heap.size w (Made w n) := (Below.refl _ _).alloc (Nat.le_refl _) _
theorem Made.pos {w : World} {a : Option Addr} {xs : List Int} (n : Nat) (hr : xs ≠ [] → ∃ b o, a = some ⟨b, o, none⟩ ∧ ∀ j, j < xs.length → w.cell? ⟨b, o + j, none⟩ = some (.int .u64 (xs.getD j 0))) :
    0 < (copyL xs n).length → (some (⟨w.heap.size, 0, none⟩ : Addr)) = some ⟨w.heap.size, 0, none⟩ ∧ ∃ ad, a = some ad ∧ ∀ j v, (copyL xs n)[j]? = some v → (Made w n).cell? (ad.add j) = some v := by
  intro hp
  have hx : xs ≠ [] := fun e => by
    rw [copyL_len, e] at hp
    have e2 : Nat.min ([] : List Int).length n = min 0 n := rfl
    omega
  obtain ⟨b, o, rfl, hcell⟩ := hr hx
  refine ⟨rfl, _, rfl, fun j v hv => ?_⟩
  have hadd : (⟨b, o, none⟩ : Addr).add j = ⟨b, o + j, none⟩ := by unfold Addr.add; split <;> simp_all
  unfold copyL at hv
  rw [List.getElem?_map] at hv
  obtain ⟨x, hx1, rfl⟩ := Option.map_eq_some_iff.1 hv
  have hj : j < xs.length := by
    have := (List.getElem?_eq_some_iff.1 hx1).1
    rw [List.length_take] at this
    omega
  rw [List.getElem?_take] at hx1
  split at hx1
  · rw [hadd]
    have := hcell j hj
    rw [List.getD_eq_getElem?_getD, hx1] at this
    exact ((Kept.refl (fun _ => True) w).alloc _).cell this trivial
  · cases hx1
theorem sized_ints {w w2 : World} {xs : List Int} {n : Nat} (hn : n ≤ maxLen) (hwf : ∀ x ∈ xs, (Lit.int .u64 x).wf = true) {g : Nat} (h : w2.heap[g]? = some (.cells (splice (List.replicate n (.int .u64 0)) 0 (copyL xs n)).toArray 38 (0, 0))) : Ints w2 .u64 (.slice (some ⟨g, 0, none⟩) n n) (sizeL xs n) := by
  refine ⟨some ⟨g, 0, none⟩, n, by rw [sizeL_length], by rw [sizeL_length]; exact Nat.le_refl _, hn, sizeL_wf hwf, fun _ => ⟨g, 0, rfl, fun j hj => ?_⟩⟩
  rw [sizeL_length] at hj
  rw [sizeL_getD, if_pos hj]
  have : w2.cell? ⟨g, 0 + j, none⟩ = (splice (List.replicate n (Value.int .u64 0)) 0 (copyL xs n))[j]? := by
    rw [Nat.zero_add]
    simp [World.cell?, h]
  rw [this]
  unfold splice copyL
  rw [List.take_zero, List.nil_append, List.getElem?_append, List.length_map, List.length_take]
  split
  · rename_i hlt
    rw [List.getElem?_map, List.getElem?_take, if_pos (by omega), List.getD_eq_getElem?_getD, List.getElem?_eq_getElem (by omega : j < xs.length)]
    rfl
  · rename_i hge
    rw [List.getElem?_drop, List.getElem?_replicate, if_pos (by simp; omega), List.getD_eq_getElem?_getD, List.getElem?_eq_none (by omega)]
    rfl

set_option maxRecDepth 10000 in
theorem sized_any (v : Value) (xs : List Int) (n : Nat) (w : World) (hv : Ints w .u64 v xs) (hn : n ≤ 9223372036854775807) (h8 : 8 * n ≤ 281474976710656) :
    Calls Facg.prog 79 #[v, .int .i64 n] w (SizedP w xs n) := by
  obtain ⟨a, c, rfl, hc, hm, hw, hr⟩ := hv
  by_cases h0 : n = 0
  · subst h0
    go_enter Facg.func79, Facg.ntmps79
    go_wp2
    go_ret
    exact ⟨_, rfl, Kept.refl _ _, ⟨none, 0, rfl, Nat.le_refl _, by decide, by simp [sizeL], fun h => absurd rfl h⟩, fun g h => by simp [Value.ownBlock] at h⟩
  · have hb : ((n : Int) == 0) = false := by rw [beq_eq_false_iff_ne]; omega
    have hmk := run_make_row' (P := Facg.prog) 22 38 (.int .u64 0) 8 Facg.underlying22 info38 rfl .i64 .i64 n h8 hn
    have hmk2 : ∀ w : World, (Instr.makeSlice 22 (.int .i64 n) (.int .i64 n)).run Facg.prog w = .ok (.slice (some ⟨w.heap.size, 0, none⟩) n n) (Made w n) := hmk
    have HR := hide hr
    have HWf := hide hw
    clear hw hr hmk
    have hsz38 : (Facg.prog.info? 38).map (·.size) = some 1 := by kernel_rfl
    go_enter Facg.func79, Facg.ntmps79
    go_wp2_with (refine wpList_copy_splice rfl (.tmp 10) (.tmp 11) 22 22 rfl 38 Facg.underlying22 hsz38 _ _ _ _ _ _ rfl rfl w.heap.size 0 (List.replicate n (.int .u64 0)) 38 (Made.row w n) (copyL xs n) (copyL_len xs n) (Made.pos n HR.out) (copyL_fit xs n) (copyL_one xs n) w.heap.size w (Made.below w n) (Nat.le_refl _) ?_; intro w2 HG2 hB2; have HB2 := hide hB2; clear hB2)

    go_ret
    exact ⟨_, rfl, Grows.of_below HB2.out, sized_ints (w := w) (by unfold maxLen; omega) HWf.out HG2.out, fun g h => by simp [Value.ownBlock] at h; omega⟩
end Go.Proofs.Ygcfac
