import Derived.Test.YgcfacObjs
import Derived.Test.YgcfacStart
namespace Go.Proofs.Ygcfac
open Go.RowKit
set_option linter.unusedVariables false

/-- The entries of a walk's stack, and whether all that hangs there can be claimed. -/
def stkE (A D : Nat → Nat) (sp : Nat) : List (Nat × Nat) := (List.range sp).map fun k => (A k, D k)
theorem stkE_succ (A D : Nat → Nat) (t : Nat) : stkE A D (t + 1) = stkE A D t ++ [(A t, D t)] := by simp [stkE, List.range_succ]
def Acc (f : Nat → Int) (n : Nat) (T : Nat → Prop) (E : List (Nat × Nat)) : Prop := ∃ l, allF (fun e : Nat × Nat => objsF f n (8 - e.2) e.1) E = some l ∧ OKs T l

theorem objs_none {f : Nat → Int} {n d i : Nat} (h : resolveI f n i = none) : objsF f n d i = none := by
  cases d <;> simp [objsF, h]
theorem objs_null {f : Nat → Int} {n d i : Nat} {q : P} (h : resolveI f n i = some q) (hk : q.kind = 0) : objsF f n d i = some [] := by
  cases d <;> simp [objsF, h, hk]
theorem objs_succ {f : Nat → Int} {n d i : Nat} {q : P} (h : resolveI f n i = some q) (hk : ¬ q.kind = 0) : objsF f n (d + 1) i = if paddedI f n q = true then (allF (objsF f n d) (slotsL q)).map (q :: ·) else none := by
  simp [objsF, h, hk]
theorem objs_deep {f : Nat → Int} {n i : Nat} {q : P} (h : resolveI f n i = some q) (hk : ¬ q.kind = 0) : objsF f n 0 i = none := by
  simp [objsF, h, hk]

theorem stkE_ok (A D : Nat → Nat) (t d : Nat) (l : List Nat) : stkE (appA A t l) (pushD D t d l.length) (t + l.length) = stkE A D t ++ l.map fun s => (s, d) := by
  apply List.ext_getElem?
  intro i
  unfold stkE
  rw [List.getElem?_append]
  simp only [List.length_map, List.length_range]
  by_cases h1 : i < t
  · rw [if_pos h1, List.getElem?_map, List.getElem?_map, List.getElem?_range (by omega), List.getElem?_range h1]
    simp only [Option.map_some]
    unfold appA pushD
    rw [if_neg (by omega), if_neg (by omega)]
  · rw [if_neg h1]
    by_cases h2 : i < t + l.length
    · rw [List.getElem?_map, List.getElem?_range h2, List.getElem?_map, List.getElem?_eq_getElem (show i - t < l.length by omega)]
      simp only [Option.map_some]
      unfold appA pushD
      rw [if_pos (by omega), if_pos (by omega), List.getD_eq_getElem?_getD, List.getElem?_eq_getElem (show i - t < l.length by omega)]
      rfl
    · rw [List.getElem?_eq_none (by simp; omega), List.getElem?_eq_none (by simp; omega)]

theorem acc_split {f : Nat → Int} {n : Nat} {T : Nat → Prop} {R : List (Nat × Nat)} {e : Nat × Nat} : Acc f n T (R ++ [e]) ↔ ∃ l m, allF (fun e : Nat × Nat => objsF f n (8 - e.2) e.1) R = some l ∧ objsF f n (8 - e.2) e.1 = some m ∧ OKs T (l ++ m) := by
  unfold Acc
  constructor
  · rintro ⟨x, h1, h2⟩
    obtain ⟨l, m, a1, a2, rfl⟩ := allF_append.1 h1
    exact ⟨l, m, a1, allF_one.1 a2, h2⟩
  · rintro ⟨l, m, a1, a2, h2⟩
    exact ⟨l ++ m, allF_append.2 ⟨l, m, a1, allF_one.2 a2, rfl⟩, h2⟩

theorem step_acc {f : Nat → Int} {n : Nat} {S A D : Nat → Nat} {t : Nat} {ok : Bool} {S' A' D' : Nat → Nat} {sp' : Nat} (hs : VStepR f n S A D (t + 1) ok S' A' D' sp') :
    (ok = true → (Acc f n (fun p => mem S p = true) (stkE A D (t + 1)) ↔ Acc f n (fun p => mem S' p = true) (stkE A' D' sp'))) ∧ (ok = false → ¬ Acc f n (fun p => mem S p = true) (stkE A D (t + 1))) := by
  rw [stkE_succ]
  cases hs using VStepR.ways with
  | bad h =>
    replace h : resolveI f n (A t) = none := h
    refine ⟨fun h => (by cases h), fun _ => ?_⟩
    rw [acc_split]
    rintro ⟨l, m, _, a2, _⟩
    simp only at a2
    rw [objs_none h] at a2
    cases a2
  | null q h hk =>
    replace h : resolveI f n (A t) = some q := h
    refine ⟨fun _ => ?_, fun h => (by cases h)⟩
    rw [acc_split]
    constructor
    · rintro ⟨l, m, a1, a2, h2⟩
      simp only at a2
      rw [objs_null h hk] at a2
      injection a2 with a2
      subst a2
      exact ⟨l, a1, by simpa using h2⟩
    · rintro ⟨l, a1, h2⟩
      exact ⟨l, [], a1, objs_null h hk, by simpa using h2⟩
  | deep q h hk hd =>
    replace h : resolveI f n (A t) = some q := h
    refine ⟨fun h => (by cases h), fun _ => ?_⟩
    rw [acc_split]
    rintro ⟨l, m, _, a2, _⟩
    simp only [Nat.add_sub_cancel] at hd a2
    rw [show 8 - D t = 0 by omega, objs_deep h hk] at a2
    cases a2
  | shared q _ h hk hd hc =>
    replace h : resolveI f n (A t) = some q := h
    refine ⟨fun h => (by cases h), fun _ => ?_⟩
    rw [acc_split]
    rintro ⟨l, m, _, a2, h2⟩
    simp only [Nat.add_sub_cancel] at hd a2
    rw [show 8 - D t = (7 - D t) + 1 by omega, objs_succ h hk] at a2
    split at a2
    · rw [Option.map_eq_some_iff] at a2
      obtain ⟨sub, _, rfl⟩ := a2
      rw [OKs_swap] at h2
      obtain ⟨p, p1, p2, p3⟩ := hc.2.2.2 rfl
      exact h2.1 p ⟨p1, p2⟩ p3
    · cases a2
  | pad q _ h hk hd hc hp =>
    replace h : resolveI f n (A t) = some q := h
    refine ⟨fun h => (by cases h), fun _ => ?_⟩
    rw [acc_split]
    rintro ⟨l, m, _, a2, h2⟩
    simp only [Nat.add_sub_cancel] at hd a2
    rw [show 8 - D t = (7 - D t) + 1 by omega, objs_succ h hk, if_neg (by rw [hp]; simp)] at a2
    cases a2
  | ok q _ h hk hd hc hp =>
    replace h : resolveI f n (A t) = some q := h
    refine ⟨fun _ => ?_, fun h => (by cases h)⟩
    simp only [Nat.add_sub_cancel] at hd ⊢
    rw [stkE_ok, acc_split]
    have hfr : ∀ p, inExt q p → ¬ mem S p = true := fun p hp' => by rw [(hc.2.2.1 rfl p hp'.1 hp'.2).1]; simp
    have hset : ∀ p, (mem S p = true ∨ inExt q p) ↔ mem S' p = true := fun p => by
      constructor
      · rintro (h1 | h1)
        · exact hc.1 p h1
        · exact (hc.2.2.1 rfl p h1.1 h1.2).2
      · intro h1
        rcases hc.2.1 p h1 with h2 | h2
        · exact .inl h2
        · exact .inr h2
    have hslots : allF (fun e : Nat × Nat => objsF f n (8 - e.2) e.1) ((slotsL q).map fun s => (s, D t + 1)) = allF (objsF f n (7 - D t)) (slotsL q) := by
      rw [allF_map]
      simp only
      rw [show 8 - (D t + 1) = 7 - D t by omega]
    constructor
    · rintro ⟨l, m, a1, a2, h2⟩
      simp only at a2
      rw [show 8 - D t = (7 - D t) + 1 by omega, objs_succ h hk, if_pos hp, Option.map_eq_some_iff] at a2
      obtain ⟨sub, a3, rfl⟩ := a2
      rw [OKs_swap] at h2
      exact ⟨l ++ sub, allF_append.2 ⟨l, sub, a1, by rw [hslots]; exact a3, rfl⟩, (OKs_congr hset).1 h2.2⟩
    · rintro ⟨x, h1, h2⟩
      obtain ⟨l, sub, a1, a3, rfl⟩ := allF_append.1 h1
      rw [hslots] at a3
      refine ⟨l, q :: sub, a1, ?_, ?_⟩
      · simp only
        rw [show 8 - D t = (7 - D t) + 1 by omega, objs_succ h hk, if_pos hp, a3]
        rfl
      · rw [OKs_swap]
        exact ⟨hfr, (OKs_congr hset).2 h2⟩

theorem acc_end {f : Nat → Int} {n : Nat} {T : Nat → Prop} {A D : Nat → Nat} : Acc f n T (stkE A D 0) := ⟨[], rfl, trivial⟩

theorem acc_start {f : Nat → Int} {n : Nat} (h1 : 1 ≤ n) (h2 : n ≤ 256) : Acc f n (fun p => mem (fun j => if j = 0 then 1 else 0) p = true) (stkE (fun _ => 0) (fun _ => 0) 1) ↔ ArenaOk f n := by
  have hset : ∀ p, mem (fun j => if j = 0 then 1 else 0) p = true ↔ p = 0 := fun p => by
    unfold mem
    simp only
    by_cases hp : p / 64 = 0
    · rw [if_pos hp, bit_of]
      simp
      by_cases h0 : p % 64 = 0
      · rw [h0]; simp; omega
      · constructor
        · intro h
          exfalso
          have : 2 ≤ 2 ^ (p % 64) := by
            calc 2 = 2 ^ 1 := rfl
              _ ≤ 2 ^ (p % 64) := Nat.pow_le_pow_right (by decide) (by omega)
          rw [Nat.div_eq_of_lt (by omega)] at h
          simp at h
        · intro h; omega
    · rw [if_neg hp]
      simp
      omega
  have hs : stkE (fun _ => 0) (fun _ => 0) 1 = [] ++ [(0, 0)] := rfl
  rw [hs, acc_split]
  unfold ArenaOk
  constructor
  · rintro ⟨l, m, a1, a2, h⟩
    simp [allF] at a1
    subst a1
    exact ⟨h1, h2, m, a2, (OKs_congr hset).1 (by simpa using h)⟩
  · rintro ⟨_, _, m, a2, h⟩
    exact ⟨[], m, rfl, a2, (OKs_congr hset).2 h⟩
end Go.Proofs.Ygcfac
