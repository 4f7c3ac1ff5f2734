import Derived.Test.YgcfacFault
import Derived.Test.YgcfacClaimed
namespace Go.Proofs.Ygcfac
open Go.RowKit
set_option linter.unusedVariables false

/-! ### What is reached -/
/-- The pointer words that lead on from word 0, by the depth of the object that holds each. -/
def Rch (f : Nat → Int) (n : Nat) : Nat → Nat → Prop
  | 0, p => p = 0
  | d + 1, p => ∃ i q, i < n ∧ Rch f n d i ∧ resolveI f n i = some q ∧ p ∈ slotsL q
def Met (f : Nat → Int) (n p : Nat) : Prop := ∃ d, d ≤ 8 ∧ Rch f n d p

structure Reach (f : Nat → Int) (n : Nat) (S A D : Nat → Nat) (sp : Nat) : Prop where
  ent : ∀ k, k < sp → Rch f n (D k) (A k)
  his : ∀ p, mem S p = true → p ≠ 0 → ∃ i q, i < n ∧ Met f n i ∧ resolveI f n i = some q ∧ inExt q p ∧ mem S i = true ∧ ∀ k, k < sp → A k ≠ i

theorem reach_start (f : Nat → Int) (n : Nat) : Reach f n (fun j => if j = 0 then 1 else 0) (fun _ => 0) (fun _ => 0) 1 :=
  ⟨fun k _ => rfl, fun p h h0 => absurd ((start_set p).1 h) h0⟩

theorem step_reach {f : Nat → Int} {n : Nat} {S A D : Nat → Nat} {t : Nat} {S' A' D' : Nat → Nat} {sp' : Nat} (hf : ∀ j, 0 ≤ f j ∧ f j < 18446744073709551616) (hm : Mid n S A D (t + 1)) (hr : Reach f n S A D (t + 1)) (hs : VStepR f n S A D (t + 1) true S' A' D' sp') : Reach f n S' A' D' sp' := by
  cases hs using VStepR.ways with
  | null q h hk =>
    exact ⟨fun k hk' => hr.ent k (by omega), fun p h1 h2 => by
      obtain ⟨i, q', a1, a2, a3, a4, a5, a6⟩ := hr.his p h1 h2
      exact ⟨i, q', a1, a2, a3, a4, a5, fun k hk' => a6 k (by omega)⟩⟩
  | ok q _ h hk hd hc hp =>
    simp only [Nat.add_sub_cancel] at h hd ⊢
    have hent := hm.ent t (by omega)
    obtain ⟨hok, hin⟩ : q.Ok ∧ insideI n q = true := by
      rcases resolve_fine hf h with rfl | h
      · exact absurd rfl hk
      · exact ⟨h.1, h.2.2⟩
    obtain ⟨s1, s2⟩ := slots_in hok hin
    have hA : ∀ k, t ≤ k → k < t + (slotsL q).length → appA A t (slotsL q) k ∈ slotsL q := fun k h1 h2 => by
      unfold appA
      rw [if_pos (by omega), List.getD_eq_getElem?_getD, List.getElem?_eq_getElem (show k - t < (slotsL q).length by omega)]
      exact List.getElem_mem _
    have hA0 : ∀ k, k < t → appA A t (slotsL q) k = A k := fun k h1 => by
      unfold appA
      rw [if_neg (by omega)]
    have hnew : ∀ i, mem S i = true → ∀ k, t ≤ k → k < t + (slotsL q).length → appA A t (slotsL q) k ≠ i := fun i hi k k1 k2 e => by
      have hs := s2 _ (hA k k1 k2)
      have := (hc.2.2.1 rfl _ hs.1 hs.2).1
      rw [e, hi] at this
      cases this
    refine ⟨fun k hk' => ?_, fun p h1 h2 => ?_⟩
    · by_cases hkt : k < t
      · rw [hA0 k hkt]
        unfold pushD
        rw [if_neg (by omega)]
        exact hr.ent k (by omega)
      · unfold pushD
        rw [if_pos (by omega)]
        exact ⟨A t, q, hent.1, hr.ent t (by omega), h, hA k (by omega) hk'⟩
    · rcases hc.2.1 p h1 with h3 | h3
      · obtain ⟨i, q', a1, a2, a3, a4, a5, a6⟩ := hr.his p h3 h2
        refine ⟨i, q', a1, a2, a3, a4, hc.1 _ a5, fun k hk' => ?_⟩
        by_cases hkt : k < t
        · rw [hA0 k hkt]
          exact a6 k (by omega)
        · exact hnew i a5 k (by omega) hk'
      · refine ⟨A t, q, hent.1, ⟨D t, by omega, hr.ent t (by omega)⟩, h, h3, hc.1 _ hent.2.2, fun k hk' => ?_⟩
        by_cases hkt : k < t
        · rw [hA0 k hkt]
          exact hm.one k t hkt (by omega)
        · exact hnew _ hent.2.2 k (by omega) hk'

/-! ### What a fault says -/
def WhyR (f : Nat → Int) (n : Nat) (code : Int) (i : Nat) : Prop :=
  (resolveI f n i = none ∧ code = faultW (f i) n i) ∨
  ∃ q, resolveI f n i = some q ∧ ¬ q.kind = 0 ∧
    ((code = 7 ∧ Rch f n 8 i) ∨
     (code = 8 ∧ ∃ j q', j < n ∧ j ≠ i ∧ Met f n j ∧ resolveI f n j = some q' ∧ ∃ p, inExt q p ∧ inExt q' p) ∨
     (code = 9 ∧ paddedI f n q = false))

def FaultR (f : Nat → Int) (n : Nat) (S A D : Nat → Nat) (t : Nat) (code : Int) : Prop :=
  (resolveI f n (A t) = none ∧ code = faultW (f (A t)) n (A t)) ∨
  ∃ q, resolveI f n (A t) = some q ∧
    ((8 ≤ D t ∧ code = 7) ∨ (D t < 8 ∧ code = 8 ∧ ∃ S', ClaimR S q.first.toNat (wordsI q).toNat false S') ∨ (D t < 8 ∧ code = 9 ∧ ∃ S', ClaimR S q.first.toNat (wordsI q).toNat true S'))

theorem why_of {f : Nat → Int} {n : Nat} {S A D : Nat → Nat} {t : Nat} {S' A' D' : Nat → Nat} {sp' : Nat} {code : Int} (hf : ∀ j, 0 ≤ f j ∧ f j < 18446744073709551616) (hm : Mid n S A D (t + 1)) (hr : Reach f n S A D (t + 1)) (hs : VStepR f n S A D (t + 1) false S' A' D' sp') (hF : FaultR f n S A D t code) : WhyR f n code (A t) := by
  have hent := hm.ent t (by omega)
  have hre := hr.ent t (by omega)
  have claim_no : ∀ {a c : Nat} {S1 S2 : Nat → Nat}, ClaimR S a c false S1 → ClaimR S a c true S2 → False := fun h1 h2 => by
    obtain ⟨p, p1, p2, p3⟩ := h1.2.2.2 rfl
    have := (h2.2.2.1 rfl p p1 p2).1
    rw [p3] at this
    cases this
  cases hs using VStepR.ways with
  | bad h =>
    replace h : resolveI f n (A t) = none := h
    rcases hF with hF | ⟨q, h1, _⟩
    · exact .inl hF
    · rw [h] at h1; cases h1
  | deep q h hk hd =>
    replace h : resolveI f n (A t) = some q := h
    simp only [Nat.add_sub_cancel] at hd
    rcases hF with ⟨h1, _⟩ | ⟨q', h1, hF⟩
    · rw [h] at h1; cases h1
    · refine .inr ⟨q, h, hk, .inl ⟨?_, ?_⟩⟩
      · rcases hF with h2 | h2 | h2
        · exact h2.2
        · omega
        · omega
      · have : D t = 8 := by omega
        rw [← this]
        exact hre
  | shared q _ h hk hd hc =>
    replace h : resolveI f n (A t) = some q := h
    simp only [Nat.add_sub_cancel] at hd
    rcases hF with ⟨h1, _⟩ | ⟨q', h1, hF⟩
    · rw [h] at h1; cases h1
    · rw [h] at h1
      cases h1
      refine .inr ⟨q, h, hk, .inr (.inl ⟨?_, ?_⟩)⟩
      · rcases hF with h2 | h2 | h2
        · omega
        · exact h2.2.1
        · obtain ⟨_, _, S2, h3⟩ := h2
          exact (claim_no hc h3).elim
      · obtain ⟨p, p1, p2, p3⟩ := hc.2.2.2 rfl
        obtain ⟨hok, hin⟩ : q.Ok ∧ insideI n q = true := by
          rcases resolve_fine hf h with rfl | h
          · exact absurd rfl hk
          · exact ⟨h.1, h.2.2⟩
        obtain ⟨x1, x2, x3, x4⟩ := inside_extent hok hin
        obtain ⟨i, q', a1, a2, a3, a4, a5, a6⟩ := hr.his p p3 (by omega)
        exact ⟨i, q', a1, fun e => a6 t (by omega) e.symm, a2, a3, p, ⟨p1, p2⟩, a4⟩
  | pad q _ h hk hd hc hp =>
    replace h : resolveI f n (A t) = some q := h
    simp only [Nat.add_sub_cancel] at hd
    rcases hF with ⟨h1, _⟩ | ⟨q', h1, hF⟩
    · rw [h] at h1; cases h1
    · rw [h] at h1
      cases h1
      refine .inr ⟨q, h, hk, .inr (.inr ⟨?_, hp⟩)⟩
      rcases hF with h2 | h2 | h2
      · omega
      · obtain ⟨_, _, S2, h3⟩ := h2
        exact (claim_no h3 hc).elim
      · exact h2.2.1

theorem step_nonzero {f : Nat → Int} {n : Nat} {S A D : Nat → Nat} {t : Nat} {S' A' D' : Nat → Nat} {sp' : Nat} (hs : VStepR f n S A D (t + 1) false S' A' D' sp') : ∀ q, resolveI f n (A t) = some q → ¬ q.kind = 0 := by
  intro q hq
  cases hs using VStepR.ways with
  | bad h => replace h : resolveI f n (A t) = none := h; rw [h] at hq; cases hq
  | deep q h hk hd => replace h : resolveI f n (A t) = some q := h; rw [h] at hq; cases hq; exact hk
  | shared q _ h hk hd hc => replace h : resolveI f n (A t) = some q := h; rw [h] at hq; cases hq; exact hk
  | pad q _ h hk hd hc hp => replace h : resolveI f n (A t) = some q := h; rw [h] at hq; cases hq; exact hk
end Go.Proofs.Ygcfac
