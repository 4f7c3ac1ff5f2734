import Derived.Test.YgcfacChild
namespace Go.Proofs.Ygcfac
open Go.RowKit
set_option linter.unusedVariables false

/-- Null, or an object inside. -/
def Fine (n : Nat) (q : P) : Prop := q = ⟨0, 0, 0, 0, 0, 0⟩ ∨ (q.Ok ∧ ¬ q.kind = 0 ∧ insideI n q = true)

theorem inside_of {n : Nat} {q : P} (hn : n ≤ 256) (hk : q.kind = 1 ∨ q.kind = 2) (h : q.first + wordsI q ≤ n) (h1 : wordsI q = 0 ∨ 1 ≤ q.first) : insideI n q = true := by
  unfold insideI
  rw [decide_eq_true (by omega : (n : Int) ≤ 256), decide_eq_true h]
  rcases hk with hk | hk <;> rw [hk] <;> rcases h1 with h1 | h1
  · rw [h1]; rfl
  · rw [decide_eq_true h1]; simp
  · rw [h1]; rfl
  · rw [decide_eq_true h1]; simp

theorem words_struct {q : P} (hk : q.kind = 1) (hd : q.data ≤ 8) (hp : q.ptrs ≤ 8) : wordsI q = q.data + q.ptrs := by
  unfold wordsI
  rw [if_neg (by omega), if_pos ⟨hk, by simp [P.sized, hd, hp]⟩]

theorem spans_zero {n low t : Int} (h : spansI n low t 0 = true) : 0 ≤ t ∧ t ≤ n := by
  unfold spansI at h
  simp at h
  exact h

theorem structs_fine {f : Nat → Int} {n : Nat} {low t m : Int} {q : P} (hn : n ≤ 256) (hl : 1 ≤ low) (hm : 0 ≤ m) (hf : ∀ j, 0 ≤ f j ∧ f j < 18446744073709551616) (h : structsI f n low t m = some q) : Fine n q := by
  unfold structsI at h
  cases hs : spansI n low t (m + 1) with
  | false => rw [hs] at h; cases h
  | true =>
    rw [hs] at h
    simp only [cond_true] at h
    obtain ⟨p1, p2, p3⟩ := spans_pos hs (by omega) (by omega)
    unfold tagI at h
    have hb := hf t.toNat
    generalize f t.toNat = g at *
    cases hq : secF g with
    | none => rw [hq] at h; cases h
    | some r =>
      obtain ⟨d, q'⟩ := r
      rw [hq] at h
      simp only at h
      have hdq := secF_bd hq hb.1
      split at h
      · cases h
      rename_i c1
      split at h
      · cases h
      rename_i c2
      injection h with h
      subst h
      have hmm : g / 4 % 1073741824 * (d + q') = m := by
        rcases Classical.em (g / 4 % 1073741824 * (d + q') = m) with h | h
        · exact h
        · exact absurd (.inr h) c2
      have hcnt : 0 ≤ g / 4 % 1073741824 ∧ g / 4 % 1073741824 ≤ 128 := by omega
      have hw : wordsI ⟨2, t + 1, d, q', 7, g / 4 % 1073741824⟩ = m + 1 := by
        simp only [wordsI, P.sized]
        rw [if_neg (by decide), if_neg (by simp), if_neg (by omega), if_neg (by decide), if_neg (by decide), if_pos ⟨trivial, by simp; omega⟩, hmm, if_neg (by omega)]
        omega
      refine .inr ⟨⟨by simp, by simp only; omega, by simp only; omega, by simp only; omega, by simp, by simp only; omega⟩, by simp, inside_of hn (.inr rfl) ?_ ?_⟩
      · rw [hw]; unfold P.first; simp; omega
      · right; unfold P.first; simp; omega

theorem words_at (a : Int) {c m : Int} : wordsI ⟨2, a, 0, 0, c, m⟩ = wordsI ⟨2, 0, 0, 0, c, m⟩ := rfl

theorem plain_fine {n : Nat} {low t c m : Int} {q : P} (hn : n ≤ 256) (hl : 1 ≤ low) (hm : 0 ≤ m) (h : plainI n low t c m = some q) : Fine n q := by
  unfold plainI at h
  split at h
  · cases h
  rename_i c1
  have hok : (P.mk 2 0 0 0 c m).Ok := ⟨by simp, by simp, by simp, by simp, by simp only; omega, by simp only; omega⟩
  have hb := pwords_bd _ hok
  cases hs : spansI n low t (wordsI ⟨2, 0, 0, 0, c, m⟩) with
  | false => rw [hs] at h; cases h
  | true =>
    rw [hs] at h
    simp only [cond_true] at h
    injection h with h
    subst h
    have e : (P.mk 2 t 0 0 c m).first = t := by unfold P.first; rw [if_neg (by simp only; omega)]
    have ht : 0 ≤ t ∧ t + wordsI ⟨2, 0, 0, 0, c, m⟩ ≤ n ∧ (wordsI ⟨2, 0, 0, 0, c, m⟩ = 0 ∨ 1 ≤ t) := by
      by_cases hz : wordsI ⟨2, 0, 0, 0, c, m⟩ = 0
      · rw [hz] at hs ⊢
        have := spans_zero hs
        exact ⟨by omega, by omega, .inl rfl⟩
      · have := spans_pos hs (by omega) (by omega)
        exact ⟨by omega, by omega, .inr (by omega)⟩
    refine .inr ⟨⟨by simp, by simp only; omega, by simp, by simp, by simp only; omega, by simp only; omega⟩, by simp, inside_of hn (.inr rfl) ?_ ?_⟩
    · rw [e, words_at]; exact ht.2.1
    · rw [e, words_at]; exact ht.2.2

theorem struct_fine {n : Nat} {t d q : Int} (hn : n ≤ 256) (hd : 0 ≤ d ∧ d ≤ 8) (hq : 0 ≤ q ∧ q ≤ 8) (h1 : 0 ≤ t) (h2 : t + (d + q) ≤ n) (h3 : d + q = 0 ∨ 1 ≤ t) : Fine n ⟨1, t, d, q, 0, 0⟩ := by
  have hw := words_struct (q := ⟨1, t, d, q, 0, 0⟩) rfl hd.2 hq.2
  have e : (P.mk 1 t d q 0 0).first = t := rfl
  refine .inr ⟨⟨by simp, by simp only; omega, by simp only; omega, by simp only; omega, by simp, by simp⟩, by simp, inside_of hn (.inl rfl) ?_ ?_⟩
  · rw [e, hw]; exact h2
  · rw [e, hw]; exact h3

theorem resolveW_fine {f : Nat → Int} {n : Nat} {x base low : Int} {q : P} (hl : 1 ≤ low) (hf : ∀ j, 0 ≤ f j ∧ f j < 18446744073709551616) (h0 : 0 ≤ x) (h : resolveW f n x base low = some q) : Fine n q := by
  unfold resolveW at h
  split at h
  · cases h
  rename_i hn
  have hn : n ≤ 256 := by omega
  split at h
  · injection h with h; exact .inl h.symm
  split at h
  · cases hs : secF x with
    | none => rw [hs] at h; cases h
    | some r =>
      obtain ⟨d, q'⟩ := r
      rw [hs] at h
      simp only at h
      have hdq := secF_bd hs h0
      cases hsp : spansI n low (toI x base) (d + q') with
      | false => rw [hsp] at h; cases h
      | true =>
        rw [hsp] at h
        simp only [cond_true] at h
        injection h with h
        subst h
        by_cases hz : d + q' = 0
        · rw [hz] at hsp
          have := spans_zero hsp
          exact struct_fine hn (by omega) (by omega) (by omega) (by omega) (.inl hz)
        · have := spans_pos hsp (by omega) (by omega)
          exact struct_fine hn (by omega) (by omega) (by omega) (by omega) (.inr (by omega))
  split at h
  · unfold listI at h
    split at h
    · exact structs_fine hn hl (by omega) hf h
    · exact plain_fine hn hl (by omega) h
  · cases h

theorem resolve_fine {f : Nat → Int} {n i : Nat} {q : P} (hf : ∀ j, 0 ≤ f j ∧ f j < 18446744073709551616) (h : resolveI f n i = some q) : Fine n q := by
  unfold resolveI at h
  split at h
  · cases h
  · exact resolveW_fine (by decide) hf (hf i).1 h

theorem child_fine {f : Nat → Int} {n i : Nat} {p q : P} (hf : ∀ j, 0 ≤ f j ∧ f j < 18446744073709551616) (h : childI f n p i = some q) : Fine n q := by
  unfold childI at h
  cases hh : (p.kind == 1) && insideI n p with
  | false => rw [hh] at h; cases h
  | true =>
    rw [hh] at h
    simp only [cond_true] at h
    split at h
    · injection h with h; exact .inl h.symm
    · exact resolve_fine hf h

theorem elem_fine {f : Nat → Int} {n i : Nat} {p q : P} (hp : p.Ok) (hf : ∀ j, 0 ≤ f j ∧ f j < 18446744073709551616) (h : elemI f n p i = some q) : Fine n q := by
  unfold elemI at h
  split at h
  · cases h
  rename_i hi
  cases hh : (p.kind == 2) && insideI n p with
  | false => rw [hh] at h; cases h
  | true =>
    rw [hh] at h
    simp only [cond_true] at h
    rw [Bool.and_eq_true, beq_iff_eq] at hh
    split at h
    · exact resolve_fine hf h
    split at h
    · rename_i h7
      injection h with h
      subst h
      obtain ⟨g1, g2, g3, g4⟩ := inside_kind2 hp hh.2 hh.1
      have h0 := hp.at_
      have h1 := hp.data
      have h2 := hp.ptrs
      have hb := pwords_bd p hp
      unfold P.first at g3 g4
      rw [if_pos ⟨hh.1, h7⟩] at g3 g4
      obtain ⟨k1, k2, k3⟩ := words_code7 hh.1 g2 h7 (by omega)
      have m0 : 0 ≤ (i : Int) * (p.data + p.ptrs) := Int.mul_nonneg (by omega) (by omega)
      have m1 : (i : Int) * (p.data + p.ptrs) + (p.data + p.ptrs) ≤ p.count * (p.data + p.ptrs) := by
        have : ((i : Int) + 1) * (p.data + p.ptrs) ≤ p.count * (p.data + p.ptrs) := Int.mul_le_mul_of_nonneg_right (by omega) (by omega)
        rw [Int.add_mul, Int.one_mul] at this
        exact this
      exact struct_fine g1 ⟨h1.1, k1⟩ ⟨h2.1, k2⟩ (by omega) (by omega) (.inr (by omega))
    · cases h
end Go.Proofs.Ygcfac
