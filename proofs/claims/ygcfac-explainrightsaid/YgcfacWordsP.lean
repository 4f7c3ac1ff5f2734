import Derived.Test.YgcfacWalkW2
namespace Go.Proofs.Ygcfac
open Go.RowKit
set_option linter.unusedVariables false

theorem pwords_any (p : P) (h : p.Ok) (w : World) :
    Calls Facg.prog 74 #[p.val] w fun e w' => e = .returned (.int .u16 (wordsI p)) ∧ Grows w w' := by
  obtain ⟨k, a, d, q, c, n⟩ := p
  obtain ⟨hk, ha, hd, hq, hc, hn⟩ := h
  simp only at hk ha hd hq hc hn
  by_cases k0 : k = 0
  · subst k0
    have e : wordsI ⟨0, a, d, q, c, n⟩ = 0 := rfl
    rw [e]; exact words_0 a d q c n w hd hq _ _ rfl rfl
  by_cases k1 : k = 1
  · subst k1
    have e : wordsI ⟨1, a, d, q, c, n⟩ = if decide (d ≤ 8) && decide (q ≤ 8) then d + q else 257 := by
      simp only [wordsI, P.sized]
      rw [if_neg (by decide)]
      by_cases h : (decide (d ≤ 8) && decide (q ≤ 8)) = true
      · rw [if_pos (by exact ⟨trivial, h⟩), if_pos h]
      · rw [if_neg (by intro x; exact h x.2), if_neg h, if_pos (.inl (by decide))]
    rw [e]; exact words_1 a d q c n w hd hq _ _ rfl rfl
  by_cases k2 : k = 2
  · subst k2
    by_cases hn2 : 128 < n
    · have e : wordsI ⟨2, a, d, q, c, n⟩ = 257 := by
        simp only [wordsI]
        rw [if_neg (by decide), if_neg (by simp), if_pos (.inr hn2)]
      rw [e]; exact words_n a d q c n w hn2 hd hq _ _ rfl rfl
    have e1 : wordsI ⟨2, a, d, q, c, n⟩ = if 2 ≤ c ∧ c ≤ 5 then (n * 2 ^ (c - 2).toNat + 7) / 8 else if c = 6 then n
        else if c = 7 ∧ (P.mk 2 a d q c n).sized = true then (if 257 < 1 + n * (d + q) then 257 else 1 + n * (d + q)) else 257 := by
      simp only [wordsI]
      rw [if_neg (by decide), if_neg (by simp), if_neg (by omega)]
    rw [e1]
    by_cases hc2 : 2 ≤ c ∧ c ≤ 5
    · rw [if_pos hc2]
      have hcc : c = 2 ∨ c = 3 ∨ c = 4 ∨ c = 5 := by omega
      rcases hcc with rfl | rfl | rfl | rfl
      · have := words_2_2 a d q n w hn.1 (by omega) hd hq _ _ rfl rfl
        simpa using this
      · exact words_2_3 a d q n w hn.1 (by omega) hd hq _ _ rfl rfl
      · exact words_2_4 a d q n w hn.1 (by omega) hd hq _ _ rfl rfl
      · exact words_2_5 a d q n w hn.1 (by omega) hd hq _ _ rfl rfl
    rw [if_neg hc2]
    by_cases hc6 : c = 6
    · subst hc6
      rw [if_pos rfl]
      exact words_6 a d q n w (by omega) hd hq _ _ rfl rfl
    rw [if_neg hc6]
    by_cases hc7 : c = 7
    · subst hc7
      by_cases hs : d ≤ 8 ∧ q ≤ 8
      · rw [if_pos ⟨rfl, by simp [P.sized, hs]⟩]
        exact words_7 a d q n w hn.1 (by omega) ⟨hd.1, hs.1⟩ ⟨hq.1, hs.2⟩
      · rw [if_neg (by intro x; apply hs; simpa [P.sized] using x.2)]
        exact words_7n a d q n w (by omega) hd hq (by omega)
    rw [if_neg (by intro x; exact hc7 x.1)]
    exact words_c a d q c n w (by omega) (by omega) hd hq _ _ rfl rfl
  have e : wordsI ⟨k, a, d, q, c, n⟩ = 257 := by
    simp only [wordsI]
    rw [if_neg k0, if_neg (by intro x; exact k1 x.1), if_pos (.inl k2)]
  rw [e]; exact words_k k a d q c n w k0 k1 k2 hd hq _ _ rfl rfl

theorem pwords_bd (p : P) (h : p.Ok) : 0 ≤ wordsI p ∧ wordsI p ≤ 257 := by
  obtain ⟨k, a, d, q, c, n⟩ := p
  obtain ⟨hk, ha, hd, hq, hc, hn⟩ := h
  simp only at hk ha hd hq hc hn
  simp only [wordsI, P.sized]
  split
  · omega
  split
  · rename_i h; simp at h; omega
  split
  · omega
  split
  · have hcc : c = 2 ∨ c = 3 ∨ c = 4 ∨ c = 5 := by omega
    rcases hcc with rfl | rfl | rfl | rfl
    · simp; omega
    · have : (2 : Int) ^ ((3 : Int) - 2).toNat = 2 := rfl
      rw [this]; omega
    · have : (2 : Int) ^ ((4 : Int) - 2).toNat = 4 := rfl
      rw [this]; omega
    · have : (2 : Int) ^ ((5 : Int) - 2).toNat = 8 := rfl
      rw [this]; omega
  split
  · omega
  split
  · have m0 : 0 ≤ n * (d + q) := Int.mul_nonneg hn.1 (by omega)
    split <;> omega
  · omega
end Go.Proofs.Ygcfac
