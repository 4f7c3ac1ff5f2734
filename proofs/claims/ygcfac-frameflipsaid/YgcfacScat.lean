import Derived.Test.YgcfacTag
namespace Go.Proofs.Ygcfac
open Go.RowKit
set_option linter.unusedVariables false

theorem scat_bits : ∀ p : Nat, p < 8 → ∀ t : Nat, t < 128 → 2 ^ p * (1 + 2 * t) < 256 →
    lowI ((2 ^ p * (1 + 2 * t) : Nat) : Int) = p ∧ bits .and .u8 ((2 ^ p * (1 + 2 * t) : Nat) : Int) (((2 ^ p * (1 + 2 * t) : Nat) : Int) - 1) = ((2 ^ (p + 1) * t : Nat) : Int) ∧ onesI ((2 ^ p * (1 + 2 * t) : Nat) : Int) = 1 + onesI ((2 ^ (p + 1) * t : Nat) : Int) := by decide +kernel

theorem tagL_lt : ∀ bs : List Int, tagL bs < 2 ^ bs.length
  | [] => by simp [tagL]
  | b :: bs => by
    have := tagL_lt bs
    simp only [tagL, List.length_cons, Nat.pow_succ]
    split <;> omega
theorem valL_bd : ∀ bs : List Int, (∀ b ∈ bs, 0 ≤ b ∧ b < 256) → 0 ≤ valL bs ∧ valL bs < 256 ^ bs.length
  | [], _ => by simp [valL]
  | b :: bs, h => by
    have ih := valL_bd bs (fun b hb => h b (List.mem_cons_of_mem _ hb))
    have hb := h b List.mem_cons_self
    simp only [valL, List.length_cons, Int.pow_succ]
    generalize (256 : Int) ^ bs.length = Y at *
    omega

theorem scat_val (s : Nat → Int) : ∀ (bs : List Int) (p : Nat), bs.length + p = 8 → (∀ b ∈ bs, 0 ≤ b ∧ b < 256) → ∀ (q : Nat) (acc : Int), 0 ≤ acc → acc < 256 ^ p →
    (∀ k, k < (bs.filter fun y => !(y == 0)).length → s (q + k) = (bs.filter fun y => !(y == 0)).getD k 0) →
    (onesI ((2 ^ p * tagL bs : Nat) : Int)) = (bs.filter fun y => !(y == 0)).length ∧ scat s (bs.filter fun y => !(y == 0)).length ((2 ^ p * tagL bs : Nat) : Int) q acc = acc + 256 ^ p * valL bs
  | [], p, hp, hb, q, acc, a0, a1, hs => by
    refine ⟨?_, ?_⟩
    · simpa [tagL] using ones8_0
    · simp [valL, scat]
  | b :: bs, p, hp, hb, q, acc, a0, a1, hs => by
    have hp8 : p < 8 := by simp at hp; omega
    have hb0 := hb b List.mem_cons_self
    have hbs : ∀ b ∈ bs, 0 ≤ b ∧ b < 256 := fun b hm => hb b (List.mem_cons_of_mem _ hm)
    have hl : bs.length + (p + 1) = 8 := by simp at hp; omega
    have hP : (256 : Int) ^ (p + 1) = 256 * 256 ^ p := by rw [Int.pow_succ]; omega
    by_cases h : b = 0
    · subst h
      have ef : ((0 : Int) :: bs).filter (fun y => !(y == 0)) = bs.filter (fun y => !(y == 0)) := by simp
      rw [ef] at hs ⊢
      have ih := scat_val s bs (p + 1) hl hbs q acc a0 (by rw [hP]; generalize (256 : Int) ^ p = Y at *; omega) hs
      have et : 2 ^ p * tagL (0 :: bs) = 2 ^ (p + 1) * tagL bs := by
        simp only [tagL, if_true, Nat.pow_succ]
        rw [Nat.mul_assoc, Nat.zero_add]
      rw [et, ih.1, ih.2]
      refine ⟨rfl, ?_⟩
      rw [hP]; simp only [valL, Int.mul_assoc]
      rw [Int.zero_add, Int.mul_left_comm]
    · have ef : (b :: bs).filter (fun y => !(y == 0)) = b :: bs.filter (fun y => !(y == 0)) := by simp [h]
      rw [ef] at hs ⊢
      have et : 2 ^ p * tagL (b :: bs) = 2 ^ p * (1 + 2 * tagL bs) := by simp only [tagL, if_neg h]
      have ht := tagL_lt bs
      have ht2 : tagL bs < 128 := Nat.lt_of_lt_of_le ht (by
        have : 2 ^ bs.length ≤ 2 ^ 7 := Nat.pow_le_pow_right (by decide) (by omega)
        omega)
      have hr : 2 ^ p * (1 + 2 * tagL bs) < 256 := by
        have e : 2 ^ p * 2 ^ (bs.length + 1) = 256 := by rw [← Nat.pow_add]; rw [show p + (bs.length + 1) = 8 by omega]
        have l : 1 + 2 * tagL bs < 2 ^ (bs.length + 1) := by rw [Nat.pow_succ]; omega
        rw [← e]
        exact Nat.mul_lt_mul_of_pos_left l (Nat.pow_pos (by decide))
      obtain ⟨f1, f2, f3⟩ := scat_bits p hp8 (tagL bs) ht2 hr
      rw [et]
      have s0 := hs 0 (by simp)
      simp at s0
      have or1 : bits .or .u64 acc (b * 2 ^ (8 * p)) = acc + b * 2 ^ (8 * p) := by
        refine or_sum (8 * p) acc b a0 ?_ hb0.1 ?_ (by omega)
        · rw [Int.pow_mul]; simpa using a1
        · rw [Int.pow_mul]
          have : (256 : Int) ^ p ≤ 256 ^ 7 := by
            have := Nat.pow_le_pow_right (n := 256) (by decide) (show p ≤ 7 by omega)
            have e : ((256 ^ p : Nat) : Int) = 256 ^ p := by simp
            omega
          have h8 : ((2 : Int) ^ 8) = 256 := by decide
          rw [h8]
          have m1 : b * 256 ^ p ≤ 255 * 256 ^ p := Int.mul_le_mul_of_nonneg_right (by omega) (Int.pow_nonneg (by decide))
          omega
      have e8 : (2 : Int) ^ (8 * p) = 256 ^ p := by rw [Int.pow_mul]; simp
      have hpos : (0 : Int) ≤ 256 ^ p := Int.pow_nonneg (by decide)
      have m0 : 0 ≤ b * 256 ^ p := Int.mul_nonneg hb0.1 hpos
      have m1 : b * 256 ^ p ≤ 255 * 256 ^ p := Int.mul_le_mul_of_nonneg_right (by omega) hpos
      have ih := scat_val s bs (p + 1) hl hbs (q + 1) (acc + b * 2 ^ (8 * p)) (by rw [e8]; omega) (by rw [e8, hP]; omega) (by
        intro k hk
        have := hs (k + 1) (by simpa using hk)
        rw [show q + (k + 1) = q + 1 + k by omega] at this
        rw [this]; simp)
      refine ⟨?_, ?_⟩
      · rw [f3, ih.1, List.length_cons]; omega
      · rw [List.length_cons, scat_succ, f1, f2, s0]
        rw [show (8 * (p : Int)).toNat = 8 * p by omega, or1, ih.2, e8, hP]
        simp only [valL]
        rw [Int.mul_add, Int.mul_comm b, Int.add_assoc, Int.mul_assoc, Int.mul_left_comm]

/-- The stream's bytes begin with the tag and the bytes that are not zero: the first word is x. -/
theorem first_of (s : Nat → Int) (x : Int) (h0 : 0 ≤ x) (h1 : x < 18446744073709551616) (ht : s 0 = tagI x) (hs : ∀ k, k < (nzB 8 x).length → s (1 + k) = (nzB 8 x).getD k 0) :
    onesI (s 0) = (nzB 8 x).length ∧ firstW s = x := by
  rw [nzB_digs 8 x h0] at hs ⊢
  have hv := scat_val s (digs 8 x) 0 (by rw [digs_len]) (digs_bd 8 x) 1 0 (by decide) (by decide) hs
  have et : ((2 ^ 0 * tagL (digs 8 x) : Nat) : Int) = s 0 := by
    rw [ht, tag_eq x h0 h1]; simp
  rw [et] at hv
  refine ⟨hv.1, ?_⟩
  unfold firstW
  rw [hv.1, Int.toNat_natCast, hv.2, valL_digs 8 x h0 (by simpa using h1)]
  simp

theorem tagL_zero : ∀ bs : List Int, tagL bs = 0 → valL bs = 0
  | [], _ => rfl
  | b :: bs, h => by
    simp only [tagL] at h
    by_cases hb : b = 0
    · subst hb
      have := tagL_zero bs (by simp at h; omega)
      simp [valL, this]
    · rw [if_neg hb] at h; omega
theorem tagL_full : ∀ bs : List Int, tagL bs + 1 = 2 ^ bs.length → bs.filter (fun y => !(y == 0)) = bs
  | [], _ => rfl
  | b :: bs, h => by
    have hl := tagL_lt bs
    simp only [tagL, List.length_cons, Nat.pow_succ] at h
    by_cases hb : b = 0
    · rw [if_pos hb] at h; omega
    · rw [if_neg hb] at h
      have := tagL_full bs (by omega)
      simp [hb, this]

theorem tag_0 (x : Int) (h0 : 0 ≤ x) (h1 : x < 18446744073709551616) (h : tagI x = 0) : x = 0 := by
  rw [tag_eq x h0 h1] at h
  have := tagL_zero (digs 8 x) (by omega)
  rw [valL_digs 8 x h0 (by simpa using h1)] at this
  exact this
theorem tag_255 (x : Int) (h0 : 0 ≤ x) (h1 : x < 18446744073709551616) (h : tagI x = 255) : nzB 8 x = bytes8 x := by
  rw [tag_eq x h0 h1] at h
  have := tagL_full (digs 8 x) (by rw [digs_len]; omega)
  rw [nzB_digs 8 x h0, this, digs_8]
end Go.Proofs.Ygcfac
