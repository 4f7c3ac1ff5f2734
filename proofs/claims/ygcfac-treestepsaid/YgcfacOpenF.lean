/-
  frame.Open: walked.
-/
import Derived.Test.YgcfacHeader
namespace Go.Proofs.Ygcfac
open Go.RowKit
set_option linter.unusedVariables false

/-! ### What a frame says -/
/-- n bytes from p on, as a number, the least first. -/
def numF (s : Nat → Int) : Nat → Nat → Int
  | _, 0 => 0
  | p, n + 1 => s p + 256 * numF s (p + 1) n

theorem num_4 (s : Nat → Int) (hB : ∀ j, 0 ≤ s j ∧ s j < 256) : wordAt s 0 % 4294967296 = numF s 0 4 ∧ wordAt s 0 / 4294967296 % 65536 = numF s 4 2 ∧ wordAt s 0 / 281474976710656 = numF s 6 2 := by
  have h0 := hB 0; have h1 := hB 1; have h2 := hB 2; have h3 := hB 3; have h4 := hB 4; have h5 := hB 5; have h6 := hB 6; have h7 := hB 7
  simp only [wordAt, word8, numF, Nat.zero_add, Nat.reduceAdd]
  omega
theorem num_8 (s : Nat → Int) (hB : ∀ j, 0 ≤ s j ∧ s j < 256) : wordAt s 8 % 4294967296 = numF s 8 4 ∧ wordAt s 8 / 4294967296 = numF s 12 4 := by
  have h0 := hB 8; have h1 := hB 9; have h2 := hB 10; have h3 := hB 11; have h4 := hB 12; have h5 := hB 13; have h6 := hB 14; have h7 := hB 15
  simp only [wordAt, word8, numF, Nat.reduceAdd]
  omega
theorem num_w (s : Nat → Int) (p : Nat) : wordAt s p = numF s p 8 := by
  simp only [wordAt, word8, numF, Nat.add_assoc, Nat.reduceAdd]
  omega

theorem num_bd (s : Nat → Int) (hB : ∀ j, 0 ≤ s j ∧ s j < 256) : ∀ n p, 0 ≤ numF s p n ∧ numF s p n < 256 ^ n := by
  intro n
  induction n with
  | zero => intro p; simp [numF]
  | succ n ih =>
    intro p
    have h1 := ih (p + 1)
    have h2 := hB p
    simp only [numF]
    rw [Int.pow_succ]
    generalize (256 : Int) ^ n = X at *
    omega

/-- The code of a frame whose header bears these numbers and whose payload is L; and its words. -/
def openG (M V F N X : Int) (L : List Int) : List Int × Int :=
  if ¬ M = 827742039 then ([], 2)
  else if ¬ V = 1 then ([], 3)
  else if 1 < F then ([], 4)
  else if 256 < N then ([], 5)
  else if ¬ sumF L = X then ([], 6)
  else match wordsF L (F == 1) N.toNat with
    | none => ([], 7)
    | some a => if a.length = N.toNat then (a, 0) else ([], 7)
def openF (S : List Int) : List Int × Int :=
  if S.length < 16 then ([], 1)
  else openG (numF (at_ S) 0 4) (numF (at_ S) 4 2) (numF (at_ S) 6 2) (numF (at_ S) 8 4) (numF (at_ S) 12 4) (S.drop 16)

/-- What Open, and the law's own look, answer. -/
def OpenPost (w : World) (r : List Int × Int) (e : Ending) (w' : World) : Prop :=
  Grows w w' ∧ ∃ v, e = .returned (.tuple #[v, .int .u8 r.2]) ∧ Ints w' .u64 v r.1 ∧ (r.2 ≠ 0 → v = .slice none 0 0)

theorem Ints.nil (w : World) (k : IntKind) (a : Option Addr) (c : Nat) (hc : c ≤ maxLen) : Ints w k (.slice a 0 c) [] := ⟨a, c, rfl, Nat.zero_le _, hc, by simp, fun h => absurd rfl h⟩

/-- 'b[16:]' -/
theorem Ints.drop {w : World} {k : IntKind} {b o n c : Nat} {S : List Int} (h : Ints w k (.slice (some ⟨b, o, none⟩) n c) S) (m : Nat) (hm : m ≤ S.length) : Ints w k (.slice (some ⟨b, o + m, none⟩) (n - m) (c - m)) (S.drop m) := by
  obtain ⟨a, c', e, hc, hmx, hw, hr⟩ := h
  injection e with e1 e2 e3
  subst e1 e2 e3
  refine ⟨some ⟨b, o + m, none⟩, c - m, by simp, by simp; omega, by omega, fun x hx => hw x (List.mem_of_mem_drop hx), fun hne => ?_⟩
  obtain ⟨b', o', e, hcell⟩ := hr (fun h => hne (by subst h; simp))
  injection e with e
  injection e with e1 e2 e3
  subst e1 e2
  refine ⟨b, o + m, rfl, fun j hj => ?_⟩
  simp at hj
  rw [Nat.add_assoc, hcell (m + j) (by omega)]
  simp

theorem open_short (a : Option Addr) (n c : Nat) (h : n < 16) (w : World) :
    Calls Facg.prog 24 #[.slice a n c] w (OpenPost w ([], 1)) := by
  go_enter Facg.func24, Facg.ntmps24
  go_wp2_with (go_at_call 61; refine (header_short a n c h _).mono ?_; rintro e w' ⟨rfl, hg⟩; have HG := hide hg; clear hg)
  go_ret2
  exact ⟨HG.out.alloc _, _, rfl, Ints.nil _ _ _ _ (by decide), fun _ => rfl⟩

theorem flags_bad (F : Int) (h0 : 0 ≤ F) (h1 : F < 65536) (h : 1 < F) : (bits .andNot .u16 F 1 != 0) = true := by
  obtain ⟨F, rfl⟩ := Int.eq_ofNat_of_zero_le h0
  have e : bits .andNot .u16 (F : Int) 1 = ((F &&& 65534 : Nat) : Int) := u16_andNot_nat F 1 (by omega) (by decide)
  rw [bne_iff_ne, e]
  intro e0
  have e0 : F &&& 65534 = 0 := by omega
  have e1 : (F &&& 65534) / 2 = F / 2 &&& 32767 := Nat.and_div_two
  have e2 : F / 2 &&& (2 ^ 15 - 1) = F / 2 % 2 ^ 15 := Nat.and_two_pow_sub_one_eq_mod _ _
  rw [e0] at e1
  simp at e1 e2
  omega
theorem flags_ok (F : Int) (h0 : 0 ≤ F) (h : F ≤ 1) : (bits .andNot .u16 F 1 != 0) = false := by
  obtain ⟨F, rfl⟩ := Int.eq_ofNat_of_zero_le h0
  match F, h with
  | 0, _ => decide
  | 1, _ => decide

set_option maxRecDepth 10000 in
set_option maxHeartbeats 2000000 in
theorem open_core (b o n c : Nat) (M V F : Int) (N : Nat) (X : Int) (L : List Int) (w : World) (hF0 : 0 ≤ F) (hF1 : F < 65536) (hn : 16 ≤ n) (hnm : n ≤ 9223372036854775807) (hc : n ≤ c)
    (hh : Calls Facg.prog 61 #[.slice (some ⟨b, o, none⟩) n c] w fun e w' => e = .returned (.tuple #[.agg #[.int .u32 M, .int .u16 V, .int .u16 F, .int .u32 (N : Int), .int .u32 X], .bool true]) ∧ Grows w w') (hL : ∃ x y, (if c = 16 then (some ⟨b, o, none⟩ : Option Addr) else some ⟨b, o + 16, none⟩) = x ∧ c - 16 = y ∧ Ints w .u8 (.slice x (n - 16) y) L) :
    Calls Facg.prog 24 #[.slice (some ⟨b, o, none⟩) n c] w (OpenPost w (openG M V F N X L)) := by
  have HH : Hid (Calls Facg.prog 61 #[.slice (some ⟨b, o, none⟩) n c] w fun e w' => e = .returned (.tuple #[.agg #[.int .u32 M, .int .u16 V, .int .u16 F, .int .u32 (N : Int), .int .u32 X], .bool true]) ∧ Grows w w') := hh
  clear hh
  unfold openG
  by_cases hM : M = 827742039
  · rw [if_neg (by simpa using hM)]
    have tM : (M != 827742039) = false := by simpa using hM
    have HM := hide hM
    clear hM
    by_cases hV : V = 1
    · rw [if_neg (by simpa using hV)]
      have tV : (V != 1) = false := by simpa using hV
      have HV := hide hV
      clear hV
      by_cases hF : 1 < F
      · rw [if_pos hF]
        have tF : (bits .andNot .u16 F 1 != 0) = true := flags_bad F hF0 hF1 hF
        clear hL
        go_enter Facg.func24, Facg.ntmps24
        go_wp2_with (go_at_call 61; refine HH.out.mono ?_; rintro e w1 ⟨rfl, hg⟩; have HG := hide hg; clear hg)
        go_ret2
        exact ⟨HG.out.alloc _, _, rfl, Ints.nil _ _ _ _ (by decide), fun _ => rfl⟩

      · rw [if_neg hF]
        have tF : (bits .andNot .u16 F 1 != 0) = false := flags_ok F hF0 (by omega)
        by_cases hN : (256 : Int) < (N : Int)
        · rw [if_pos hN]
          clear hL
          go_enter Facg.func24, Facg.ntmps24
          go_wp2_with (go_at_call 61; refine HH.out.mono ?_; rintro e w1 ⟨rfl, hg⟩; have HG := hide hg; clear hg)
          go_ret2
          exact ⟨HG.out.alloc _, _, rfl, Ints.nil _ _ _ _ (by decide), fun _ => rfl⟩

        · rw [if_neg hN]
          have hN2 : N ≤ 256 := by omega
          clear hN
          obtain ⟨x, y, hx, hy, hI⟩ := hL
          have HI := hide hI
          clear hI
          by_cases hX : sumF L = X
          · rw [if_neg (by simpa using hX)]
            have tX : (sumF L != X) = false := by simpa using hX
            have HX := hide hX
            clear hX
            have HW : Hid (∀ w', Ints w' .u8 (.slice x (n - 16) y) L → Calls Facg.prog 62 #[.slice x (n - 16) y, .bool (F == 1), .int .i64 (N : Int)] w' (UnpackPost w' (wordsF L (F == 1) N))) := fun w' hi => words_any _ L _ N w' hi (by omega)
            rw [Int.toNat_natCast]
            generalize wordsF L (F == 1) N = r at *
            cases r with
            | none =>
                go_enter Facg.func24, Facg.ntmps24
                go_wp2_with (go_at_call 61; refine HH.out.mono ?_; rintro e w1 ⟨rfl, hg⟩; have HG := hide hg; clear hg)
                go_quiet ((go_at_call 60; exact Calls.quiet_of_same (sum_any _ L _ (by exact (HI.out.grows HG.out).grows (((Kept.refl _ _).alloc _).drewN _)))))
                go_wp2_with (go_at_call 62; refine (HW.out _ (by exact (HI.out.grows HG.out).grows (((Kept.refl _ _).alloc _).drewN _))).mono ?_; rintro e w2 ⟨hg2, rfl⟩; have HG2 := hide hg2; clear hg2)
                go_ret2
                exact ⟨(((HG.out.alloc _).drewN _).trans HG2.out), _, rfl, Ints.nil _ _ _ _ (by decide), fun _ => rfl⟩
            | some xs =>
              by_cases hl : xs.length = N
              · have tl : ((xs.length : Int) != (N : Int)) = false := by simp; omega
                simp only [if_pos hl]
                have HLL := hide hl
                clear hl
                go_enter Facg.func24, Facg.ntmps24
                go_wp2_with (go_at_call 61; refine HH.out.mono ?_; rintro e w1 ⟨rfl, hg⟩; have HG := hide hg; clear hg)
                go_quiet ((go_at_call 60; exact Calls.quiet_of_same (sum_any _ L _ (by exact (HI.out.grows HG.out).grows (((Kept.refl _ _).alloc _).drewN _)))))
                go_wp2_with (go_at_call 62; refine (HW.out _ (by exact (HI.out.grows HG.out).grows (((Kept.refl _ _).alloc _).drewN _))).mono ?_; rintro e w2 ⟨hg2, v', rfl, hi2⟩; have HG2 := hide hg2; have HI2 := hide hi2; obtain ⟨a3, c3, hv3, _⟩ := hi2; subst hv3; clear hg2; have hb0 : w2.cell? ⟨w1.heap.size, 3, none⟩ = some (.int .u32 (N : Int)) := HG2.out.cell (by simp) trivial)
                go_ret2
                exact ⟨(((HG.out.alloc _).drewN _).trans HG2.out), _, rfl, HI2.out, fun h => absurd rfl h⟩
              · have tl : ((xs.length : Int) != (N : Int)) = true := by simp; omega
                simp only [if_neg hl]
                clear hl
                go_enter Facg.func24, Facg.ntmps24
                go_wp2_with (go_at_call 61; refine HH.out.mono ?_; rintro e w1 ⟨rfl, hg⟩; have HG := hide hg; clear hg)
                go_quiet ((go_at_call 60; exact Calls.quiet_of_same (sum_any _ L _ (by exact (HI.out.grows HG.out).grows (((Kept.refl _ _).alloc _).drewN _)))))
                go_wp2_with (go_at_call 62; refine (HW.out _ (by exact (HI.out.grows HG.out).grows (((Kept.refl _ _).alloc _).drewN _))).mono ?_; rintro e w2 ⟨hg2, v', rfl, hi2⟩; have HG2 := hide hg2; obtain ⟨a3, c3, hv3, _⟩ := hi2; subst hv3; clear hg2; have hb0 : w2.cell? ⟨w1.heap.size, 3, none⟩ = some (.int .u32 (N : Int)) := HG2.out.cell (by simp) trivial)
                go_ret2
                exact ⟨(((HG.out.alloc _).drewN _).trans HG2.out), _, rfl, Ints.nil _ _ _ _ (by decide), fun _ => rfl⟩
          · rw [if_pos hX]
            have tX : (sumF L != X) = true := by simpa using hX
            clear hX
            go_enter Facg.func24, Facg.ntmps24
            go_wp2_with (go_at_call 61; refine HH.out.mono ?_; rintro e w1 ⟨rfl, hg⟩; have HG := hide hg; clear hg)
            go_quiet ((go_at_call 60; exact Calls.quiet_of_same (sum_any _ L _ (by exact (HI.out.grows HG.out).grows (((Kept.refl _ _).alloc _).drewN _)))))
            go_wp2
            go_ret2
            exact ⟨(HG.out.alloc _).drewN _, _, rfl, Ints.nil _ _ _ _ (by decide), fun _ => rfl⟩
    · rw [if_pos hV]
      have tV : (V != 1) = true := by simpa using hV
      clear hV hL
      go_enter Facg.func24, Facg.ntmps24
      go_wp2_with (go_at_call 61; refine HH.out.mono ?_; rintro e w1 ⟨rfl, hg⟩; have HG := hide hg; clear hg)
      go_ret2
      exact ⟨HG.out.alloc _, _, rfl, Ints.nil _ _ _ _ (by decide), fun _ => rfl⟩

  · rw [if_pos hM]
    have tM : (M != 827742039) = true := by simpa using hM
    clear hM hL
    go_enter Facg.func24, Facg.ntmps24
    go_wp2_with (go_at_call 61; refine HH.out.mono ?_; rintro e w1 ⟨rfl, hg⟩; have HG := hide hg; clear hg)
    go_ret2
    exact ⟨HG.out.alloc _, _, rfl, Ints.nil _ _ _ _ (by decide), fun _ => rfl⟩


theorem load_of {w : World} {k : IntKind} {b o c : Nat} {S : List Int} (h : Ints w k (.slice (some ⟨b, o, none⟩) S.length c) S) (hl : 16 ≤ S.length) :
    ∃ x y, (if c = 16 then (some ⟨b, o, none⟩ : Option Addr) else some ⟨b, o + 16, none⟩) = x ∧ c - 16 = y ∧ Ints w k (.slice x (S.length - 16) y) (S.drop 16) := by
  refine ⟨_, _, rfl, rfl, ?_⟩
  obtain ⟨_, _, e, hc, hm, _⟩ := id h
  injection e with _ _ e
  subst e
  by_cases h16 : c = 16
  · rw [if_pos h16]
    have hs : S.length = 16 := by omega
    rw [List.drop_eq_nil_of_le (by omega), hs]
    exact Ints.nil _ _ _ _ (by omega)
  · rw [if_neg h16]
    exact h.drop 16 hl

/-- frame.Open. -/
theorem open_any (v : Value) (S : List Int) (w : World) (hv : Ints w .u8 v S) : Calls Facg.prog 24 #[v] w (OpenPost w (openF S)) := by
  obtain ⟨a, c, rfl, hc, hm, hw, hr⟩ := id hv
  unfold openF
  by_cases h : S.length < 16
  · rw [if_pos h]
    exact open_short a S.length c h w
  · rw [if_neg h]
    obtain ⟨b, o, rfl, hcell⟩ := hr (fun e => by subst e; simp at h)
    have hB := at_bd hw
    have hh := header_long b o S.length c (at_ S) w (by omega) (by unfold maxLen at hm; omega) hc hB hcell
    obtain ⟨e1, e2, e3⟩ := num_4 (at_ S) hB
    obtain ⟨e4, e5⟩ := num_8 (at_ S) hB
    rw [e1, e2, e3, e4, e5] at hh
    have b6 := num_bd (at_ S) hB 2 6
    have b8 := num_bd (at_ S) hB 4 8
    obtain ⟨N, hN⟩ := Int.eq_ofNat_of_zero_le b8.1
    rw [hN] at hh ⊢
    exact open_core b o S.length c _ _ _ N _ _ w b6.1 (by simpa using b6.2) (by omega) (by unfold maxLen at hm; omega) hc hh (load_of hv (by omega))
end Go.Proofs.Ygcfac
