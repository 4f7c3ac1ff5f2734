import Derived.Test.YgcfacMidLaw
namespace Go.Proofs.Ygcfac
open Go.RowKit
set_option linter.unusedVariables false

/-- Byte j of the words from 'at' on is 0. -/
def zeroB (f : Nat → Int) (a j : Nat) : Prop := f (a + j / 8) / 2 ^ (j % 8 * 8) % 256 = 0

theorem bytes_zero (x : Int) (b : Nat) (h0 : 0 ≤ x) (h1 : x < 18446744073709551616) (hb : b < 8) : x / 2 ^ (b * 8) = 0 ↔ ∀ j, b ≤ j → j < 8 → x / 2 ^ (j * 8) % 256 = 0 := by
  constructor
  · intro h j hj hj8
    have e : x / 2 ^ (j * 8) = x / 2 ^ (b * 8) / 2 ^ ((j - b) * 8) := by
      rw [Int.ediv_ediv_of_nonneg (by exact Int.pow_nonneg (by decide)), ← Int.pow_add]
      congr 2
      omega
    rw [e, h]; simp
  · intro h
    have q : ∀ j, b ≤ j → j < 8 → x / 2 ^ (j * 8) % 256 = 0 := h
    have hb' : b = 0 ∨ b = 1 ∨ b = 2 ∨ b = 3 ∨ b = 4 ∨ b = 5 ∨ b = 6 ∨ b = 7 := by omega
    have q7 := q 7 (by omega) (by decide)
    rcases hb' with rfl | rfl | rfl | rfl | rfl | rfl | rfl | rfl
    · have q0 := q 0 (by omega) (by decide); have q1 := q 1 (by omega) (by decide); have q2 := q 2 (by omega) (by decide); have q3 := q 3 (by omega) (by decide); have q4 := q 4 (by omega) (by decide); have q5 := q 5 (by omega) (by decide); have q6 := q 6 (by omega) (by decide)
      simp at *; omega
    · have q1 := q 1 (by omega) (by decide); have q2 := q 2 (by omega) (by decide); have q3 := q 3 (by omega) (by decide); have q4 := q 4 (by omega) (by decide); have q5 := q 5 (by omega) (by decide); have q6 := q 6 (by omega) (by decide)
      simp at *; omega
    · have q2 := q 2 (by omega) (by decide); have q3 := q 3 (by omega) (by decide); have q4 := q 4 (by omega) (by decide); have q5 := q 5 (by omega) (by decide); have q6 := q 6 (by omega) (by decide)
      simp at *; omega
    · have q3 := q 3 (by omega) (by decide); have q4 := q 4 (by omega) (by decide); have q5 := q 5 (by omega) (by decide); have q6 := q 6 (by omega) (by decide)
      simp at *; omega
    · have q4 := q 4 (by omega) (by decide); have q5 := q 5 (by omega) (by decide); have q6 := q 6 (by omega) (by decide)
      simp at *; omega
    · have q5 := q 5 (by omega) (by decide); have q6 := q 6 (by omega) (by decide)
      simp at *; omega
    · have q6 := q 6 (by omega) (by decide)
      simp at *; omega
    · simp at *; omega

set_option maxRecDepth 10000 in
theorem zt_walk (bb o n c : Nat) (f : Nat → Int) (at_ s m B W : Nat) (d q : Int) (w : World) (hs : s < 4) (hm : m ≤ 128) (hB : m * 2 ^ s = B) (hok : (P.mk 2 at_ d q ((s : Int) + 2) m).Ok) (hW : wordsI (P.mk 2 at_ d q ((s : Int) + 2) m) = W) (hWB : 8 * W < B + 8) (hBW : B ≤ 8 * W) (hn : n ≤ 256) (hin : at_ + W ≤ n) (hA : ArenaAt w (some ⟨bb, o, none⟩) n f) :
    Calls Facg.prog 145 #[.slice (some ⟨bb, o, none⟩) n c, (P.mk 2 at_ d q ((s : Int) + 2) m).val] w fun e w' => ∃ r, e = .returned (.bool r) ∧ Grows w w' ∧ (r = true ↔ ∀ j, B ≤ j → j < 8 * W → zeroB f at_ j) := by
  have HWd := hide (fun w => pwords_any _ hok w)
  rw [hW] at HWd
  have HBX := hide (BoxP.box w (P.mk 2 at_ d q ((s : Int) + 2) m) 31)
  have HA := hide hA
  have hpow : 2 ^ s ≤ 8 := by
    have : 2 ^ s ≤ 2 ^ 3 := Nat.pow_le_pow_right (by decide) (by omega)
    omega
  have hBb : B ≤ 1024 := by rw [← hB]; exact Nat.le_trans (Nat.mul_le_mul hm hpow) (by decide)
  have hBi : (m : Int) * 2 ^ s = (B : Int) := by rw [← hB]; simp
  clear hW hok hA hB hpow
  unfold P.val at *
  simp only at *
  go_enter Facg.func145, Facg.ntmps145
  go_wp2
  go_loopw [6] (fun t wr => ∃ i : Nat, t = .int .i64 i ∧ B ≤ i ∧ i ≤ 8 * W ∧ Grows (w.alloc (.cells #[.int .u8 2, .int .u16 at_, .int .u8 d, .int .u8 q, .int .u8 ((s : Int) + 2), .int .u16 m] 31)) wr ∧ ∀ j, B ≤ j → j < i → zeroB f at_ j) (fun t _ => 8 * W - (intOf t).toNat)
  case atStart => exact ⟨B, rfl, Nat.le_refl _, hBW, Kept.refl _ _, fun j h1 h2 => by omega⟩
  case round =>
    obtain ⟨i, rfl, i1, i2, hg, hz⟩ := hrel
    obtain ⟨b0, b1, b2, b3, b4, b5⟩ := HBX.out.kept hg trivial
    simp only at b0 b1 b2 b3 b4 b5
    have HG := hide hg
    have HZ := hide hz
    clear hg hz
    go_wp2_with (fail)
    refine (HWd.out wr).mono ?_
    rintro e w2 ⟨rfl, hg2⟩
    have d1 := hg2.cell b1 trivial
    have HG2 := hide (HG.out.trans hg2)
    clear hg2 b0 b1 b2 b3 b4 b5
    by_cases hlt : i < 8 * W
    · have hd : decide ((i : Int) < 8 * (W : Int)) = true := decide_eq_true (by omega)
      obtain ⟨bb', o', hbo, hc⟩ := HA.out.2 (by omega)
      injection hbo with hbo
      injection hbo with hb1 hb2 _
      rw [← hb1, ← hb2] at hc
      clear hb1 hb2
      have hidx : at_ + i / 8 < n := by omega
      have cx := HG2.out.cell (((Kept.refl (fun _ => True) w).alloc _).cell (hc (at_ + i / 8) hidx) trivial) trivial
      have hx := HA.out.1 (at_ + i / 8)
      have HX : Hid (zeroB f at_ i ↔ f (at_ + i / 8) / 2 ^ (i % 8 * 8) % 256 = 0) := Iff.rfl
      obtain ⟨x, hxe⟩ : ∃ x, x = f (at_ + i / 8) := ⟨_, rfl⟩
      rw [← hxe] at HX cx hx
      clear hxe
      obtain ⟨t, ht⟩ : ∃ t : Nat, at_ + i / 8 = t := ⟨_, rfl⟩
      rw [ht] at cx hidx
      have hd8 : decide ((i : Int) % 8 * 8 < 64) = true := decide_eq_true (by omega)
      have hadd : (at_ : Int) + (i : Int) / 8 = (t : Int) := by omega
      clear hc ht
      cases hz : (x / 2 ^ (i % 8 * 8) % 256 != 0) with
      | true =>
        go_wp2
        go_ret
        refine ⟨false, rfl, ((Kept.refl _ _).alloc _).trans HG2.out, ⟨fun h => (by cases h), fun h => ?_⟩⟩
        have := HX.out.1 (h i i1 hlt)
        rw [this] at hz
        cases hz
      | false =>
        go_wp2
        go_roundw
        case rel =>
          refine ⟨i + 1, rfl, by omega, by omega, HG2.out, fun j h1 h2 => ?_⟩
          by_cases hj : j = i
          · subst hj
            refine HX.out.2 ?_
            simpa using hz
          · exact HZ.out j h1 (by omega)
        case measure => simp [intOf]; omega
    · have hd : decide ((i : Int) < 8 * (W : Int)) = false := decide_eq_false (by omega)
      go_wp2
      go_ret
      refine ⟨true, rfl, ((Kept.refl _ _).alloc _).trans HG2.out, ⟨fun _ j h1 h2 => HZ.out j h1 (by omega), fun _ => rfl⟩⟩

set_option maxRecDepth 10000 in
theorem zt_empty (a : Option Addr) (n c at_ s : Nat) (d q : Int) (w : World) (hs : s < 4) (hok : (P.mk 2 at_ d q ((s : Int) + 2) 0).Ok) (hW : wordsI (P.mk 2 at_ d q ((s : Int) + 2) 0) = 0) :
    Calls Facg.prog 145 #[.slice a n c, (P.mk 2 at_ d q ((s : Int) + 2) 0).val] w fun e w' => e = .returned (.bool true) ∧ Grows w w' := by
  have HWd := hide (fun w => pwords_any _ hok w)
  rw [hW] at HWd
  clear hW hok
  unfold P.val at *
  simp only at *
  go_enter Facg.func145, Facg.ntmps145
  go_wp2
  go_loopw [6] (fun t wr => t = .int .i64 0 ∧ wr = w.alloc (.cells #[.int .u8 2, .int .u16 at_, .int .u8 d, .int .u8 q, .int .u8 ((s : Int) + 2), .int .u16 0] 31)) (fun t _ => 0)
  case atStart => exact ⟨rfl, rfl⟩
  case round =>
    obtain ⟨rfl, rfl⟩ := hrel
    go_wp2_with (first
      | (go_at_call 74; refine (HWd.out _).mono ?_; rintro e w2 ⟨rfl, hg2⟩; have HG := hide hg2; clear hg2))
    go_ret
    exact ⟨rfl, ((Kept.refl _ _).alloc _).trans HG.out⟩

theorem words_scalar {q : P} (hk : q.kind = 2) (hc : q.count ≤ 128) (h1 : 2 ≤ q.code) (h2 : q.code ≤ 5) : wordsI q = (q.bytes + 7) / 8 := by
  unfold wordsI P.bytes widthI
  rw [if_neg (by omega), if_neg (by omega), if_neg (by omega), if_pos ⟨h1, h2⟩, if_pos ⟨h1, h2⟩]

/-- vmodel.zeroTail is wire.Padded, of a scalar list inside. -/
theorem zt_any (a : Option Addr) (n c : Nat) (f : Nat → Int) (q : P) (w : World) (hok : q.Ok) (hin : insideI n q = true) (hk : q.kind = 2) (h1 : 2 ≤ q.code) (h2 : q.code ≤ 5) (hA : ArenaAt w a n f) :
    Calls Facg.prog 145 #[.slice a n c, q.val] w fun e w' => e = .returned (.bool (paddedI f n q)) ∧ Grows w w' := by
  obtain ⟨g1, g2, g3, g4⟩ := inside_kind2 hok hin hk
  have hw := words_scalar hk g2 h1 h2
  have hf : q.first = q.at_ := by unfold P.first; rw [if_neg (by omega)]
  rw [hf] at g3
  have hat := hok.at_
  have hct := hok.count
  have hwb := widthI_bd q.code
  have hpd : paddedI f n q = true ↔ (¬ q.bytes % 8 = 0 → f (q.at_ + q.bytes / 8).toNat / 2 ^ (q.bytes % 8 * 8).toNat = 0) := by
    unfold paddedI
    by_cases hz : q.bytes % 8 = 0
    · rw [if_neg (by intro x; exact x.2 hz)]
      simp [hz]
    · rw [if_pos ⟨hk, hz⟩, decide_eq_true (by omega : q.at_ + q.bytes / 8 < (n : Int))]
      simp [hz]
  have hb0 : 0 ≤ q.bytes := Int.mul_nonneg hct.1 hwb.1
  obtain ⟨k, at_, d, qq, cd, m⟩ := q
  simp only at hk h1 h2 hat hct g2 g3
  subst hk
  obtain ⟨at_, rfl⟩ := Int.eq_ofNat_of_zero_le hat.1
  obtain ⟨m, rfl⟩ := Int.eq_ofNat_of_zero_le hct.1
  obtain ⟨s, hs⟩ := Int.eq_ofNat_of_zero_le (show 0 ≤ cd - 2 by omega)
  have hcd : cd = ((s : Int) + 2) := by omega
  subst hcd
  have hbytes : (P.mk 2 at_ d qq ((s : Int) + 2) m).bytes = ((m * 2 ^ s : Nat) : Int) := by
    unfold P.bytes widthI
    simp only
    rw [if_pos ⟨h1, h2⟩, show (((s : Int) + 2) - 2).toNat = s by omega]
    simp
  obtain ⟨B, hB⟩ : ∃ B, m * 2 ^ s = B := ⟨_, rfl⟩
  rw [hB] at hbytes
  obtain ⟨W, hW⟩ := Int.eq_ofNat_of_zero_le (pwords_bd _ hok).1
  rw [hbytes] at hw hpd
  rw [hW] at g3 hw
  by_cases hn0 : 0 < n
  · obtain ⟨bb, o, rfl, hc⟩ := hA.2 hn0
    refine (zt_walk bb o n c f at_ s m B W d qq w (by omega) (by omega) hB hok hW (by omega) (by omega) g1 (by omega) hA).mono ?_
    rintro e w' ⟨r, rfl, hg, hr⟩
    refine ⟨?_, hg⟩
    have : r = paddedI f n ⟨2, at_, d, qq, ((s : Int) + 2), m⟩ := by
      rw [Bool.eq_iff_iff, hr, hpd]
      by_cases hz : B % 8 = 0
      · constructor
        · intro _ h; exact absurd (by omega) h
        · intro _ j j1 j2; omega
      · have hx := hA.1 (at_ + B / 8)
        have hbz := bytes_zero (f (at_ + B / 8)) (B % 8) hx.1 hx.2 (by omega)
        have e1 : ((at_ : Int) + (B : Int) / 8).toNat = at_ + B / 8 := by omega
        have e2 : ((B : Int) % 8 * 8).toNat = B % 8 * 8 := by omega
        simp only [e1, e2]
        rw [hbz]
        constructor
        · intro h _ j j1 j2
          have := h (B / 8 * 8 + j) (by omega) (by omega)
          unfold zeroB at this
          rwa [show (B / 8 * 8 + j) / 8 = B / 8 by omega, show (B / 8 * 8 + j) % 8 = j by omega] at this
        · intro h j j1 j2
          have := h (by omega) (j % 8) (by omega) (by omega)
          unfold zeroB
          rwa [show j / 8 = B / 8 by omega]
    rw [this]
  · have hW0 : W = 0 := by omega
    have hB0 : B = 0 := by omega
    have hm0 : m = 0 := by
      rcases Nat.eq_zero_or_pos m with h | h
      · exact h
      · have : 0 < m * 2 ^ s := Nat.mul_pos h (Nat.pow_pos (by decide))
        omega
    subst hm0
    have : paddedI f n ⟨2, at_, d, qq, ((s : Int) + 2), ((0 : Nat) : Int)⟩ = true := by
      rw [hpd]
      intro h
      exact absurd (by omega) h
    rw [this]
    exact zt_empty a n c at_ s d qq w (by omega) hok (by have := hW; rw [hW0] at this; exact this)
end Go.Proofs.Ygcfac
