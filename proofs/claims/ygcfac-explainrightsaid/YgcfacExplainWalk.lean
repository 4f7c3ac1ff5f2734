import Derived.Test.YgcfacMeets
import Derived.Test.YgcfacValNo
import Derived.Test.YgcfacInWalk
import Derived.Test.YgcfacOver
import Derived.Test.YgcfacZero
namespace Go.Proofs.Ygcfac
open Go.RowKit
set_option linter.unusedVariables false

/-- What a list whose tail is not zero looks like. -/
theorem pad_facts {f : Nat → Int} {n : Nat} {q : P} (hf : ∀ j, 0 ≤ f j ∧ f j < 18446744073709551616) (hq : Fine n q) (hk : ¬ q.kind = 0) (hp : paddedI f n q = false) :
    ∃ (at_ s m W : Nat) (d qq : Int), q = P.mk 2 at_ d qq ((s : Int) + 2) m ∧ s < 4 ∧ m ≤ 128 ∧ W ≤ 256 ∧ q.Ok ∧ wordsI q = W ∧ 8 * (m * 2 ^ s) ≤ 64 * W ∧ at_ + W ≤ n ∧ ∃ b, 8 * (m * 2 ^ s) ≤ b ∧ b < 64 * W ∧ f (at_ + b / 64) / 2 ^ (b % 64) % 2 = 1 := by
  rcases hq with rfl | ⟨hok, _, hin⟩
  · exact absurd rfl hk
  have hk2 : q.kind = 2 := by
    unfold paddedI at hp
    split at hp
    · rename_i h; exact h.1
    · cases hp
  have hz : ¬ q.bytes % 8 = 0 := by
    unfold paddedI at hp
    split at hp
    · rename_i h; exact h.2
    · cases hp
  have hcd : 2 ≤ q.code ∧ q.code ≤ 5 := by
    by_cases h : 2 ≤ q.code ∧ q.code ≤ 5
    · exact h
    · exfalso
      apply hz
      unfold P.bytes widthI
      rw [if_neg h]
      simp
  obtain ⟨g1, g2, g3, g4⟩ := inside_kind2 hok hin hk2
  have hw := words_scalar hk2 g2 hcd.1 hcd.2
  have hfs : q.first = q.at_ := by unfold P.first; rw [if_neg (by omega)]
  rw [hfs] at g3
  have hat := hok.at_
  have hct := hok.count
  obtain ⟨W, hW⟩ := Int.eq_ofNat_of_zero_le (pwords_bd _ hok).1
  have hok' := hok
  obtain ⟨k, at_, d, qq, cd, m⟩ := q
  simp only at hk2 hcd hat hct g2 g3
  subst hk2
  obtain ⟨at_, rfl⟩ := Int.eq_ofNat_of_zero_le hat.1
  obtain ⟨m, rfl⟩ := Int.eq_ofNat_of_zero_le hct.1
  obtain ⟨s, hs⟩ := Int.eq_ofNat_of_zero_le (show 0 ≤ cd - 2 by omega)
  have hcd' : cd = ((s : Int) + 2) := by omega
  subst hcd'
  have hbytes : (P.mk 2 at_ d qq ((s : Int) + 2) m).bytes = ((m * 2 ^ s : Nat) : Int) := by
    unfold P.bytes widthI
    simp only
    rw [if_pos hcd, show (((s : Int) + 2) - 2).toNat = s by omega]
    simp
  rw [hbytes] at hw hz
  refine ⟨at_, s, m, W, d, qq, rfl, by omega, by omega, by omega, hok', hW, ?_⟩
  unfold paddedI at hp
  rw [if_pos ⟨rfl, by rw [hbytes]; exact hz⟩, hbytes] at hp
  generalize m * 2 ^ s = B at hw hz hp ⊢
  rw [hW] at g3 hw
  rw [decide_eq_true (show (at_ : Int) + (B : Int) / 8 < (n : Int) by omega)] at hp
  have e1 : ((at_ : Int) + (B : Int) / 8).toNat = at_ + B / 8 := by omega
  have e2 : ((B : Int) % 8 * 8).toNat = B % 8 * 8 := by omega
  simp only [e1, e2, Bool.true_and, beq_eq_false_iff_ne] at hp
  have hx := hf (at_ + B / 8)
  obtain ⟨k, k1, k2, k3⟩ := bit_exists _ _ hx.1 hx.2 hp
  refine ⟨by omega, by omega, B / 8 * 64 + k, by omega, by omega, ?_⟩
  rw [show (B / 8 * 64 + k) / 64 = B / 8 by omega, show (B / 8 * 64 + k) % 64 = k by omega]
  exact k3

theorem and_shift (x : Int) (s : Nat) (h0 : 0 ≤ x) (h1 : x < 18446744073709551616) : bits .and .u64 (x / 2 ^ s) 1 = x / 2 ^ s % 2 := by
  obtain ⟨y, rfl⟩ := Int.eq_ofNat_of_zero_le h0
  have e : ((y : Int) / 2 ^ s) = ((y / 2 ^ s : Nat) : Int) := by simp
  have hle : y / 2 ^ s ≤ y := Nat.div_le_self _ _
  rw [e, and_one _ (by omega)]
  simp

theorem bool_no {b : Bool} {p : Prop} (h : b = true ↔ p) (hn : ¬ p) : b = false := by
  cases b
  · rfl
  · exact absurd (h.1 rfl) hn

set_option maxHeartbeats 4000000 in
set_option maxRecDepth 10000 in
theorem explainRight_walk (v : Value) (xs : List Int) (w : World) (hv : Ints w .u64 v xs) :
    Calls Facg.prog 3 #[v] w fun e w' => e = .returned (.bool true) ∧ Grows w w' := by
  obtain ⟨a, c, rfl, hc, hm, hw, hr⟩ := id hv
  unfold maxLen at hm
  obtain ⟨m, hmin0, hm1, hm2, hm3⟩ := min_of xs.length 257
  have hmin : (if (257 : Int) < (xs.length : Int) then (257 : Int) else (xs.length : Int)) = (m : Int) := hmin0
  clear hmin0
  have hI := hv.front m hm1
  have hA := ArenaAt.of_ints hI
  generalize (fun j => (xs.take m).getD j 0) = f at hA
  have HA := hide (fun w' hg => hA.grows (w' := w') hg)
  have HF := hide hA.1
  have hmc : (m : Int) ≤ (c : Int) := by omega
  have HLt : Hid (1 ≤ m → ∀ b o, a = some ⟨b, o, none⟩ → b < w.heap.size) := by
    intro h1 b o e
    obtain ⟨b', o', e', hc'⟩ := hA.2 (by omega)
    rw [e] at e'
    injection e' with e'
    injection e' with e1 e2
    subst e1 e2
    have := World.block_lt_of_cell? w ⟨b, o + 0, none⟩ (hc' 0 (by omega))
    exact this
  have hmm : m ≤ 9223372036854775807 := by omega
  clear hv hw hr hI hA hm3
  have HEx := hide (fun w' (hg : Grows w w') => explain_any a m c f w' hmm (HA.out w' hg) (fun h b o e => Nat.lt_of_lt_of_le (HLt.out h b o e) hg.size))
  have HVa := hide (fun w' (hg : Grows w w') => validate_all a m c f w' hmm (HA.out w' hg) (fun h b o e => Nat.lt_of_lt_of_le (HLt.out h b o e) hg.size))
  go_enter Facg.func3, Facg.ntmps3
  go_wp2_with (fail)
  refine (HEx.out _ (Kept.refl _ _)).mono ?_
  rintro e w2 ⟨code, i, rfl, hg2, hE⟩
  have HG2 := hide hg2
  clear hg2 HEx hmin hmc hc hm hm1
  have HRs := hide (fun i w' (hi : i < 65536) (hg : Grows w w') => resolve_any a m c i f w' hmm hi (HA.out w' hg))
  have HSp := hide (fun w' (h : m ≤ 256) (hg : Grows w w') => spread_any a m c f w' h (HA.out w' hg))
  rcases hE with ⟨rfl, rfl, hok⟩ | ⟨rfl, rfl, hno⟩ | ⟨h1, h2, hno, hi, hmet, hwhy⟩
  · have HOk := hide hok
    have d1 : decide ((m : Int) < 1) = false := decide_eq_false (by have := hok.1; omega)
    have d2 : decide ((256 : Int) < (m : Int)) = false := decide_eq_false (by have := hok.2.1; omega)
    clear hok HRs HSp
    go_wp2_with (first
      | (go_at_call 16; (with_reducible refine (HVa.out _ HG2.out).mono ?_); rintro e w3 ⟨b, rfl, hg, hb⟩; have hb' : b = true := hb.2 HOk.out; subst hb'; have HG3 := hide (HG2.out.trans hg); clear hg hb))
    go_ret
    exact ⟨rfl, HG3.out⟩
  · have HNo := hide (fun (h : ArenaOk f m) => hno ⟨h.1, h.2.1⟩)
    clear HRs HSp
    by_cases hlo : m < 1
    · have d1 : decide ((m : Int) < 1) = true := decide_eq_true (by omega)
      clear hno
      go_wp2_with (first
        | (go_at_call 16; (with_reducible refine (HVa.out _ HG2.out).mono ?_); rintro e w3 ⟨b, rfl, hg, hb⟩; have hb' : b = false := bool_no hb HNo.out; subst hb'; have HG3 := hide (HG2.out.trans hg); clear hg hb))
      go_ret
      exact ⟨rfl, HG3.out⟩
    · have d1 : decide ((m : Int) < 1) = false := decide_eq_false (by omega)
      have d2 : decide ((256 : Int) < (m : Int)) = true := decide_eq_true (by omega)
      clear hno hlo
      go_wp2_with (first
        | (go_at_call 16; (with_reducible refine (HVa.out _ HG2.out).mono ?_); rintro e w3 ⟨b, rfl, hg, hb⟩; have hb' : b = false := bool_no hb HNo.out; subst hb'; have HG3 := hide (HG2.out.trans hg); clear hg hb))
      go_ret
      exact ⟨rfl, HG3.out⟩
  · have HNo := hide hno
    have HMet := hide hmet
    have d1 : decide ((m : Int) < 1) = false := decide_eq_false (by omega)
    have d2 : decide ((256 : Int) < (m : Int)) = false := decide_eq_false (by omega)
    have d3 : decide (m ≤ i) = false := decide_eq_false (by omega)
    have HRi := hide (fun w' hg => HRs.out i w' (by omega) hg)
    have HSp1 := hide (fun w' hg => HSp.out w' h2 hg)
    clear hno hmet HRs HSp
    rcases hwhy with ⟨hres, hcode⟩ | ⟨q, hres, hk, hc7 | hc8 | hc9⟩
    · have hbd := faultW_bd (f i) m i
      have HOf := hide (fun w' (hg : Grows w w') => ownFault_any a m c i f w' h2 hi (HA.out w' hg))
      rw [← hcode] at hbd HOf
      rw [hres] at HRi
      unfold resV at HRi
      simp only at HRi
      clear hres hcode
      have e0 : (code == 0) = false := by rw [beq_eq_false_iff_ne]; omega
      have e1 : (code == 1) = false := by rw [beq_eq_false_iff_ne]; omega
      have e2 : decide (code ≤ 1) = false := decide_eq_false (by omega)
      have e3 : decide (7 ≤ code) = false := decide_eq_false (by omega)
      have e7 : (code == 7) = false := by rw [beq_eq_false_iff_ne]; omega
      have e8 : (code == 8) = false := by rw [beq_eq_false_iff_ne]; omega
      have e9 : (code == 9) = false := by rw [beq_eq_false_iff_ne]; omega
      go_wp2_with (first
        | (go_at_call 16; (with_reducible refine (HVa.out _ HG2.out).mono ?_); rintro e w3 ⟨b, rfl, hg, hb⟩; have hb' : b = false := bool_no hb HNo.out; subst hb'; have HG3 := hide (HG2.out.trans hg); clear hg hb)
        | (go_at_call 17; (with_reducible refine (HSp1.out _ HG3.out).mono ?_); rintro e w4 ⟨g, rfl, hg, hgs, hR⟩; have HG4 := hide (HG3.out.trans hg); have HR := hide hR; clear hg hgs hR)
        | (go_at_call 18; (with_reducible refine (HRi.out _ HG4.out).mono ?_); rintro e w5 ⟨rfl, hg⟩; have HG5 := hide (HG4.out.trans hg); have HR5 := hide (HR.out.kept hg trivial); clear hg)
        | (go_at_call 19; (with_reducible refine (meets_any g i _ (by omega) (HR5.out.kept ((Kept.refl (fun _ => True) _).alloc _) trivial)).mono ?_); rintro e w6 ⟨r, rfl, rfl, hr⟩; have hr' : r = true := hr.2 (by obtain ⟨d, x1, x2⟩ := HMet.out; exact ⟨d, by omega, x1, x2⟩); subst hr'; clear hr)
        | (go_at_call 22; (with_reducible refine (HOf.out _ (HG5.out.alloc _)).mono ?_); rintro e w7 ⟨rfl, rfl⟩))
      go_ret
      exact ⟨rfl, HG5.out.alloc _⟩
    · obtain ⟨rfl, hR8⟩ := hc7
      have HR8 := hide hR8
      rw [hres] at HRi
      unfold resV at HRi
      simp only at HRi
      have ek : (q.kind != 0) = true := by rw [bne_iff_ne]; exact hk
      clear hR8 hres hk
      go_wp2_with (first
        | (go_at_call 16; (with_reducible refine (HVa.out _ HG2.out).mono ?_); rintro e w3 ⟨b, rfl, hg, hb⟩; have hb' : b = false := bool_no hb HNo.out; subst hb'; have HG3 := hide (HG2.out.trans hg); clear hg hb)
        | (go_at_call 17; (with_reducible refine (HSp1.out _ HG3.out).mono ?_); rintro e w4 ⟨g, rfl, hg, hgs, hR⟩; have HG4 := hide (HG3.out.trans hg); have HR := hide hR; clear hg hgs hR)
        | (go_at_call 18; (with_reducible refine (HRi.out _ HG4.out).mono ?_); rintro e w5 ⟨rfl, hg⟩; have HG5 := hide (HG4.out.trans hg); have HR5 := hide (HR.out.kept hg trivial); clear hg; have hc8 : w5.cell? ⟨g, i * 9 + 8, none⟩ = some (.bool true) := (by obtain ⟨b, x1, x2⟩ := HR5.out.1 i 8 (by omega) (by decide); rw [x2.2 ⟨by decide, HR8.out⟩] at x1; exact x1); have hgl : g < w5.heap.size := HR5.out.lt)
        | (go_at_call 19; (with_reducible refine (meets_any g i _ (by omega) (HR5.out.kept ((Kept.refl (fun _ => True) _).alloc _) trivial)).mono ?_); rintro e w6 ⟨r, rfl, rfl, hr⟩; have hr' : r = true := hr.2 (by obtain ⟨d, x1, x2⟩ := HMet.out; exact ⟨d, by omega, x1, x2⟩); subst hr'; clear hr))
      go_ret
      exact ⟨rfl, HG5.out.alloc _⟩
    · obtain ⟨rfl, hov⟩ := hc8
      have HOv := hide (fun g w' hA hR => overlaps_any g a m c i f q w' h2 hi hA hR hres (hit_of HF.out (resolve_fine HF.out hres) hov))
      rw [hres] at HRi
      unfold resV at HRi
      simp only at HRi
      have ek : (q.kind != 0) = true := by rw [bne_iff_ne]; exact hk
      clear hov hres hk
      go_wp2_with (first
        | (go_at_call 16; (with_reducible refine (HVa.out _ HG2.out).mono ?_); rintro e w3 ⟨b, rfl, hg, hb⟩; have hb' : b = false := bool_no hb HNo.out; subst hb'; have HG3 := hide (HG2.out.trans hg); clear hg hb)
        | (go_at_call 17; (with_reducible refine (HSp1.out _ HG3.out).mono ?_); rintro e w4 ⟨g, rfl, hg, hgs, hR⟩; have HG4 := hide (HG3.out.trans hg); have HR := hide hR; clear hg hgs hR)
        | (go_at_call 18; (with_reducible refine (HRi.out _ HG4.out).mono ?_); rintro e w5 ⟨rfl, hg⟩; have HG5 := hide (HG4.out.trans hg); have HR5 := hide (HR.out.kept hg trivial); clear hg)
        | (go_at_call 19; (with_reducible refine (meets_any g i _ (by omega) (HR5.out.kept ((Kept.refl (fun _ => True) _).alloc _) trivial)).mono ?_); rintro e w6 ⟨r, rfl, rfl, hr⟩; have hr' : r = true := hr.2 (by obtain ⟨d, x1, x2⟩ := HMet.out; exact ⟨d, by omega, x1, x2⟩); subst hr'; clear hr)
        | (go_at_call 20; (with_reducible refine (HOv.out g _ (HA.out _ (HG5.out.alloc _)) (HR5.out.kept ((Kept.refl (fun _ => True) _).alloc _) trivial)).mono ?_); rintro e w7 ⟨rfl, hg⟩; have HG7 := hide ((HG5.out.alloc _).trans hg); clear hg))
      go_ret
      exact ⟨rfl, HG7.out⟩
    · obtain ⟨rfl, hpad⟩ := hc9
      obtain ⟨at_, s, k, W, d, qq, rfl, hs, hk8, hW8, hok, hW, hBW, hin, hbit⟩ := pad_facts HF.out (resolve_fine HF.out hres) hk hpad
      have HBit := hide hbit
      have HWd := hide (fun w => ownWords_any _ hok w)
      rw [hW] at HWd
      rw [hres] at HRi
      unfold resV at HRi
      simp only at HRi
      clear hpad hres hk hbit hok hW
      unfold P.val at HWd
      simp only at HWd
      have hs' : s = 0 ∨ s = 1 ∨ s = 2 ∨ s = 3 := by omega
      have HF' := hide HF.out
      rcases hs' with rfl | rfl | rfl | rfl
      · have hB : 8 * (k * 2 ^ 0) = k * 8 := by omega
        rw [hB] at HBit hBW
        clear hB hs
        simp only [show ((0 : Nat) : Int) + 2 = 2 from rfl] at HRi HWd
        go_wp2_with (first
          | (go_at_call 16; (with_reducible refine (HVa.out _ HG2.out).mono ?_); rintro e w3 ⟨b, rfl, hg, hb⟩; have hb' : b = false := bool_no hb HNo.out; subst hb'; have HG3 := hide (HG2.out.trans hg); clear hg hb)
          | (go_at_call 17; (with_reducible refine (HSp1.out _ HG3.out).mono ?_); rintro e w4 ⟨g, rfl, hg, hgs, hR⟩; have HG4 := hide (HG3.out.trans hg); have HR := hide hR; clear hg hgs hR)
          | (go_at_call 18; (with_reducible refine (HRi.out _ HG4.out).mono ?_); rintro e w5 ⟨rfl, hg⟩; have HG5 := hide (HG4.out.trans hg); have HR5 := hide (HR.out.kept hg trivial); clear hg)
          | (go_at_call 19; (with_reducible refine (meets_any g i _ (by omega) (HR5.out.kept ((Kept.refl (fun _ => True) _).alloc _) trivial)).mono ?_); rintro e w6 ⟨r, rfl, rfl, hr⟩; have hr' : r = true := hr.2 (by obtain ⟨d, x1, x2⟩ := HMet.out; exact ⟨d, by omega, x1, x2⟩); subst hr'; clear hr))
        have HBx := hide (BoxP.box w5 (P.mk 2 at_ d qq 2 k) 31)
        have HG6 := hide (HG5.out.alloc (.cells #[.int .u8 2, .int .u16 at_, .int .u8 d, .int .u8 qq, .int .u8 2, .int .u16 k] 31))
        clear HR5 HR HSp1 HRi HVa HMet HNo HG5 HG4 HG3 HG2
        generalize w5.heap.size = B5 at *
        generalize w5.alloc (.cells #[.int .u8 2, .int .u16 at_, .int .u8 d, .int .u8 qq, .int .u8 2, .int .u16 k] 31) = W6 at *
        go_loopw [9] (fun t wr => ∃ bit : Nat, t = .int .i64 bit ∧ k * 8 ≤ bit ∧ bit ≤ 64 * W ∧ Grows W6 wr ∧ ∀ b, k * 8 ≤ b → b < bit → ¬ f (at_ + b / 64) / 2 ^ (b % 64) % 2 = 1) (fun t _ => 64 * W - (intOf t).toNat)
        case atStart => exact ⟨k * 8, by go_num, Nat.le_refl _, hBW, Kept.refl _ _, fun b h1 h2 => by omega⟩
        case round =>
          obtain ⟨bit, rfl, b1, b2, hg, hno⟩ := hrel
          obtain ⟨x0, x1, x2, x3, x4, x5⟩ := HBx.out.kept hg trivial
          simp only at x0 x1 x2 x3 x4 x5
          have HG := hide hg
          have HNo := hide hno
          clear hg hno
          by_cases hlt : bit < 64 * W
          · have hdl : decide ((bit : Int) < 64 * (W : Int)) = true := decide_eq_true (by omega)
            obtain ⟨bb, oo, rfl, hc⟩ := (HA.out _ HG6.out).2 (by omega)
            have hidx : at_ + bit / 64 < m := by omega
            have cx0 := HG.out.cell (hc (at_ + bit / 64) hidx) trivial
            have hx := HF.out (at_ + bit / 64)
            have HX := hide (show f (at_ + bit / 64) / 2 ^ (bit % 64) % 2 = f (at_ + bit / 64) / 2 ^ (bit % 64) % 2 from rfl)
            obtain ⟨y, hy⟩ : ∃ y, y = f (at_ + bit / 64) / 2 ^ (bit % 64) % 2 := ⟨_, rfl⟩
            have HY := hide hy
            have hand := and_shift (f (at_ + bit / 64)) (bit % 64) hx.1 hx.2
            rw [← hy] at hand
            generalize f (at_ + bit / 64) = x at cx0 hx hand
            obtain ⟨t, ht⟩ : ∃ t : Nat, at_ + bit / 64 = t := ⟨_, rfl⟩
            rw [ht] at cx0 hidx
            have hadd : (at_ : Int) + (bit : Int) / 64 = (t : Int) := by omega
            have hd64 : decide ((bit : Int) % 64 < 64) = true := decide_eq_true (by omega)
            clear hc ht hy HX
            go_wp2_with (first
              | (go_at_call 21; (with_reducible refine (HWd.out _).mono ?_); rintro e w7 ⟨rfl, hg⟩; have HG7 := hide (HG.out.trans hg); have cx := hg.cell cx0 trivial; have z1 := hg.cell x1 trivial; clear hg; cases hz : (y == 1)))
            · go_roundw
              case rel =>
                refine ⟨bit + 1, by go_num, by omega, by omega, HG7.out, fun b h1 h2 => ?_⟩
                by_cases e : b = bit
                · subst e
                  rw [← HY.out]
                  simpa using hz
                · exact HNo.out b h1 (by omega)
              case measure => simp [intOf]; omega
            · go_ret
              exact ⟨rfl, HG6.out.trans HG7.out⟩
          · exfalso
            obtain ⟨b, h1, h2, h3⟩ := HBit.out
            exact HNo.out b h1 (by omega) h3
      · have hB : 8 * (k * 2 ^ 1) = k * 16 := by omega
        rw [hB] at HBit hBW
        clear hB hs
        simp only [show ((1 : Nat) : Int) + 2 = 3 from rfl] at HRi HWd
        go_wp2_with (first
          | (go_at_call 16; (with_reducible refine (HVa.out _ HG2.out).mono ?_); rintro e w3 ⟨b, rfl, hg, hb⟩; have hb' : b = false := bool_no hb HNo.out; subst hb'; have HG3 := hide (HG2.out.trans hg); clear hg hb)
          | (go_at_call 17; (with_reducible refine (HSp1.out _ HG3.out).mono ?_); rintro e w4 ⟨g, rfl, hg, hgs, hR⟩; have HG4 := hide (HG3.out.trans hg); have HR := hide hR; clear hg hgs hR)
          | (go_at_call 18; (with_reducible refine (HRi.out _ HG4.out).mono ?_); rintro e w5 ⟨rfl, hg⟩; have HG5 := hide (HG4.out.trans hg); have HR5 := hide (HR.out.kept hg trivial); clear hg)
          | (go_at_call 19; (with_reducible refine (meets_any g i _ (by omega) (HR5.out.kept ((Kept.refl (fun _ => True) _).alloc _) trivial)).mono ?_); rintro e w6 ⟨r, rfl, rfl, hr⟩; have hr' : r = true := hr.2 (by obtain ⟨d, x1, x2⟩ := HMet.out; exact ⟨d, by omega, x1, x2⟩); subst hr'; clear hr))
        have HBx := hide (BoxP.box w5 (P.mk 2 at_ d qq 3 k) 31)
        have HG6 := hide (HG5.out.alloc (.cells #[.int .u8 2, .int .u16 at_, .int .u8 d, .int .u8 qq, .int .u8 3, .int .u16 k] 31))
        clear HR5 HR HSp1 HRi HVa HMet HNo HG5 HG4 HG3 HG2
        generalize w5.heap.size = B5 at *
        generalize w5.alloc (.cells #[.int .u8 2, .int .u16 at_, .int .u8 d, .int .u8 qq, .int .u8 3, .int .u16 k] 31) = W6 at *
        go_loopw [9] (fun t wr => ∃ bit : Nat, t = .int .i64 bit ∧ k * 16 ≤ bit ∧ bit ≤ 64 * W ∧ Grows W6 wr ∧ ∀ b, k * 16 ≤ b → b < bit → ¬ f (at_ + b / 64) / 2 ^ (b % 64) % 2 = 1) (fun t _ => 64 * W - (intOf t).toNat)
        case atStart => exact ⟨k * 16, by go_num, Nat.le_refl _, hBW, Kept.refl _ _, fun b h1 h2 => by omega⟩
        case round =>
          obtain ⟨bit, rfl, b1, b2, hg, hno⟩ := hrel
          obtain ⟨x0, x1, x2, x3, x4, x5⟩ := HBx.out.kept hg trivial
          simp only at x0 x1 x2 x3 x4 x5
          have HG := hide hg
          have HNo := hide hno
          clear hg hno
          by_cases hlt : bit < 64 * W
          · have hdl : decide ((bit : Int) < 64 * (W : Int)) = true := decide_eq_true (by omega)
            obtain ⟨bb, oo, rfl, hc⟩ := (HA.out _ HG6.out).2 (by omega)
            have hidx : at_ + bit / 64 < m := by omega
            have cx0 := HG.out.cell (hc (at_ + bit / 64) hidx) trivial
            have hx := HF.out (at_ + bit / 64)
            have HX := hide (show f (at_ + bit / 64) / 2 ^ (bit % 64) % 2 = f (at_ + bit / 64) / 2 ^ (bit % 64) % 2 from rfl)
            obtain ⟨y, hy⟩ : ∃ y, y = f (at_ + bit / 64) / 2 ^ (bit % 64) % 2 := ⟨_, rfl⟩
            have HY := hide hy
            have hand := and_shift (f (at_ + bit / 64)) (bit % 64) hx.1 hx.2
            rw [← hy] at hand
            generalize f (at_ + bit / 64) = x at cx0 hx hand
            obtain ⟨t, ht⟩ : ∃ t : Nat, at_ + bit / 64 = t := ⟨_, rfl⟩
            rw [ht] at cx0 hidx
            have hadd : (at_ : Int) + (bit : Int) / 64 = (t : Int) := by omega
            have hd64 : decide ((bit : Int) % 64 < 64) = true := decide_eq_true (by omega)
            clear hc ht hy HX
            go_wp2_with (first
              | (go_at_call 21; (with_reducible refine (HWd.out _).mono ?_); rintro e w7 ⟨rfl, hg⟩; have HG7 := hide (HG.out.trans hg); have cx := hg.cell cx0 trivial; have z1 := hg.cell x1 trivial; clear hg; cases hz : (y == 1)))
            · go_roundw
              case rel =>
                refine ⟨bit + 1, by go_num, by omega, by omega, HG7.out, fun b h1 h2 => ?_⟩
                by_cases e : b = bit
                · subst e
                  rw [← HY.out]
                  simpa using hz
                · exact HNo.out b h1 (by omega)
              case measure => simp [intOf]; omega
            · go_ret
              exact ⟨rfl, HG6.out.trans HG7.out⟩
          · exfalso
            obtain ⟨b, h1, h2, h3⟩ := HBit.out
            exact HNo.out b h1 (by omega) h3
      · have hB : 8 * (k * 2 ^ 2) = k * 32 := by omega
        rw [hB] at HBit hBW
        clear hB hs
        simp only [show ((2 : Nat) : Int) + 2 = 4 from rfl] at HRi HWd
        go_wp2_with (first
          | (go_at_call 16; (with_reducible refine (HVa.out _ HG2.out).mono ?_); rintro e w3 ⟨b, rfl, hg, hb⟩; have hb' : b = false := bool_no hb HNo.out; subst hb'; have HG3 := hide (HG2.out.trans hg); clear hg hb)
          | (go_at_call 17; (with_reducible refine (HSp1.out _ HG3.out).mono ?_); rintro e w4 ⟨g, rfl, hg, hgs, hR⟩; have HG4 := hide (HG3.out.trans hg); have HR := hide hR; clear hg hgs hR)
          | (go_at_call 18; (with_reducible refine (HRi.out _ HG4.out).mono ?_); rintro e w5 ⟨rfl, hg⟩; have HG5 := hide (HG4.out.trans hg); have HR5 := hide (HR.out.kept hg trivial); clear hg)
          | (go_at_call 19; (with_reducible refine (meets_any g i _ (by omega) (HR5.out.kept ((Kept.refl (fun _ => True) _).alloc _) trivial)).mono ?_); rintro e w6 ⟨r, rfl, rfl, hr⟩; have hr' : r = true := hr.2 (by obtain ⟨d, x1, x2⟩ := HMet.out; exact ⟨d, by omega, x1, x2⟩); subst hr'; clear hr))
        have HBx := hide (BoxP.box w5 (P.mk 2 at_ d qq 4 k) 31)
        have HG6 := hide (HG5.out.alloc (.cells #[.int .u8 2, .int .u16 at_, .int .u8 d, .int .u8 qq, .int .u8 4, .int .u16 k] 31))
        clear HR5 HR HSp1 HRi HVa HMet HNo HG5 HG4 HG3 HG2
        generalize w5.heap.size = B5 at *
        generalize w5.alloc (.cells #[.int .u8 2, .int .u16 at_, .int .u8 d, .int .u8 qq, .int .u8 4, .int .u16 k] 31) = W6 at *
        go_loopw [9] (fun t wr => ∃ bit : Nat, t = .int .i64 bit ∧ k * 32 ≤ bit ∧ bit ≤ 64 * W ∧ Grows W6 wr ∧ ∀ b, k * 32 ≤ b → b < bit → ¬ f (at_ + b / 64) / 2 ^ (b % 64) % 2 = 1) (fun t _ => 64 * W - (intOf t).toNat)
        case atStart => exact ⟨k * 32, by go_num, Nat.le_refl _, hBW, Kept.refl _ _, fun b h1 h2 => by omega⟩
        case round =>
          obtain ⟨bit, rfl, b1, b2, hg, hno⟩ := hrel
          obtain ⟨x0, x1, x2, x3, x4, x5⟩ := HBx.out.kept hg trivial
          simp only at x0 x1 x2 x3 x4 x5
          have HG := hide hg
          have HNo := hide hno
          clear hg hno
          by_cases hlt : bit < 64 * W
          · have hdl : decide ((bit : Int) < 64 * (W : Int)) = true := decide_eq_true (by omega)
            obtain ⟨bb, oo, rfl, hc⟩ := (HA.out _ HG6.out).2 (by omega)
            have hidx : at_ + bit / 64 < m := by omega
            have cx0 := HG.out.cell (hc (at_ + bit / 64) hidx) trivial
            have hx := HF.out (at_ + bit / 64)
            have HX := hide (show f (at_ + bit / 64) / 2 ^ (bit % 64) % 2 = f (at_ + bit / 64) / 2 ^ (bit % 64) % 2 from rfl)
            obtain ⟨y, hy⟩ : ∃ y, y = f (at_ + bit / 64) / 2 ^ (bit % 64) % 2 := ⟨_, rfl⟩
            have HY := hide hy
            have hand := and_shift (f (at_ + bit / 64)) (bit % 64) hx.1 hx.2
            rw [← hy] at hand
            generalize f (at_ + bit / 64) = x at cx0 hx hand
            obtain ⟨t, ht⟩ : ∃ t : Nat, at_ + bit / 64 = t := ⟨_, rfl⟩
            rw [ht] at cx0 hidx
            have hadd : (at_ : Int) + (bit : Int) / 64 = (t : Int) := by omega
            have hd64 : decide ((bit : Int) % 64 < 64) = true := decide_eq_true (by omega)
            clear hc ht hy HX
            go_wp2_with (first
              | (go_at_call 21; (with_reducible refine (HWd.out _).mono ?_); rintro e w7 ⟨rfl, hg⟩; have HG7 := hide (HG.out.trans hg); have cx := hg.cell cx0 trivial; have z1 := hg.cell x1 trivial; clear hg; cases hz : (y == 1)))
            · go_roundw
              case rel =>
                refine ⟨bit + 1, by go_num, by omega, by omega, HG7.out, fun b h1 h2 => ?_⟩
                by_cases e : b = bit
                · subst e
                  rw [← HY.out]
                  simpa using hz
                · exact HNo.out b h1 (by omega)
              case measure => simp [intOf]; omega
            · go_ret
              exact ⟨rfl, HG6.out.trans HG7.out⟩
          · exfalso
            obtain ⟨b, h1, h2, h3⟩ := HBit.out
            exact HNo.out b h1 (by omega) h3
      · have hB : 8 * (k * 2 ^ 3) = k * 64 := by omega
        rw [hB] at HBit hBW
        clear hB hs
        simp only [show ((3 : Nat) : Int) + 2 = 5 from rfl] at HRi HWd
        go_wp2_with (first
          | (go_at_call 16; (with_reducible refine (HVa.out _ HG2.out).mono ?_); rintro e w3 ⟨b, rfl, hg, hb⟩; have hb' : b = false := bool_no hb HNo.out; subst hb'; have HG3 := hide (HG2.out.trans hg); clear hg hb)
          | (go_at_call 17; (with_reducible refine (HSp1.out _ HG3.out).mono ?_); rintro e w4 ⟨g, rfl, hg, hgs, hR⟩; have HG4 := hide (HG3.out.trans hg); have HR := hide hR; clear hg hgs hR)
          | (go_at_call 18; (with_reducible refine (HRi.out _ HG4.out).mono ?_); rintro e w5 ⟨rfl, hg⟩; have HG5 := hide (HG4.out.trans hg); have HR5 := hide (HR.out.kept hg trivial); clear hg)
          | (go_at_call 19; (with_reducible refine (meets_any g i _ (by omega) (HR5.out.kept ((Kept.refl (fun _ => True) _).alloc _) trivial)).mono ?_); rintro e w6 ⟨r, rfl, rfl, hr⟩; have hr' : r = true := hr.2 (by obtain ⟨d, x1, x2⟩ := HMet.out; exact ⟨d, by omega, x1, x2⟩); subst hr'; clear hr))
        have HBx := hide (BoxP.box w5 (P.mk 2 at_ d qq 5 k) 31)
        have HG6 := hide (HG5.out.alloc (.cells #[.int .u8 2, .int .u16 at_, .int .u8 d, .int .u8 qq, .int .u8 5, .int .u16 k] 31))
        clear HR5 HR HSp1 HRi HVa HMet HNo HG5 HG4 HG3 HG2
        generalize w5.heap.size = B5 at *
        generalize w5.alloc (.cells #[.int .u8 2, .int .u16 at_, .int .u8 d, .int .u8 qq, .int .u8 5, .int .u16 k] 31) = W6 at *
        go_loopw [9] (fun t wr => ∃ bit : Nat, t = .int .i64 bit ∧ k * 64 ≤ bit ∧ bit ≤ 64 * W ∧ Grows W6 wr ∧ ∀ b, k * 64 ≤ b → b < bit → ¬ f (at_ + b / 64) / 2 ^ (b % 64) % 2 = 1) (fun t _ => 64 * W - (intOf t).toNat)
        case atStart => exact ⟨k * 64, by go_num, Nat.le_refl _, hBW, Kept.refl _ _, fun b h1 h2 => by omega⟩
        case round =>
          obtain ⟨bit, rfl, b1, b2, hg, hno⟩ := hrel
          obtain ⟨x0, x1, x2, x3, x4, x5⟩ := HBx.out.kept hg trivial
          simp only at x0 x1 x2 x3 x4 x5
          have HG := hide hg
          have HNo := hide hno
          clear hg hno
          by_cases hlt : bit < 64 * W
          · have hdl : decide ((bit : Int) < 64 * (W : Int)) = true := decide_eq_true (by omega)
            obtain ⟨bb, oo, rfl, hc⟩ := (HA.out _ HG6.out).2 (by omega)
            have hidx : at_ + bit / 64 < m := by omega
            have cx0 := HG.out.cell (hc (at_ + bit / 64) hidx) trivial
            have hx := HF.out (at_ + bit / 64)
            have HX := hide (show f (at_ + bit / 64) / 2 ^ (bit % 64) % 2 = f (at_ + bit / 64) / 2 ^ (bit % 64) % 2 from rfl)
            obtain ⟨y, hy⟩ : ∃ y, y = f (at_ + bit / 64) / 2 ^ (bit % 64) % 2 := ⟨_, rfl⟩
            have HY := hide hy
            have hand := and_shift (f (at_ + bit / 64)) (bit % 64) hx.1 hx.2
            rw [← hy] at hand
            generalize f (at_ + bit / 64) = x at cx0 hx hand
            obtain ⟨t, ht⟩ : ∃ t : Nat, at_ + bit / 64 = t := ⟨_, rfl⟩
            rw [ht] at cx0 hidx
            have hadd : (at_ : Int) + (bit : Int) / 64 = (t : Int) := by omega
            have hd64 : decide ((bit : Int) % 64 < 64) = true := decide_eq_true (by omega)
            clear hc ht hy HX
            go_wp2_with (first
              | (go_at_call 21; (with_reducible refine (HWd.out _).mono ?_); rintro e w7 ⟨rfl, hg⟩; have HG7 := hide (HG.out.trans hg); have cx := hg.cell cx0 trivial; have z1 := hg.cell x1 trivial; clear hg; cases hz : (y == 1)))
            · go_roundw
              case rel =>
                refine ⟨bit + 1, by go_num, by omega, by omega, HG7.out, fun b h1 h2 => ?_⟩
                by_cases e : b = bit
                · subst e
                  rw [← HY.out]
                  simpa using hz
                · exact HNo.out b h1 (by omega)
              case measure => simp [intOf]; omega
            · go_ret
              exact ⟨rfl, HG6.out.trans HG7.out⟩
          · exfalso
            obtain ⟨b, h1, h2, h3⟩ := HBit.out
            exact HNo.out b h1 (by omega) h3
end Go.Proofs.Ygcfac
