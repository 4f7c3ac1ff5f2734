/-
  (*Tree).Check.
-/
import Derived.Test.YgcfacBounded
import Derived.Test.YgcfacCSt
namespace Go.Proofs.Ygcfac
open Go.RowKit
set_option linter.unusedVariables false

theorem wrap_pow (b : Nat) (hb : b < 64) : IntKind.u64.wrap ((2 : Int) ^ b) = ((2 ^ b : Nat) : Int) := by
  have h : 2 ^ b < 2 ^ 64 := Nat.pow_lt_pow_right (by decide) hb
  have e : ((2 : Int) ^ b) = ((2 ^ b : Nat) : Int) := by simp
  rw [e, IntKind.wrap_u64]
  generalize 2 ^ b = y at *
  omega

theorem and_bit (x b : Nat) : ((((x &&& 2 ^ b : Nat) : Int) != 0) = x.testBit b) := by
  cases h : x.testBit b
  · have : x &&& 2 ^ b = 0 := by
      apply Nat.eq_of_testBit_eq
      intro i
      rw [Nat.testBit_and, Nat.testBit_two_pow, Nat.zero_testBit]
      by_cases e : b = i
      · subst e; rw [h]; rfl
      · simp [e]
    rw [this]
    rfl
  · have : x &&& 2 ^ b ≠ 0 := fun e => by
      have h2 : (x &&& 2 ^ b).testBit b = true := by rw [Nat.testBit_and, Nat.testBit_two_pow_self, h]; rfl
      rw [e, Nat.zero_testBit] at h2
      cases h2
    rw [bne_iff_ne]
    omega

set_option maxHeartbeats 4000000 in
set_option maxRecDepth 10000 in
theorem check_any (g : Nat) (t : Tr) (w : World) (ht : TrAt w g t) :
    Calls Facg.prog 35 #[.pointer (some ⟨g, 0, none⟩)] w (TellsG w (CheckOk t)) := by
  obtain ⟨a, cN, t0, t1, hN, hns⟩ := ht.lift
  have hrb := ht.1
  have HNs := hide hns
  have HTr := hide (fun w' hg => ht.grows (w' := w') hg)
  have hgl : g < w.heap.size := World.block_lt_of_cell? w ⟨g, 0, none⟩ t0
  have HT0 := hide t0
  have HT1 := hide t1
  clear hns ht
  obtain ⟨N, hNe⟩ : ∃ N, t.ns.length = N := ⟨_, rfl⟩
  rw [hNe] at hN t0 HNs HT0
  have HNe := hide hNe
  clear hNe
  obtain ⟨R, hRe⟩ : ∃ R, t.root = R := ⟨_, rfl⟩
  rw [hRe] at hrb t1 HT1
  have HRe := hide hRe
  clear hRe
  by_cases h512 : N ≤ 512
  · have e1 : decide ((512 : Int) < (N : Int)) = false := decide_eq_false (by omega)
    by_cases hlo : R < -1
    · have e2 : decide (R < -1) = true := decide_eq_true hlo
      go_enter Facg.func35, Facg.ntmps35
      go_wp2
      go_quiet (fail)
      go_wp2
      go_ret
      exact TellsG.no (fun h => absurd h.lo (by rw [HRe.out]; omega)) ((Kept.refl _ _).drewN _)
    · have e2 : decide (R < -1) = false := decide_eq_false hlo
      by_cases hhi : (N : Int) ≤ R
      · have e3 : decide ((N : Int) ≤ R) = true := decide_eq_true hhi
        go_enter Facg.func35, Facg.ntmps35
        go_wp2
        go_quiet (fail)
        go_wp2
        go_ret
        exact TellsG.no (fun h => absurd h.hi (by rw [HRe.out, HNe.out]; omega)) ((Kept.refl _ _).drewN _)
      · have e3 : decide ((N : Int) ≤ R) = false := decide_eq_false hhi
        go_enter Facg.func35, Facg.ntmps35
        go_wp2
        go_quiet (fail)
        have HG0 := hide ((Kept.refl (fun _ => True) w).drewN nq)
        have hgl0 : g < (w.drewN nq).heap.size := hgl
        have u0 := HG0.out.cell HT0.out trivial
        have u1 := HG0.out.cell HT1.out trivial
        clear t0 t1 hgl
        generalize w.drewN nq = w0 at *
        go_wp2
        have HA0 := hide (Arr.alloc w0 8 #[.int .u64 0, .int .u64 0, .int .u64 0, .int .u64 0, .int .u64 0, .int .u64 0, .int .u64 0, .int .u64 0] 138 (.int .u64 0) rfl)
        have HGa : Hid (Grows w (w0.alloc (.cells #[.int .u64 0, .int .u64 0, .int .u64 0, .int .u64 0, .int .u64 0, .int .u64 0, .int .u64 0, .int .u64 0] 138))) := HG0.out.alloc _
        have HTa : Hid ((w0.alloc (.cells #[.int .u64 0, .int .u64 0, .int .u64 0, .int .u64 0, .int .u64 0, .int .u64 0, .int .u64 0, .int .u64 0] 138)).heap.size = w0.heap.size + 1) := by unfold Hid; simp
        have hw0 : w.heap.size ≤ w0.heap.size := HG0.out.size
        generalize w0.heap.size = gk at *
        generalize w0.alloc (.cells #[.int .u64 0, .int .u64 0, .int .u64 0, .int .u64 0, .int .u64 0, .int .u64 0, .int .u64 0, .int .u64 0] 138) = W0 at *
        clear u0 u1 HG0
        go_loopw [43] (fun ti wr => ∃ (i : Nat) (S : Nat → Nat), ti = .int .i64 i ∧ i ≤ N ∧ Grows w wr ∧ Arr wr gk 8 (fun q => .int .u64 (S q)) ∧ CSt t i 0 S ∧ ∀ p, p < i → Shp t p) (fun ti _ => N - (intOf ti).toNat)
        case atStart => exact ⟨0, fun _ => 0, rfl, Nat.zero_le _, HGa.out, HA0.out, CSt.start t, fun p hp => absurd hp (Nat.not_lt_zero _)⟩
        case round =>
          obtain ⟨i, S, rfl, hi, hg, hA, hS, hsh⟩ := hrel
          clear HA0 HGa HTa
          have HG := hide hg
          have HA := hide hA
          have HS := hide hS
          have HSh := hide hsh
          have d0 := hg.cell HT0.out trivial
          have d1 := hg.cell HT1.out trivial
          clear hg hA hS hsh
          by_cases hiN : i < N
          · have hdi : decide (i < N) = true := decide_eq_true hiN
            obtain ⟨bn, on, rfl, hnode⟩ := HNs.out (by omega)
            obtain ⟨_, _, c0w, c1w, ⟨vd, c2w, h3⟩, vk, c3w, h5⟩ := hnode i hiN
            obtain ⟨ak, ck, rfl, hm, hrow, hwf⟩ := h5.row
            have HRow := hide hrow
            have hiN' : i < t.ns.length := by rw [HNe.out]; exact hiN
            have HShp := hide (shaped_any g t i wr (HTr.out wr HG.out) hiN')
            have HKb := hide (fun j (hj : j < (t.nd i).kids.length) => show -32768 ≤ (t.nd i).k j ∧ (t.nd i).k j < 32768 by
              have := hwf ((t.nd i).kids.getD j 0) (by rw [List.getD_eq_getElem?_getD, List.getElem?_eq_getElem hj]; exact List.getElem_mem hj)
              have := bounds_i16 this
              unfold Nd.k
              omega)
            have HKid := hide (fun j (k : Nat) (hj : j < (t.nd i).kids.length) (hk : (t.nd i).k j = (k : Int)) => (show TKid t i j k from ⟨hiN', hj, hk⟩))
            have c3 := HG.out.cell c3w trivial
            clear hnode c0w c1w c2w h3 h5 hrow hwf c3w
            obtain ⟨K, hK⟩ : ∃ K, (t.nd i).kids.length = K := ⟨_, rfl⟩
            have HKe := hide hK
            rw [hK] at HRow HKb HKid c3 hm
            clear hK
            go_wp2_with (first
              | (go_at_call 76; (with_reducible refine HShp.out.mono ?_); rintro e w2 ⟨b, rfl, rfl, hb⟩; have HSb := hide hb; clear hb; cases b))
            · go_ret
              exact TellsG.no (fun h => by have := HSb.out.2 (h.link.shp i hiN'); cases this) HG.out
            · have hlinks := (HSb.out.1 (by first | rfl | trivial)).1
              have HLk := hide (fun j (hj : j < K) => hlinks j (by rw [HKe.out]; exact hj))
              clear hlinks
              go_loopw [59] (fun tj wr => ∃ (j : Nat) (S' : Nat → Nat), tj = .int .i64 j ∧ j ≤ K ∧ Grows w wr ∧ Arr wr gk 8 (fun q => .int .u64 (S' q)) ∧ CSt t i j S') (fun tj _ => K - (intOf tj).toNat)
              case atStart => exact ⟨0, S, rfl, Nat.zero_le _, HG.out, HA.out, HS.out⟩
              case round =>
                clear HG HA HS d0 d1 c3 HShp
                obtain ⟨j, S', rfl, hj, hg, hA, hS⟩ := hrel
                have HG := hide hg
                have HA := hide hA
                have HS := hide hS
                have d0 := hg.cell HT0.out trivial
                have d1 := hg.cell HT1.out trivial
                clear hg hA hS
                by_cases hjK : j < K
                · have hdj : decide (j < K) = true := decide_eq_true hjK
                  obtain ⟨bk, ok, rfl, hc⟩ := HRow.out (by omega)
                  have cx : wr.cell? ⟨bk, ok + j, none⟩ = some (.int .i16 ((t.nd i).k j)) := HG.out.cell (hc j hjK) trivial
                  have hyb := HKb.out j hjK
                  have hlk := HLk.out j hjK
                  have HKj := hide (fun k => HKid.out j k hjK)
                  clear hc
                  by_cases hy : (t.nd i).k j = -1
                  · rw [hy] at cx
                    have HNl := hide (HS.out.null hy)
                    clear hy hyb hlk
                    go_wp2
                    go_roundw
                    case rel => exact ⟨j + 1, S', by go_num, by omega, HG.out, HA.out, HNl.out⟩
                    case measure => simp [intOf]; omega
                  · obtain ⟨k, hk⟩ := Int.eq_ofNat_of_zero_le (show 0 ≤ (t.nd i).k j by omega)
                    have hik : i < k := by omega
                    have hkN : k < 512 := by have := HNe.out; omega
                    have HTk := hide (HKj.out k hk)
                    rw [hk] at cx
                    clear hy hyb hlk hk
                    have g0 := HA.out.1 (k / 64) (by omega)
                    have g2 := HA.out.2 (k / 64)
                    simp only at g0
                    have hx := HS.out.lt (k / 64)
                    have hB1 := wrap_pow (k % 64) (by omega)
                    have hB2 : 2 ^ (k % 64) < 18446744073709551616 := Nat.pow_lt_pow_right (n := 64) (by decide) (by omega)
                    have hY0 := and_bit (S' (k / 64)) (k % 64)
                    have hand := u64_and_nat (S' (k / 64)) (2 ^ (k % 64)) hx hB2
                    have hor := u64_or_nat (S' (k / 64)) (2 ^ (k % 64)) hx hB2
                    obtain ⟨Y, hY⟩ : ∃ Y, S' (k / 64) &&& 2 ^ (k % 64) = Y := ⟨_, rfl⟩
                    obtain ⟨Z, hZ⟩ : ∃ Z, S' (k / 64) ||| 2 ^ (k % 64) = Z := ⟨_, rfl⟩
                    rw [hY] at hY0 hand
                    rw [hZ] at hor
                    have HZ := hide hZ
                    have HBn := hide (show (S' (k / 64)).testBit (k % 64) = bitOn S' k from rfl)
                    obtain ⟨B, hB⟩ : ∃ B, 2 ^ (k % 64) = B := ⟨_, rfl⟩
                    rw [hB] at hB1 hand hor
                    obtain ⟨X, hX⟩ : ∃ X, S' (k / 64) = X := ⟨_, rfl⟩
                    rw [hX] at g0 hand hor hY0 HBn hx
                    clear hY hZ hB hX
                    cases hbit : X.testBit (k % 64) with
                    | true =>
                      rw [hbit] at hY0
                      have HDup := hide (HS.out.dup HTk.out hkN (by rw [← HBn.out, hbit]))
                      clear hbit
                      go_wp2
                      go_ret
                      exact TellsG.no HDup.out HG.out
                    | false =>
                      rw [hbit] at hY0
                      have HFr := hide (show bitOn S' k = false by rw [← HBn.out, hbit])
                      clear hbit
                      by_cases hkR : (k : Int) = R
                      · have hkb : ((k : Int) == R) = true := by rw [beq_iff_eq]; exact hkR
                        have HNr := hide (show ¬ CheckOk t from fun h => h.link.noroot i j k HTk.out (by rw [HRe.out]; exact hkR))
                        clear hkR
                        go_wp2
                        go_ret
                        exact TellsG.no HNr.out HG.out
                      · have hkb : ((k : Int) == R) = false := by rw [beq_eq_false_iff_ne]; exact hkR
                        have HSn := hide (HS.out.kid HTk.out hkN HFr.out (by rw [HRe.out]; exact hkR))
                        have HAn := hide ((HA.out.set (k := k / 64) (by omega) (.int .u64 Z)).congr (G := fun q => .int .u64 ((if q = k / 64 then S' (k / 64) ||| 2 ^ (k % 64) else S' q : Nat) : Int)) (fun q _ => by
                          rw [HZ.out]
                          split <;> rfl))
                        clear hkR
                        go_wp2
                        go_roundw
                        case rel => exact ⟨j + 1, _, by go_num, by omega, HG.out.setCell (.inl hw0) _, HAn.out, HSn.out⟩
                        case measure => simp [intOf]; omega
                · obtain rfl : j = K := by omega
                  have hdj : decide (j < j) = false := decide_eq_false (by omega)
                  have HSn : Hid (CSt t (i + 1) 0 S') := by
                    have := HS.out
                    rw [← HKe.out] at this
                    exact this.next
                  go_wp2
                  go_roundw
                  case rel => exact ⟨i + 1, S', by go_num, by omega, HG.out, HA.out, HSn.out, fun p hp => by
                    by_cases e : p = i
                    · subst e; exact HSb.out.1 (by first | rfl | trivial)
                    · exact HSh.out p (by omega)⟩
                  case measure => simp [intOf]; omega
          · obtain rfl : i = N := by omega
            have hdi : decide (i < i) = false := decide_eq_false (by omega)
            have HLk : Hid (Linked t) := by
              have h1 := HS.out
              have h2 := HSh.out
              rw [← HNe.out] at h1 h2
              exact h1.linked h2
            by_cases hR1 : R = -1
            · subst hR1
              go_wp2
              go_ret
              exact TellsG.yes ⟨by rw [HNe.out]; exact h512, by rw [HRe.out]; omega, by rw [HRe.out, HNe.out]; exact hhi, HLk.out, .inl HRe.out⟩ HG.out
            · have hRb : (R == -1) = false := by rw [beq_eq_false_iff_ne]; exact hR1
              obtain ⟨r, rfl⟩ := Int.eq_ofNat_of_zero_le (show 0 ≤ R by omega)
              have HBd := hide (bounded_any g t r wr (HTr.out wr HG.out) HLk.out HRe.out (by rw [HNe.out]; omega) (by rw [HNe.out]; exact h512))
              go_wp2_with (first
                | (go_at_call 77; (with_reducible refine HBd.out.mono ?_); rintro e w2 ⟨b, rfl, hg, hb⟩; have HBb := hide hb; have HG2 := hide (HG.out.trans hg); clear hb hg))
              go_ret
              refine ⟨b, rfl, HG2.out, HBb.out.trans ⟨fun h => ⟨by rw [HNe.out]; exact h512, by rw [HRe.out]; omega, by rw [HRe.out, HNe.out]; exact hhi, HLk.out, .inr h⟩, fun h => h.bnd.resolve_left (by rw [HRe.out]; omega)⟩⟩
  · have e1 : decide ((512 : Int) < (N : Int)) = true := decide_eq_true (by omega)
    go_enter Facg.func35, Facg.ntmps35
    go_wp2
    go_quiet (fail)
    go_wp2
    go_ret
    exact TellsG.no (fun h => h512 (by have := h.len; rw [HNe.out] at this; exact this)) ((Kept.refl _ _).drewN _)
end Go.Proofs.Ygcfac
