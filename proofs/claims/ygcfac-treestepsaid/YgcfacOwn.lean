/-
  law.number, law.ownSum, law.ownCode: walked.
-/
import Derived.Test.YgcfacOpenF
namespace Go.Proofs.Ygcfac
open Go.RowKit
set_option linter.unusedVariables false

theorem or_low (v b : Int) (hv0 : 0 ≤ v) (hv : v * 256 < 18446744073709551616) (hb0 : 0 ≤ b) (hb : b < 256) : bits .or .u64 (v * 256) b = b + 256 * v := by
  have e := or_sum 8 b v hb0 (by omega) hv0 (by omega) (by decide)
  obtain ⟨v, rfl⟩ := Int.eq_ofNat_of_zero_le hv0
  obtain ⟨b, rfl⟩ := Int.eq_ofNat_of_zero_le hb0
  have e2 : (v : Int) * 256 = ((v * 256 : Nat) : Int) := by omega
  simp only [Int.reducePow] at e
  rw [e2] at e ⊢
  rw [u64_or_nat _ _ (by omega) (by omega)] at e ⊢
  rw [Nat.or_comm, e]
  omega

theorem pow_le8 (n : Nat) (h : n ≤ 7) : (256 : Int) ^ n ≤ 72057594037927936 := by
  match n, h with
  | 0, _ | 1, _ | 2, _ | 3, _ | 4, _ | 5, _ | 6, _ | 7, _ => decide

set_option maxHeartbeats 1000000 in
theorem number_any (b o n c p k : Nat) (s : Nat → Int) (w : World) (hk : k ≤ 8) (hp : p + k ≤ n) (hn : n ≤ 9223372036854775807) (hB : ∀ j, 0 ≤ s j ∧ s j < 256) (hS : ∀ j, j < n → w.cell? ⟨b, o + j, none⟩ = some (.int .u8 (s j))) :
    Calls Facg.prog 63 #[.slice (some ⟨b, o, none⟩) n c, .int .i64 p, .int .i64 k] w fun e w' => e = .returned (.int .u64 (numF s p k)) ∧ w' = w := by
  have HB := hide hB
  have HS := hide hS
  clear hB hS
  go_enter Facg.func63, Facg.ntmps63
  go_wp2
  go_loop [7, 8] (fun v i => ∃ j : Nat, j ≤ k ∧ i = .int .i64 ((j : Int) - 1) ∧ v = .int .u64 (numF s (p + j) (k - j))) (fun _ i => (intOf i + 1).toNat)
  case atStart => exact ⟨k, Nat.le_refl _, rfl, by simp [numF]⟩
  case round =>
    obtain ⟨j, hj, rfl, rfl⟩ := hrel
    by_cases hlt : 0 < j
    · obtain ⟨q, rfl⟩ : ∃ q, j = q + 1 := ⟨j - 1, by omega⟩
      have hcq := HS.out (p + q) (by omega)
      have hcq' : w.cell? ⟨b, o + (p + q), none⟩ = some (.int .u8 (s (p + q))) := hcq
      obtain ⟨b0, b1⟩ := HB.out (p + q)
      obtain ⟨n0, n1⟩ := num_bd s HB.out (k - (q + 1)) (p + (q + 1))
      have n2 := pow_le8 (k - (q + 1)) (by omega)
      have HE : Hid (numF s (p + q) (k - q) = s (p + q) + 256 * numF s (p + (q + 1)) (k - (q + 1))) := by
        unfold Hid
        obtain ⟨m, hm⟩ : ∃ m, k - q = m + 1 := ⟨k - q - 1, by omega⟩
        rw [hm, show k - (q + 1) = m by omega]
        rfl
      generalize numF s (p + (q + 1)) (k - (q + 1)) = y at *
      have hy : y * 256 < 18446744073709551616 := by omega
      have HO := hide (or_low y (s (p + q)) n0 hy b0 b1)
      clear hcq
      have hpq : (p : Int) + q < n := by omega
      have e1 : ((q + 1 : Nat) : Int) - 1 = q := by omega
      rw [e1]
      go_wp2
      go_round
      case rel => exact ⟨q, by omega, rfl, by rw [HE.out, HO.out]⟩
      case measure => simp [intOf]
    · have hj0 : j = 0 := by omega
      subst hj0
      go_wp2
      go_ret
      exact ⟨rfl, rfl⟩

theorem own_step (h c : Int) (h0 : 0 ≤ h) (h1 : h < 4294967296) (c0 : 0 ≤ c) (c1 : c < 256) :
    bits .and .u64 (IntKind.u64.wrap (bits .xor .u64 h c * 16777619)) 4294967295 = sumStep h c ∧ 0 ≤ sumStep h c ∧ sumStep h c < 4294967296 := by
  obtain ⟨h, rfl⟩ := Int.eq_ofNat_of_zero_le h0
  obtain ⟨c, rfl⟩ := Int.eq_ofNat_of_zero_le c0
  unfold sumStep
  rw [u64_xor_nat h c (by omega) (by omega), u32_xor_nat h c (by omega) (by omega)]
  have hx : h ^^^ c < 2 ^ 32 := Nat.xor_lt_two_pow (by omega) (by omega)
  generalize h ^^^ c = x at *
  have e1 : IntKind.u64.wrap ((x : Int) * 16777619) = ((x * 16777619 : Nat) : Int) := by
    rw [IntKind.wrap_u64]; omega
  have e2 : bits .and .u64 ((x * 16777619 : Nat) : Int) 4294967295 = ((x * 16777619 &&& 4294967295 : Nat) : Int) := u64_and_nat (x * 16777619) 4294967295 (by omega) (by decide)
  have e3 : x * 16777619 &&& (2 ^ 32 - 1) = x * 16777619 % 2 ^ 32 := Nat.and_two_pow_sub_one_eq_mod _ _
  simp at e3
  rw [e1, e2, e3, IntKind.wrap_u32]
  omega

theorem sumFrom_bd (S : List Int) (hw : ∀ x ∈ S, 0 ≤ x ∧ x < 256) : ∀ h, 0 ≤ h → h < 4294967296 → 0 ≤ sumFrom h S ∧ sumFrom h S < 4294967296 := by
  induction S with
  | nil => intro h h0 h1; exact ⟨h0, h1⟩
  | cons x S ih =>
    intro h h0 h1
    have hx := hw x (by simp)
    have := own_step h x h0 h1 hx.1 hx.2
    exact ih (fun y hy => hw y (by simp [hy])) _ this.2.1 this.2.2

theorem ownSum_any (v : Value) (S : List Int) (w : World) (hv : Ints w .u8 v S) :
    Calls Facg.prog 64 #[v] w fun e w' => e = .returned (.int .u64 (sumF S)) ∧ w' = w := by
  obtain ⟨a, c, rfl, hc, hm, hw, hr⟩ := hv
  unfold maxLen at hm
  have HW := hide hw
  have HR := hide hr
  clear hw hr
  go_enter Facg.func64, Facg.ntmps64
  go_wp2
  go_loop [3, 8, 5] (fun t i x => ∃ j : Nat, j ≤ S.length ∧ i = .int .i64 j ∧ t = .int .u64 (sumFrom 2166136261 (S.take j))) (fun _ i _ => S.length - (intOf i).toNat)
  case atStart => exact ⟨0, Nat.zero_le _, rfl, rfl⟩
  case round =>
    obtain ⟨j, hj, rfl, rfl⟩ := hrel
    by_cases hlt : j < S.length
    · obtain ⟨b, o, rfl, hcell⟩ := HR.out (fun h => by subst h; simp at hlt)
      have hcj := hcell j hlt
      have hb := bounds_u8 (HW.out (S.getD j 0) (by simp [List.getElem?_eq_getElem hlt]))
      have hy := sumFrom_bd (S.take j) (fun x hx => by have := bounds_u8 (HW.out x (List.mem_of_mem_take hx)); omega) 2166136261 (by decide) (by decide)
      have HT := hide (sumFrom_take 2166136261 S j hlt)
      clear hcell HR
      generalize S.getD j 0 = x at *
      generalize sumFrom 2166136261 (S.take j) = y at *
      have HO := hide (own_step y x hy.1 hy.2 hb.1 (by omega)).1
      have hji : (j : Int) < (S.length : Int) := by omega
      go_wp2
      go_round
      case rel => exact ⟨j + 1, by omega, by go_num, by rw [HT.out, HO.out]⟩
      case measure => simp [intOf]; omega
    · have hj' : j = S.length := by omega
      go_wp2
      go_ret
      exact ⟨rfl, rfl⟩

theorem own_short (a : Option Addr) (n c : Nat) (h : n < 16) (w : World) :
    Calls Facg.prog 26 #[.slice a n c] w (OpenPost w ([], 1)) := by
  go_enter Facg.func26, Facg.ntmps26
  go_wp2
  go_ret2
  exact ⟨Kept.refl _ _, _, rfl, Ints.nil _ _ _ _ (by decide), fun _ => rfl⟩

theorem own_number (w wr : World) (x : Option Addr) (m y N j : Nat) (L : List Int) (hI : Ints w .u8 (.slice x m y) L) (hg : Grows w wr) (hl : L.length = 8 * N) (hm : L.length = m) (hj : j < N) :
    Calls Facg.prog 63 #[.slice x m y, .int .i64 (8 * (j : Int)), .int .i64 8] wr fun e w' => e = .returned (.int .u64 (wordAt (at_ L) (8 * j))) ∧ wr = w' := by
  obtain ⟨_, _, e, hc, hmx, hw, hr⟩ := hI
  injection e with e1 e2 e3
  subst e1 e3 e2
  obtain ⟨b, o, rfl, hcell⟩ := hr (fun h => by subst h; simp at hl; omega)
  unfold maxLen at hmx
  have h := number_any b o L.length y (8 * j) 8 (at_ L) wr (by decide) (by omega) (by omega) (at_bd hw) (fun q hq => hg.cell (hcell q hq) trivial)
  rw [← num_w, show ((8 * j : Nat) : Int) = 8 * (j : Int) from by omega] at h
  refine Calls.mono h ?_
  rintro e w' ⟨rfl, rfl⟩
  exact ⟨rfl, rfl⟩

set_option maxRecDepth 10000 in
set_option maxHeartbeats 4000000 in
theorem own_core (b o n c : Nat) (M V F : Int) (N : Nat) (X : Int) (L : List Int) (w : World) (hF0 : 0 ≤ F) (hF1 : F < 65536) (hNb : N < 4294967296) (hn : 16 ≤ n) (hnm : n ≤ 9223372036854775807) (hc : n ≤ c)
    (c0 : Hid (Calls Facg.prog 63 #[.slice (some ⟨b, o, none⟩) n c, .int .i64 0, .int .i64 4] w fun e w' => e = .returned (.int .u64 M) ∧ w = w')) (c4 : Hid (Calls Facg.prog 63 #[.slice (some ⟨b, o, none⟩) n c, .int .i64 4, .int .i64 2] w fun e w' => e = .returned (.int .u64 V) ∧ w = w')) (c6 : Hid (Calls Facg.prog 63 #[.slice (some ⟨b, o, none⟩) n c, .int .i64 6, .int .i64 2] w fun e w' => e = .returned (.int .u64 F) ∧ w = w')) (c8 : Hid (Calls Facg.prog 63 #[.slice (some ⟨b, o, none⟩) n c, .int .i64 8, .int .i64 4] w fun e w' => e = .returned (.int .u64 (N : Int)) ∧ w = w')) (c12 : Hid (Calls Facg.prog 63 #[.slice (some ⟨b, o, none⟩) n c, .int .i64 12, .int .i64 4] w fun e w' => e = .returned (.int .u64 X) ∧ w = w'))
    (x : Option Addr) (y : Nat) (hx : (if c = 16 then (some ⟨b, o, none⟩ : Option Addr) else some ⟨b, o + 16, none⟩) = x) (hy : c - 16 = y) (hI : Ints w .u8 (.slice x (n - 16) y) L)
    (cS : Hid (Calls Facg.prog 64 #[.slice x (n - 16) y] w fun e w' => e = .returned (.int .u64 (sumF L)) ∧ w = w')) :
    Calls Facg.prog 26 #[.slice (some ⟨b, o, none⟩) n c] w (OpenPost w (openG M V F N X L)) := by
  have HI := hide hI
  clear hI
  unfold openG
  by_cases hM : M = 827742039
  · rw [if_neg (by simpa using hM)]
    have tM : (M != 827742039) = false := by simpa using hM
    have HM := hide hM
    clear hM
    by_cases hV : V = 1
    · rw [if_neg (by simpa using hV)]
      have tV : (V != 1) = false := by simpa using hV
      have HV := hide hV
      clear hV
      by_cases hF : 1 < F
      · rw [if_pos hF]
        go_enter Facg.func26, Facg.ntmps26
        go_wp2_with fail
        refine c0.out.mono ?_
        rintro e w' ⟨rfl, rfl⟩
        go_wp2_with fail
        refine c4.out.mono ?_
        rintro e w' ⟨rfl, rfl⟩
        go_wp2_with fail
        refine c6.out.mono ?_
        rintro e w' ⟨rfl, rfl⟩
        go_wp2_with fail
        refine c8.out.mono ?_
        rintro e w' ⟨rfl, rfl⟩
        go_wp2
        go_ret2
        exact ⟨Kept.refl _ _, _, rfl, Ints.nil _ _ _ _ (by decide), fun _ => rfl⟩

      · rw [if_neg hF]
        have hF' : F ≤ 1 := by omega
        clear hF
        by_cases hN : (256 : Int) < (N : Int)
        · rw [if_pos hN]
          go_enter Facg.func26, Facg.ntmps26
          go_wp2_with fail
          refine c0.out.mono ?_
          rintro e w' ⟨rfl, rfl⟩
          go_wp2_with fail
          refine c4.out.mono ?_
          rintro e w' ⟨rfl, rfl⟩
          go_wp2_with fail
          refine c6.out.mono ?_
          rintro e w' ⟨rfl, rfl⟩
          go_wp2_with fail
          refine c8.out.mono ?_
          rintro e w' ⟨rfl, rfl⟩
          go_wp2
          go_ret2
          exact ⟨Kept.refl _ _, _, rfl, Ints.nil _ _ _ _ (by decide), fun _ => rfl⟩

        · rw [if_neg hN]
          have hN2 : N ≤ 256 := by omega
          clear hN
          by_cases hX : sumF L = X
          · rw [if_neg (by simpa using hX)]
            have tX : (sumF L != X) = false := by simpa using hX
            have HX := hide hX
            clear hX
            rw [Int.toNat_natCast]
            by_cases hF1 : F = 1
            · have tF : (F == 1) = true := by simpa using hF1
              have HF := hide hF1
              clear hF1
              have HW : Hid (Calls Facg.prog 65 #[.slice x (n - 16) y] w (UnpackPost w (unpackF L))) := unpack_any _ L w HI.out
              rw [tF]
              simp only [wordsF, if_true]
              generalize unpackF L = r at *
              cases r with
              | none =>
                go_enter Facg.func26, Facg.ntmps26
                go_wp2_with fail
                refine c0.out.mono ?_
                rintro e w' ⟨rfl, rfl⟩
                go_wp2_with fail
                refine c4.out.mono ?_
                rintro e w' ⟨rfl, rfl⟩
                go_wp2_with fail
                refine c6.out.mono ?_
                rintro e w' ⟨rfl, rfl⟩
                go_wp2_with fail
                refine c8.out.mono ?_
                rintro e w' ⟨rfl, rfl⟩
                go_wp2_with fail
                refine cS.out.mono ?_
                rintro e w' ⟨rfl, rfl⟩
                go_wp2_with fail
                refine c12.out.mono ?_
                rintro e w' ⟨rfl, rfl⟩
                go_wp2_with (go_at_call 65; refine HW.out.mono ?_; rintro e w2 ⟨hg2, rfl⟩; have HG2 := hide hg2; clear hg2)
                go_ret2
                exact ⟨HG2.out, _, rfl, Ints.nil _ _ _ _ (by decide), fun _ => rfl⟩
              | some xs =>
                by_cases hl : xs.length = N
                · have tl : ((xs.length : Int) != (N : Int)) = false := by simp; omega
                  simp only [if_pos hl]
                  have HLL := hide hl
                  clear hl
                  go_enter Facg.func26, Facg.ntmps26
                  go_wp2_with fail
                  refine c0.out.mono ?_
                  rintro e w' ⟨rfl, rfl⟩
                  go_wp2_with fail
                  refine c4.out.mono ?_
                  rintro e w' ⟨rfl, rfl⟩
                  go_wp2_with fail
                  refine c6.out.mono ?_
                  rintro e w' ⟨rfl, rfl⟩
                  go_wp2_with fail
                  refine c8.out.mono ?_
                  rintro e w' ⟨rfl, rfl⟩
                  go_wp2_with fail
                  refine cS.out.mono ?_
                  rintro e w' ⟨rfl, rfl⟩
                  go_wp2_with fail
                  refine c12.out.mono ?_
                  rintro e w' ⟨rfl, rfl⟩
                  go_wp2_with (go_at_call 65; refine HW.out.mono ?_; rintro e w2 ⟨hg2, v', rfl, hi2⟩; have HG2 := hide hg2; have HI2 := hide hi2; obtain ⟨a3, c3, hv3, _⟩ := hi2; subst hv3; clear hg2)
                  go_ret2
                  exact ⟨HG2.out, _, rfl, HI2.out, fun h => absurd rfl h⟩
                · have tl : ((xs.length : Int) != (N : Int)) = true := by simp; omega
                  simp only [if_neg hl]
                  clear hl
                  go_enter Facg.func26, Facg.ntmps26
                  go_wp2_with fail
                  refine c0.out.mono ?_
                  rintro e w' ⟨rfl, rfl⟩
                  go_wp2_with fail
                  refine c4.out.mono ?_
                  rintro e w' ⟨rfl, rfl⟩
                  go_wp2_with fail
                  refine c6.out.mono ?_
                  rintro e w' ⟨rfl, rfl⟩
                  go_wp2_with fail
                  refine c8.out.mono ?_
                  rintro e w' ⟨rfl, rfl⟩
                  go_wp2_with fail
                  refine cS.out.mono ?_
                  rintro e w' ⟨rfl, rfl⟩
                  go_wp2_with fail
                  refine c12.out.mono ?_
                  rintro e w' ⟨rfl, rfl⟩
                  go_wp2_with (go_at_call 65; refine HW.out.mono ?_; rintro e w2 ⟨hg2, v', rfl, hi2⟩; have HG2 := hide hg2; have HI2 := hide hi2; obtain ⟨a3, c3, hv3, _⟩ := hi2; subst hv3; clear hg2)
                  go_ret2
                  exact ⟨HG2.out, _, rfl, Ints.nil _ _ _ _ (by decide), fun _ => rfl⟩
            · have tF : (F == 1) = false := by simpa using hF1
              clear hF1
              rw [tF]
              simp only [wordsF, Bool.false_eq_true, if_false]
              have hLl : L.length = n - 16 := by obtain ⟨_, _, e, _⟩ := HI.out; injection e with _ e _; exact e.symm
              by_cases hl : L.length = 8 * N
              · simp only [if_pos hl, plainW_length, if_true]
                have tl : (((n - 16 : Nat) : Int) != 8 * (N : Int)) = false := by simp; omega
                have hnl : ((n - 16 : Nat) : Int) = 8 * (N : Int) := by omega
                have HNL := hide hnl
                have HN := hide (fun wr hg j hj => own_number w wr x (n - 16) y N j L HI.out hg hl hLl hj)
                have HWF : Hid (∀ x ∈ L, (Lit.int .u8 x).wf = true) := by obtain ⟨_, _, _, _, _, h, _⟩ := HI.out; exact h
                have hlen : n - 16 = 8 * N := by omega
                have HLN := hide hlen
                clear hl hLl hlen hnl
                go_enter Facg.func26, Facg.ntmps26
                go_wp2_with fail
                refine c0.out.mono ?_
                rintro e w' ⟨rfl, rfl⟩
                go_wp2_with fail
                refine c4.out.mono ?_
                rintro e w' ⟨rfl, rfl⟩
                go_wp2_with fail
                refine c6.out.mono ?_
                rintro e w' ⟨rfl, rfl⟩
                go_wp2_with fail
                refine c8.out.mono ?_
                rintro e w' ⟨rfl, rfl⟩
                go_wp2_with fail
                refine cS.out.mono ?_
                rintro e w' ⟨rfl, rfl⟩
                go_wp2_with fail
                refine c12.out.mono ?_
                rintro e w' ⟨rfl, rfl⟩
                go_wp2
                go_loopw [9, 10] (fun va i wr => ∃ (j : Nat) (a2 : Option Addr) (c2 : Nat), i = .int .i64 (8 * (j : Int)) ∧ j ≤ N ∧ Grows w wr ∧ va = .slice a2 j c2 ∧ wr.ownsRow 0 38 1 (.slice a2 j c2) j ((plainW L j).map (Value.int .u64)) ∧ ∀ g, (Value.slice a2 j c2).ownBlock = some g → w.heap.size ≤ g) (fun _ i _ => 8 * N - (intOf i).toNat)
                case atStart => exact ⟨0, none, 0, by simp, Nat.zero_le _, Kept.refl _ _, rfl, World.ownsRow_nil _ _ _ _, by simp [Value.ownBlock]⟩
                case round =>
                  obtain ⟨j, a2, c2, rfl, hj, hgr, rfl, hown, hfr⟩ := hrel
                  by_cases hlt : j < N
                  · have hlti : 8 * (j : Int) < ((n - 16 : Nat) : Int) := by have := HNL.out; omega
                    have HGR := hide hgr
                    have HOW := hide hown
                    have HFR := hide hfr
                    have HNJ := hide (HN.out wr hgr j hlt)
                    clear hgr hown hfr
                    go_wp2_with (first
                      | (go_at_call 63; refine HNJ.out.mono ?_; rintro e w' ⟨rfl, rfl⟩)
                      | (at_builtin; refine wpList_app1 _ rfl _ _ 22 rfl 38 (.int .u64 0) 8 Facg.underlying22 info38 rfl (.slice a2 j c2) j ((plainW L j).map (Value.int .u64)) rfl ?o1 wr.heap.size (.int .u64 (wordAt (at_ L) (8 * j))) rfl ?o2 rfl ?o3 ?o4 ?_))
                    case o1 => exact HOW.out.alloc _
                    case o2 => simp
                    case o3 => unfold maxLen; omega
                    case o4 => omega
                    intro a3 c3 w3 hown3 hk3 hp3
                    have HO3 : Hid (w3.ownsRow 0 38 1 (.slice a3 (j + 1) c3) (j + 1) ((plainW L (j + 1)).map (Value.int .u64))) := by
                      unfold Hid
                      rw [plainW_succ, List.map_append]
                      exact hown3
                    have HG3 : Hid (Grows w w3) := (HGR.out.alloc _).then hk3 (fun k hk _ e => by have := HFR.out k e.symm; omega)
                    have HF3 : Hid (∀ g, (Value.slice a3 (j + 1) c3).ownBlock = some g → w.heap.size ≤ g) := by
                      intro g hg
                      have := HGR.out.size
                      rcases hp3 with e | ⟨g', hg', e⟩
                      · exact HFR.out g (by rw [← e]; exact hg)
                      · rw [hg] at e; injection e with e; omega
                    clear hown3 hk3 hp3 HNJ
                    go_wp2
                    go_roundw
                    case rel => exact ⟨j + 1, a3, c3, by go_num, by omega, HG3.out, rfl, HO3.out, HF3.out⟩
                    case measure => simp [intOf]; omega
                  · have hjn : N = j := by omega
                    have hnlt : ¬ 8 * (j : Int) < ((n - 16 : Nat) : Int) := by have := HNL.out; omega
                    have HGR := hide hgr
                    have HI3 : Hid (Ints wr .u64 (.slice a2 j c2) (plainW L N)) := by
                      unfold Hid
                      rw [hjn]
                      refine Ints.of_owns hown (fun x hx => ?_)
                      obtain ⟨q, _, rfl⟩ := List.mem_map.1 hx
                      have := wordAt_bd (at_ L) (at_bd HWF.out) (8 * q)
                      exact wf_u64 this.1 this.2
                    clear hown hgr hfr hjn
                    go_wp2
                    go_ret2
                    exact ⟨HGR.out, _, rfl, HI3.out, fun h => absurd rfl h⟩
              · simp only [if_neg hl]
                have tl : (((n - 16 : Nat) : Int) != 8 * (N : Int)) = true := by simp; omega
                clear hl hLl
                go_enter Facg.func26, Facg.ntmps26
                go_wp2_with fail
                refine c0.out.mono ?_
                rintro e w' ⟨rfl, rfl⟩
                go_wp2_with fail
                refine c4.out.mono ?_
                rintro e w' ⟨rfl, rfl⟩
                go_wp2_with fail
                refine c6.out.mono ?_
                rintro e w' ⟨rfl, rfl⟩
                go_wp2_with fail
                refine c8.out.mono ?_
                rintro e w' ⟨rfl, rfl⟩
                go_wp2_with fail
                refine cS.out.mono ?_
                rintro e w' ⟨rfl, rfl⟩
                go_wp2_with fail
                refine c12.out.mono ?_
                rintro e w' ⟨rfl, rfl⟩
                go_wp2
                go_ret2
                exact ⟨Kept.refl _ _, _, rfl, Ints.nil _ _ _ _ (by decide), fun _ => rfl⟩

          · rw [if_pos hX]
            have tX : (sumF L != X) = true := by simpa using hX
            clear hX
            go_enter Facg.func26, Facg.ntmps26
            go_wp2_with fail
            refine c0.out.mono ?_
            rintro e w' ⟨rfl, rfl⟩
            go_wp2_with fail
            refine c4.out.mono ?_
            rintro e w' ⟨rfl, rfl⟩
            go_wp2_with fail
            refine c6.out.mono ?_
            rintro e w' ⟨rfl, rfl⟩
            go_wp2_with fail
            refine c8.out.mono ?_
            rintro e w' ⟨rfl, rfl⟩
            go_wp2_with fail
            refine cS.out.mono ?_
            rintro e w' ⟨rfl, rfl⟩
            go_wp2_with fail
            refine c12.out.mono ?_
            rintro e w' ⟨rfl, rfl⟩
            go_wp2
            go_ret2
            exact ⟨Kept.refl _ _, _, rfl, Ints.nil _ _ _ _ (by decide), fun _ => rfl⟩

    · rw [if_pos hV]
      have tV : (V != 1) = true := by simpa using hV
      clear hV
      go_enter Facg.func26, Facg.ntmps26
      go_wp2_with fail
      refine c0.out.mono ?_
      rintro e w' ⟨rfl, rfl⟩
      go_wp2_with fail
      refine c4.out.mono ?_
      rintro e w' ⟨rfl, rfl⟩
      go_wp2
      go_ret2
      exact ⟨Kept.refl _ _, _, rfl, Ints.nil _ _ _ _ (by decide), fun _ => rfl⟩

  · rw [if_pos hM]
    have tM : (M != 827742039) = true := by simpa using hM
    clear hM
    go_enter Facg.func26, Facg.ntmps26
    go_wp2_with fail
    refine c0.out.mono ?_
    rintro e w' ⟨rfl, rfl⟩
    go_wp2
    go_ret2
    exact ⟨Kept.refl _ _, _, rfl, Ints.nil _ _ _ _ (by decide), fun _ => rfl⟩


/-- law.ownCode. -/
theorem own_any (v : Value) (S : List Int) (w : World) (hv : Ints w .u8 v S) : Calls Facg.prog 26 #[v] w (OpenPost w (openF S)) := by
  obtain ⟨a, c, rfl, hc, hm, hw, hr⟩ := id hv
  unfold openF
  by_cases h : S.length < 16
  · rw [if_pos h]
    exact own_short a S.length c h w
  · rw [if_neg h]
    obtain ⟨b, o, rfl, hcell⟩ := hr (fun e => by subst e; simp at h)
    have hB := at_bd hw
    have hm' := hm
    unfold maxLen at hm'
    have num : ∀ p k : Nat, k ≤ 8 → p + k ≤ S.length → Calls Facg.prog 63 #[.slice (some ⟨b, o, none⟩) S.length c, .int .i64 p, .int .i64 k] w fun e w' => e = .returned (.int .u64 (numF (at_ S) p k)) ∧ w = w' := fun p k h1 h2 =>
      Calls.mono (number_any b o S.length c p k (at_ S) w h1 h2 (by omega) hB hcell) (by rintro e w' ⟨rfl, rfl⟩; exact ⟨rfl, rfl⟩)
    have b6 := num_bd (at_ S) hB 2 6
    have b8 := num_bd (at_ S) hB 4 8
    obtain ⟨x, y, hx, hy, hI⟩ := load_of hv (by omega)
    have n8 := num 8 4 (by decide) (by omega)
    obtain ⟨N, hN⟩ := Int.eq_ofNat_of_zero_le b8.1
    rw [hN] at n8 b8 ⊢
    exact own_core b o S.length c _ _ _ N _ _ w b6.1 (by simpa using b6.2) (by have := b8.2; simp at this; omega) (by omega) (by omega) hc (num 0 4 (by decide) (by omega)) (num 4 2 (by decide) (by omega)) (num 6 2 (by decide) (by omega)) n8 (num 12 4 (by decide) (by omega)) x y hx hy hI
      (Calls.mono (ownSum_any _ _ w hI) (by rintro e w' ⟨rfl, rfl⟩; exact ⟨rfl, rfl⟩))
end Go.Proofs.Ygcfac
