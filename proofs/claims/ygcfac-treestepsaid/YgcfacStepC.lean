/-
  (*pack.Cur).Step, walked: a step that is taken, at a run of words.
-/
import Derived.Test.YgcfacStepA
namespace Go.Proofs.Ygcfac
open Go.RowKit

set_option maxRecDepth 100000 in
set_option maxHeartbeats 2000000 in
theorem step_full (b bs os nS cS nO : Nat) (i : Nat) (s : Nat → Int) (vO : Value) (out : List Value) (w : World)
   (c0 : w.cell? ⟨b, 0, none⟩ = some (.slice (some ⟨bs, os, none⟩) nS cS)) (c1 : w.cell? ⟨b, 1, none⟩ = some (.int .u16 i)) (c2 : w.cell? ⟨b, 2, none⟩ = some vO)
   (fz : ∀ o, w.frozen? ⟨b, o, none⟩ = false)
   (hown : w.ownsRow 0 38 1 vO nO out) (hsep : vO.ownBlock ≠ some b) (_hsep' : vO.ownBlock ≠ some bs) (_hbs : bs ≠ b)
   (h1 : nS ≤ 4096) (h2 : i < nS) (h3 : nO ≤ 256) (_hc : nS ≤ cS)
   (hS : ∀ j, i + j < nS → w.cell? ⟨bs, os + i + j, none⟩ = some (.int .u8 (s j)))
   (hB : ∀ j, 0 ≤ s j ∧ s j < 256) (tag : Int) (htag : s 0 = tag) (more : Nat) (hk1 : 1 + onesI tag = 9) (hS1 : w.cell? ⟨bs, os + i + 9, none⟩ = some (.int .u8 more))
   (e0 : (tag == 0) = false) (e1 : (tag == 255) = true)
   (hk : i + 10 + 8 * more ≤ nS) (hk2 : nO + 1 + more ≤ 256) :
    Calls Facg.prog 41 #[.pointer (some ⟨b, 0, none⟩)] w fun e w' => e = .returned (.bool true) ∧ ∃ v', CurAt w b (.slice (some ⟨bs, os, none⟩) nS cS) vO ((i + 10 + 8 * more : Nat) : Int) (nO + 1 + more) (out ++ .int .u64 (scat s (onesI tag).toNat tag 1 0) :: moreWords s 10 (8 * more) more) v' w' := by
  have hst : CurAt w b (.slice (some ⟨bs, os, none⟩) nS cS) vO i nO out vO w := ⟨c0, c1, c2, fz, hown, .inl rfl, Kept.refl _ _, hsep, World.block_lt_of_cell? w _ c0⟩
  have HST : Hid (CurAt w b (.slice (some ⟨bs, os, none⟩) nS cS) vO i nO out vO w) := hst
  clear hst fz
  have hn : ((i : Int) == (nS : Int)) = false := by simp; omega
  have hS0 : w.cell? ⟨bs, os + i, none⟩ = some (.int .u8 tag) := by rw [← htag]; exact hS 0 (by omega)
  have hT : 0 ≤ tag ∧ tag < 256 := by rw [← htag]; exact hB 0
  have ho := ones_bd tag hT.1 hT.2
  obtain ⟨hT0, hT1⟩ := hT
  obtain ⟨ho0, ho1⟩ := ho
  have HS : Hid (∀ j, i + j < nS → w.cell? ⟨bs, os + i + j, none⟩ = some (.int .u8 (s j))) := hS
  have HB : Hid (∀ j, 0 ≤ s j ∧ s j < 256) := hB
  clear htag hS hB
  obtain ⟨aO, cO, rfl⟩ := owns_slice hown
  clear hown
  go_enter Facg.func41, Facg.ntmps41
  go_wp2
  go_quiet ((go_at_call 40; exact Calls.quiet_of (check_yes b _ aO nS cS nO cO i _ (by simpa using c0) (by simpa using c1) (by simpa using c2) (by omega) h1 (by omega) h3)))
  go_wp2
  go_quiet (fail)
  go_wp2_with (go_at_call 85; refine (ones_any _ _ (by omega) (by omega)).mono ?_; rintro e w' ⟨rfl, rfl⟩)
  clear hS0
  go_loopw [8, 9, 10] (fun W at_ r wr => ∃ (Wn : Int) (rn : Int) (q : Nat) (nd : Nat), W = .int .u64 Wn ∧ at_ = .int .i64 q ∧ r = .int .u8 rn ∧ 0 ≤ rn ∧ rn < 256 ∧ 1 ≤ q ∧ q + onesI rn = 1 + onesI tag ∧ wr = w.drewN nd ∧ 0 ≤ Wn ∧ Wn < 18446744073709551616 ∧
      scat s (onesI rn).toNat rn q Wn = scat s (onesI tag).toNat tag 1 0) (fun _ _ r _ => (intOf r).toNat)
  case atStart => exact ⟨0, tag, 1, _, rfl, rfl, rfl, hT0, hT1, by omega, by omega, rfl, by decide, by decide, rfl⟩
  case round =>
    obtain ⟨Wn, rn, q, nd, rfl, rfl, rfl, hr0, hr1, hq1, hro, hwr, hW0, hW1, hsc⟩ := hrel
    have HWR : Hid (wr = w.drewN nd) := hwr
    clear hwr
    have HSC : Hid (_ = _) := hsc
    have HRO : Hid (_ = _) := hro
    obtain ⟨hob0, hob1⟩ := ones_bd rn hr0 hr1
    have hql : i + q ≤ nS := by omega
    clear hsc hro
    by_cases hr : rn = 0
    · have hrb : (rn != 0) = false := by simpa using hr
      have HF : Hid (Wn = scat s (onesI tag).toNat tag 1 0) := scat_end s rn Wn q hr _ HSC.out
      have HC : Hid (CurAt w b (.slice (some ⟨bs, os, none⟩) nS cS) (.slice aO nO cO) i nO out (.slice aO nO cO) wr) := by rw [HWR.out]; exact HST.out.drewN nd
      have d2 : wr.cell? ⟨b, 2, none⟩ = some (.slice aO nO cO) := HC.out.c2
      clear hr
      go_wp2_with (at_builtin; refine wpList_app1 _ rfl _ _ 22 rfl 38 (.int .u64 0) 8 Facg.underlying22 info38 rfl (.slice aO nO cO) nO out rfl ?o1 wr.heap.size (.int .u64 Wn) rfl ?o2 rfl ?o3 ?o4 ?_)
      case o1 => exact HC.out.owns.alloc _
      case o2 => simp
      case o3 => unfold maxLen; omega
      case o4 => omega
      intro a1 cc1 w1 hown1 hk1 hp1
      have HC2 := HC.out.app hk1 hown1 hp1
      obtain ⟨m0, m1, m2, mf⟩ := HC.out.mid hk1
      have HC3 : Hid (CurAt w b (.slice (some ⟨bs, os, none⟩) nS cS) (.slice aO nO cO) i (nO + 1) (out ++ [.int .u64 Wn]) (.slice a1 (nO + 1) cc1) (w1.setCell ⟨b, 2, none⟩ (.slice a1 (nO + 1) cc1))) := HC2
      clear hown1 hk1 hp1 HC2 d2
      go_wp2
      clear m0 m1 m2 mf
      go_loopw [8, 11] (fun W t wr2 => ∃ (x : Int) (j : Nat) (a2 : Option Addr) (cc2 : Nat), W = .int .u64 x ∧ t = .int .i64 j ∧ j ≤ more ∧ CurAt w b (.slice (some ⟨bs, os, none⟩) nS cS) (.slice aO nO cO) i (nO + 1 + j) (out ++ .int .u64 Wn :: moreWords s 10 (8 * more) j) (.slice a2 (nO + 1 + j) cc2) wr2)
        (fun _ t _ => more - (intOf t).toNat)
      case atStart => exact ⟨_, 0, _, _, rfl, rfl, Nat.zero_le _, by simpa [moreWords] using HC3.out⟩
      case round =>
        obtain ⟨x, j, a2, cc2, rfl, rfl, hj, hcur⟩ := hrel
        by_cases hjm : j < more
        · have hd : ∀ t, t < 8 → wr.cell? ⟨bs, os + i + (10 + 8 * j) + t, none⟩ = some (.int .u8 (s (10 + 8 * j + t))) := fun t ht => by rw [Nat.add_assoc (os + i)]; exact hcur.cell (HS.out (10 + 8 * j + t) (by omega)) _hbs _hsep'
          have q0 : wr.cell? ⟨bs, os + i + (10 + 8 * j), none⟩ = some (.int .u8 (s (10 + 8 * j))) := hd 0 (by omega)
          have q1 := hd 1 (by omega)
          have q2 := hd 2 (by omega)
          have q3 := hd 3 (by omega)
          have q4 := hd 4 (by omega)
          have q5 := hd 5 (by omega)
          have q6 := hd 6 (by omega)
          have q7 := hd 7 (by omega)
          have harr := fun (a : Option Addr) (c : Nat) (w : World) => run_arrayAt (P := Facg.prog) (w := w) 110 5 8 a 8 c Facg.underlying110 (by decide)
          have HC4 : Hid (CurAt w b (.slice (some ⟨bs, os, none⟩) nS cS) (.slice aO nO cO) i (nO + 1 + j) (out ++ .int .u64 Wn :: moreWords s 10 (8 * more) j) (.slice a2 (nO + 1 + j) cc2) wr) := hcur
          clear hd hcur
          go_wp2_with fail
          refine (word_any _ _ _ _ _ _ _ _ (HB.out _) (HB.out _) (HB.out _) (HB.out _) (HB.out _) (HB.out _) (HB.out _) (HB.out _) _).mono ?_
          rintro e wA ⟨rfl, hbel⟩
          have HC5 : Hid (CurAt w b (.slice (some ⟨bs, os, none⟩) nS cS) (.slice aO nO cO) i (nO + 1 + j) (out ++ .int .u64 Wn :: moreWords s 10 (8 * more) j) (.slice a2 (nO + 1 + j) cc2) wA) := HC4.out.below hbel
          have d2 : wA.cell? ⟨b, 2, none⟩ = some (.slice a2 (nO + 1 + j) cc2) := HC5.out.c2
          clear q0 q1 q2 q3 q4 q5 q6 q7 harr HC4 hbel
          go_wp2_with (at_builtin; refine wpList_app1 _ rfl _ _ 22 rfl 38 (.int .u64 0) 8 Facg.underlying22 info38 rfl (.slice a2 (nO + 1 + j) cc2) (nO + 1 + j) (out ++ .int .u64 Wn :: moreWords s 10 (8 * more) j) rfl ?o1 wA.heap.size (.int .u64 (wordAt s (10 + 8 * j))) rfl ?o2 rfl ?o3 ?o4 ?_)
          case o1 => exact HC5.out.owns.alloc _
          case o2 => simp [wordAt]
          case o3 => unfold maxLen; omega
          case o4 => omega
          intro a3 cc3 w3 hown3 hk3 hp3
          have HC6 := HC5.out.app hk3 hown3 hp3
          obtain ⟨m0, m1, m2, mf⟩ := HC5.out.mid hk3
          have HC7 : Hid (CurAt w b (.slice (some ⟨bs, os, none⟩) nS cS) (.slice aO nO cO) i (nO + 1 + (j + 1)) (out ++ .int .u64 Wn :: moreWords s 10 (8 * more) (j + 1)) (.slice a3 (nO + 1 + (j + 1)) cc3) (w3.setCell ⟨b, 2, none⟩ (.slice a3 (nO + 1 + (j + 1)) cc3))) := by
            unfold Hid
            rw [moreWords_succ, if_pos (by omega)]
            simpa [Nat.add_assoc] using HC6
          clear hown3 hk3 hp3 HC6 d2
          go_wp2
          go_roundw
          case rel => exact ⟨_, j + 1, a3, cc3, rfl, by go_num, by omega, HC7.out⟩
          case measure => simp [intOf]; omega
        · have hcur' := hcur
          rw [show j = more from by omega] at hcur'
          have d1 := hcur.c1
          have df := hcur.fz
          have HC4 : Hid (CurAt w b (.slice (some ⟨bs, os, none⟩) nS cS) (.slice aO nO cO) i (nO + 1 + more) (out ++ .int .u64 Wn :: moreWords s 10 (8 * more) more) (.slice a2 (nO + 1 + more) cc2) wr) := hcur'
          clear hcur hcur'
          go_wp2
          go_ret
          refine ⟨rfl, .slice a2 (nO + 1 + more) cc2, ?_⟩
          rw [← HF.out, show ((i + 10 + 8 * more : Nat) : Int) = (i : Int) + (10 + 8 * (more : Int)) from by omega]
          exact HC4.out.setI _
    · have hrb : (rn != 0) = true := by simpa using hr
      obtain ⟨hlo0, hlo1⟩ := low_bd rn (by omega) hr1
      obtain ⟨hn0, hn1, hn2⟩ := next_bd rn (by omega) hr1
      have hro := HRO.out
      have hob2 := (ones_bd _ hn0 (by omega)).1
      have hq2 : (q : Int) < ((nS - i : Nat) : Int) := by omega
      have hSq : wr.cell? ⟨bs, os + i + q, none⟩ = some (.int .u8 (s q)) := by rw [HWR.out]; exact HS.out q (by omega)
      obtain ⟨hb0, hb1⟩ := HB.out q
      have hsh := sh_bd (s q) (lowI rn) hb0 hb1 hlo0 hlo1
      obtain ⟨hsh0, hsh1⟩ := hsh
      have hor := or_bd Wn _ hW0 hW1 hsh0 hsh1
      clear hro hn2 hob2
      have hbn : rn - 1 < 256 := by omega
      go_wp2
      go_quiet ((go_at_call 86; exact Calls.quiet_of_same (low_any _ _ (by omega) (by omega))))
      go_wp2
      go_roundw
      case rel =>
        obtain ⟨r1, r2⟩ := scat_round s rn tag Wn q (by omega) hr1 HRO.out _ HSC.out
        exact ⟨_, _, q + 1, _, rfl, by go_num, rfl, hn0, by omega, by omega, r1, by rw [HWR.out, World.drewN_drewN], hor.1, hor.2, r2⟩
      case measure => simp [intOf]; omega

end Go.Proofs.Ygcfac
