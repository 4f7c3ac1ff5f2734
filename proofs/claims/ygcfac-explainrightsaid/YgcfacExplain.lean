import Derived.Test.YgcfacFaultW
namespace Go.Proofs.Ygcfac
open Go.RowKit
set_option linter.unusedVariables false

def ExpR (f : Nat → Int) (n : Nat) (code : Int) (i : Nat) : Prop :=
  (code = 0 ∧ i = 0 ∧ ArenaOk f n) ∨ (code = 1 ∧ i = 0 ∧ ¬ (1 ≤ n ∧ n ≤ 256)) ∨
  (1 ≤ n ∧ n ≤ 256 ∧ ¬ ArenaOk f n ∧ i < n ∧ Met f n i ∧ WhyR f n code i)

def ExplainPost (w : World) (f : Nat → Int) (n : Nat) (e : Ending) (w' : World) : Prop :=
  ∃ (code : Int) (i : Nat), e = .returned (.tuple #[.int .u8 code, .int .u16 i]) ∧ Grows w w' ∧ ExpR f n code i

set_option maxRecDepth 10000 in
theorem explain_any (a : Option Addr) (n c : Nat) (f : Nat → Int) (w : World) (hn : n ≤ 9223372036854775807) (hA : ArenaAt w a n f) (hlt : 1 ≤ n → ∀ b o, a = some ⟨b, o, none⟩ → b < w.heap.size) :
    Calls Facg.prog 15 #[.slice a n c] w (ExplainPost w f n) := by
  have HA := hide hA
  have HLt0 := hide hlt
  clear hA hlt
  cases hok : decide (1 ≤ n ∧ n ≤ 256) with
  | false =>
    have HSt := hide (fun w => start_any a n c w hn false hok)
    have HF : Hid (¬ (1 ≤ n ∧ n ≤ 256)) := of_decide_eq_false hok
    go_enter Facg.func15, Facg.ntmps15
    go_wp2_with (fail)
    refine (HSt.out _).mono ?_
    rintro e w2 ⟨L, rfl, hg, q1, q3, q4⟩
    have HI : Hid ((Facg.prog.info? 81).map (·.size) = some L.length) := by unfold Hid; rw [q3]; exact info81
    have HAll : Hid (L.toArray.all (·.oneCell') = true) := all_oneCell_toArray q4
    have HQ4 : Hid (L.toArray.size = 517) := q3
    have HTh := hide (zero_there w2)
    obtain ⟨W5, hW5⟩ : ∃ W, W = (w2.alloc (.cells Facg.zeroCells81 81)).setCells w2.heap.size 0 L := ⟨_, rfl⟩
    have hK5 : Kept (fun k => k ≠ w2.heap.size) (w2.alloc (.cells Facg.zeroCells81 81)) W5 := by rw [hW5]; exact kept_setCells _ _ _ _ _ (Kept.refl _ _)
    have hg2 := ((Kept.refl (fun _ => True) w2).alloc (.cells Facg.zeroCells81 81)).mono (q := fun k => k ≠ w2.heap.size) (fun _ _ _ => trivial) |>.trans hK5
    have HG5 : Hid (Grows w W5) := hg.then hg2 (fun i hi _ => by have := hg.size; omega)
    have HW5e := hide hW5
    clear q1 q3 q4 hg hg2 hK5 hW5
    go_wp2_with (first
      | (refine wpList_store_mid rfl 81 (.tmp 4) (.tmp 10) rfl w2.heap.size 0 L.toArray rfl rfl (by rw [HQ4.out]; exact HTh.out) HI.out HAll.out ?_; rw [show L.toArray.toList = L from rfl, ← HW5e.out]))
    refine bodyPost_ret (v := .tuple #[.int .u8 1, .int .u16 0]) (by simp [results, Facg.results15, go_sem]) rfl ?_
    exact ⟨1, 0, rfl, HG5.out, .inr (.inl ⟨rfl, rfl, HF.out⟩)⟩
  | true =>
    have hyes : 1 ≤ n ∧ n ≤ 256 := by simpa using hok
    have HLt := hide (HLt0.out hyes.1)
    have HSt := hide (fun w => start_any a n c w hn true hok)
    go_enter Facg.func15, Facg.ntmps15
    go_wp2_with (fail)
    refine (HSt.out _).mono ?_
    rintro e w2 ⟨L, rfl, hg, q1, q3, q4⟩
    have HI : Hid ((Facg.prog.info? 81).map (·.size) = some L.length) := by unfold Hid; rw [q3]; exact info81
    have HAll : Hid (L.toArray.all (·.oneCell') = true) := all_oneCell_toArray q4
    have HQ4 : Hid (L.toArray.size = 517) := q3
    have HTh := hide (zero_there w2)
    obtain ⟨W5, hW5⟩ : ∃ W, W = (w2.alloc (.cells Facg.zeroCells81 81)).setCells w2.heap.size 0 L := ⟨_, rfl⟩
    have hK5 : Kept (fun k => k ≠ w2.heap.size) (w2.alloc (.cells Facg.zeroCells81 81)) W5 := by rw [hW5]; exact kept_setCells _ _ _ _ _ (Kept.refl _ _)
    have hg2 := ((Kept.refl (fun _ => True) w2).alloc (.cells Facg.zeroCells81 81)).mono (q := fun k => k ≠ w2.heap.size) (fun _ _ _ => trivial) |>.trans hK5
    have hs0 : w.heap.size ≤ w2.heap.size := hg.size
    have HG5 : Hid (Grows w W5) := hg.then hg2 (fun i hi _ => by omega)
    have HW5e := hide hW5
    have hrange : W5.rangeAt w2.heap.size 0 L := by
      rw [hW5]
      exact World.rangeAt_setCells_same _ _ _ _ (by rw [q3]; exact HTh.out)
    have hfz : ∀ j, W5.frozen? ⟨w2.heap.size, j, none⟩ = false := fun j => by
      rw [hW5, World.frozen?_setCells]
      exact World.frozen?_alloc_at _ _ _ _ rfl
    have HW5 := hide (walk_of_range hrange q1 hfz)
    clear q1 q3 q4 hg hg2 hK5 hW5 hrange hfz
    go_wp2_with (first
      | (refine wpList_store_mid rfl 81 (.tmp 4) (.tmp 10) rfl w2.heap.size 0 L.toArray rfl rfl (by rw [HQ4.out]; exact HTh.out) HI.out HAll.out ?_; rw [show L.toArray.toList = L from rfl, ← HW5e.out]))
    have hglt := HW5.out.lt
    have HAG : Hid (∀ wr, Kept (fun k => k ≠ w2.heap.size) W5 wr → ArenaAt wr a n f) := fun wr h => (HA.out.grows HG5.out).kept h (fun b o e => by have := HLt.out b o e; omega)
    go_loopw [6] (fun t wr => ∃ S A D sp, Kept (fun k => k ≠ w2.heap.size) W5 wr ∧ WalkAt wr w2.heap.size S A D sp ∧ (∀ j, S j < 18446744073709551616) ∧ (∀ k, A k < 65536) ∧ (∀ k, D k < 256) ∧ Mid n S A D sp ∧ Reach f n S A D sp ∧ (ArenaOk f n ↔ Acc f n (fun p => mem S p = true) (stkE A D sp))) (fun _ wr => leftIn w2.heap.size n wr)
    case atStart =>
      exact ⟨fun j => if j = 0 then 1 else 0, fun _ => 0, fun _ => 0, 1, Kept.refl _ _, HW5.out, fun j => (by show (if j = 0 then 1 else 0) < 18446744073709551616; split <;> decide), fun _ => (by simp), fun _ => (by simp), start_mid hyes.1 hyes.2, reach_start f n, (acc_start hyes.1 hyes.2).symm⟩
    case round =>
      obtain ⟨S, A, D, sp, hk, hw, hS, hAb, hDb, hmid, hre, hac⟩ := hrel
      clear HI HAll HQ4 HTh HW5e
      have HK := hide hk
      have HW := hide hw
      have HS := hide hS
      have HAb := hide hAb
      have HDb := hide hDb
      have HM := hide hmid
      have HRe := hide hre
      have HAc := hide hac
      have c0 := hw.sp
      have hle := hmid.le
      have hlt2 := hw.lt
      clear hk hw hS hAb hDb hmid hre hac
      by_cases hsp : sp = 0
      · subst hsp
        go_wp2
        refine bodyPost_ret (v := .tuple #[.int .u8 0, .int .u16 0]) (by simp [results, Facg.results15, go_sem]) rfl ?_
        exact ⟨0, 0, rfl, HG5.out.then HK.out (fun i hi _ => by omega), .inl ⟨rfl, rfl, HAc.out.2 acc_end⟩⟩
      · obtain ⟨t, rfl⟩ : ∃ t, sp = t + 1 := ⟨sp - 1, by omega⟩
        have hd0 : decide ((0 : Int) < ((t + 1 : Nat) : Int)) = true := decide_eq_true (by omega)
        obtain ⟨L', q1, q2, q3, q4⟩ := cells_of_walk HW.out
        have HR := hide q2
        have HI : Hid ((Facg.prog.info? 81).map (·.size) = some L'.length) := by unfold Hid; rw [q3]; exact info81
        have HAll : Hid (L'.toArray.all (·.oneCell') = true) := all_oneCell_toArray q4
        have HQ4 : Hid (L'.toArray.size = 517) := q3
        have HTh := hide (zero_there wr)
        obtain ⟨W6, hW6⟩ : ∃ W, W = (wr.alloc (.cells Facg.zeroCells81 81)).setCells wr.heap.size 0 L' := ⟨_, rfl⟩
        have HK6 : Hid (Kept (fun b => b ≠ wr.heap.size) (wr.alloc (.cells Facg.zeroCells81 81)) W6) := by
          unfold Hid
          rw [hW6]
          exact kept_setCells _ _ _ _ _ (Kept.refl _ _)
        have HW6 : Hid (WalkAt W6 w2.heap.size S A D (t + 1)) := (HW.out.kept ((Kept.refl (fun _ => True) _).alloc _) trivial).kept HK6.out (by omega)
        have HR6 : Hid (W6.rangeAt wr.heap.size 0 L') := by
          unfold Hid
          rw [hW6]
          exact World.rangeAt_setCells_same _ _ _ _ (by rw [q3]; exact HTh.out)
        have hfz : ∀ j, W6.frozen? ⟨wr.heap.size, j, none⟩ = false := fun j => by
          rw [hW6, World.frozen?_setCells]
          exact World.frozen?_alloc_at _ _ _ _ rfl
        have HB6 := hide (walk_of_range HR6.out q1 hfz)
        have HK56 : Hid (Kept (fun k => k ≠ w2.heap.size) W5 W6) := HK.out.trans ((((Kept.refl (fun _ => True) wr).alloc _).then HK6.out (fun i hi _ => by omega)).mono (fun _ _ _ => trivial))
        have HW6e := hide hW6
        have hl6 := HB6.out.lt
        clear q1 q2 q3 q4 hW6 hfz HR6 HK6
        have HSp := hide (vstep_any w2.heap.size a n c f S A D t W6 (by omega) hn (HAb.out t) (HDb.out t) HS.out (HAG.out _ HK56.out) (fun b o e => by have := HLt.out b o e; omega) HW6.out (fun q hq hfr => by
          have := mid_room HM.out (resolve_fine HA.out.1 hq) hfr
          have := HM.out.hi
          omega))
        go_wp2_with (first
          | (refine wpList_load_mid rfl 81 (.tmp 4) rfl w2.heap.size 0 rfl L' _ HR.out Facg.underlying81 rfl HI.out ?_)
          | (refine wpList_store_mid rfl 81 (.tmp 6) (.tmp 17) rfl wr.heap.size 0 L'.toArray rfl rfl (by rw [HQ4.out]; exact HTh.out) HI.out HAll.out ?_; rw [show L'.toArray.toList = L' from rfl, ← HW6e.out]))
        refine HSp.out.mono ?_
        rintro e w3 ⟨ok, S', A', D', sp', rfl, hk3, hw3, hS3, hr3⟩
        have hmid' := step_mid HA.out.1 HM.out hr3
        obtain ⟨bA, bD⟩ := step_bd HA.out.1 HM.out hr3 HAb.out HDb.out
        have hacc := step_acc hr3
        have hless := step_less_any HA.out.1 HM.out hr3
        have HK3 := hide (HK56.out.trans hk3)
        have HB3 := hide (HB6.out.kept hk3 (show wr.heap.size ≠ w2.heap.size by omega))
        cases ok
        · have HFa := hide (fault_any wr.heap.size a n c f S A D t w3 (by omega) hyes.2 (HM.out.ent t (by omega)).1 (HDb.out t) HS.out (HAG.out _ HK3.out) (fun b o e => by have := HLt.out b o e; omega) HB3.out (step_nonzero hr3))
          have HR3 := hide hr3
          have HNo := hide (hacc.2 rfl)
          have hs3 := HK3.out.size
          clear hk3 hw3 hS3 hr3 hmid' bA bD hacc hless HSp
          go_wp2_with (fail)
          refine HFa.out.mono ?_
          rintro e w4 ⟨code, rfl, hk4, hF4⟩
          have HWh := hide (why_of HA.out.1 HM.out HRe.out HR3.out hF4)
          have HG4 : Hid (Grows w w4) := (HG5.out.then HK3.out (fun i hi _ => by omega)).then hk4 (fun i hi _ => by omega)
          clear hk4 hF4 HFa
          go_wp2
          refine bodyPost_ret (v := .tuple #[.int .u8 code, .int .u16 (A t)]) (by simp [results, Facg.results15, go_sem]) rfl ?_
          have he := HM.out.ent t (by omega)
          exact ⟨code, A t, rfl, HG4.out, .inr (.inr ⟨hyes.1, hyes.2, fun h => HNo.out (HAc.out.1 h), he.1, ⟨D t, he.2.1, HRe.out.ent t (by omega)⟩, HWh.out⟩)⟩
        · have HLess : Hid (leftIn w2.heap.size n w3 < leftIn w2.heap.size n wr) := by
            unfold Hid
            rw [leftIn_of hw3 hyes.2, leftIn_of HW.out hyes.2]
            omega
          have HRel := hide (show Kept (fun k => k ≠ w2.heap.size) W5 w3 ∧ WalkAt w3 w2.heap.size S' A' D' sp' ∧ (∀ j, S' j < 18446744073709551616) ∧ (∀ k, A' k < 65536) ∧ (∀ k, D' k < 256) ∧ Mid n S' A' D' sp' ∧ Reach f n S' A' D' sp' ∧ (ArenaOk f n ↔ Acc f n (fun p => mem S' p = true) (stkE A' D' sp')) from
            ⟨HK3.out, hw3, hS3, bA, bD, hmid', step_reach HA.out.1 HM.out HRe.out hr3, HAc.out.trans (hacc.1 rfl)⟩)
          clear hk3 hw3 hS3 hr3 hmid' bA bD hacc hless HSp
          go_wp2
          go_roundw
          case rel => exact ⟨S', A', D', sp', HRel.out⟩
          case measure => exact HLess.out
end Go.Proofs.Ygcfac
