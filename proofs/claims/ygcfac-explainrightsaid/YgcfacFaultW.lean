import Derived.Test.YgcfacWhy
namespace Go.Proofs.Ygcfac
open Go.RowKit
set_option linter.unusedVariables false

set_option maxRecDepth 10000 in
theorem fault_any (g : Nat) (a : Option Addr) (n c : Nat) (f : Nat → Int) (S A D : Nat → Nat) (t : Nat) (w : World) (ht : t < 256) (hn : n ≤ 256) (hAn : A t < n) (hDt : D t < 256) (hS : ∀ j, S j < 18446744073709551616)
    (hA : ArenaAt w a n f) (hne : ∀ b o, a = some ⟨b, o, none⟩ → b ≠ g) (hW : WalkAt w g S A D (t + 1)) (hkz : ∀ q, resolveI f n (A t) = some q → ¬ q.kind = 0) :
    Calls Facg.prog 52 #[.pointer (some ⟨g, 0, none⟩), .slice a n c] w fun e w' => ∃ code : Int, e = .returned (.tuple #[.int .u8 code, .int .u16 (A t)]) ∧ Kept (fun k => k ≠ g) w w' ∧ FaultR f n S A D t code := by
  have c0 := hW.sp
  have c1 := hW.ats t ht
  have c2 := hW.dep t ht
  have hglt := hW.lt
  have HW := hide hW
  have HA := hide hA
  have HNE := hide hne
  have HS := hide hS
  have HKZ := hide hkz
  have hAt : A t < 65536 := by omega
  clear hW hA hne hS hkz
  go_enter Facg.func52, Facg.ntmps52
  go_wp2
  go_cut [6] (fun s5 wc => s5 = .pointer (some ⟨w.heap.size, 0, none⟩) ∧ Grows w wc ∧ wc.cell? ⟨w.heap.size, 0, none⟩ = some (.int .u16 (A t)) ∧ wc.cell? ⟨w.heap.size, 1, none⟩ = some (.int .u8 (D t)))
  case first =>
    have n0 : w.heap.size ≠ g := by omega
    have hwr : IntKind.u16.wrap ((t : Int) + 1 - 1) = (t : Int) := by rw [IntKind.wrap_u16]; omega
    have hti : (t : Int) < 256 := by omega
    have h0i : (0 : Int) ≤ (t : Int) := by omega
    go_region
    all_goals go_wp2
    all_goals go_meet
    all_goals
      have hb0 : (w.alloc (.cells #[.int .u16 (A t), .int .u8 (D t)] 78)).cell? ⟨w.heap.size, 0, none⟩ = some (.int .u16 (A t)) := box_cell w _ 78 0 _ rfl
      have hb1 : (w.alloc (.cells #[.int .u16 (A t), .int .u8 (D t)] 78)).cell? ⟨w.heap.size, 1, none⟩ = some (.int .u8 (D t)) := box_cell w _ 78 1 _ rfl
      exact ⟨rfl, ((Kept.refl _ _).alloc _).drew, (Kept.refl (fun _ => True) _).drew.cell hb0 trivial, (Kept.refl (fun _ => True) _).drew.cell hb1 trivial⟩
  case rest =>
    obtain ⟨rfl, hg, d0, d1⟩ := hcut
    have hne0 : w.heap.size ≠ g := by omega
    have HKc := hide (hg.mono (q := fun k => k ≠ g) (fun _ _ _ => trivial))
    have HWc := hide (HW.out.kept hg trivial)
    have HRes := hide (fun w' (h : Kept (fun k => k ≠ g) w w') => resolve_any a n c (A t) f w' (by omega) hAt (HA.out.kept h HNE.out))
    have HPF := hide (fun w' (h : Kept (fun k => k ≠ g) w w') => pointerFault_any a n c (A t) f w' hn hAn (HA.out.kept h HNE.out))
    clear hg c0 c1 c2
    cases hr : resolveI f n (A t) with
    | none =>
      rw [hr] at HRes
      unfold resV at HRes
      simp only at HRes
      have HR := hide hr
      clear hr
      go_wp2_with (first
        | (go_at_call 18; refine (HRes.out _ HKc.out).mono ?_; rintro e w2 ⟨rfl, hg⟩; have HK2 := hide (HKc.out.trans (hg.mono (q := fun k => k ≠ g) (fun _ _ _ => trivial))); have HW2 := hide (HWc.out.kept hg trivial); have e0 := hg.cell d0 trivial; have e1 := hg.cell d1 trivial; have hs2 : w.heap.size < w2.heap.size := World.block_lt_of_cell? w2 ⟨w.heap.size, 0, none⟩ e0; clear hg d0 d1))
      go_quiet ((go_at_call 106; exact Calls.quiet_of_same (HPF.out _ ((HK2.out.alloc _).drewN _))))
      go_wp2
      refine bodyPost_ret (by simp [results, Facg.results52, go_sem]) rfl ⟨faultW (f (A t)) n (A t), rfl, ?_, .inl ⟨HR.out, rfl⟩⟩
      first | exact (HK2.out.alloc _).drewN _ | exact (HK2.out.alloc _).drew
    | some q =>
      have hkz := HKZ.out q hr
      have hfine := resolve_fine HA.out.1 hr
      rw [hr] at HRes
      have HR := hide hr
      clear hr
      obtain ⟨hok, _, hin⟩ := hfine.resolve_left (by intro h; apply hkz; rw [h])
      have HOK := hide hok
      have HIN := hide hin
      clear hkz hok hin hfine
      unfold resV at HRes
      simp only at HRes
      by_cases hD : 8 ≤ D t
      · have hd8 : decide (8 ≤ D t) = true := decide_eq_true hD
        go_wp2_with (first
          | (go_at_call 18; refine (HRes.out _ HKc.out).mono ?_; rintro e w2 ⟨rfl, hg⟩; have HK2 := hide (HKc.out.trans (hg.mono (q := fun k => k ≠ g) (fun _ _ _ => trivial))); have HW2 := hide (HWc.out.kept hg trivial); have e0 := hg.cell d0 trivial; have e1 := hg.cell d1 trivial; have hs2 : w.heap.size < w2.heap.size := World.block_lt_of_cell? w2 ⟨w.heap.size, 0, none⟩ e0; clear hg d0 d1))
        go_quiet (fail)
        go_wp2
        refine bodyPost_ret (by simp [results, Facg.results52, go_sem]) rfl ⟨7, rfl, ?_, .inr ⟨q, HR.out, .inl ⟨hD, rfl⟩⟩⟩
        first | exact (HK2.out.alloc _).drewN _ | exact (HK2.out.alloc _).drew
      · have hd8 : decide (8 ≤ D t) = false := decide_eq_false hD
        go_wp2_with (first
          | (go_at_call 18; refine (HRes.out _ HKc.out).mono ?_; rintro e w2 ⟨rfl, hg⟩; have HK2 := hide (HKc.out.trans (hg.mono (q := fun k => k ≠ g) (fun _ _ _ => trivial))); have HW2 := hide (HWc.out.kept hg trivial); have e0 := hg.cell d0 trivial; have e1 := hg.cell d1 trivial; have hs2 : w.heap.size < w2.heap.size := World.block_lt_of_cell? w2 ⟨w.heap.size, 0, none⟩ e0; clear hg d0 d1))
        obtain ⟨x1, x2, x3, x4⟩ := inside_extent HOK.out HIN.out
        obtain ⟨a0, ha0⟩ := Int.eq_ofNat_of_zero_le x2
        obtain ⟨n0, hn0⟩ := Int.eq_ofNat_of_zero_le (pwords_bd q HOK.out).1
        have hq1 : q.first.toNat = a0 := by omega
        have hq2 : (wordsI q).toNat = n0 := by omega
        refine (claim_any g S A D (t + 1) q a0 n0 _ HOK.out ha0 hn0 (by omega) HS.out (HW2.out.kept ((Kept.refl (fun _ => True) _).alloc _) trivial)).mono ?_
        rintro e w3 ⟨ok, S', rfl, hk3, hw3, hb3, hr3⟩
        have f0 := hk3.cell (((Kept.refl (fun _ => True) w2).alloc _).cell e0 trivial) hne0
        have HK3 := hide (HK2.out.trans (kept_box hk3))
        have HC3 := hide hr3
        have HQ12 := hide (And.intro hq1 hq2)
        clear hk3 hw3 hb3 hr3 e0 e1 HRes ha0 hn0 hq1 hq2 x1 x2 x3 x4 HW2 HK2 HKc HWc
        cases ok
        · go_wp2
          go_quiet (fail)
          go_wp2
          refine bodyPost_ret (by simp [results, Facg.results52, go_sem]) rfl ⟨8, rfl, ?_, .inr ⟨q, HR.out, .inr (.inl ⟨by omega, rfl, S', by rw [HQ12.out.1, HQ12.out.2]; exact HC3.out⟩)⟩⟩
          first | exact HK3.out.drewN _ | exact HK3.out.drew
        · go_wp2
          go_quiet (fail)
          go_wp2
          refine bodyPost_ret (by simp [results, Facg.results52, go_sem]) rfl ⟨9, rfl, ?_, .inr ⟨q, HR.out, .inr (.inr ⟨by omega, rfl, S', by rw [HQ12.out.1, HQ12.out.2]; exact HC3.out⟩)⟩⟩
          first | exact HK3.out.drewN _ | exact HK3.out.drew
end Go.Proofs.Ygcfac
