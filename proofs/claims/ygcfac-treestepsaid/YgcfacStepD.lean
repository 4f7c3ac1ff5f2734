/-
  (*pack.Cur).Step, walked: a step that is refused.
-/
import Derived.Test.YgcfacStepA
namespace Go.Proofs.Ygcfac
open Go.RowKit

theorem check_no (b : Nat) (aS aO : Option Addr) (nS cS nO cO : Nat) (i : Int) (w : World)
   (c0 : w.cell? ⟨b, 0, none⟩ = some (.slice aS nS cS)) (c1 : w.cell? ⟨b, 1, none⟩ = some (.int .u16 i)) (c2 : w.cell? ⟨b, 2, none⟩ = some (.slice aO nO cO))
   (hi0 : 0 ≤ i) (hi1 : i < 65536) (hm : nS ≤ 9223372036854775807) (hm2 : nO ≤ 9223372036854775807) (h : ¬ (nS ≤ 4096 ∧ i ≤ nS ∧ nO ≤ 256)) :
    Calls Facg.prog 40 #[.pointer (some ⟨b, 0, none⟩)] w fun e w' => e = .returned (.bool false) ∧ ∃ n, w' = w.drewN n := by
  by_cases h1 : nS ≤ 4096
  · have d1 : decide ((nS : Int) ≤ 4096) = true := by simp; omega
    by_cases h2 : i ≤ nS
    · have d2 : decide (i ≤ (nS : Int)) = true := by simp; omega
      have d3 : decide ((nO : Int) ≤ 256) = false := by simp; omega
      clear h
      go_enter Facg.func40, Facg.ntmps40
      go_wp2
      go_quiet (fail)
      go_wp2
      go_ret
      exact ⟨rfl, _, rfl⟩
    · have d2 : decide (i ≤ (nS : Int)) = false := by simp; omega
      clear h
      go_enter Facg.func40, Facg.ntmps40
      go_wp2
      go_quiet (fail)
      go_wp2
      go_ret
      exact ⟨rfl, _, rfl⟩
  · have d1 : decide ((nS : Int) ≤ 4096) = false := by simp; omega
    clear h
    go_enter Facg.func40, Facg.ntmps40
    go_wp2
    go_quiet (fail)
    go_wp2
    go_ret
    exact ⟨rfl, _, rfl⟩

set_option maxRecDepth 100000 in
theorem step_end (b nS cS nO cO : Nat) (aS aO : Option Addr) (w : World)
   (c0 : w.cell? ⟨b, 0, none⟩ = some (.slice aS nS cS)) (c1 : w.cell? ⟨b, 1, none⟩ = some (.int .u16 nS)) (c2 : w.cell? ⟨b, 2, none⟩ = some (.slice aO nO cO))
   (h1 : nS ≤ 4096) (h3 : nO ≤ 256) :
    Calls Facg.prog 41 #[.pointer (some ⟨b, 0, none⟩)] w fun e w' => e = .returned (.bool false) ∧ ∃ n, w' = w.drewN n := by
  have hn : ((nS : Int) == (nS : Int)) = true := by simp
  go_enter Facg.func41, Facg.ntmps41
  go_wp2
  go_quiet ((go_at_call 40; exact Calls.quiet_of (check_yes b _ aO nS cS nO cO nS _ (by simpa using c0) (by simpa using c1) (by simpa using c2) (by omega) h1 (by omega) h3)))
  go_wp2
  go_ret
  exact ⟨rfl, _, rfl⟩

set_option maxRecDepth 100000 in
set_option maxHeartbeats 800000 in
theorem step_no_plain (b bs os nS cS nO cO : Nat) (aO : Option Addr) (i : Nat) (w : World) (tag : Int)
   (c0 : w.cell? ⟨b, 0, none⟩ = some (.slice (some ⟨bs, os, none⟩) nS cS)) (c1 : w.cell? ⟨b, 1, none⟩ = some (.int .u16 i)) (c2 : w.cell? ⟨b, 2, none⟩ = some (.slice aO nO cO))
   (h1 : nS ≤ 4096) (h2 : i < nS) (h3 : nO ≤ 256) (hc : nS ≤ cS)
   (hS0 : w.cell? ⟨bs, os + i, none⟩ = some (.int .u8 tag)) (hT0 : 0 ≤ tag) (hT1 : tag < 256)
   (e0 : (tag == 0) = false) (e1 : (tag == 255) = false) (k : Nat) (hk1 : 1 + onesI tag = k) (hno : nS < i + k ∨ 256 < nO + 1) :
    Calls Facg.prog 41 #[.pointer (some ⟨b, 0, none⟩)] w fun e w' => e = .returned (.bool false) ∧ ∃ n, w' = w.drewN n := by
  have hn : ((i : Int) == (nS : Int)) = false := by simp; omega
  obtain ⟨ho0, ho1⟩ := ones_bd tag hT0 hT1
  by_cases hd : nS < i + k
  · have d1 : decide (((nS - i : Nat) : Int) < (k : Int)) = true := by simp; omega
    clear hno
    go_enter Facg.func41, Facg.ntmps41
    go_wp2
    go_quiet ((go_at_call 40; exact Calls.quiet_of (check_yes b _ aO nS cS nO cO i _ (by simpa using c0) (by simpa using c1) (by simpa using c2) (by omega) h1 (by omega) h3)))
    go_wp2
    go_quiet (fail)
    go_wp2_with (go_at_call 85; refine (ones_any _ _ (by omega) (by omega)).mono ?_; rintro e w' ⟨rfl, rfl⟩)
    go_ret
    exact ⟨rfl, _, rfl⟩
  · have d1 : decide (((nS - i : Nat) : Int) < (k : Int)) = false := by simp; omega
    have d2 : decide ((256 : Int) < (nO : Int) + 1) = true := by simp; omega
    clear hno
    go_enter Facg.func41, Facg.ntmps41
    go_wp2
    go_quiet ((go_at_call 40; exact Calls.quiet_of (check_yes b _ aO nS cS nO cO i _ (by simpa using c0) (by simpa using c1) (by simpa using c2) (by omega) h1 (by omega) h3)))
    go_wp2
    go_quiet (fail)
    go_wp2_with (go_at_call 85; refine (ones_any _ _ (by omega) (by omega)).mono ?_; rintro e w' ⟨rfl, rfl⟩)
    go_ret
    exact ⟨rfl, _, rfl⟩

set_option maxRecDepth 100000 in
set_option maxHeartbeats 1600000 in
theorem step_no_zero (b bs os nS cS nO cO : Nat) (aO : Option Addr) (i : Nat) (w : World) (tag : Int)
   (c0 : w.cell? ⟨b, 0, none⟩ = some (.slice (some ⟨bs, os, none⟩) nS cS)) (c1 : w.cell? ⟨b, 1, none⟩ = some (.int .u16 i)) (c2 : w.cell? ⟨b, 2, none⟩ = some (.slice aO nO cO))
   (h1 : nS ≤ 4096) (h2 : i < nS) (h3 : nO ≤ 256) (hc : nS ≤ cS)
   (hS0 : w.cell? ⟨bs, os + i, none⟩ = some (.int .u8 tag)) (hT0 : 0 ≤ tag) (hT1 : tag < 256)
   (e0 : (tag == 0) = true) (e1 : (tag == 255) = false) (hk1 : 1 + onesI tag = 1) (more : Nat) (hmo : more < 256) (hS1 : i + 1 < nS → w.cell? ⟨bs, os + i + 1, none⟩ = some (.int .u8 more))
   (hno : nS ≤ i + 1 ∨ 256 < nO + 1 + more) :
    Calls Facg.prog 41 #[.pointer (some ⟨b, 0, none⟩)] w fun e w' => e = .returned (.bool false) ∧ ∃ n, w' = w.drewN n := by
  have hn : ((i : Int) == (nS : Int)) = false := by simp; omega
  obtain ⟨ho0, ho1⟩ := ones_bd tag hT0 hT1
  by_cases hd : nS ≤ i + 1
  · have d1 : ((nS - i : Nat) : Int) ≤ 1 := by omega
    clear hno hS1
    go_enter Facg.func41, Facg.ntmps41
    go_wp2
    go_quiet ((go_at_call 40; exact Calls.quiet_of (check_yes b _ aO nS cS nO cO i _ (by simpa using c0) (by simpa using c1) (by simpa using c2) (by omega) h1 (by omega) h3)))
    go_wp2
    go_quiet (fail)
    go_wp2_with (go_at_call 85; refine (ones_any _ _ (by omega) (by omega)).mono ?_; rintro e w' ⟨rfl, rfl⟩)
    go_ret
    exact ⟨rfl, _, rfl⟩
  · have hS2 := hS1 (by omega)
    have d2 : decide ((256 : Int) < (nO : Int) + 1 + (more : Int)) = true := by simp; omega
    clear hno hS1
    go_enter Facg.func41, Facg.ntmps41
    go_wp2
    go_quiet ((go_at_call 40; exact Calls.quiet_of (check_yes b _ aO nS cS nO cO i _ (by simpa using c0) (by simpa using c1) (by simpa using c2) (by omega) h1 (by omega) h3)))
    go_wp2
    go_quiet (fail)
    go_wp2_with (go_at_call 85; refine (ones_any _ _ (by omega) (by omega)).mono ?_; rintro e w' ⟨rfl, rfl⟩)
    go_ret
    exact ⟨rfl, _, rfl⟩

set_option maxRecDepth 100000 in
set_option maxHeartbeats 1600000 in
theorem step_no_full (b bs os nS cS nO cO : Nat) (aO : Option Addr) (i : Nat) (w : World) (tag : Int)
   (c0 : w.cell? ⟨b, 0, none⟩ = some (.slice (some ⟨bs, os, none⟩) nS cS)) (c1 : w.cell? ⟨b, 1, none⟩ = some (.int .u16 i)) (c2 : w.cell? ⟨b, 2, none⟩ = some (.slice aO nO cO))
   (h1 : nS ≤ 4096) (h2 : i < nS) (h3 : nO ≤ 256) (hc : nS ≤ cS)
   (hS0 : w.cell? ⟨bs, os + i, none⟩ = some (.int .u8 tag)) (hT0 : 0 ≤ tag) (hT1 : tag < 256)
   (e0 : (tag == 0) = false) (e1 : (tag == 255) = true) (hk1 : 1 + onesI tag = 9) (more : Nat) (hmo : more < 256) (hS1 : i + 9 < nS → w.cell? ⟨bs, os + i + 9, none⟩ = some (.int .u8 more))
   (hno : nS ≤ i + 9 ∨ nS < i + 10 + 8 * more ∨ 256 < nO + 1 + more) :
    Calls Facg.prog 41 #[.pointer (some ⟨b, 0, none⟩)] w fun e w' => e = .returned (.bool false) ∧ ∃ n, w' = w.drewN n := by
  have hn : ((i : Int) == (nS : Int)) = false := by simp; omega
  obtain ⟨ho0, ho1⟩ := ones_bd tag hT0 hT1
  by_cases hd : nS ≤ i + 9
  · have d1 : ((nS - i : Nat) : Int) ≤ 9 := by omega
    clear hno hS1
    go_enter Facg.func41, Facg.ntmps41
    go_wp2
    go_quiet ((go_at_call 40; exact Calls.quiet_of (check_yes b _ aO nS cS nO cO i _ (by simpa using c0) (by simpa using c1) (by simpa using c2) (by omega) h1 (by omega) h3)))
    go_wp2
    go_quiet (fail)
    go_wp2_with (go_at_call 85; refine (ones_any _ _ (by omega) (by omega)).mono ?_; rintro e w' ⟨rfl, rfl⟩)
    go_ret
    exact ⟨rfl, _, rfl⟩
  · have hS2 := hS1 (by omega)
    by_cases hf : nS < i + 10 + 8 * more
    · have d2 : decide (((nS - i : Nat) : Int) < 10 + 8 * (more : Int)) = true := by simp; omega
      clear hno hS1
      go_enter Facg.func41, Facg.ntmps41
      go_wp2
      go_quiet ((go_at_call 40; exact Calls.quiet_of (check_yes b _ aO nS cS nO cO i _ (by simpa using c0) (by simpa using c1) (by simpa using c2) (by omega) h1 (by omega) h3)))
      go_wp2
      go_quiet (fail)
      go_wp2_with (go_at_call 85; refine (ones_any _ _ (by omega) (by omega)).mono ?_; rintro e w' ⟨rfl, rfl⟩)
      go_ret
      exact ⟨rfl, _, rfl⟩
    · have d1 : decide (((nS - i : Nat) : Int) < 10 + 8 * (more : Int)) = false := by simp; omega
      have d2 : decide ((256 : Int) < (nO : Int) + 1 + (more : Int)) = true := by simp; omega
      clear hno hS1
      go_enter Facg.func41, Facg.ntmps41
      go_wp2
      go_quiet ((go_at_call 40; exact Calls.quiet_of (check_yes b _ aO nS cS nO cO i _ (by simpa using c0) (by simpa using c1) (by simpa using c2) (by omega) h1 (by omega) h3)))
      go_wp2
      go_quiet (fail)
      go_wp2_with (go_at_call 85; refine (ones_any _ _ (by omega) (by omega)).mono ?_; rintro e w' ⟨rfl, rfl⟩)
      go_ret
      exact ⟨rfl, _, rfl⟩
end Go.Proofs.Ygcfac
