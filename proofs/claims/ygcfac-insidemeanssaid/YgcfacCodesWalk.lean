/-
  law.FrameCodes: walked whole.
-/
import Derived.Test.YgcfacOwn
namespace Go.Proofs.Ygcfac
open Go.RowKit
set_option linter.unusedVariables false

theorem min_of (n k : Nat) : ∃ m : Nat, (if (k : Int) < (n : Int) then (k : Int) else (n : Int)) = (m : Int) ∧ m ≤ n ∧ m ≤ k ∧ (m = n ∨ m = k) := by
  by_cases h : k < n
  · exact ⟨k, by rw [if_pos (by omega)], by omega, by omega, .inr rfl⟩
  · exact ⟨n, by rw [if_neg (by omega)], by omega, by omega, .inl rfl⟩

theorem Ints.front {w : World} {k : IntKind} {a : Option Addr} {n c : Nat} {xs : List Int} (h : Ints w k (.slice a n c) xs) (m : Nat) (hm : m ≤ n) : Ints w k (.slice a m c) (xs.take m) := by
  have hn : n = xs.length := by obtain ⟨_, _, e, _⟩ := h; injection e
  have e : xs = xs.take m ++ xs.drop m := (List.take_append_drop m xs).symm
  rw [e] at h
  have := h.take
  rw [List.length_take, show min m xs.length = m by omega] at this
  exact this

theorem frameCodes_walk (v : Value) (S : List Int) (w : World) (hv : Ints w .u8 v S) :
    Calls Facg.prog 5 #[v] w fun e w' => e = .returned (.bool true) ∧ Grows w w' := by
  obtain ⟨a, c, rfl, hc, hm, hw, hr⟩ := id hv
  unfold maxLen at hm
  obtain ⟨m, hmin0, hm1, hm2, _⟩ := min_of S.length 4113
  have hmin : (if (4113 : Int) < (S.length : Int) then (4113 : Int) else (S.length : Int)) = (m : Int) := hmin0
  clear hmin0
  have hI := hv.front m hm1
  have HO := hide (fun w' hg => open_any (.slice a m c) (S.take m) w' (hI.grows hg))
  have HN := hide (fun w' hg => own_any (.slice a m c) (S.take m) w' (hI.grows hg))
  clear hw hr hv hI
  generalize openF (S.take m) = r at *
  have hmc : (m : Int) ≤ (c : Int) := by omega
  by_cases hz : r.2 = 0
  · have tz : (r.2 == 0) = true := by simpa using hz
    clear hz
    go_enter Facg.func5, Facg.ntmps5
    go_wp2_with (first
      | (go_at_call 24; refine (HO.out _ (Kept.refl _ _)).mono ?_; rintro e w1 ⟨hg, v1, rfl, hi, _⟩; have HG := hide hg; have H1 := hide hi; clear hg hi)
      | (go_at_call 26; refine (HN.out _ HG.out).mono ?_; rintro e w2 ⟨hg, v2, rfl, hi, _⟩; have HG2 := hide hg; have H2 := hide hi; clear hg hi)
      | (go_at_call 25; refine (same_words _ _ r.1 r.1 _ (by exact H1.out.grows HG2.out) (by exact H2.out)).mono ?_; rintro e w3 ⟨rfl, k, rfl⟩))
    go_ret
    exact ⟨rfl, (HG.out.trans HG2.out).drewN _⟩
  · have tz : (r.2 == 0) = false := by simpa using hz
    have HZ := hide hz
    clear hz
    have hnil : ∀ w : World, (binOp .eql 22 (.slice none 0 0) (.slice none 0 0)).run Facg.prog w = .ok (.bool true) w := fun w => by kernel_rfl
    go_enter Facg.func5, Facg.ntmps5
    go_wp2_with (first
      | (go_at_call 24; refine (HO.out _ (Kept.refl _ _)).mono ?_; rintro e w1 ⟨hg, v1, rfl, hi, hn⟩; have hv1 := hn HZ.out; subst hv1; have HG := hide hg; have H1 := hide hi; clear hg hi hn)
      | (go_at_call 26; refine (HN.out _ HG.out).mono ?_; rintro e w2 ⟨hg, v2, rfl, hi, _⟩; have HG2 := hide hg; have H2 := hide hi; clear hg hi)
      | (go_at_call 25; refine (same_words _ _ r.1 r.1 _ (by exact H1.out.grows HG2.out) (by exact H2.out)).mono ?_; rintro e w3 ⟨rfl, k, rfl⟩))
    go_ret
    exact ⟨rfl, (HG.out.trans HG2.out).drewN _⟩
end Go.Proofs.Ygcfac
