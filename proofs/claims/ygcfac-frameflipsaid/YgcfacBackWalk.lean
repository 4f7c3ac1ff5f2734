import Derived.Test.YgcfacFlip
import Derived.Test.YgcfacCodesWalk
namespace Go.Proofs.Ygcfac
open Go.RowKit
set_option linter.unusedVariables false

theorem BufAt.ints {w0 w : World} {D : List Int} {v : Value} (h : BufAt w0 D v w) (hb : ∀ y ∈ D, 0 ≤ y ∧ y < 256) : Ints w .u8 v D :=
  Ints.of_owns h.owns (fun y hy => wf_u8 (hb y hy).1 (hb y hy).2)

theorem frameBack_walk (v : Value) (A : List Int) (p : Bool) (w : World) (hv : Ints w .u64 v A) :
    Calls Facg.prog 4 #[v, .bool p] w fun e w' => e = .returned (.bool true) ∧ Grows w w' := by
  obtain ⟨a, c, rfl, hc, hm, hw, hr⟩ := id hv
  unfold maxLen at hm
  by_cases h : 256 < A.length
  · have hmin : (if (257 : Int) < (A.length : Int) then (257 : Int) else (A.length : Int)) = 257 := by
      by_cases h2 : (257 : Int) < (A.length : Int)
      · rw [if_pos h2]
      · rw [if_neg h2]; omega
    have hmc : (257 : Int) ≤ (c : Int) := by omega
    have hnil : ∀ w : World, (binOp .eql 40 (.slice none 0 0) (.slice none 0 0)).run Facg.prog w = .ok (.bool true) w := fun w => by kernel_rfl
    clear hv hr hw
    go_enter Facg.func4, Facg.ntmps4
    go_wp2_with (first
      | (go_at_call 23; refine (seal_none a 257 c p (by decide) (by decide) _).mono ?_; rintro e w1 ⟨rfl, rfl⟩))
    go_ret
    exact ⟨rfl, Kept.refl _ _⟩
  · have hmin : (if (257 : Int) < (A.length : Int) then (257 : Int) else (A.length : Int)) = (A.length : Int) := by
      rw [if_neg (by omega)]
    have hmc : (A.length : Int) ≤ (c : Int) := by omega
    have hd : decide ((256 : Int) < (A.length : Int)) = false := by simp; omega
    have hA := ints_bd hv
    have hO := open_seal A p hA (by omega)
    have hB := seal_bd A p hA
    have HS := hide (seal_any (.slice a A.length c) A p w hv (by omega))
    have HV := hide hv
    have HB := hide (fun v w' (k : BufAt w (sealF A p) v w') => open_any v (sealF A p) w' (k.ints hB))
    rw [hO] at HB
    clear hv hr hw hO hB hA
    generalize A.length = n at *
    generalize sealF A p = S at *
    go_enter Facg.func4, Facg.ntmps4
    go_wp2_with (first
      | (go_at_call 23; refine HS.out.mono ?_; rintro e w1 ⟨v1, rfl, hb⟩; have H1 := hide hb; clear hb)
      | (go_at_call 24; refine (HB.out _ _ H1.out).mono ?_; rintro e w2 ⟨hg, v2, rfl, hi, _⟩; have HG := hide hg; have H2 := hide hi; clear hg hi)
      | (go_at_call 25; refine (same_words _ _ A A _ (by exact HV.out.grows (H1.out.grows.trans HG.out)) (by exact H2.out)).mono ?_; rintro e w3 ⟨rfl, k, rfl⟩))
    go_ret
    exact ⟨by simp, (H1.out.grows.trans HG.out).drewN _⟩
end Go.Proofs.Ygcfac
