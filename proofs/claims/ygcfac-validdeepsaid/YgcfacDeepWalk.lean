import Derived.Test.YgcfacNestW
import Derived.Test.YgcfacClaimed
import Derived.Test.YgcfacVmValid
import Derived.Test.YgcfacObjs
import Derived.Test.YgcfacInWalk
namespace Go.Proofs.Ygcfac
open Go.RowKit
set_option linter.unusedVariables false

set_option maxRecDepth 10000 in
theorem validDeep_walk (v : Value) (Sh : List Int) (w : World) (hv : Ints w .u8 v Sh) :
    Calls Facg.prog 13 #[v] w fun e w' => e = .returned (.bool true) ∧ Grows w w' := by
  have HN := hide (nest_walk v Sh w hv)
  clear hv
  go_enter Facg.func13, Facg.ntmps13
  go_wp2_with (fail)
  refine HN.out.mono ?_
  rintro e w1 ⟨va, X, rfl, hg, hX, h1, h2⟩
  have hA0 := hX
  obtain ⟨a, c, rfl, hc, hm, hw, hr⟩ := hX
  have hA := ArenaAt.of_ints hA0
  have hne : X ≠ [] := fun h => by rw [h] at h1; simp at h1
  obtain ⟨bb, o, rfl, hcell⟩ := hr hne
  have hlt : bb < w1.heap.size := World.block_lt_of_cell? w1 ⟨bb, o + 0, none⟩ (hcell 0 h1)
  have HG := hide hg
  have HA := hide hA
  have HLt : Hid (bb < w1.heap.size) := hlt
  have HOk := hide (model_ok (n := X.length) hA.1)
  have HLen : Hid (X.length ≤ 9223372036854775807) := by unfold Hid; omega
  clear hg hA hA0 hw hr hcell hlt hne hm hc HN
  generalize (fun j => X.getD j 0) = f at *
  generalize X.length = n at *
  have HV := hide (validate_any (some ⟨bb, o, none⟩) n c f w1 HLen.out HA.out (fun b o e => by cases e; exact HLt.out))
  go_wp2_with (fail)
  refine HV.out.mono ?_
  rintro e w2 ⟨b1, rfl, hg1, hb1⟩
  have HM := hide (model_any (some ⟨bb, o, none⟩) n c f w2 HLen.out (HA.out.grows hg1) (fun b o e => by cases e; exact Nat.lt_of_lt_of_le HLt.out hg1.size))
  have HG1 := hide (HG.out.trans hg1)
  have HB1 := hide hb1
  clear hg1 hb1 HV HG
  go_wp2_with (fail)
  refine HM.out.mono ?_
  rintro e w3 ⟨b2, rfl, hg2, hb2⟩
  have hbb : b1 = b2 := by
    have h1 := HB1.out
    have h2 := HOk.out
    rcases b1 with _ | _ <;> rcases b2 with _ | _ <;> simp_all
  subst hbb
  have HG2 := hide (HG1.out.trans hg2)
  clear hg2 hb2 HM HB1 HOk
  go_wp2
  go_ret
  exact ⟨by simp, HG2.out⟩
end Go.Proofs.Ygcfac
