/-
  tree.Norm of any tree.
-/
import Derived.Test.YgcfacNorm
import Derived.Test.YgcfacNNull
namespace Go.Proofs.Ygcfac
open Go.RowKit
set_option linter.unusedVariables false

theorem norm_any (g : Nat) (t : Tr) (w : World) (ht : TrAt w g t) : Calls Facg.prog 36 #[.pointer (some ⟨g, 0, none⟩)] w (NormQ w t) := by
  by_cases h : CheckOk t ∧ t.root ≠ -1
  · obtain ⟨hc, hr⟩ := h
    have h1 := hc.lo
    obtain ⟨r, hre⟩ := Int.eq_ofNat_of_zero_le (show 0 ≤ t.root by omega)
    exact (norm_ok g t r w ht hc hre).mono fun e w' ⟨gn, u, h1, h2, h3, h4⟩ => ⟨gn, u, h1, h2, h3, norm_check hc h4, norm_even hc h4⟩
  · refine norm_null g t w ht ?_
    by_cases hc : CheckOk t
    · exact .inr (Decidable.byContradiction fun hn => h ⟨hc, hn⟩)
    · exact .inl hc
end Go.Proofs.Ygcfac
