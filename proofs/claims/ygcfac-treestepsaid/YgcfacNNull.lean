/-
  tree.Norm of a tree that fails Check; what Norm's value is like.
-/
import Derived.Test.YgcfacCheck
import Derived.Test.YgcfacNCheck
import Derived.Test.YgcfacCPush
namespace Go.Proofs.Ygcfac
open Go.RowKit
set_option linter.unusedVariables false

/-- The elements of a list of structs have the same sections. -/
def EvenT (u : Tr) : Prop := ∀ i, i < u.ns.length → (u.nd i).inl = true → ∃ d p, d ≤ 8 ∧ p ≤ 8 ∧ ∀ j, j < (u.nd i).kids.length → (u.nd ((u.nd i).k j).toNat).data.length = d ∧ (u.nd ((u.nd i).k j).toNat).kids.length = p

theorem norm_even {t u : Tr} (hc : CheckOk t) (h : NormOf t u) : EvenT u := by
  obtain ⟨h0, F, D, P, hI, hR⟩ := h
  intro i hi hin
  obtain ⟨k1, k2, k3, k4, k5⟩ := kind_u hc hI hR hi
  have hin' : (t.nd (F i)).inl = true := by rw [← k5]; exact hin
  obtain ⟨e1, e2⟩ := hc.link.evd8 (hI.at_ i hi) hin'
  have hk : (u.nd i).kind = 2 ∧ (u.nd i).code = 7 := by simpa [Nd.inl] using hin
  refine ⟨_, _, e1, e2, fun j hj => ?_⟩
  have hkd : (u.nd i).k j ≠ -1 ∧ (u.nd ((u.nd i).k j).toNat).kind = 1 := by
    rcases (shp_u hc hI hR hi).2 with ⟨y1, _⟩ | ⟨_, _, _, y1 | y1 | y1⟩
    · omega
    · omega
    · omega
    · exact y1.2.2 j hj
  have hl := links_u hc hI hR hi j hj
  obtain ⟨c, hce⟩ := Int.eq_ofNat_of_zero_le (show 0 ≤ (u.nd i).k j by omega)
  have hkid : TKid u i j c := ⟨hi, hj, hce⟩
  obtain ⟨y1, y2, y3⟩ := kid_u hc hI hR hkid
  rw [hce] at hkd ⊢
  simp only [Int.toNat_natCast] at hkd ⊢
  obtain ⟨z1, z2, z3, z4, _⟩ := kind_u hc hI hR y3
  obtain ⟨f1, f2⟩ := sect_elem hc hI hR hkid hin' (by rw [← z1]; exact hkd.2)
  exact ⟨by rw [z3, f1], by rw [z4, f2]⟩

theorem nd_nil (r : Int) (i : Nat) : (Tr.mk [] r).nd i = Nd.nil := rfl
theorem null_check : CheckOk ⟨[], -1⟩ := by
  refine ⟨Nat.zero_le _, by decide, by decide, ⟨fun i hi => absurd hi (Nat.not_lt_zero _), fun i j i' j' k h1 _ => absurd h1.1 (Nat.not_lt_zero _), fun i j k h1 => absurd h1.1 (Nat.not_lt_zero _)⟩, .inl rfl⟩
theorem null_even : EvenT ⟨[], -1⟩ := fun i hi => absurd hi (Nat.not_lt_zero _)

/-- What Norm leaves: a tree that passes Check, its lists of structs even; of a tree that fails, or of the null message, the null tree. -/
def NormQ (w : World) (t : Tr) (e : Ending) (w' : World) : Prop := ∃ g u, e = .returned (.pointer (some ⟨g, 0, none⟩)) ∧ Grows w w' ∧ TrQ w' (fun b => w.heap.size ≤ b) g u ∧ CheckOk u ∧ EvenT u

theorem null_at {w0 w : World} (hg : Grows w0 w) : TrQ (w.alloc (.cells #[.slice none 0 0, .int .i16 (-1)] 65)) (fun b => w0.heap.size ≤ b) w.heap.size ⟨[], -1⟩ := by
  refine ⟨⟨show (-32768 : Int) ≤ -1 by decide, show (-1 : Int) < 32768 by decide⟩, hg.size, ⟨none, 0, ?_, Nat.le_refl _, by decide, fun h => absurd rfl h⟩, ?_⟩
  · rw [World.cell?_alloc_at _ _ _ _ rfl]; rfl
  · rw [World.cell?_alloc_at _ _ _ _ rfl]; rfl

set_option maxRecDepth 100000 in
theorem norm_null (g : Nat) (t : Tr) (w : World) (ht : TrAt w g t) (hn : ¬ CheckOk t ∨ t.root = -1) :
    Calls Facg.prog 36 #[.pointer (some ⟨g, 0, none⟩)] w (NormQ w t) := by
  have HCk := hide (check_any g t w ht)
  obtain ⟨a, cN, t0, t1, _, _⟩ := ht.lift
  have HT1 := hide t1
  have HN := hide hn
  clear ht t0 t1 hn
  by_cases hc : CheckOk t
  · have hr : t.root = -1 := HN.out.resolve_left (fun h => h hc)
    rw [hr] at HT1
    have HC := hide hc
    clear hc hr
    go_enter Facg.func36, Facg.ntmps36
    go_wp2_with (first
      | (go_at_call 35; (with_reducible refine HCk.out.mono ?_); rintro e w2 ⟨b, rfl, hg, hb⟩; have hb' : b = true := hb.2 HC.out; subst hb'; have HG2 := hide hg; have d1 := hg.cell HT1.out trivial; clear hg hb))
    go_ret
    exact ⟨_, _, rfl, HG2.out.alloc _, null_at HG2.out, null_check, null_even⟩
  · have HC := hide hc
    clear hc
    go_enter Facg.func36, Facg.ntmps36
    go_wp2_with (first
      | (go_at_call 35; (with_reducible refine HCk.out.mono ?_); rintro e w2 ⟨b, rfl, hg, hb⟩; have hb' : b = false := (by cases b with | false => rfl | true => exact absurd (hb.1 rfl) HC.out); subst hb'; have HG2 := hide hg; clear hg hb))
    go_ret
    exact ⟨_, _, rfl, HG2.out.alloc _, null_at HG2.out, null_check, null_even⟩
end Go.Proofs.Ygcfac
