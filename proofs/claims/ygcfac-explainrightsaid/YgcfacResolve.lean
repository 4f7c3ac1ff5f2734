import Derived.Test.YgcfacResolveW
namespace Go.Proofs.Ygcfac
open Go.RowKit
set_option linter.unusedVariables false

/-- wire.Resolve. -/
def resolveI (f : Nat → Int) (n i : Nat) : Option P := if 256 < n ∨ n ≤ i then none else resolveW f n (f i) ((i : Int) + 1) 1

set_option maxRecDepth 10000 in
theorem resolve_no (a : Option Addr) (n c i : Nat) (w : World) (hc : n ≤ 9223372036854775807) (hi : i < 65536) (h : 256 < n ∨ n ≤ i) :
    Calls Facg.prog 18 #[.slice a n c, .int .u16 i] w fun e w' => e = .returned (resV none) ∧ Grows w w' := by
  by_cases hn : 256 < n
  · have e1 : decide ((256 : Int) < (n : Int)) = true := decide_eq_true (by omega)
    clear h
    go_enter Facg.func18, Facg.ntmps18
    go_wp2
    refine bodyPost_ret (v := resV none) (by simp [results, Facg.results18, go_sem, resV]) rfl ⟨rfl, ?_⟩
    exact (Kept.refl _ _).alloc _
  · have e1 : decide ((256 : Int) < (n : Int)) = false := decide_eq_false (by omega)
    have e2 : decide (n ≤ i) = true := decide_eq_true (by omega)
    clear h
    go_enter Facg.func18, Facg.ntmps18
    go_wp2
    refine bodyPost_ret (v := resV none) (by simp [results, Facg.results18, go_sem, resV]) rfl ⟨rfl, ?_⟩
    exact (Kept.refl _ _).alloc _

set_option maxRecDepth 10000 in
theorem resolve_none (b o n c i : Nat) (x : Int) (w : World) (hn : n ≤ 256) (hi : i < n) (hx : 0 ≤ x ∧ x < 18446744073709551616) (hcell : w.cell? ⟨b, o + i, none⟩ = some (.int .u64 x))
    (H : Hid (∀ w' : World, Grows w w' → Calls Facg.prog 56 #[.slice (some ⟨b, o, none⟩) n c, .int .u64 x, .int .u16 ((i : Int) + 1), .int .u16 1] w' fun e w2 => e = .returned (resV none) ∧ Grows w' w2)) :
    Calls Facg.prog 18 #[.slice (some ⟨b, o, none⟩) n c, .int .u16 i] w fun e w' => e = .returned (resV none) ∧ Grows w w' := by
  have e1 : decide ((256 : Int) < (n : Int)) = false := decide_eq_false (by omega)
  have e2 : decide ((n : Int) ≤ (i : Int)) = false := decide_eq_false (by omega)
  have hcell := ((Kept.refl (fun _ => True) w).alloc (.cells #[.int .u8 0, .int .u16 0, .int .u8 0, .int .u8 0, .int .u8 0, .int .u16 0] 31)).cell hcell trivial
  unfold resV at H
  simp only at H
  go_enter Facg.func18, Facg.ntmps18
  go_wp2_with (first
    | (go_at_call 56; refine (H.out _ ((Kept.refl _ _).alloc _)).mono ?_; rintro e w2 ⟨rfl, hg⟩; have HG := hide (((Kept.refl _ _).alloc _).trans hg); obtain ⟨⟨z0, z1, z2, z3, z4, z5⟩, zf⟩ := Cell6.first hg; clear hg))
  refine bodyPost_ret (v := resV none) (by simp [results, Facg.results18, go_sem, resV, z0, z1, z2, z3, z4, z5]) rfl ⟨rfl, ?_⟩
  exact HG.out.set6 (by omega) _ _ _ _ _ _

set_option maxRecDepth 10000 in
theorem resolve_some (b o n c i : Nat) (x : Int) (w : World) (hn : n ≤ 256) (hi : i < n) (hx : 0 ≤ x ∧ x < 18446744073709551616) (hcell : w.cell? ⟨b, o + i, none⟩ = some (.int .u64 x)) (pk pa pd pq pc pn : Int)
    (H : Hid (∀ w' : World, Grows w w' → Calls Facg.prog 56 #[.slice (some ⟨b, o, none⟩) n c, .int .u64 x, .int .u16 ((i : Int) + 1), .int .u16 1] w' fun e w2 => e = .returned (resV (some ⟨pk, pa, pd, pq, pc, pn⟩)) ∧ Grows w' w2)) :
    Calls Facg.prog 18 #[.slice (some ⟨b, o, none⟩) n c, .int .u16 i] w fun e w' => e = .returned (resV (some ⟨pk, pa, pd, pq, pc, pn⟩)) ∧ Grows w w' := by
  have e1 : decide ((256 : Int) < (n : Int)) = false := decide_eq_false (by omega)
  have e2 : decide ((n : Int) ≤ (i : Int)) = false := decide_eq_false (by omega)
  have hcell := ((Kept.refl (fun _ => True) w).alloc (.cells #[.int .u8 0, .int .u16 0, .int .u8 0, .int .u8 0, .int .u8 0, .int .u16 0] 31)).cell hcell trivial
  unfold resV at H
  simp only at H
  go_enter Facg.func18, Facg.ntmps18
  go_wp2_with (first
    | (go_at_call 56; refine (H.out _ ((Kept.refl _ _).alloc _)).mono ?_; rintro e w2 ⟨rfl, hg⟩; have HG := hide (((Kept.refl _ _).alloc _).trans hg); obtain ⟨⟨z0, z1, z2, z3, z4, z5⟩, zf⟩ := Cell6.first hg; clear hg))
  refine bodyPost_ret (v := resV (some ⟨pk, pa, pd, pq, pc, pn⟩)) (by simp [results, Facg.results18, go_sem, resV, z0, z1, z2, z3, z4, z5]) rfl ⟨rfl, ?_⟩
  exact HG.out.set6 (by omega) _ _ _ _ _ _

theorem resolve_any (a : Option Addr) (n c i : Nat) (f : Nat → Int) (w : World) (hc : n ≤ 9223372036854775807) (hi : i < 65536) (hA : ArenaAt w a n f) :
    Calls Facg.prog 18 #[.slice a n c, .int .u16 i] w fun e w' => e = .returned (resV (resolveI f n i)) ∧ Grows w w' := by
  unfold resolveI
  by_cases h : 256 < n ∨ n ≤ i
  · rw [if_pos h]; exact resolve_no a n c i w hc hi h
  · rw [if_neg h]
    have H := hide (fun w' (hg : Grows w w') => resolveW_any a n c f (f i) ((i : Int) + 1) 1 w' hc (by decide) (by omega) (hA.1 i).1 (hA.1 i).2 (hA.grows hg))
    obtain ⟨b, o, rfl, hcell⟩ := hA.2 (by omega)
    have hx := hA.1 i
    have hcell := hcell i (by omega)
    cases hr : resolveW f n (f i) ((i : Int) + 1) 1 with
    | none => rw [hr] at H; exact resolve_none b o n c i _ w (by omega) (by omega) hx hcell H
    | some p => rw [hr] at H; exact resolve_some b o n c i _ w (by omega) (by omega) hx hcell p.kind p.at_ p.data p.ptrs p.code p.count H

/-! ### read.holds -/
set_option maxRecDepth 10000 in
theorem holds_any (a : Option Addr) (n c : Nat) (p : P) (k : Int) (w : World) (h : p.Ok) (hc : n ≤ 9223372036854775807) :
    Calls Facg.prog 75 #[.slice a n c, p.val, .int .u8 k] w fun e w' => e = .returned (.bool ((p.kind == k) && insideI (n : Int) p)) ∧ Grows w w' := by
  have HI := hide (fun w => inside_any a n c p w h hc)
  obtain ⟨pk, at_, d, q, cd, m⟩ := p
  unfold P.val at *
  generalize insideI (n : Int) ⟨pk, at_, d, q, cd, m⟩ = r at *
  simp only
  cases hk : (pk == k)
  · go_enter Facg.func75, Facg.ntmps75
    go_wp2
    go_ret
    exact ⟨rfl, (Kept.refl _ _).alloc _⟩
  · go_enter Facg.func75, Facg.ntmps75
    go_wp2_with (first
      | (go_at_call 30; refine (HI.out _).mono ?_; rintro e w2 ⟨rfl, hg⟩; have HG := hide hg; clear hg))
    go_ret
    exact ⟨rfl, ((Kept.refl _ _).alloc _).trans HG.out⟩
end Go.Proofs.Ygcfac
