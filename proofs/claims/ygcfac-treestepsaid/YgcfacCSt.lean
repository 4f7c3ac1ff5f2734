/-
  The plain side of tree.Check's own loop: each kid has one parent.
-/
import Derived.Test.YgcfacBnd
namespace Go.Proofs.Ygcfac
open Go.RowKit
set_option linter.unusedVariables false

def Bef (p j' i j : Nat) : Prop := p < i ∨ (p = i ∧ j' < j)

def bitOn (S : Nat → Nat) (k : Nat) : Bool := (S (k / 64)).testBit (k % 64)

/-- The state of Check ahead of the j-th kid of node i. -/
structure CSt (t : Tr) (i j : Nat) (S : Nat → Nat) : Prop where
  lt : ∀ q, S q < 18446744073709551616
  bit : ∀ k, k < 512 → (bitOn S k = true ↔ ∃ p j', Bef p j' i j ∧ TKid t p j' k)
  uniq : ∀ p j1 p2 j2 k, Bef p j1 i j → Bef p2 j2 i j → TKid t p j1 k → TKid t p2 j2 k → p = p2 ∧ j1 = j2
  noroot : ∀ p j1 k, Bef p j1 i j → TKid t p j1 k → (k : Int) ≠ t.root

theorem CSt.start (t : Tr) : CSt t 0 0 (fun _ => 0) := by
  refine ⟨fun _ => by decide, fun k _ => ?_, fun p j1 p2 j2 k h => ?_, fun p j1 k h => ?_⟩
  · constructor
    · intro h; simp [bitOn] at h
    · rintro ⟨p, j', h, _⟩; unfold Bef at h; omega
  · unfold Bef at h; omega
  · unfold Bef at h; omega

theorem bef_next {t : Tr} {i p j' k : Nat} (h : Bef p j' (i + 1) 0) (hk : TKid t p j' k) : Bef p j' i (t.nd i).kids.length := by
  have := hk.2.1
  unfold Bef at *
  by_cases e : p = i
  · subst e; exact .inr ⟨rfl, this⟩
  · omega

theorem CSt.next {t : Tr} {i : Nat} {S : Nat → Nat} (h : CSt t i (t.nd i).kids.length S) : CSt t (i + 1) 0 S := by
  refine ⟨h.lt, fun k hk => (h.bit k hk).trans ⟨fun ⟨p, j', h1, h2⟩ => ⟨p, j', ?_, h2⟩, fun ⟨p, j', h1, h2⟩ => ⟨p, j', bef_next h1 h2, h2⟩⟩, fun p j1 p2 j2 k h1 h2 k1 k2 => h.uniq p j1 p2 j2 k (bef_next h1 k1) (bef_next h2 k2) k1 k2, fun p j1 k h1 k1 => h.noroot p j1 k (bef_next h1 k1) k1⟩
  unfold Bef at *
  omega

theorem bef_null {t : Tr} {i j p j' k : Nat} (hn : (t.nd i).k j = -1) (h : Bef p j' i (j + 1)) (hk : TKid t p j' k) : Bef p j' i j := by
  unfold Bef at *
  by_cases e : p = i ∧ j' = j
  · obtain ⟨rfl, rfl⟩ := e
    have := hk.2.2
    omega
  · omega

theorem bef_up {i j p j' : Nat} (h : Bef p j' i j) : Bef p j' i (j + 1) := by unfold Bef at *; omega

theorem CSt.null {t : Tr} {i j : Nat} {S : Nat → Nat} (h : CSt t i j S) (hn : (t.nd i).k j = -1) : CSt t i (j + 1) S :=
  ⟨h.lt, fun k hk => (h.bit k hk).trans ⟨fun ⟨p, j', h1, h2⟩ => ⟨p, j', bef_up h1, h2⟩, fun ⟨p, j', h1, h2⟩ => ⟨p, j', bef_null hn h1 h2, h2⟩⟩, fun p j1 p2 j2 k h1 h2 k1 k2 => h.uniq p j1 p2 j2 k (bef_null hn h1 k1) (bef_null hn h2 k2) k1 k2, fun p j1 k h1 k1 => h.noroot p j1 k (bef_null hn h1 k1) k1⟩

theorem bitOn_set (S : Nat → Nat) (k q : Nat) : bitOn (fun x => if x = k / 64 then S (k / 64) ||| 2 ^ (k % 64) else S x) q = (bitOn S q || decide (q = k)) := by
  unfold bitOn
  by_cases e : q / 64 = k / 64
  · simp only [e, if_true, Nat.testBit_or, Nat.testBit_two_pow]
    congr 1
    rw [decide_eq_decide]
    omega
  · simp only [e, if_false]
    rw [decide_eq_false (by intro h; subst h; exact e rfl), Bool.or_false]

theorem CSt.kid {t : Tr} {i j k : Nat} {S : Nat → Nat} (h : CSt t i j S) (hk : TKid t i j k) (h512 : k < 512) (hb : bitOn S k = false) (hr : (k : Int) ≠ t.root) :
    CSt t i (j + 1) (fun x => if x = k / 64 then S (k / 64) ||| 2 ^ (k % 64) else S x) := by
  have hno : ∀ p j', Bef p j' i j → ¬ TKid t p j' k := fun p j' h1 h2 => by
    have := (h.bit k h512).2 ⟨p, j', h1, h2⟩
    rw [hb] at this
    cases this
  have hsp : ∀ p j' q, Bef p j' i (j + 1) → TKid t p j' q → Bef p j' i j ∨ (p = i ∧ j' = j ∧ q = k) := fun p j' q h1 h2 => by
    by_cases e : p = i ∧ j' = j
    · obtain ⟨rfl, rfl⟩ := e
      have := h2.2.2
      have := hk.2.2
      exact .inr ⟨rfl, rfl, by omega⟩
    · unfold Bef at *
      exact .inl (by omega)
  refine ⟨fun q => ?_, fun q hq => ?_, fun p j1 p2 j2 q h1 h2 k1 k2 => ?_, fun p j1 q h1 k1 => ?_⟩
  · show (if q = k / 64 then S (k / 64) ||| 2 ^ (k % 64) else S q) < 18446744073709551616
    split
    · exact Nat.or_lt_two_pow (n := 64) (h.lt _) (Nat.pow_lt_pow_right (by decide) (by omega))
    · exact h.lt q
  · rw [bitOn_set, Bool.or_eq_true, decide_eq_true_iff, h.bit q hq]
    constructor
    · rintro (⟨p, j', h1, h2⟩ | rfl)
      · exact ⟨p, j', bef_up h1, h2⟩
      · exact ⟨i, j, .inr ⟨rfl, by omega⟩, hk⟩
    · rintro ⟨p, j', h1, h2⟩
      rcases hsp p j' q h1 h2 with h3 | ⟨_, _, h3⟩
      · exact .inl ⟨p, j', h3, h2⟩
      · exact .inr h3
  · rcases hsp p j1 q h1 k1 with h3 | ⟨rfl, rfl, rfl⟩
    · rcases hsp p2 j2 q h2 k2 with h4 | ⟨rfl, rfl, rfl⟩
      · exact h.uniq p j1 p2 j2 q h3 h4 k1 k2
      · exact absurd k1 (hno _ _ h3)
    · rcases hsp p2 j2 q h2 k2 with h4 | ⟨rfl, rfl, _⟩
      · exact absurd k2 (hno _ _ h4)
      · exact ⟨rfl, rfl⟩
  · rcases hsp p j1 q h1 k1 with h3 | ⟨_, _, rfl⟩
    · exact h.noroot p j1 q h3 k1
    · exact hr

theorem CSt.linked {t : Tr} {S : Nat → Nat} (h : CSt t t.ns.length 0 S) (hs : ∀ i, i < t.ns.length → Shp t i) : Linked t :=
  ⟨hs, fun i j i' j' k h1 h2 => h.uniq i j i' j' k (.inl h1.1) (.inl h2.1) h1 h2, fun i j k h1 => h.noroot i j k (.inl h1.1) h1⟩

/-- A bit that is set already: some kid has two parents. -/
theorem CSt.dup {t : Tr} {i j k : Nat} {S : Nat → Nat} (h : CSt t i j S) (hk : TKid t i j k) (h512 : k < 512) (hb : bitOn S k = true) : ¬ CheckOk t := fun hc => by
  obtain ⟨p, j', h1, h2⟩ := (h.bit k h512).1 hb
  obtain ⟨rfl, rfl⟩ := hc.link.uniq _ _ _ _ _ h2 hk
  unfold Bef at h1
  omega
end Go.Proofs.Ygcfac
