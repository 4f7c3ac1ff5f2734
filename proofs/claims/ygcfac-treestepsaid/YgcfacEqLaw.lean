/-
  The plain side of tree.Equal: its queue holds no node of the first tree twice.
-/
import Derived.Test.YgcfacNLaw
namespace Go.Proofs.Ygcfac
open Go.RowKit
set_option linter.unusedVariables false

structure QI (t : Tr) (i j M : Nat) (F : Nat → Nat) : Prop where
  pos : 1 ≤ M
  f0 : (F 0 : Int) = t.root
  at_ : ∀ c, c < M → F c < t.ns.length
  par : ∀ c, 1 ≤ c → c < M → ∃ p q, p < c ∧ Bef p q i j ∧ TKid t (F p) q (F c)
  inj : ∀ c c', c < M → c' < M → F c = F c' → c = c'

theorem QI.le {t : Tr} {i j M : Nat} {F : Nat → Nat} (h : QI t i j M F) : M ≤ t.ns.length := inj_le h.at_ h.inj

theorem QI.start {t : Tr} {r : Nat} (hr : t.root = (r : Int)) (hN : r < t.ns.length) : QI t 0 0 1 (fun k => if k = 0 then r else 0) :=
  ⟨Nat.le_refl _, by simpa using hr.symm, fun c hc => by obtain rfl : c = 0 := (by omega); simpa using hN, fun c h1 h2 => by omega, fun c c' h1 h2 _ => by omega⟩

theorem QI.mono {t : Tr} {i j i' j' M : Nat} {F : Nat → Nat} (h : QI t i j M F) (hb : ∀ p q, Bef p q i j → Bef p q i' j') : QI t i' j' M F :=
  ⟨h.pos, h.f0, h.at_, fun c h1 h2 => by obtain ⟨p, q, x1, x2, x3⟩ := h.par c h1 h2; exact ⟨p, q, x1, hb _ _ x2, x3⟩, h.inj⟩

theorem QI.push {t : Tr} (hl : Linked t) {i j M : Nat} {F : Nat → Nat} (h : QI t i j M F) (hi : i < M) {k : Nat} (hk : TKid t (F i) j k) : QI t i (j + 1) (M + 1) (upd F M k) := by
  have hM := h.pos
  have hf : ∀ c, c < M → F c ≠ k := fun c hc e => by
    by_cases c0 : c = 0
    · subst c0
      have h1 := hl.noroot _ _ _ hk
      have h2 := h.f0
      rw [e] at h2
      omega
    · obtain ⟨p, q, x1, x2, x3⟩ := h.par c (by omega) hc
      rw [e] at x3
      obtain ⟨e1, rfl⟩ := hl.uniq _ _ _ _ _ x3 hk
      have := h.inj p i (by omega) hi e1
      subst this
      unfold Bef at x2
      omega
  refine ⟨by omega, ?_, fun c hc => ?_, fun c h1 h2 => ?_, fun c c' h1 h2 e => ?_⟩
  · rw [upd_ne (by omega)]; exact h.f0
  · by_cases e : c = M
    · subst e; rw [upd_same]; exact (hl.lt hk).2
    · rw [upd_ne e]; exact h.at_ c (by omega)
  · by_cases e : c = M
    · subst e
      rw [upd_same]
      exact ⟨i, j, hi, .inr ⟨rfl, by omega⟩, by rw [upd_ne (by omega)]; exact hk⟩
    · obtain ⟨p', q, x1, x2, x3⟩ := h.par c h1 (by omega)
      rw [upd_ne e]
      exact ⟨p', q, x1, bef_up x2, by rw [upd_ne (by omega)]; exact x3⟩
  · by_cases e1 : c = M
    · by_cases e2 : c' = M
      · omega
      · subst e1
        rw [upd_same, upd_ne e2] at e
        exact absurd e.symm (hf c' (by omega))
    · by_cases e2 : c' = M
      · subst e2
        rw [upd_same, upd_ne e1] at e
        exact absurd e (hf c (by omega))
      · rw [upd_ne e1, upd_ne e2] at e
        exact h.inj c c' (by omega) (by omega) e
end Go.Proofs.Ygcfac
