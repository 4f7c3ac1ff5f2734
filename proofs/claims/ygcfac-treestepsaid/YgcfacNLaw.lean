/-
  The plain side of tree.Norm: its value passes Check.
-/
import Derived.Test.YgcfacCSt
import Derived.Test.YgcfacSized
import Derived.Test.YgcfacBounded
namespace Go.Proofs.Ygcfac
open Go.RowKit
set_option linter.unusedVariables false

/-! ### Counting -/
def sm (g : Nat → Nat) : Nat → Nat
  | 0 => 0
  | n + 1 => sm g n + g n

theorem sm_congr {g h : Nat → Nat} : ∀ n, (∀ p, p < n → g p = h p) → sm g n = sm h n
  | 0, _ => rfl
  | n + 1, e => by
    unfold sm
    rw [sm_congr n (fun p hp => e p (by omega)), e n (by omega)]

theorem sm_le {g h : Nat → Nat} : ∀ n, (∀ p, p < n → g p ≤ h p) → sm g n ≤ sm h n
  | 0, _ => Nat.le_refl _
  | n + 1, e => by
    unfold sm
    have := sm_le n (fun p hp => e p (by omega))
    have := e n (by omega)
    omega

theorem sm_out {g : Nat → Nat} {a : Nat} : ∀ n, a < n → sm g n = sm (fun p => if p = a then 0 else g p) n + g a
  | 0, h => absurd h (Nat.not_lt_zero _)
  | n + 1, h => by
    unfold sm
    by_cases e : a = n
    · subst e
      rw [if_pos rfl, sm_congr (g := fun p => if p = a then 0 else g p) (h := g) a (fun p hp => by rw [if_neg (by omega)])]
      omega
    · rw [sm_out (g := g) (a := a) n (by omega), if_neg (fun e' : n = a => e e'.symm)]
      omega

theorem inj_sum {F : Nat → Nat} {N : Nat} : ∀ (M : Nat) (g : Nat → Nat), (∀ c, c < M → F c < N) → (∀ c c', c < M → c' < M → F c = F c' → c = c') → sm (fun i => g (F i)) M ≤ sm g N
  | 0, _, _, _ => Nat.zero_le _
  | M + 1, g, h1, h2 => by
    have ih := inj_sum M (fun p => if p = F M then 0 else g p) (fun c hc => h1 c (by omega)) (fun c c' hc hc' => h2 c c' (by omega) (by omega))
    rw [sm_out (g := g) (a := F M) N (h1 M (by omega))]
    show sm (fun i => g (F i)) M + g (F M) ≤ _
    have e1 : sm (fun i => g (F i)) M = sm (fun i => if F i = F M then 0 else g (F i)) M := sm_congr M (fun p hp => by
      rw [if_neg]
      intro e
      have := h2 p M (by omega) (by omega) e
      omega)
    rw [e1]
    omega

theorem sm_one : ∀ n, sm (fun _ => 1) n = n
  | 0 => rfl
  | n + 1 => by unfold sm; rw [sm_one n]

theorem inj_le {F : Nat → Nat} {N M : Nat} (h1 : ∀ c, c < M → F c < N) (h2 : ∀ c c', c < M → c' < M → F c = F c' → c = c') : M ≤ N := by
  have := inj_sum (F := F) (N := N) M (fun _ => 1) h1 h2
  rw [sm_one, sm_one] at this
  exact this

theorem sum_sm (c : Nat → Nat) : ∀ n, sumN c n = sm c n
  | 0 => rfl
  | n + 1 => by unfold sumN sm; rw [sum_sm c n]

/-! ### What Norm's loop keeps -/
def upd (F : Nat → Nat) (k x : Nat) : Nat → Nat := fun q => if q = k then x else F q
theorem upd_same (F : Nat → Nat) (k x : Nat) : upd F k x k = x := by simp [upd]
theorem upd_ne {F : Nat → Nat} {k x q : Nat} (h : q ≠ k) : upd F k x q = F q := by simp [upd, h]

def dOf (t : Tr) (p c : Nat) : Nat := if (t.nd p).inl then t.evd (t.nd p) else (t.nd c).td
def pOf (t : Tr) (p c : Nat) : Nat := if (t.nd p).inl then t.mk_ (t.nd p) else (t.nd c).tk

/-- The state ahead of the j-th kid of the i-th node; M nodes are named; the lists below l are settled. -/
structure NI (t : Tr) (i j l M : Nat) (F D P : Nat → Nat) : Prop where
  pos : 1 ≤ M
  f0 : (F 0 : Int) = t.root
  d0 : (t.nd (F 0)).kind = 1 → D 0 = (t.nd (F 0)).td ∧ P 0 = (t.nd (F 0)).tk
  at_ : ∀ c, c < M → F c < t.ns.length
  par : ∀ c, 1 ≤ c → c < M → ∃ p q, p < c ∧ Bef p q i j ∧ TKid t (F p) q (F c) ∧ ((t.nd (F c)).kind = 1 → D c = dOf t (F p) (F c) ∧ P c = pOf t (F p) (F c))
  inj : ∀ c c', c < M → c' < M → F c = F c' → c = c'
  lists : ∀ p, p < l → p < M → (t.nd (F p)).kind = 2 → D p = (t.nd (F p)).data.length ∧ P p = (t.nd (F p)).kids.length
  bd : ∀ c, c < M → D c ≤ 128 ∧ P c ≤ 128

theorem NI.le {t : Tr} {i j l M : Nat} {F D P : Nat → Nat} (h : NI t i j l M F D P) : M ≤ t.ns.length := inj_le h.at_ h.inj

theorem NI.start {t : Tr} (hc : CheckOk t) {r : Nat} (hr : t.root = (r : Int)) : NI t 0 0 0 1 (fun k => if k = 0 then r else 0) (fun k => if k = 0 then (t.nd r).td else 0) (fun k => if k = 0 then (t.nd r).tk else 0) := by
  have hrN : r < t.ns.length := by have := hc.hi; omega
  have hs := hc.link.short r
  have h1 := td_le (t.nd r)
  have h2 := tk_le (t.nd r)
  refine ⟨Nat.le_refl _, by simpa using hr.symm, fun _ => ⟨rfl, rfl⟩, fun c hc' => ?_, fun c h1 h2 => by omega, fun c c' h1 h2 _ => by omega, fun p h => by omega, fun c hc' => ?_⟩
  · obtain rfl : c = 0 := by omega
    simpa using hrN
  · obtain rfl : c = 0 := by omega
    show (t.nd r).td ≤ 128 ∧ (t.nd r).tk ≤ 128
    omega

theorem NI.mono {t : Tr} {i j i' j' l l' M : Nat} {F D P : Nat → Nat} (h : NI t i j l M F D P) (hb : ∀ p q, Bef p q i j → Bef p q i' j') (hl : l' ≤ l) : NI t i' j' l' M F D P :=
  ⟨h.pos, h.f0, h.d0, h.at_, fun c h1 h2 => by obtain ⟨p, q, x1, x2, x3⟩ := h.par c h1 h2; exact ⟨p, q, x1, hb _ _ x2, x3⟩, h.inj, fun p hp => h.lists p (by omega), h.bd⟩

theorem NI.struct {t : Tr} {i M : Nat} {F D P : Nat → Nat} (h : NI t i 0 i M F D P) (hk : ¬ (t.nd (F i)).kind = 2) : NI t i 0 (i + 1) M F D P :=
  ⟨h.pos, h.f0, h.d0, h.at_, h.par, h.inj, fun p hp hm h2 => by
    by_cases e : p = i
    · subst e; exact absurd h2 hk
    · exact h.lists p (by omega) hm h2, h.bd⟩

theorem NI.settle {t : Tr} {i M : Nat} {F D P : Nat → Nat} (h : NI t i 0 i M F D P) (hi : i < M) (hk : (t.nd (F i)).kind = 2) (hs : t.Short) :
    NI t i 0 (i + 1) M F (upd D i (t.nd (F i)).data.length) (upd P i (t.nd (F i)).kids.length) := by
  refine ⟨h.pos, h.f0, fun h1 => ?_, h.at_, fun c h1 h2 => ?_, h.inj, fun p hp hm h2 => ?_, fun c hc => ?_⟩
  · by_cases e : i = 0
    · subst e; omega
    · rw [upd_ne (by omega), upd_ne (by omega)]; exact h.d0 h1
  · obtain ⟨p, q, x1, x2, x3, x4⟩ := h.par c h1 h2
    refine ⟨p, q, x1, x2, x3, fun hc1 => ?_⟩
    by_cases e : c = i
    · subst e; omega
    · rw [upd_ne e, upd_ne e]; exact x4 hc1
  · by_cases e : p = i
    · subst e; rw [upd_same, upd_same]; exact ⟨rfl, rfl⟩
    · rw [upd_ne e, upd_ne e]; exact h.lists p (by omega) hm h2
  · by_cases e : c = i
    · subst e; rw [upd_same, upd_same]; exact hs _
    · rw [upd_ne e, upd_ne e]; exact h.bd c hc

theorem dOf_le {t : Tr} (hs : t.Short) (p c : Nat) : dOf t p c ≤ 128 ∧ pOf t p c ≤ 128 := by
  unfold dOf pOf
  have h1 := evd_le (x := t.nd p) hs
  have h2 := td_le (t.nd c)
  have h3 := tk_le (t.nd c)
  have h4 := hs c
  split <;> omega

theorem NI.fresh {t : Tr} (hl : Linked t) {i j l M : Nat} {F D P : Nat → Nat} (h : NI t i j l M F D P) (hi : i < M) {k : Nat} (hk : TKid t (F i) j k) : ∀ c, c < M → F c ≠ k := fun c hc e => by
  by_cases c0 : c = 0
  · subst c0
    have := hl.noroot _ _ _ hk
    have := h.f0
    rw [e] at this
    omega
  · obtain ⟨p, q, x1, x2, x3, _⟩ := h.par c (by omega) hc
    rw [e] at x3
    obtain ⟨e1, rfl⟩ := hl.uniq _ _ _ _ _ x3 hk
    have := h.inj p i (by omega) hi e1
    subst this
    unfold Bef at x2
    omega

theorem NI.push {t : Tr} (hl : Linked t) {i j l M : Nat} {F D P : Nat → Nat} (h : NI t i j l M F D P) (hi : i < M) (hlm : l ≤ M) {k : Nat} (hk : TKid t (F i) j k) {d p : Nat} (hd : d = dOf t (F i) k) (hp : p = pOf t (F i) k) :
    NI t i (j + 1) l (M + 1) (upd F M k) (upd D M d) (upd P M p) := by
  have hf := h.fresh hl hi hk
  have hM := h.pos
  have hs := hl.short
  refine ⟨by omega, ?_, fun h1 => ?_, fun c hc => ?_, fun c h1 h2 => ?_, fun c c' h1 h2 e => ?_, fun q hq hm h2 => ?_, fun c hc => ?_⟩
  · rw [upd_ne (by omega)]; exact h.f0
  · rw [upd_ne (by omega)] at h1 ⊢
    rw [upd_ne (by omega), upd_ne (by omega)]
    exact h.d0 h1
  · by_cases e : c = M
    · subst e; rw [upd_same]; exact (hl.lt hk).2
    · rw [upd_ne e]; exact h.at_ c (by omega)
  · by_cases e : c = M
    · subst e
      rw [upd_same, upd_same, upd_same]
      refine ⟨i, j, hi, .inr ⟨rfl, by omega⟩, ?_, fun _ => ?_⟩
      · rw [upd_ne (by omega)]; exact hk
      · rw [upd_ne (by omega)]; exact ⟨hd, hp⟩
    · obtain ⟨p', q, x1, x2, x3, x4⟩ := h.par c h1 (by omega)
      rw [upd_ne e, upd_ne e, upd_ne e]
      exact ⟨p', q, x1, bef_up x2, by rw [upd_ne (by omega)]; exact x3, by rw [upd_ne (by omega)]; exact x4⟩
  · by_cases e1 : c = M
    · by_cases e2 : c' = M
      · omega
      · subst e1
        rw [upd_same, upd_ne e2] at e
        exact absurd e.symm (hf c' (by omega))
    · by_cases e2 : c' = M
      · subst e2
        rw [upd_same, upd_ne e1] at e
        exact absurd e (hf c (by omega))
      · rw [upd_ne e1, upd_ne e2] at e
        exact h.inj c c' (by omega) (by omega) e
  · have e : q ≠ M := by omega
    rw [upd_ne e] at h2 ⊢
    rw [upd_ne e, upd_ne e]
    exact h.lists q hq (by omega) h2
  · by_cases e : c = M
    · subst e; rw [upd_same, upd_same, hd, hp]; exact dOf_le hs _ _
    · rw [upd_ne e, upd_ne e]; exact h.bd c (by omega)

/-- The first j kids of the p-th node of the value. -/
def KidsR (t : Tr) (F : Nat → Nat) (p M : Nat) (ks : List Int) (j : Nat) : Prop :=
  ks.length = j ∧ ∀ q, q < j →
    ((q < (t.nd (F p)).kids.length ∧ (t.nd (F p)).k q ≠ -1) ∧ ∃ c, ks.getD q 0 = ((c : Nat) : Int) ∧ c < M ∧ p < c ∧ (F c : Int) = (t.nd (F p)).k q) ∨
    (¬ (q < (t.nd (F p)).kids.length ∧ (t.nd (F p)).k q ≠ -1) ∧ ks.getD q 0 = -1)

theorem getD_snoc (ks : List Int) (x : Int) (q : Nat) : (ks ++ [x]).getD q 0 = if q = ks.length then x else ks.getD q 0 := by
  rw [List.getD_eq_getElem?_getD, List.getD_eq_getElem?_getD]
  by_cases h : q < ks.length
  · rw [List.getElem?_append_left h, if_neg (by omega)]
  · by_cases e : q = ks.length
    · subst e; simp
    · rw [if_neg e, List.getElem?_eq_none (by simp; omega), List.getElem?_eq_none (by omega)]

theorem KidsR.null {t : Tr} {F : Nat → Nat} {p M j : Nat} {ks : List Int} (h : KidsR t F p M ks j) (hn : ¬ (j < (t.nd (F p)).kids.length ∧ (t.nd (F p)).k j ≠ -1)) : KidsR t F p M (ks ++ [-1]) (j + 1) := by
  refine ⟨by rw [List.length_append, h.1]; rfl, fun q hq => ?_⟩
  rw [getD_snoc, h.1]
  by_cases e : q = j
  · subst e; rw [if_pos rfl]; exact .inr ⟨hn, rfl⟩
  · rw [if_neg e]; exact h.2 q (by omega)

theorem KidsR.more {t : Tr} {F : Nat → Nat} {p M j k : Nat} {ks : List Int} (h : KidsR t F p M ks j) (hp : p < M) : KidsR t (upd F M k) p (M + 1) ks j := by
  refine ⟨h.1, fun q hq => ?_⟩
  rw [upd_ne (by omega)]
  rcases h.2 q hq with ⟨h1, c, h2, h3, h4, h5⟩ | h1
  · exact .inl ⟨h1, c, h2, by omega, h4, by rw [upd_ne (by omega)]; exact h5⟩
  · exact .inr h1

theorem KidsR.kid {t : Tr} {F : Nat → Nat} {p M j k : Nat} {ks : List Int} (h : KidsR t F p M ks j) (hp : p < M) (hk : TKid t (F p) j k) : KidsR t (upd F M k) p (M + 1) (ks ++ [(M : Int)]) (j + 1) := by
  have hm := h.more (k := k) hp
  refine ⟨by rw [List.length_append, h.1]; rfl, fun q hq => ?_⟩
  rw [getD_snoc, h.1]
  by_cases e : q = j
  · subst e
    rw [if_pos rfl, upd_ne (by omega)]
    exact .inl ⟨⟨hk.2.1, by have := hk.2.2; omega⟩, M, rfl, by omega, hp, by rw [upd_same]; exact hk.2.2.symm⟩
  · rw [if_neg e]; exact hm.2 q (by omega)

/-- The finished nodes. -/
def NodesR (t : Tr) (F D P : Nat → Nat) (M i : Nat) (ns : List Nd) : Prop :=
  ns.length = i ∧ ∀ p, p < i → ∃ ks, ns[p]? = some ⟨(t.nd (F p)).kind, (t.nd (F p)).code, sizeL (t.nd (F p)).data (D p), ks⟩ ∧ KidsR t F p M ks (P p)

theorem NodesR.settle {t : Tr} {F D P : Nat → Nat} {M i d p : Nat} {ns : List Nd} (h : NodesR t F D P M i ns) : NodesR t F (upd D i d) (upd P i p) M i ns :=
  ⟨h.1, fun q hq => by rw [upd_ne (by omega), upd_ne (by omega)]; exact h.2 q hq⟩
theorem NodesR.push {t : Tr} {F D P : Nat → Nat} {M i k d p : Nat} {ns : List Nd} (h : NodesR t F D P M i ns) (hi : i ≤ M) : NodesR t (upd F M k) (upd D M d) (upd P M p) (M + 1) i ns :=
  ⟨h.1, fun q hq => by
    obtain ⟨ks, h1, h2⟩ := h.2 q hq
    refine ⟨ks, ?_, ?_⟩
    · rw [upd_ne (by omega), upd_ne (by omega)]; exact h1
    · rw [upd_ne (show q ≠ M by omega)]; exact h2.more (by omega)⟩
theorem NodesR.finish {t : Tr} {F D P : Nat → Nat} {M i : Nat} {ns : List Nd} {ks : List Int} (h : NodesR t F D P M i ns) (hk : KidsR t F i M ks (P i)) :
    NodesR t F D P M (i + 1) (ns ++ [⟨(t.nd (F i)).kind, (t.nd (F i)).code, sizeL (t.nd (F i)).data (D i), ks⟩]) := by
  refine ⟨by rw [List.length_append, h.1]; rfl, fun p hp => ?_⟩
  by_cases e : p = i
  · subst e
    refine ⟨ks, ?_, hk⟩
    rw [List.getElem?_append_right (by rw [h.1]; exact Nat.le_refl _), h.1]
    simp
  · obtain ⟨ks', h1, h2⟩ := h.2 p (by omega)
    exact ⟨ks', by rw [List.getElem?_append_left (by rw [h.1]; omega)]; exact h1, h2⟩

/-- u is the value of t. -/
def NormOf (t u : Tr) : Prop := u.root = 0 ∧ ∃ F D P, NI t u.ns.length 0 u.ns.length u.ns.length F D P ∧ NodesR t F D P u.ns.length u.ns.length u.ns
end Go.Proofs.Ygcfac
