/-
  The plain side of tree.Check: what is reached, how deep, how many words.
-/
import Derived.Test.YgcfacShaped
namespace Go.Proofs.Ygcfac
open Go.RowKit
set_option linter.unusedVariables false

/-- The j-th kid of node i is node k. -/
def TKid (t : Tr) (i j k : Nat) : Prop := i < t.ns.length ∧ j < (t.nd i).kids.length ∧ (t.nd i).k j = (k : Int)

def Nd.inl (x : Nd) : Bool := decide (x.kind = 2) && decide (x.code = 7)

/-- Node k is met m steps below the root, at depth d; e: as an element of a list of structs. -/
def TAtN (t : Tr) : Nat → Nat → Nat → Bool → Prop
  | 0, k, d, e => t.root = (k : Int) ∧ d = 1 ∧ e = false
  | m + 1, k, d, e => ∃ p j d' e', TAtN t m p d' e' ∧ TKid t p j k ∧ d = (if (t.nd p).inl then d' else d' + 1) ∧ e = (t.nd p).inl
def TAt (t : Tr) (k d : Nat) (e : Bool) : Prop := ∃ m, TAtN t m k d e
theorem TAt.root {t : Tr} (r : Nat) (h : t.root = (r : Int)) : TAt t r 1 false := ⟨0, h, rfl, rfl⟩
theorem TAt.kid {t : Tr} (p j k d : Nat) (e : Bool) (h : TAt t p d e) (hk : TKid t p j k) : TAt t k (if (t.nd p).inl then d else d + 1) (t.nd p).inl := by
  obtain ⟨m, hm⟩ := h
  exact ⟨m + 1, p, j, d, e, hm, hk, rfl, rfl⟩
theorem TAt.ind {t : Tr} {C : Nat → Nat → Bool → Prop} (h0 : ∀ r : Nat, t.root = (r : Int) → C r 1 false)
    (h1 : ∀ p j k d e, TAt t p d e → TKid t p j k → C p d e → C k (if (t.nd p).inl then d else d + 1) (t.nd p).inl) {k d : Nat} {e : Bool} (h : TAt t k d e) : C k d e := by
  obtain ⟨m, hm⟩ := h
  induction m generalizing k d e with
  | zero =>
    obtain ⟨h, rfl, rfl⟩ := hm
    exact h0 k h
  | succ m ih =>
    obtain ⟨p, j, d', e', h2, h3, rfl, rfl⟩ := hm
    exact h1 p j k d' e' ⟨m, h2⟩ h3 (ih h2)
theorem TAt.how {t : Tr} {k d : Nat} {e : Bool} (h : TAt t k d e) : (t.root = (k : Int) ∧ d = 1 ∧ e = false) ∨ ∃ p j d' e', TAt t p d' e' ∧ TKid t p j k ∧ d = (if (t.nd p).inl then d' else d' + 1) ∧ e = (t.nd p).inl := by
  obtain ⟨m, hm⟩ := h
  cases m with
  | zero => exact .inl hm
  | succ m =>
    obtain ⟨p, j, d', e', h2, h3, h4, h5⟩ := hm
    exact .inr ⟨p, j, d', e', ⟨m, h2⟩, h3, h4, h5⟩

/-- Shaped, every kid of one parent only, the root nobody's. -/
structure Linked (t : Tr) : Prop where
  shp : ∀ i, i < t.ns.length → Shp t i
  uniq : ∀ i j i' j' k, TKid t i j k → TKid t i' j' k → i = i' ∧ j = j'
  noroot : ∀ i j k, TKid t i j k → (k : Int) ≠ t.root

theorem Linked.lt {t : Tr} (h : Linked t) {i j k : Nat} (hk : TKid t i j k) : i < k ∧ k < t.ns.length := by
  have := (h.shp i hk.1).1 j hk.2.1
  rw [hk.2.2] at this
  omega

theorem TAt.pos {t : Tr} {p d : Nat} {e : Bool} (h : TAt t p d e) : 1 ≤ d :=
  h.ind (C := fun _ d _ => 1 ≤ d) (fun _ _ => Nat.le_refl _) (fun p j k d e _ _ ih => by show 1 ≤ (if (t.nd p).inl then d else d + 1); split <;> omega)

theorem TAt.ge {t : Tr} (hl : Linked t) {p d : Nat} {e : Bool} (h : TAt t p d e) : t.root ≤ (p : Int) :=
  h.ind (C := fun p _ _ => t.root ≤ (p : Int)) (fun r hr => by show t.root ≤ (r : Int); omega) (fun p j k d e _ hk ih => by show t.root ≤ (k : Int); have := hl.lt hk; have ih' : t.root ≤ (p : Int) := ih; omega)

theorem TAt.unique {t : Tr} (hl : Linked t) {p d d' : Nat} {e e' : Bool} (h : TAt t p d e) (h' : TAt t p d' e') : d = d' ∧ e = e' := by
  refine h.ind (C := fun p d e => ∀ d' e', TAt t p d' e' → d = d' ∧ e = e') (fun r hr d' e' h' => ?_) (fun p j k d e hp hk ih d' e' h' => ?_) d' e' h'
  · rcases h'.how with ⟨_, rfl, rfl⟩ | ⟨p, j, d1, e1, _, hk, _, _⟩
    · exact ⟨rfl, rfl⟩
    · exact absurd hr.symm (hl.noroot _ _ _ hk)
  · rcases h'.how with ⟨hr, _, _⟩ | ⟨p', j', d1, e1, hp', hk', rfl, rfl⟩
    · exact absurd hr.symm (hl.noroot _ _ _ hk)
    · obtain ⟨rfl, rfl⟩ := hl.uniq _ _ _ _ _ hk hk'
      obtain ⟨rfl, rfl⟩ := ih d1 e1 hp'
      exact ⟨rfl, rfl⟩

/-- What each node adds to the words. -/
def IsCost (t : Tr) (c : Nat → Nat) : Prop := ∀ p, ((∃ d, TAt t p d false) → c p = t.wd (t.nd p)) ∧ ((¬ ∃ d, TAt t p d false) → c p = 0)
open Classical in
theorem cost_ex (t : Tr) : ∃ c, IsCost t c := ⟨fun p => if ∃ d, TAt t p d false then t.wd (t.nd p) else 0, fun p => ⟨fun h => if_pos h, fun h => if_neg h⟩⟩
theorem IsCost.same {t : Tr} {c c' : Nat → Nat} (h : IsCost t c) (h' : IsCost t c') (p : Nat) : c p = c' p := by
  by_cases hp : ∃ d, TAt t p d false
  · rw [(h p).1 hp, (h' p).1 hp]
  · rw [(h p).2 hp, (h' p).2 hp]

def sumN (c : Nat → Nat) : Nat → Nat
  | 0 => 0
  | n + 1 => sumN c n + c n
theorem sumN_same {c c' : Nat → Nat} (h : ∀ p, c p = c' p) : ∀ n, sumN c n = sumN c' n
  | 0 => rfl
  | n + 1 => by unfold sumN; rw [sumN_same h n, h n]

structure Bnd (t : Tr) : Prop where
  deep : ∀ p j k d e, TAt t p d e → TKid t p j k → (if (t.nd p).inl then d else d + 1) ≤ 8
  words : ∀ c, IsCost t c → 1 + sumN c t.ns.length ≤ 256

theorem Bnd.of {t : Tr} {c : Nat → Nat} (hd : ∀ p j k d e, TAt t p d e → TKid t p j k → (if (t.nd p).inl then d else d + 1) ≤ 8) (hc : IsCost t c) (h : 1 + sumN c t.ns.length ≤ 256) : Bnd t :=
  ⟨hd, fun c' hc' => by rw [sumN_same (hc'.same hc)]; exact h⟩

structure CheckOk (t : Tr) : Prop where
  len : t.ns.length ≤ 512
  lo : -1 ≤ t.root
  hi : t.root < t.ns.length
  link : Linked t
  bnd : t.root = -1 ∨ Bnd t

/-- The state of 'bounded' ahead of the j-th kid of node i. -/
structure BSt (t : Tr) (i j : Nat) (dep : Nat → Nat) (el : Nat → Bool) : Prop where
  sound : ∀ k, dep k ≠ 0 → TAt t k (dep k) (el k)
  root : ∀ r : Nat, t.root = (r : Int) → dep r = 1 ∧ el r = false
  full : ∀ p j' k d e, (p < i ∨ (p = i ∧ j' < j)) → TAt t p d e → TKid t p j' k → dep k = (if (t.nd p).inl then d else d + 1) ∧ el k = (t.nd p).inl
  le : ∀ k, dep k ≤ 8
  deep : ∀ p j' k d e, (p < i ∨ (p = i ∧ j' < j)) → TAt t p d e → TKid t p j' k → (if (t.nd p).inl then d else d + 1) ≤ 8

theorem BSt.start {t : Tr} (hl : Linked t) {r : Nat} (hr : t.root = (r : Int)) : BSt t r 0 (fun k => if k = r then 1 else 0) (fun _ => false) := by
  refine ⟨fun k hk => ?_, fun r' hr' => ?_, fun p j' k d e h hp hk => ?_, fun k => ?_, fun p j' k d e h hp hk => ?_⟩
  · show TAt t k (if k = r then 1 else 0) false
    by_cases e : k = r
    · subst e
      rw [if_pos rfl]
      exact .root _ hr
    · rw [if_neg e] at hk
      exact absurd rfl hk
  · obtain rfl : r' = r := by omega
    simp
  · exact absurd (hp.ge hl) (by omega)
  · show (if k = r then 1 else 0) ≤ 8
    split <;> omega
  · exact absurd (hp.ge hl) (by omega)

/-- What the arrays say of node i itself. -/
theorem BSt.here {t : Tr} (hl : Linked t) {i : Nat} {dep : Nat → Nat} {el : Nat → Bool} (h : BSt t i 0 dep el) {d : Nat} {e : Bool} (ha : TAt t i d e) : dep i = d ∧ el i = e := by
  rcases ha.how with ⟨hr, rfl, rfl⟩ | ⟨p, j, d1, e1, hp, hk, rfl, rfl⟩
  · exact h.root _ hr
  · exact h.full p j i d1 e1 (.inl (hl.lt hk).1) hp hk

theorem BSt.skip {t : Tr} (hl : Linked t) {i : Nat} {dep : Nat → Nat} {el : Nat → Bool} (h : BSt t i 0 dep el) (hd : dep i = 0) : BSt t (i + 1) 0 dep el := by
  have hno : ∀ d e, ¬ TAt t i d e := fun d e ha => by
    have := (h.here hl ha).1
    have := ha.pos
    omega
  refine ⟨h.sound, h.root, fun p j' k d e hb hp hk => ?_, h.le, fun p j' k d e hb hp hk => ?_⟩
  · by_cases e' : p = i
    · subst e'; exact absurd hp (hno _ _)
    · exact h.full p j' k d e (by omega) hp hk
  · by_cases e' : p = i
    · subst e'; exact absurd hp (hno _ _)
    · exact h.deep p j' k d e (by omega) hp hk

theorem BSt.next {t : Tr} {i : Nat} {dep : Nat → Nat} {el : Nat → Bool} (h : BSt t i (t.nd i).kids.length dep el) : BSt t (i + 1) 0 dep el := by
  refine ⟨h.sound, h.root, fun p j' k d e hb hp hk => ?_, h.le, fun p j' k d e hb hp hk => ?_⟩
  · have := hk.2.1
    refine h.full p j' k d e ?_ hp hk
    by_cases e' : p = i
    · subst e'; exact .inr ⟨rfl, this⟩
    · omega
  · have := hk.2.1
    refine h.deep p j' k d e ?_ hp hk
    by_cases e' : p = i
    · subst e'; exact .inr ⟨rfl, this⟩
    · omega

theorem BSt.null {t : Tr} {i j : Nat} {dep : Nat → Nat} {el : Nat → Bool} (h : BSt t i j dep el) (hn : (t.nd i).k j = -1) : BSt t i (j + 1) dep el := by
  have hno : ∀ k, ¬ TKid t i j k := fun k hk => by have := hk.2.2; omega
  refine ⟨h.sound, h.root, fun p j' k d e hb hp hk => ?_, h.le, fun p j' k d e hb hp hk => ?_⟩
  · by_cases e' : p = i ∧ j' = j
    · obtain ⟨rfl, rfl⟩ := e'; exact absurd hk (hno _)
    · exact h.full p j' k d e (by omega) hp hk
  · by_cases e' : p = i ∧ j' = j
    · obtain ⟨rfl, rfl⟩ := e'; exact absurd hk (hno _)
    · exact h.deep p j' k d e (by omega) hp hk

theorem BSt.kid {t : Tr} (hl : Linked t) {i j k : Nat} {dep : Nat → Nat} {el : Nat → Bool} (h : BSt t i j dep el) (hd : dep i ≠ 0) (hk : TKid t i j k) {b : Nat} (hb : b = if (t.nd i).inl then dep i else dep i + 1) (h8 : b ≤ 8) :
    BSt t i (j + 1) (fun q => if q = k then b else dep q) (fun q => if q = k then (t.nd i).inl else el q) := by
  have hi := h.sound i hd
  have hat : TAt t k b (t.nd i).inl := by rw [hb]; exact .kid i j k (dep i) (el i) hi hk
  have hki := hl.lt hk
  refine ⟨fun q hq => ?_, fun r hr => ?_, fun p j' q d e hbf hp hq => ?_, fun q => ?_, fun p j' q d e hbf hp hq => ?_⟩
  · by_cases e : q = k
    · subst e
      rw [if_pos rfl, if_pos rfl]
      exact hat
    · rw [if_neg e] at hq
      rw [if_neg e, if_neg e]
      exact h.sound q hq
  · have : r ≠ k := fun e => hl.noroot _ _ _ hk (by rw [hr, e])
    rw [if_neg this, if_neg this]
    exact h.root r hr
  · by_cases e' : q = k
    · subst e'
      obtain ⟨rfl, rfl⟩ := hl.uniq _ _ _ _ _ hk hq
      obtain ⟨rfl, rfl⟩ := hi.unique hl hp
      rw [if_pos rfl, if_pos rfl]
      exact ⟨hb, rfl⟩
    · rw [if_neg e', if_neg e']
      refine h.full p j' q d e ?_ hp hq
      rcases hbf with hbf | ⟨rfl, hbf⟩
      · exact .inl hbf
      · by_cases ej : j' = j
        · subst ej
          have := hk.2.2
          have := hq.2.2
          omega
        · exact .inr ⟨rfl, by omega⟩
  · split
    · exact h8
    · exact h.le q
  · rcases hbf with hbf | ⟨rfl, hbf⟩
    · exact h.deep p j' q d e (.inl hbf) hp hq
    · by_cases ej : j' = j
      · subst ej
        obtain ⟨rfl, rfl⟩ := hi.unique hl hp
        omega
      · exact h.deep p j' q d e (.inr ⟨rfl, by omega⟩) hp hq

theorem cost_el {t : Tr} {c : Nat → Nat} (hc : IsCost t c) (hl : Linked t) {i : Nat} {dep : Nat → Nat} {el : Nat → Bool} (h : BSt t i 0 dep el) : c i = if dep i ≠ 0 ∧ el i = false then t.wd (t.nd i) else 0 := by
  by_cases hd : dep i = 0
  · rw [(hc i).2, if_neg (by intro h; exact h.1 hd)]
    rintro ⟨d, ha⟩
    have := (h.here hl ha).1
    have := ha.pos
    omega
  · cases he : el i with
    | true =>
      rw [(hc i).2, if_neg (by intro h; cases h.2)]
      rintro ⟨d, ha⟩
      have := (h.here hl ha).2
      rw [he] at this
      cases this
    | false =>
      rw [(hc i).1, if_pos ⟨hd, rfl⟩]
      have := h.sound i hd
      rw [he] at this
      exact ⟨_, this⟩

theorem sum_low {t : Tr} {c : Nat → Nat} (hc : IsCost t c) (hl : Linked t) {r : Nat} (hr : t.root = (r : Int)) : ∀ n, n ≤ r → sumN c n = 0
  | 0, _ => rfl
  | n + 1, h => by
    unfold sumN
    rw [sum_low hc hl hr n (by omega), (hc n).2]
    rintro ⟨d, ha⟩
    have := ha.ge hl
    omega
end Go.Proofs.Ygcfac
