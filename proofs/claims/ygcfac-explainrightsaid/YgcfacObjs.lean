import Derived.Test.YgcfacVmValid
namespace Go.Proofs.Ygcfac
open Go.RowKit
set_option linter.unusedVariables false

/-! ### The objects that hang at a pointer word, and adding them one by one -/
def allF {α : Type} (g : α → Option (List P)) : List α → Option (List P)
  | [] => some []
  | e :: E => match g e, allF g E with
    | some l, some m => some (l ++ m)
    | _, _ => none

theorem allF_cons {α : Type} {g : α → Option (List P)} {e : α} {E : List α} {x : List P} : allF g (e :: E) = some x ↔ ∃ l m, g e = some l ∧ allF g E = some m ∧ x = l ++ m := by
  rw [show allF g (e :: E) = (match g e, allF g E with | some l, some m => some (l ++ m) | _, _ => none) from rfl]
  cases h1 : g e with
  | none => simp
  | some l =>
    cases h2 : allF g E with
    | none => simp
    | some m => simp [eq_comm]
theorem allF_append {α : Type} {g : α → Option (List P)} {E F : List α} : ∀ {x : List P}, allF g (E ++ F) = some x ↔ ∃ l m, allF g E = some l ∧ allF g F = some m ∧ x = l ++ m := by
  induction E with
  | nil =>
    intro x
    simp only [List.nil_append]
    constructor
    · intro h; exact ⟨[], x, rfl, h, rfl⟩
    · rintro ⟨l, m, h1, h2, rfl⟩
      simp [allF] at h1
      subst h1
      exact h2
  | cons e E ih =>
    intro x
    rw [List.cons_append, allF_cons]
    constructor
    · rintro ⟨l, m, h1, h2, rfl⟩
      obtain ⟨l2, m2, h3, h4, rfl⟩ := ih.1 h2
      exact ⟨l ++ l2, m2, allF_cons.2 ⟨l, l2, h1, h3, rfl⟩, h4, by simp⟩
    · rintro ⟨l, m, h1, h2, rfl⟩
      obtain ⟨l1, l2, h3, h4, rfl⟩ := allF_cons.1 h1
      exact ⟨l1, l2 ++ m, h3, ih.2 ⟨l2, m, h4, h2, rfl⟩, by simp⟩
theorem allF_one {α : Type} {g : α → Option (List P)} {e : α} {x : List P} : allF g [e] = some x ↔ g e = some x := by
  rw [allF_cons]
  constructor
  · rintro ⟨l, m, h1, h2, rfl⟩
    simp [allF] at h2
    subst h2
    simpa using h1
  · intro h; exact ⟨x, [], h, rfl, by simp⟩
theorem allF_map {α β : Type} {g : α → Option (List P)} {k : β → α} (E : List β) : allF g (E.map k) = allF (fun b => g (k b)) E := by
  induction E with
  | nil => rfl
  | cons e E ih => simp [allF, ih]

def objsF (f : Nat → Int) (n : Nat) : Nat → Nat → Option (List P)
  | 0, i => match resolveI f n i with
    | none => none
    | some q => if q.kind = 0 then some [] else none
  | d + 1, i => match resolveI f n i with
    | none => none
    | some q => if q.kind = 0 then some [] else if paddedI f n q = true then (allF (objsF f n d) (slotsL q)).map (q :: ·) else none

def inExt (q : P) (p : Nat) : Prop := q.first.toNat ≤ p ∧ p < q.first.toNat + (wordsI q).toNat

/-- The objects can be added to the set one by one: none meets what is there. -/
def OKs (T : Nat → Prop) : List P → Prop
  | [] => True
  | q :: l => (∀ p, inExt q p → ¬ T p) ∧ OKs (fun p => T p ∨ inExt q p) l

theorem OKs_congr {l : List P} : ∀ {T U : Nat → Prop}, (∀ p, T p ↔ U p) → (OKs T l ↔ OKs U l) := by
  induction l with
  | nil => intro T U h; exact Iff.rfl
  | cons q l ih =>
    intro T U h
    unfold OKs
    rw [ih (T := fun p => T p ∨ inExt q p) (U := fun p => U p ∨ inExt q p) (fun p => by rw [h p])]
    constructor
    · rintro ⟨h1, h2⟩; exact ⟨fun p hp => by rw [← h p]; exact h1 p hp, h2⟩
    · rintro ⟨h1, h2⟩; exact ⟨fun p hp => by rw [h p]; exact h1 p hp, h2⟩

theorem OKs_swap {l m : List P} {q : P} : ∀ {T : Nat → Prop}, OKs T (l ++ q :: m) ↔ OKs T (q :: (l ++ m)) := by
  induction l with
  | nil => intro T; exact Iff.rfl
  | cons x l ih =>
    intro T
    rw [List.cons_append]
    show (_ ∧ OKs _ (l ++ q :: m)) ↔ _
    rw [ih]
    show (_ ∧ (_ ∧ OKs _ (l ++ m))) ↔ (_ ∧ (_ ∧ OKs _ (l ++ m)))
    rw [OKs_congr (T := fun p => (T p ∨ inExt x p) ∨ inExt q p) (U := fun p => (T p ∨ inExt q p) ∨ inExt x p) (fun p => by
      constructor
      · rintro ((h | h) | h)
        · exact .inl (.inl h)
        · exact .inr h
        · exact .inl (.inr h)
      · rintro ((h | h) | h)
        · exact .inl (.inl h)
        · exact .inr h
        · exact .inl (.inr h))]
    constructor
    · rintro ⟨h1, h2, h3⟩
      exact ⟨fun p hp ht => h2 p hp (.inl ht), fun p hp => by
        rintro (ht | hq)
        · exact h1 p hp ht
        · exact h2 p hq (.inr hp), h3⟩
    · rintro ⟨h1, h2, h3⟩
      exact ⟨fun p hp ht => h2 p hp (.inl ht), fun p hp => by
        rintro (ht | hx)
        · exact h1 p hp ht
        · exact h2 p hx (.inr hp), h3⟩

/-! ### vmodel -/
def setOf (L : List (Nat × Nat)) (p : Nat) : Prop := ∃ s ∈ L, s.1 ≤ p ∧ p < s.2
def Full (L : List (Nat × Nat)) : Prop := ∀ s ∈ L, s.1 < s.2

theorem free_set {q : P} {L : List (Nat × Nat)} (hF : Full L) (hq0 : 0 ≤ wordsI q) : freeB q L = true ↔ ∀ p, inExt q p → ¬ setOf L p := by
  rw [← free_iff]
  unfold free inExt setOf
  constructor
  · intro h p hp
    rintro ⟨s, hs, h1, h2⟩
    rcases h with h | h
    · rw [h] at hp; simp at hp; omega
    · have := h s hs
      unfold meets spanOf at this
      simp at this
      omega
  · intro h
    by_cases h0 : wordsI q = 0
    · exact .inl h0
    · right
      intro s hs
      have hfull := hF s hs
      have hmx := h (max q.first.toNat s.1)
      unfold meets spanOf
      rw [Bool.eq_false_iff]
      intro hm
      simp at hm
      exact hmx ⟨by omega, by omega⟩ ⟨s, hs, by omega, by omega⟩

theorem full_gather {q : P} {L : List (Nat × Nat)} (hF : Full L) (hq : 0 ≤ wordsI q) : Full (gatherL q L) := by
  unfold gatherL
  by_cases h0 : wordsI q = 0
  · rw [if_pos h0]; exact hF
  · rw [if_neg h0]
    intro s hs
    rcases List.mem_append.1 hs with hs | hs
    · exact hF s hs
    · simp at hs
      subst hs
      unfold spanOf
      simp only
      omega
theorem set_gather {q : P} {L : List (Nat × Nat)} (hq : 0 ≤ wordsI q) (p : Nat) : setOf (gatherL q L) p ↔ (setOf L p ∨ inExt q p) := by
  unfold gatherL setOf inExt
  by_cases h0 : wordsI q = 0
  · rw [if_pos h0, h0]
    constructor
    · exact .inl
    · rintro (h | h)
      · exact h
      · simp at h; omega
  · rw [if_neg h0]
    constructor
    · rintro ⟨s, hs, h1⟩
      rcases List.mem_append.1 hs with hs | hs
      · exact .inl ⟨s, hs, h1⟩
      · simp at hs
        subst hs
        exact .inr h1
    · rintro (⟨s, hs, h1⟩ | h)
      · exact ⟨s, List.mem_append.2 (.inl hs), h1⟩
      · exact ⟨spanOf q, List.mem_append.2 (.inr (by simp)), h⟩

def addL (L : List (Nat × Nat)) (l : List P) : List (Nat × Nat) := l.foldl (fun M q => gatherL q M) L

def Pos (l : List P) : Prop := ∀ q ∈ l, 0 ≤ wordsI q

theorem OKs_addL {l : List P} : ∀ {L : List (Nat × Nat)} {m : List P}, Full L → Pos l → (OKs (setOf L) (l ++ m) ↔ OKs (setOf L) l ∧ OKs (setOf (addL L l)) m) := by
  induction l with
  | nil => intro L m hF hp; simp [OKs, addL]
  | cons q l ih =>
    intro L m hF hp
    have hq : 0 ≤ wordsI q := hp q (by simp)
    have hc : ∀ x, OKs (fun p => setOf L p ∨ inExt q p) x ↔ OKs (setOf (gatherL q L)) x := fun x => OKs_congr (fun p => (set_gather hq p).symm)
    rw [List.cons_append]
    show (_ ∧ OKs _ (l ++ m)) ↔ ((_ ∧ OKs _ l) ∧ _)
    rw [hc, hc, ih (full_gather hF hq) (fun x hx => hp x (by simp [hx]))]
    show _ ↔ (_ ∧ OKs (setOf (addL (gatherL q L) l)) m)
    rw [and_assoc]

theorem full_addL {l : List P} : ∀ {L : List (Nat × Nat)}, Full L → Pos l → Full (addL L l) := by
  induction l with
  | nil => intro L h _; exact h
  | cons q l ih => intro L h hp; exact ih (full_gather h (hp q (by simp))) (fun x hx => hp x (by simp [hx]))

theorem objs_pos {f : Nat → Int} {n : Nat} (hf : ∀ j, 0 ≤ f j ∧ f j < 18446744073709551616) : ∀ d i l, objsF f n d i = some l → Pos l := by
  have hq : ∀ i q, resolveI f n i = some q → ¬ q.kind = 0 → 0 ≤ wordsI q := fun i q h hk => by
    rcases resolve_fine hf h with rfl | h
    · exact absurd rfl hk
    · exact (pwords_bd q h.1).1
  intro d
  induction d with
  | zero =>
    intro i l h
    unfold objsF at h
    cases hr : resolveI f n i with
    | none => rw [hr] at h; cases h
    | some q =>
      rw [hr] at h
      simp only at h
      split at h
      · injection h with h; subst h; intro x hx; simp at hx
      · cases h
  | succ d ih =>
    intro i l h
    unfold objsF at h
    cases hr : resolveI f n i with
    | none => rw [hr] at h; cases h
    | some q =>
      rw [hr] at h
      simp only at h
      split at h
      · injection h with h; subst h; intro x hx; simp at hx
      · rename_i hk
        split at h
        · rw [Option.map_eq_some_iff] at h
          obtain ⟨m, hm, rfl⟩ := h
          have hall : ∀ (E : List Nat) m, allF (objsF f n d) E = some m → Pos m := by
            intro E
            induction E with
            | nil => intro m hm; simp [allF] at hm; subst hm; intro x hx; simp at hx
            | cons e E ihE =>
              intro m hm
              obtain ⟨l1, l2, h1, h2, rfl⟩ := allF_cons.1 hm
              intro x hx
              rcases List.mem_append.1 hx with hx | hx
              · exact ih e l1 h1 x hx
              · exact ihE l2 h2 x hx
          intro x hx
          rcases List.mem_cons.1 hx with rfl | hx
          · exact hq i x hr hk
          · exact hall _ m hm x hx
        · cases h

theorem all_pos {f : Nat → Int} {n : Nat} (hf : ∀ j, 0 ≤ f j ∧ f j < 18446744073709551616) (d : Nat) : ∀ (E : List Nat) m, allF (objsF f n d) E = some m → Pos m := by
  intro E
  induction E with
  | nil => intro m hm; simp [allF] at hm; subst hm; intro x hx; simp at hx
  | cons e E ihE =>
    intro m hm
    obtain ⟨l1, l2, h1, h2, rfl⟩ := allF_cons.1 hm
    intro x hx
    rcases List.mem_append.1 hx with hx | hx
    · exact objs_pos hf d e l1 h1 x hx
    · exact ihE l2 h2 x hx

/-- What a visit adds: the objects that hang there, one by one. -/
theorem visit_objs {f : Nat → Int} {n : Nat} (hf : ∀ j, 0 ≤ f j ∧ f j < 18446744073709551616) : ∀ d i L L', Full L → (visitF f n d i L = some L' ↔ ∃ l, objsF f n d i = some l ∧ OKs (setOf L) l ∧ L' = addL L l) := by
  intro d
  induction d with
  | zero =>
    intro i L L' hF
    unfold visitF objsF
    cases hr : resolveI f n i with
    | none => simp
    | some q =>
      simp only
      by_cases hk : q.kind = 0
      · rw [if_pos hk, if_pos hk]
        constructor
        · intro h; injection h with h; exact ⟨[], rfl, trivial, h.symm⟩
        · rintro ⟨l, h1, _, rfl⟩; injection h1 with h1; subst h1; rfl
      · rw [if_neg hk, if_neg hk]
        simp
  | succ d ih =>
    have run : ∀ (E : List Nat) L L', Full L → (E.foldlM (fun M s => visitF f n d s M) L = some L' ↔ ∃ l, allF (objsF f n d) E = some l ∧ OKs (setOf L) l ∧ L' = addL L l) := by
      intro E
      induction E with
      | nil =>
        intro L L' hF
        constructor
        · intro h; injection h with h; exact ⟨[], rfl, trivial, h.symm⟩
        · rintro ⟨l, h1, _, rfl⟩; simp [allF] at h1; subst h1; rfl
      | cons e E ihE =>
        intro L L' hF
        rw [List.foldlM_cons]
        constructor
        · intro h
          cases hv : visitF f n d e L with
          | none => rw [hv] at h; cases h
          | some L1 =>
            rw [hv] at h
            obtain ⟨l1, o1, k1, rfl⟩ := (ih e L L1 hF).1 hv
            have p1 := objs_pos hf d e l1 o1
            obtain ⟨l2, o2, k2, rfl⟩ := (ihE (addL L l1) L' (full_addL hF p1)).1 h
            exact ⟨l1 ++ l2, allF_cons.2 ⟨l1, l2, o1, o2, rfl⟩, (OKs_addL hF p1).2 ⟨k1, k2⟩, by unfold addL; rw [List.foldl_append]⟩
        · rintro ⟨l, h1, h2, rfl⟩
          obtain ⟨l1, l2, o1, o2, rfl⟩ := allF_cons.1 h1
          have p1 := objs_pos hf d e l1 o1
          obtain ⟨k1, k2⟩ := (OKs_addL hF p1).1 h2
          have hv := (ih e L (addL L l1) hF).2 ⟨l1, o1, k1, rfl⟩
          rw [hv]
          have := (ihE (addL L l1) (addL (addL L l1) l2) (full_addL hF p1)).2 ⟨l2, o2, k2, rfl⟩
          show E.foldlM _ (addL L l1) = _
          rw [this]
          unfold addL
          rw [List.foldl_append]
    intro i L L' hF
    unfold visitF objsF
    cases hr : resolveI f n i with
    | none => simp
    | some q =>
      simp only
      by_cases hk : q.kind = 0
      · rw [if_pos hk, if_pos hk]
        constructor
        · intro h; injection h with h; exact ⟨[], rfl, trivial, h.symm⟩
        · rintro ⟨l, h1, _, rfl⟩; injection h1 with h1; subst h1; rfl
      · rw [if_neg hk, if_neg hk]
        have hq : 0 ≤ wordsI q := by
          rcases resolve_fine hf hr with rfl | h
          · exact absurd rfl hk
          · exact (pwords_bd q h.1).1
        have hc : ∀ x, OKs (fun p => setOf L p ∨ inExt q p) x ↔ OKs (setOf (gatherL q L)) x := fun x => OKs_congr (fun p => (set_gather hq p).symm)
        by_cases hp : paddedI f n q = true
        · rw [if_pos hp]
          by_cases hfr : freeB q L = true
          · rw [if_pos ⟨hfr, hp⟩, run _ _ _ (full_gather hF hq)]
            constructor
            · rintro ⟨l, h1, h2, rfl⟩
              exact ⟨q :: l, by rw [h1]; rfl, ⟨(free_set hF hq).1 hfr, (hc l).2 h2⟩, rfl⟩
            · rintro ⟨l, h1, h2, rfl⟩
              rw [Option.map_eq_some_iff] at h1
              obtain ⟨m, hm, rfl⟩ := h1
              exact ⟨m, hm, (hc m).1 h2.2, rfl⟩
          · rw [if_neg (by intro h; exact hfr h.1)]
            constructor
            · intro h; cases h
            · rintro ⟨l, h1, h2, rfl⟩
              rw [Option.map_eq_some_iff] at h1
              obtain ⟨m, hm, rfl⟩ := h1
              exact absurd ((free_set hF hq).2 h2.1) hfr
        · rw [if_neg (by intro h; exact hp h.2), if_neg hp]
          simp

/-- A well-formed arena. -/
def ArenaOk (f : Nat → Int) (n : Nat) : Prop := 1 ≤ n ∧ n ≤ 256 ∧ ∃ l, objsF f n 8 0 = some l ∧ OKs (fun p => p = 0) l

theorem model_ok {f : Nat → Int} {n : Nat} (hf : ∀ j, 0 ≤ f j ∧ f j < 18446744073709551616) : ModelOk f n ↔ ArenaOk f n := by
  unfold ModelOk ArenaOk
  have hF : Full [(0, 1)] := by intro s hs; simp at hs; subst hs; decide
  have hs : ∀ x, OKs (setOf [(0, 1)]) x ↔ OKs (fun p => p = 0) x := fun x => OKs_congr (fun p => by
    unfold setOf
    simp)
  constructor
  · rintro ⟨h1, h2, h3⟩
    obtain ⟨L', h⟩ := Option.isSome_iff_exists.1 h3
    obtain ⟨l, o, k, _⟩ := (visit_objs hf 8 0 _ L' hF).1 h
    exact ⟨h1, h2, l, o, (hs l).1 k⟩
  · rintro ⟨h1, h2, l, o, k⟩
    have := (visit_objs hf 8 0 [(0, 1)] _ hF).2 ⟨l, o, (hs l).2 k, rfl⟩
    exact ⟨h1, h2, by rw [this]; rfl⟩
end Go.Proofs.Ygcfac
