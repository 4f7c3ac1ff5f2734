/-
  The plain side of codec.Canon: no node is pushed twice.
-/
import Derived.Test.YgcfacNCheck
import Derived.Test.YgcfacCKids
namespace Go.Proofs.Ygcfac
open Go.RowKit
set_option linter.unusedVariables false

/-- What structs pushes: the last element's kids first. -/
def elL (el : Nat → Nd) (K : Nat) : Nat → List Nat
  | 0 => []
  | m + 1 => elL el K m ++ pushL (el (K - 1 - m)).k (el (K - 1 - m)).kids.length (el (K - 1 - m)).kids.length

/-- What placing a node pushes. -/
def newsOf (u : Tr) (x : Nd) : List Nat := if x.inl then elL (fun j => u.nd (x.k j).toNat) x.kids.length x.kids.length else pushL x.k x.kids.length x.kids.length

theorem mem_pushL {h : Nat → Int} {K : Nat} : ∀ m, m ≤ K → ∀ c, c ∈ pushL h K m → ∃ q, K - m ≤ q ∧ q < K ∧ h q ≠ -1 ∧ c = (h q).toNat
  | 0, _, c, hc => by simp [pushL] at hc
  | m + 1, hm, c, hc => by
    unfold pushL at hc
    rcases List.mem_append.1 hc with h1 | h1
    · obtain ⟨q, a1, a2, a3, a4⟩ := mem_pushL m (by omega) c h1
      exact ⟨q, by omega, a2, a3, a4⟩
    · split at h1
      · simp at h1
      · rename_i hne
        simp at h1
        exact ⟨K - 1 - m, by omega, by omega, hne, h1⟩

theorem nodup_pushL {h : Nat → Int} {K : Nat} (hi : ∀ q q', q < K → q' < K → h q ≠ -1 → h q' ≠ -1 → (h q).toNat = (h q').toNat → q = q') : ∀ m, m ≤ K → (pushL h K m).Nodup
  | 0, _ => by simp [pushL]
  | m + 1, hm => by
    unfold pushL
    rw [List.nodup_append]
    refine ⟨nodup_pushL hi m (by omega), by split <;> simp, fun a ha b hb e => ?_⟩
    split at hb
    · simp at hb
    · rename_i hne
      simp at hb
      obtain ⟨q, a1, a2, a3, a4⟩ := mem_pushL m (by omega) a ha
      have := hi q (K - 1 - m) a2 (by omega) a3 hne (by rw [← a4, e, hb])
      omega

theorem mem_elL {el : Nat → Nd} {K : Nat} : ∀ m, m ≤ K → ∀ c, c ∈ elL el K m → ∃ j, K - m ≤ j ∧ j < K ∧ c ∈ pushL (el j).k (el j).kids.length (el j).kids.length
  | 0, _, c, hc => by simp [elL] at hc
  | m + 1, hm, c, hc => by
    unfold elL at hc
    rcases List.mem_append.1 hc with h1 | h1
    · obtain ⟨q, a1, a2, a3⟩ := mem_elL m (by omega) c h1
      exact ⟨q, by omega, a2, a3⟩
    · exact ⟨K - 1 - m, by omega, by omega, h1⟩

theorem nodup_elL {el : Nat → Nd} {K : Nat} (h1 : ∀ j, j < K → (pushL (el j).k (el j).kids.length (el j).kids.length).Nodup)
    (h2 : ∀ j j' c, j < K → j' < K → c ∈ pushL (el j).k (el j).kids.length (el j).kids.length → c ∈ pushL (el j').k (el j').kids.length (el j').kids.length → j = j') : ∀ m, m ≤ K → (elL el K m).Nodup
  | 0, _ => by simp [elL]
  | m + 1, hm => by
    unfold elL
    rw [List.nodup_append]
    refine ⟨nodup_elL h1 h2 m (by omega), h1 _ (by omega), fun a ha b hb e => ?_⟩
    subst e
    obtain ⟨q, a1, a2, a3⟩ := mem_elL m (by omega) a ha
    have := h2 q (K - 1 - m) a a2 (by omega) a3 hb
    omega

/-- The kids of node p, as a list that may be pushed. -/
theorem mem_kids {u : Tr} (hl : Linked u) {p c : Nat} (hp : p < u.ns.length) (hc : c ∈ pushL (u.nd p).k (u.nd p).kids.length (u.nd p).kids.length) : ∃ q, TKid u p q c := by
  obtain ⟨q, a1, a2, a3, a4⟩ := mem_pushL _ (Nat.le_refl _) c hc
  have := (hl.shp p hp).1 q a2
  exact ⟨q, hp, a2, by omega⟩

theorem nodup_kids {u : Tr} (hl : Linked u) {p : Nat} (hp : p < u.ns.length) : (pushL (u.nd p).k (u.nd p).kids.length (u.nd p).kids.length).Nodup := by
  refine nodup_pushL (fun q q' h1 h2 h3 h4 e => ?_) _ (Nat.le_refl _)
  have e1 := (hl.shp p hp).1 q h1
  have e2 := (hl.shp p hp).1 q' h2
  have k1 : TKid u p q ((u.nd p).k q).toNat := ⟨hp, h1, by omega⟩
  have k2 : TKid u p q' ((u.nd p).k q).toNat := ⟨hp, h2, by omega⟩
  exact (hl.uniq _ _ _ _ _ k1 k2).2

/-- The parent under which placing x pushes c. -/
def Under (u : Tr) (x p : Nat) : Prop := ((u.nd x).inl = false ∧ p = x) ∨ ((u.nd x).inl = true ∧ ∃ j, TKid u x j p)

theorem inl_elem {u : Tr} (hl : Linked u) {x j e : Nat} (hin : (u.nd x).inl = true) (hk : TKid u x j e) : (u.nd e).inl = false := by
  have h2 : (u.nd x).kind = 2 ∧ (u.nd x).code = 7 := by simpa [Nd.inl] using hin
  rcases (hl.shp x hk.1).2 with ⟨y, _⟩ | ⟨_, _, _, y | y | y⟩
  · omega
  · omega
  · omega
  · have := (y.2.2 j hk.2.1).2
    rw [hk.2.2] at this
    simp only [Int.toNat_natCast] at this
    simp [Nd.inl, this]

theorem mem_news {u : Tr} (hl : Linked u) {x c : Nat} (hx : x < u.ns.length) (hc : c ∈ newsOf u (u.nd x)) : ∃ p q, Under u x p ∧ TKid u p q c := by
  unfold newsOf at hc
  cases hin : (u.nd x).inl with
  | false =>
    rw [hin] at hc
    obtain ⟨q, hq⟩ := mem_kids hl hx (by simpa using hc)
    exact ⟨x, q, .inl ⟨hin, rfl⟩, hq⟩
  | true =>
    rw [hin] at hc
    simp only [if_true] at hc
    obtain ⟨j, _, a2, a3⟩ := mem_elL _ (Nat.le_refl _) c hc
    have h2 : (u.nd x).kind = 2 ∧ (u.nd x).code = 7 := by simpa [Nd.inl] using hin
    have hb := hl.inl_in hx h2.1 h2.2 j a2
    have hk : TKid u x j ((u.nd x).k j).toNat := ⟨hx, a2, by omega⟩
    obtain ⟨q, hq⟩ := mem_kids hl (by omega) a3
    exact ⟨_, q, .inr ⟨hin, j, hk⟩, hq⟩

theorem nodup_news {u : Tr} (hl : Linked u) {x : Nat} (hx : x < u.ns.length) : (newsOf u (u.nd x)).Nodup := by
  unfold newsOf
  cases hin : (u.nd x).inl with
  | false => simpa using nodup_kids hl hx
  | true =>
    simp only [if_true]
    have h2 : (u.nd x).kind = 2 ∧ (u.nd x).code = 7 := by simpa [Nd.inl] using hin
    have hb := hl.inl_in hx h2.1 h2.2
    refine nodup_elL (fun j hj => nodup_kids hl (by have := hb j hj; omega)) (fun j j' c hj hj' h1 h3 => ?_) _ (Nat.le_refl _)
    obtain ⟨q, hq⟩ := mem_kids hl (by have := hb j hj; omega) h1
    obtain ⟨q', hq'⟩ := mem_kids hl (by have := hb j' hj'; omega) h3
    have e := (hl.uniq _ _ _ _ _ hq hq').1
    have k1 : TKid u x j ((u.nd x).k j).toNat := ⟨hx, hj, by have := hb j hj; omega⟩
    have k2 : TKid u x j' ((u.nd x).k j).toNat := ⟨hx, hj', by have := hb j' hj'; omega⟩
    exact (hl.uniq _ _ _ _ _ k1 k2).2

/-- Canon's stack st, and all that was ever pushed, ps. -/
structure CI (u : Tr) (st ps : List Nat) : Prop where
  nd : ps.Nodup
  lt : ∀ c ∈ ps, c < u.ns.length
  up : ∀ c ∈ ps, (c : Int) = u.root ∨ ∃ x p q, x ∈ ps ∧ x ∉ st ∧ Under u x p ∧ TKid u p q c
  snd : st.Nodup
  sub : ∀ x ∈ st, x ∈ ps

theorem CI.start {u : Tr} {r : Nat} (hr : u.root = (r : Int)) (hN : r < u.ns.length) : CI u [r] [r] :=
  ⟨by simp, by simpa using hN, fun c hc => .inl (by simp at hc; subst hc; exact hr.symm), by simp, by simp⟩

/-- The elements of a list of structs are never pushed. -/
theorem CI.noelem {u : Tr} (hl : Linked u) {st ps : List Nat} (h : CI u st ps) {x j e : Nat} (hin : (u.nd x).inl = true) (hk : TKid u x j e) : e ∉ ps := fun he => by
  rcases h.up e he with hr | ⟨y, p, q, _, _, hu, hk2⟩
  · exact hl.noroot _ _ _ hk hr
  · obtain ⟨e1, _⟩ := hl.uniq _ _ _ _ _ hk hk2
    subst e1
    rcases hu with ⟨h1, rfl⟩ | ⟨h1, j', h2⟩
    · rw [hin] at h1; cases h1
    · have := inl_elem hl h1 h2
      rw [hin] at this
      cases this

theorem CI.fresh {u : Tr} (hl : Linked u) {s ps : List Nat} {x : Nat} (h : CI u (s ++ [x]) ps) : ∀ c, c ∈ newsOf u (u.nd x) → c ∉ ps := fun c hc hp => by
  have hxp : x ∈ ps := h.sub x (by simp)
  obtain ⟨p, q, hu, hk⟩ := mem_news hl (h.lt x hxp) hc
  rcases h.up c hp with hr | ⟨y, p', q', y1, y2, hu', hk'⟩
  · exact hl.noroot _ _ _ hk hr
  · obtain ⟨e1, _⟩ := hl.uniq _ _ _ _ _ hk hk'
    subst e1
    have hxy : x = y := by
      rcases hu with ⟨h1, rfl⟩ | ⟨h1, j, h2⟩
      · rcases hu' with ⟨_, e⟩ | ⟨g1, j', g2⟩
        · exact e
        · exact absurd hxp (h.noelem hl g1 g2)
      · rcases hu' with ⟨g1, rfl⟩ | ⟨g1, j', g2⟩
        · exact absurd y1 (h.noelem hl h1 h2)
        · exact (hl.uniq _ _ _ _ _ h2 g2).1
    subst hxy
    exact y2 (by simp)

theorem CI.step {u : Tr} (hl : Linked u) {s ps : List Nat} {x : Nat} (h : CI u (s ++ [x]) ps) : CI u (s ++ newsOf u (u.nd x)) (ps ++ newsOf u (u.nd x)) := by
  have hf := h.fresh hl
  have hxp : x ∈ ps := h.sub x (by simp)
  have hxN := h.lt x hxp
  have hsn := List.nodup_append.1 h.snd
  refine ⟨?_, fun c hc => ?_, fun c hc => ?_, ?_, fun y hy => ?_⟩
  · rw [List.nodup_append]
    exact ⟨h.nd, nodup_news hl hxN, fun a ha b hb e => hf b hb (e ▸ ha)⟩
  · rcases List.mem_append.1 hc with h1 | h1
    · exact h.lt c h1
    · obtain ⟨p, q, _, hk⟩ := mem_news hl hxN h1
      exact (hl.lt hk).2
  · rcases List.mem_append.1 hc with h1 | h1
    · rcases h.up c h1 with hr | ⟨y, p, q, y1, y2, hu, hk⟩
      · exact .inl hr
      · refine .inr ⟨y, p, q, List.mem_append.2 (.inl y1), fun hy => ?_, hu, hk⟩
        rcases List.mem_append.1 hy with h2 | h2
        · exact y2 (List.mem_append.2 (.inl h2))
        · exact hf y h2 y1
    · obtain ⟨p, q, hu, hk⟩ := mem_news hl hxN h1
      refine .inr ⟨x, p, q, List.mem_append.2 (.inl hxp), fun hy => ?_, hu, hk⟩
      rcases List.mem_append.1 hy with h2 | h2
      · exact hsn.2.2 x h2 x (by simp) rfl
      · exact hf x h2 hxp
  · rw [List.nodup_append]
    exact ⟨hsn.1, nodup_news hl hxN, fun a ha b hb e => hf b hb (e ▸ h.sub a (List.mem_append.2 (.inl ha)))⟩
  · rcases List.mem_append.1 hy with h2 | h2
    · exact List.mem_append.2 (.inl (h.sub y (List.mem_append.2 (.inl h2))))
    · exact List.mem_append.2 (.inr h2)

theorem nodup_len {N : Nat} : ∀ {l : List Nat}, l.Nodup → (∀ x ∈ l, x < N) → l.length ≤ N := fun {l} hn hb => by
  have := inj_le (F := fun i => l.getD i 0) (N := N) (M := l.length) (fun c hc => by
    show l.getD c 0 < N
    rw [List.getD_eq_getElem?_getD, List.getElem?_eq_getElem hc]
    exact hb _ (List.getElem_mem hc)) (fun c c' hc hc' e => by
    have e' : l.getD c 0 = l.getD c' 0 := e
    rw [List.getD_eq_getElem?_getD, List.getD_eq_getElem?_getD, List.getElem?_eq_getElem hc, List.getElem?_eq_getElem hc'] at e'
    exact (List.getElem_inj hn).1 (by simpa using e'))
  exact this

theorem CI.le {u : Tr} {st ps : List Nat} (h : CI u st ps) : st.length ≤ ps.length ∧ ps.length ≤ u.ns.length := by
  refine ⟨?_, nodup_len h.nd h.lt⟩
  exact List.Nodup.length_le_of_subset h.snd h.sub
end Go.Proofs.Ygcfac
