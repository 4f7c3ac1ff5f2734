import Derived.Test.YgcfacMid
namespace Go.Proofs.Ygcfac
open Go.RowKit
set_option linter.unusedVariables false

/-! ### Counting -/
theorem nodup_le {l : List Nat} : ∀ {m : List Nat}, l.Nodup → (∀ x ∈ l, x ∈ m) → l.length ≤ m.length := by
  induction l with
  | nil => intro m _ _; simp
  | cons a l ih =>
    intro m hn hs
    rw [List.nodup_cons] at hn
    have ha : a ∈ m := hs a (by simp)
    have h1 := ih (m := m.erase a) hn.2 (fun x hx => (List.mem_erase_of_ne (show x ≠ a from fun e => hn.1 (by rw [← e]; exact hx))).2 (hs x (by simp [hx])))
    rw [List.length_erase_of_mem ha] at h1
    have := List.length_pos_of_mem ha
    simp
    omega

theorem nodup_append {l m : List Nat} (h1 : l.Nodup) (h2 : m.Nodup) (h : ∀ x, x ∈ l → x ∈ m → False) : (l ++ m).Nodup := by
  rw [List.nodup_append]
  exact ⟨h1, h2, fun a ha b hb e => h a ha (e ▸ hb)⟩

/-! ### The slots of an object -/
theorem mem_runL {x a n : Nat} : x ∈ runL a n ↔ a ≤ x ∧ x < a + n := by
  unfold runL
  simp
  constructor
  · rintro ⟨i, h, rfl⟩; omega
  · rintro ⟨h1, h2⟩; exact ⟨x - a, by omega, by omega⟩
theorem runL_sorted (a n : Nat) : (runL a n).Pairwise (· < ·) := by
  unfold runL
  rw [List.pairwise_map]
  exact List.Pairwise.imp (fun h => by omega) List.pairwise_lt_range
theorem mem_runs7 {x a d q c : Nat} : x ∈ runs7 a d (d + q) q c → a ≤ x ∧ x < a + c * (d + q) := by
  induction c with
  | zero => intro h; simp [runs7] at h
  | succ c ih =>
    intro h
    rw [runs7_succ, List.mem_append] at h
    rw [Nat.succ_mul]
    rcases h with h | h
    · have := ih h
      omega
    · have := mem_runL.1 h
      omega
theorem runs7_sorted (a d q c : Nat) : (runs7 a d (d + q) q c).Pairwise (· < ·) := by
  induction c with
  | zero => simp [runs7]
  | succ c ih =>
    rw [runs7_succ, List.pairwise_append]
    refine ⟨ih, runL_sorted _ _, fun x hx y hy => ?_⟩
    have := mem_runs7 hx
    have := mem_runL.1 hy
    omega
theorem nodup_of_sorted {l : List Nat} (h : l.Pairwise (· < ·)) : l.Nodup := h.imp (fun h => Nat.ne_of_lt h)

theorem slots_zero : slotsL ⟨0, 0, 0, 0, 0, 0⟩ = [] := by
  unfold slotsL
  rw [if_neg (by simp), if_neg (by simp), if_neg (by simp)]

theorem slots_in {n : Nat} {q : P} (h : q.Ok) (hin : insideI n q = true) : (slotsL q).Nodup ∧ ∀ x ∈ slotsL q, q.first.toNat ≤ x ∧ x < q.first.toNat + (wordsI q).toNat := by
  have h0 := h.at_
  have h1 := h.data
  have h2 := h.ptrs
  have h3 := h.count
  have hb := pwords_bd q h
  have hkk : q.kind = 1 ∨ q.kind = 2 := by
    unfold insideI at hin
    simp at hin
    exact hin.1.2
  obtain ⟨x1, x2, x3, x4⟩ := inside_extent h hin
  unfold slotsL
  rcases hkk with hk | hk
  · rw [if_pos hk]
    obtain ⟨g1, g2, g3, g4, g5, g6⟩ := inside_kind1 h hin hk
    have hf : q.first = q.at_ := by unfold P.first; rw [if_neg (by omega)]
    refine ⟨nodup_of_sorted (runL_sorted _ _), fun x hx => ?_⟩
    have := mem_runL.1 hx
    rw [hf, g5]
    omega
  · rw [if_neg (by omega)]
    obtain ⟨g1, g2, g3, g4⟩ := inside_kind2 h hin hk
    by_cases h6 : q.code = 6
    · rw [if_pos h6]
      have hw := words_code6 hk g2 h6
      have hf : q.first = q.at_ := by unfold P.first; rw [if_neg (by omega)]
      refine ⟨nodup_of_sorted (runL_sorted _ _), fun x hx => ?_⟩
      have := mem_runL.1 hx
      rw [hf, hw]
      omega
    · rw [if_neg h6]
      by_cases h7 : q.code = 7
      · rw [if_pos h7]
        have hf : q.first = q.at_ - 1 := by unfold P.first; rw [if_pos ⟨hk, h7⟩]
        obtain ⟨k1, k2, k3⟩ := words_code7 hk g2 h7 (by omega)
        rw [show (q.data + q.ptrs).toNat = q.data.toNat + q.ptrs.toNat by omega]
        refine ⟨nodup_of_sorted (runs7_sorted _ _ _ _), fun x hx => ?_⟩
        have hx := mem_runs7 hx
        have hm : ((q.count.toNat * (q.data.toNat + q.ptrs.toNat) : Nat) : Int) = q.count * (q.data + q.ptrs) := by
          rw [Int.natCast_mul, Int.natCast_add, Int.toNat_of_nonneg h3.1, Int.toNat_of_nonneg h1.1, Int.toNat_of_nonneg h2.1]
        rw [hf, k3]
        rw [hf] at x2
        omega
      · rw [if_neg h7]
        exact ⟨by simp, fun x hx => by simp at hx⟩

/-! ### Mid and Step -/
def stackL (A : Nat → Nat) (t : Nat) : List Nat := (List.range t).map A
theorem mem_stackL {A : Nat → Nat} {t x : Nat} : x ∈ stackL A t ↔ ∃ k, k < t ∧ A k = x := by unfold stackL; simp
theorem stackL_nodup {A : Nat → Nat} {t : Nat} (h : ∀ j k, j < k → k < t → A j ≠ A k) : (stackL A t).Nodup := by
  unfold stackL
  induction t with
  | zero => simp
  | succ t ih =>
    rw [List.range_succ, List.map_append]
    refine nodup_append (ih (fun j k h1 h2 => h j k h1 (by omega))) (by simp) (fun x hx hy => ?_)
    simp at hx hy
    obtain ⟨k, k1, rfl⟩ := hx
    exact h k t k1 (by omega) hy

theorem mid_room {n : Nat} {S A D : Nat → Nat} {t : Nat} {q : P} (hm : Mid n S A D (t + 1)) (hf : Fine n q) (hfree : ∀ p, q.first.toNat ≤ p → p < q.first.toNat + (wordsI q).toNat → mem S p = false) : t + (slotsL q).length ≤ n := by
  rcases hf with rfl | ⟨hok, hk, hin⟩
  · rw [slots_zero]
    have h1 : (stackL A t).length ≤ (List.range n).length := nodup_le (stackL_nodup (fun j k h1 h2 => hm.one j k h1 (by omega))) (fun x hx => by
      obtain ⟨k, k1, rfl⟩ := mem_stackL.1 hx
      exact List.mem_range.2 (hm.ent k (by omega)).1)
    simp [stackL] at h1
    simpa using h1
  · obtain ⟨s1, s2⟩ := slots_in hok hin
    obtain ⟨x1, x2, x3, x4⟩ := inside_extent hok hin
    have h1 : (stackL A t ++ slotsL q).length ≤ (List.range n).length := nodup_le (nodup_append (stackL_nodup (fun j k h1 h2 => hm.one j k h1 (by omega))) s1 (fun x hx hy => by
      obtain ⟨k, k1, rfl⟩ := mem_stackL.1 hx
      have := hfree _ (s2 _ hy).1 (s2 _ hy).2
      rw [(hm.ent k (by omega)).2.2] at this
      cases this)) (fun x hx => by
        rcases List.mem_append.1 hx with hx | hx
        · obtain ⟨k, k1, rfl⟩ := mem_stackL.1 hx
          exact List.mem_range.2 (hm.ent k (by omega)).1
        · have := s2 x hx
          exact List.mem_range.2 (by omega))
    simp [stackL] at h1
    exact h1

theorem mid_pop {n : Nat} {S A D : Nat → Nat} {t : Nat} (hm : Mid n S A D (t + 1)) : Mid n S A D t :=
  ⟨hm.lo, hm.hi, hm.zero, hm.out, by have := hm.le; omega, fun k hk => hm.ent k (by omega), fun j k h1 h2 => hm.one j k h1 (by omega)⟩

theorem mid_more {n : Nat} {S S' A D : Nat → Nat} {t a c : Nat} {ok : Bool} (hm : Mid n S A D t) (hc : ClaimR S a c ok S') (hle : a + c ≤ n) : Mid n S' A D t :=
  ⟨hm.lo, hm.hi, hc.1 _ hm.zero, fun p h1 h2 => by
    rw [Bool.eq_false_iff]
    intro h
    rcases hc.2.1 p h with h' | h'
    · rw [hm.out p h1 h2] at h'; cases h'
    · omega, hm.le, fun k hk => ⟨(hm.ent k hk).1, (hm.ent k hk).2.1, hc.1 _ (hm.ent k hk).2.2⟩, hm.one⟩

theorem step_mid {f : Nat → Int} {n : Nat} {S A D : Nat → Nat} {t : Nat} {ok : Bool} {S' A' D' : Nat → Nat} {sp' : Nat} (hf : ∀ j, 0 ≤ f j ∧ f j < 18446744073709551616) (hm : Mid n S A D (t + 1)) (hs : VStepR f n S A D (t + 1) ok S' A' D' sp') : Mid n S' A' D' sp' := by
  have fine : ∀ q, resolveI f n (A t) = some q → ¬ q.kind = 0 → q.Ok ∧ insideI n q = true := fun q h hk => by
    rcases resolve_fine hf h with rfl | h
    · exact absurd rfl hk
    · exact ⟨h.1, h.2.2⟩
  have ext : ∀ q, resolveI f n (A t) = some q → ¬ q.kind = 0 → q.first.toNat + (wordsI q).toNat ≤ n := fun q h hk => by
    obtain ⟨h1, h2⟩ := fine q h hk
    have := inside_extent h1 h2
    have := pwords_bd q h1
    omega
  cases hs using VStepR.ways with
  | bad h => exact mid_pop hm
  | null q h hk => exact mid_pop hm
  | deep q h hk hd => exact mid_pop hm
  | shared q _ h hk hd hc => exact mid_more (mid_pop hm) hc (ext q h hk)
  | pad q _ h hk hd hc hp => exact mid_more (mid_pop hm) hc (ext q h hk)
  | ok q _ h hk hd hc hp =>
    obtain ⟨hok, hin⟩ := fine q h hk
    obtain ⟨s1, s2⟩ := slots_in hok hin
    have he := ext q h hk
    have hroom := mid_room hm (resolve_fine hf h) (fun p h1 h2 => (hc.2.2.1 rfl p h1 h2).1)
    have m2 := mid_more (mid_pop hm) hc he
    have hA : ∀ k, t ≤ k → k < t + (slotsL q).length → appA A (t + 1 - 1) (slotsL q) k ∈ slotsL q ∧ appA A (t + 1 - 1) (slotsL q) k = (slotsL q).getD (k - t) 0 := fun k h1 h2 => by
      unfold appA
      rw [if_pos (by simp; omega)]
      simp only [Nat.add_sub_cancel]
      refine ⟨?_, trivial⟩
      rw [List.getD_eq_getElem?_getD, List.getElem?_eq_getElem (show k - t < (slotsL q).length by omega)]
      exact List.getElem_mem _
    have hA0 : ∀ k, k < t → appA A (t + 1 - 1) (slotsL q) k = A k := fun k h1 => by
      unfold appA
      rw [if_neg (by simp; omega)]
    refine ⟨m2.lo, m2.hi, m2.zero, m2.out, by have := hm.hi; simp only [Nat.add_sub_cancel]; omega, fun k hk' => ?_, fun j k h1 h2 => ?_⟩
    · simp only [Nat.add_sub_cancel] at hk'
      by_cases hkt : k < t
      · rw [hA0 k hkt]
        have := m2.ent k hkt
        refine ⟨this.1, ?_, this.2.2⟩
        unfold pushD
        rw [if_neg (by simp; omega)]
        exact this.2.1
      · have hm' := (hA k (by omega) hk').1
        have hs := s2 _ hm'
        refine ⟨by omega, ?_, (hc.2.2.1 rfl _ hs.1 hs.2).2⟩
        unfold pushD
        rw [if_pos (by simp; omega)]
        simp only [Nat.add_sub_cancel] at hd ⊢
        omega
    · simp only [Nat.add_sub_cancel] at h2
      by_cases hkt : k < t
      · rw [hA0 k hkt, hA0 j (by omega)]
        exact m2.one j k h1 hkt
      · obtain ⟨k1, k2⟩ := hA k (by omega) h2
        by_cases hjt : j < t
        · rw [hA0 j hjt]
          intro e
          have hs := s2 _ k1
          have := (hc.2.2.1 rfl _ hs.1 hs.2).1
          rw [← e, (hm.ent j (by omega)).2.2] at this
          cases this
        · obtain ⟨j1, j2⟩ := hA j (by omega) (by omega)
          rw [k2, j2]
          intro e
          have hj' : j - t < (slotsL q).length := by omega
          have hk' : k - t < (slotsL q).length := by omega
          rw [List.getD_eq_getElem?_getD, List.getD_eq_getElem?_getD, List.getElem?_eq_getElem hj', List.getElem?_eq_getElem hk'] at e
          have := (List.getElem_inj s1).1 (by simpa using e)
          omega

/-! ### The number of steps -/
def freeL (S : Nat → Nat) (n : Nat) : List Nat := (List.range n).filter fun p => !mem S p
theorem mem_freeL {S : Nat → Nat} {n x : Nat} : x ∈ freeL S n ↔ x < n ∧ mem S x = false := by unfold freeL; simp
theorem freeL_nodup (S : Nat → Nat) (n : Nat) : (freeL S n).Nodup := List.Pairwise.filter _ List.nodup_range

theorem mid_start {n : Nat} {S A D : Nat → Nat} {sp : Nat} (hm : Mid n S A D sp) : (freeL S n).length + sp ≤ n := by
  have h1 : (freeL S n ++ stackL A sp).length ≤ (List.range n).length := nodup_le (nodup_append (freeL_nodup S n) (stackL_nodup hm.one) (fun x hx hy => by
    obtain ⟨k, k1, rfl⟩ := mem_stackL.1 hy
    have := (mem_freeL.1 hx).2
    rw [(hm.ent k k1).2.2] at this
    cases this)) (fun x hx => by
      rcases List.mem_append.1 hx with hx | hx
      · exact List.mem_range.2 (mem_freeL.1 hx).1
      · obtain ⟨k, k1, rfl⟩ := mem_stackL.1 hx
        exact List.mem_range.2 (hm.ent k k1).1)
  simp [stackL] at h1
  exact h1

theorem step_less {f : Nat → Int} {n : Nat} {S A D : Nat → Nat} {t : Nat} {S' A' D' : Nat → Nat} {sp' : Nat} (hf : ∀ j, 0 ≤ f j ∧ f j < 18446744073709551616) (hm : Mid n S A D (t + 1)) (hs : VStepR f n S A D (t + 1) true S' A' D' sp') : (freeL S' n).length + sp' ≤ (freeL S n).length + t := by
  cases hs using VStepR.ways with
  | null q h hk => simp
  | ok q _ h hk hd hc hp =>
    obtain ⟨hok, hin⟩ : q.Ok ∧ insideI n q = true := by
      rcases resolve_fine hf h with rfl | h
      · exact absurd rfl hk
      · exact ⟨h.1, h.2.2⟩
    obtain ⟨s1, s2⟩ := slots_in hok hin
    have he : q.first.toNat + (wordsI q).toNat ≤ n := by
      have := inside_extent hok hin
      have := pwords_bd q hok
      omega
    have h1 : (freeL S' n ++ slotsL q).length ≤ (freeL S n).length := nodup_le (nodup_append (freeL_nodup _ _) s1 (fun x hx hy => by
      have := (hc.2.2.1 rfl _ (s2 _ hy).1 (s2 _ hy).2).2
      rw [(mem_freeL.1 hx).2] at this
      cases this)) (fun x hx => by
        rcases List.mem_append.1 hx with hx | hx
        · have h2 := mem_freeL.1 hx
          refine mem_freeL.2 ⟨h2.1, ?_⟩
          rw [Bool.eq_false_iff]
          intro h3
          rw [hc.1 _ h3] at h2
          exact absurd h2.2 (by simp)
        · have h2 := s2 _ hx
          exact mem_freeL.2 ⟨by omega, (hc.2.2.1 rfl _ h2.1 h2.2).1⟩)
    rw [List.length_append] at h1
    simp only [Nat.add_sub_cancel]
    omega
end Go.Proofs.Ygcfac
