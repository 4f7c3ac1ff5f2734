/-
  The value of a tree that passes Check passes Check.
-/
import Derived.Test.YgcfacNLaw
namespace Go.Proofs.Ygcfac
open Go.RowKit
set_option linter.unusedVariables false
set_option linter.unusedSectionVars false

theorem Linked.evd8 {t : Tr} (h : Linked t) {p : Nat} (hp : p < t.ns.length) (hi : (t.nd p).inl = true) : t.evd (t.nd p) ≤ 8 ∧ t.mk_ (t.nd p) ≤ 8 := by
  have hk : (t.nd p).kind = 2 ∧ (t.nd p).code = 7 := by simpa [Nd.inl] using hi
  have hin := h.inl_in hp hk.1 hk.2
  have h7 : ∀ j, j < (t.nd p).kids.length → (t.nd ((t.nd p).k j).toNat).td ≤ 8 ∧ (t.nd ((t.nd p).k j).toNat).tk ≤ 8 := fun j hj => by
    have hkd : (t.nd ((t.nd p).k j).toNat).kind = 1 := by
      rcases (h.shp p hp).2 with ⟨h1, _⟩ | ⟨_, _, _, h1 | h1 | h1⟩
      · omega
      · omega
      · omega
      · exact (h1.2.2 j hj).2
    have hb := hin j hj
    have h1 := td_le (t.nd ((t.nd p).k j).toNat)
    have h2 := tk_le (t.nd ((t.nd p).k j).toNat)
    rcases (h.shp ((t.nd p).k j).toNat (by omega)).2 with ⟨_, _, h3, h4⟩ | ⟨h3, _⟩
    · omega
    · omega
  have h1 : t.md (t.nd p) ≤ 8 := mx_le _ (fun j hj => (h7 j hj).1)
  have h2 : t.mk_ (t.nd p) ≤ 8 := mx_le _ (fun j hj => (h7 j hj).2)
  refine ⟨?_, h2⟩
  unfold Tr.evd
  split <;> omega


theorem node_u {t u : Tr} {F D P : Nat → Nat} (hc : CheckOk t) (hI : NI t u.ns.length 0 u.ns.length u.ns.length F D P) (hR : NodesR t F D P u.ns.length u.ns.length u.ns) {p : Nat} (hp : p < u.ns.length) : ∃ ks, u.nd p = ⟨(t.nd (F p)).kind, (t.nd (F p)).code, sizeL (t.nd (F p)).data (D p), ks⟩ ∧ KidsR t F p u.ns.length ks (P p) := by
  obtain ⟨ks, h1, h2⟩ := hR.2 p hp
  refine ⟨ks, ?_, h2⟩
  unfold Tr.nd
  rw [List.getD_eq_getElem?_getD, h1]
  rfl

theorem kind_u {t u : Tr} {F D P : Nat → Nat} (hc : CheckOk t) (hI : NI t u.ns.length 0 u.ns.length u.ns.length F D P) (hR : NodesR t F D P u.ns.length u.ns.length u.ns) {p : Nat} (hp : p < u.ns.length) : (u.nd p).kind = (t.nd (F p)).kind ∧ (u.nd p).code = (t.nd (F p)).code ∧ (u.nd p).data.length = D p ∧ (u.nd p).kids.length = P p ∧ (u.nd p).inl = (t.nd (F p)).inl := by
  obtain ⟨ks, h1, h2⟩ := node_u hc hI hR hp
  rw [h1]
  exact ⟨rfl, rfl, sizeL_length _ _, h2.1, rfl⟩

theorem kid_u {t u : Tr} {F D P : Nat → Nat} (hc : CheckOk t) (hI : NI t u.ns.length 0 u.ns.length u.ns.length F D P) (hR : NodesR t F D P u.ns.length u.ns.length u.ns) {p q c : Nat} (h : TKid u p q c) : TKid t (F p) q (F c) ∧ p < c ∧ c < u.ns.length := by
  obtain ⟨hp, hq, hk⟩ := h
  obtain ⟨ks, h1, h2⟩ := node_u hc hI hR hp
  rw [h1] at hq hk
  have hq' : q < P p := by rw [← h2.1]; exact hq
  have hk' : ks.getD q 0 = (c : Int) := hk
  rcases h2.2 q hq' with ⟨x1, c', x2, x3, x4, x5⟩ | ⟨_, x2⟩
  · obtain rfl : c' = c := by rw [hk'] at x2; omega
    exact ⟨⟨hI.at_ p hp, x1.1, x5.symm⟩, x4, x3⟩
  · rw [hk'] at x2; omega

theorem sect_u {t u : Tr} {F D P : Nat → Nat} (hc : CheckOk t) (hI : NI t u.ns.length 0 u.ns.length u.ns.length F D P) (hR : NodesR t F D P u.ns.length u.ns.length u.ns) {i : Nat} (hi : i < u.ns.length) (hk : (t.nd (F i)).kind = 1) : D i ≤ 8 ∧ P i ≤ 8 := by
  have hs := hc.link.shp (F i) (hI.at_ i hi)
  have h1 := td_le (t.nd (F i))
  have h2 := tk_le (t.nd (F i))
  have h8 : (t.nd (F i)).data.length ≤ 8 ∧ (t.nd (F i)).kids.length ≤ 8 := by
    rcases hs.2 with ⟨_, _, h3, h4⟩ | ⟨h3, _⟩
    · exact ⟨h3, h4⟩
    · omega
  by_cases i0 : i = 0
  · subst i0
    have := hI.d0 hk
    omega
  · obtain ⟨p, q, x1, x2, x3, x4⟩ := hI.par i (by omega) hi
    obtain ⟨e1, e2⟩ := x4 hk
    rw [e1, e2]
    unfold dOf pOf
    split
    · rename_i hin
      exact hc.link.evd8 (hI.at_ p (by omega)) hin
    · omega

theorem links_u {t u : Tr} {F D P : Nat → Nat} (hc : CheckOk t) (hI : NI t u.ns.length 0 u.ns.length u.ns.length F D P) (hR : NodesR t F D P u.ns.length u.ns.length u.ns) {i : Nat} (hi : i < u.ns.length) : Links u.ns.length i (u.nd i).kids.length (u.nd i).k := fun j hj => by
  obtain ⟨ks, h1, h2⟩ := node_u hc hI hR hi
  rw [h1] at hj ⊢
  have hj' : j < P i := by rw [← h2.1]; exact hj
  rcases h2.2 j hj' with ⟨x1, c', x2, x3, x4, x5⟩ | ⟨_, x2⟩
  · refine .inr ?_
    show (i : Int) < ks.getD j 0 ∧ ks.getD j 0 < _
    omega
  · exact .inl x2

theorem shp_u {t u : Tr} {F D P : Nat → Nat} (hc : CheckOk t) (hI : NI t u.ns.length 0 u.ns.length u.ns.length F D P) (hR : NodesR t F D P u.ns.length u.ns.length u.ns) {i : Nat} (hi : i < u.ns.length) : Shp u i := by
  have hs := hc.link.shp (F i) (hI.at_ i hi)
  obtain ⟨k1, k2, k3, k4, _⟩ := kind_u hc hI hR hi
  refine ⟨links_u hc hI hR hi, ?_⟩
  rcases hs.2 with ⟨h1, h2, _⟩ | ⟨h1, h2, h3, h4⟩
  · have := sect_u hc hI hR hi h1
    exact .inl ⟨by rw [k1]; exact h1, by rw [k2]; exact h2, by omega, by omega⟩
  · obtain ⟨l1, l2⟩ := hI.lists i hi hi h1
    refine .inr ⟨by rw [k1]; exact h1, by omega, by omega, ?_⟩
    rcases h4 with ⟨h5, h6, h7⟩ | ⟨h5, h6⟩ | ⟨h5, h6, h7⟩
    · refine .inl ⟨by rw [k2]; exact h5, by omega, fun j hj => ?_⟩
      rw [k2]
      obtain ⟨ks, e1, e2⟩ := node_u hc hI hR hi
      rw [e1]
      show (sizeL (t.nd (F i)).data (D i)).getD j 0 ≤ _
      rw [k3] at hj
      rw [sizeL_getD, if_pos hj]
      exact h7 j (by omega)
    · exact .inr (.inl ⟨by rw [k2]; exact h5, by omega⟩)
    · refine .inr (.inr ⟨by rw [k2]; exact h5, by omega, fun j hj => ?_⟩)
      obtain ⟨ks, e1, e2⟩ := node_u hc hI hR hi
      have hj' : j < P i := by rw [← k4]; exact hj
      obtain ⟨n1, n2⟩ := h7 j (by omega)
      rcases e2.2 j hj' with ⟨x1, c', x2, x3, x4, x5⟩ | ⟨x1, x2⟩
      · have ek : (u.nd i).k j = (c' : Int) := by rw [e1]; exact x2
        rw [ek]
        refine ⟨by omega, ?_⟩
        show (u.nd (c' : Int).toNat).kind = 1
        rw [Int.toNat_natCast, (kind_u hc hI hR x3).1]
        rw [← x5] at n2
        simpa using n2
      · exact absurd ⟨by omega, n1⟩ x1

theorem linked_u {t u : Tr} {F D P : Nat → Nat} (hc : CheckOk t) (hI : NI t u.ns.length 0 u.ns.length u.ns.length F D P) (hR : NodesR t F D P u.ns.length u.ns.length u.ns) (h0 : u.root = 0) : Linked u := by
  refine ⟨fun i hi => shp_u hc hI hR hi, fun i j i' j' k h1 h2 => ?_, fun i j k h1 => ?_⟩
  · obtain ⟨x1, _⟩ := kid_u hc hI hR h1
    obtain ⟨y1, _⟩ := kid_u hc hI hR h2
    obtain ⟨e1, e2⟩ := hc.link.uniq _ _ _ _ _ x1 y1
    exact ⟨hI.inj i i' h1.1 h2.1 e1, e2⟩
  · obtain ⟨_, x2, _⟩ := kid_u hc hI hR h1
    omega

theorem tat_u {t u : Tr} {F D P : Nat → Nat} (hc : CheckOk t) (hI : NI t u.ns.length 0 u.ns.length u.ns.length F D P) (hR : NodesR t F D P u.ns.length u.ns.length u.ns) (h0 : u.root = 0) {i d : Nat} {e : Bool} (h : TAt u i d e) : i < u.ns.length ∧ TAt t (F i) d e := by
  refine h.ind (C := fun i d e => i < u.ns.length ∧ TAt t (F i) d e) (fun r hr => ?_) (fun p j k d e hp hk ih => ?_)
  · obtain rfl : r = 0 := by omega
    exact ⟨hI.pos, .root _ hI.f0.symm⟩
  · obtain ⟨x1, x2, x3⟩ := kid_u hc hI hR hk
    rw [(kind_u hc hI hR ih.1).2.2.2.2]
    exact ⟨x3, .kid _ _ _ _ _ ih.2 x1⟩

/-- A struct that is no element of a list of structs has what it keeps. -/
theorem sect_plain {t u : Tr} {F D P : Nat → Nat} (hc : CheckOk t) (hI : NI t u.ns.length 0 u.ns.length u.ns.length F D P) (hR : NodesR t F D P u.ns.length u.ns.length u.ns) (h0 : u.root = 0) {i d : Nat} (h : TAt u i d false) (hk : (t.nd (F i)).kind = 1) : D i = (t.nd (F i)).td ∧ P i = (t.nd (F i)).tk := by
  have hi := (tat_u hc hI hR h0 h).1
  by_cases i0 : i = 0
  · subst i0; exact hI.d0 hk
  · obtain ⟨p, q, x1, x2, x3, x4⟩ := hI.par i (by omega) hi
    obtain ⟨e1, e2⟩ := x4 hk
    have hat := (tat_u hc hI hR h0 h).2
    have hinl : (t.nd (F p)).inl = false := by
      rcases hat.how with ⟨hr, _, _⟩ | ⟨p', j', d', e', hp, hkid, _, hfe⟩
      · exact absurd hr.symm (hc.link.noroot _ _ _ x3)
      · obtain ⟨e3, _⟩ := hc.link.uniq _ _ _ _ _ x3 hkid
        rw [e3, ← hfe]
    rw [e1, e2]
    unfold dOf pOf
    rw [hinl]
    exact ⟨rfl, rfl⟩

/-- The elements of a list of structs have its sections. -/
theorem sect_elem {t u : Tr} {F D P : Nat → Nat} (hc : CheckOk t) (hI : NI t u.ns.length 0 u.ns.length u.ns.length F D P) (hR : NodesR t F D P u.ns.length u.ns.length u.ns) {i j c : Nat} (hk : TKid u i j c) (hin : (t.nd (F i)).inl = true) (hk1 : (t.nd (F c)).kind = 1) : D c = t.evd (t.nd (F i)) ∧ P c = t.mk_ (t.nd (F i)) := by
  obtain ⟨x1, x2, x3⟩ := kid_u hc hI hR hk
  obtain ⟨p, q, y1, y2, y3, y4⟩ := hI.par c (by omega) x3
  obtain ⟨e1, e2⟩ := y4 hk1
  obtain ⟨e3, _⟩ := hc.link.uniq _ _ _ _ _ y3 x1
  rw [e1, e2, e3]
  unfold dOf pOf
  rw [hin]
  exact ⟨rfl, rfl⟩

theorem wd_u {t u : Tr} {F D P : Nat → Nat} (hc : CheckOk t) (hI : NI t u.ns.length 0 u.ns.length u.ns.length F D P) (hR : NodesR t F D P u.ns.length u.ns.length u.ns) (h0 : u.root = 0) {i d : Nat} (h : TAt u i d false) : u.wd (u.nd i) ≤ t.wd (t.nd (F i)) := by
  obtain ⟨hi, hat⟩ := tat_u hc hI hR h0 h
  obtain ⟨k1, k2, k3, k4, k5⟩ := kind_u hc hI hR hi
  have hN := hI.at_ i hi
  unfold Tr.wd
  rw [k1, k2]
  by_cases h1 : (t.nd (F i)).kind = 1
  · rw [if_pos h1, if_pos h1]
    have := sect_plain hc hI hR h0 h h1
    have := td_le (u.nd i)
    have := tk_le (u.nd i)
    omega
  · rw [if_neg h1, if_neg h1]
    have h2 : (t.nd (F i)).kind = 2 := by
      rcases (hc.link.shp (F i) hN).2 with ⟨x, _⟩ | ⟨x, _⟩
      · exact absurd x h1
      · exact x
    obtain ⟨l1, l2⟩ := hI.lists i hi hi h2
    by_cases h6 : (t.nd (F i)).code = 6
    · rw [if_pos h6, if_pos h6]; omega
    · rw [if_neg h6, if_neg h6]
      by_cases h7 : (t.nd (F i)).code = 7
      · rw [if_pos h7, if_pos h7, k4, l2]
        have hin : (t.nd (F i)).inl = true := by simp [Nd.inl, h2, h7]
        have hs7 : ∀ j, j < (u.nd i).kids.length → (u.nd ((u.nd i).k j).toNat).td ≤ t.evd (t.nd (F i)) ∧ (u.nd ((u.nd i).k j).toNat).tk ≤ t.mk_ (t.nd (F i)) := fun j hj => by
          have hsh := (shp_u hc hI hR hi).2
          have hkd : (u.nd i).k j ≠ -1 ∧ (u.nd ((u.nd i).k j).toNat).kind = 1 := by
            rcases hsh with ⟨y1, _⟩ | ⟨_, _, _, y1 | y1 | y1⟩
            · rw [k1] at y1; omega
            · rw [k2] at y1; omega
            · rw [k2] at y1; omega
            · exact y1.2.2 j hj
          have hl := links_u hc hI hR hi j hj
          obtain ⟨c, hce⟩ := Int.eq_ofNat_of_zero_le (show 0 ≤ (u.nd i).k j by omega)
          have hkid : TKid u i j c := ⟨hi, hj, hce⟩
          obtain ⟨y1, y2, y3⟩ := kid_u hc hI hR hkid
          rw [hce] at hkd ⊢
          simp only [Int.toNat_natCast] at hkd ⊢
          obtain ⟨z1, z2, z3, z4, _⟩ := kind_u hc hI hR y3
          obtain ⟨e1, e2⟩ := sect_elem hc hI hR hkid hin (by rw [← z1]; exact hkd.2)
          have := td_le (u.nd c)
          have := tk_le (u.nd c)
          omega
        have m1 : u.md (u.nd i) ≤ t.evd (t.nd (F i)) := mx_le _ (fun j hj => (hs7 j hj).1)
        have m2 : u.mk_ (u.nd i) ≤ t.mk_ (t.nd (F i)) := mx_le _ (fun j hj => (hs7 j hj).2)
        have m3 : u.evd (u.nd i) + u.mk_ (u.nd i) ≤ t.evd (t.nd (F i)) + t.mk_ (t.nd (F i)) := by
          by_cases hz : 0 < (u.nd i).kids.length ∧ u.md (u.nd i) + u.mk_ (u.nd i) = 0
          · have e1 : u.evd (u.nd i) = 1 := by unfold Tr.evd; rw [if_pos hz]
            have hK : 0 < (t.nd (F i)).kids.length := by omega
            have : 1 ≤ t.evd (t.nd (F i)) + t.mk_ (t.nd (F i)) := by
              by_cases hz' : t.md (t.nd (F i)) + t.mk_ (t.nd (F i)) = 0
              · have : t.evd (t.nd (F i)) = 1 := by unfold Tr.evd; rw [if_pos ⟨hK, hz'⟩]
                omega
              · have : t.evd (t.nd (F i)) = t.md (t.nd (F i)) := by unfold Tr.evd; rw [if_neg (fun h => hz' h.2)]
                omega
            omega
          · have e1 : u.evd (u.nd i) = u.md (u.nd i) := by unfold Tr.evd; rw [if_neg hz]
            omega
        exact Nat.add_le_add_left (Nat.mul_le_mul_left _ m3) 1
      · rw [if_neg h7, if_neg h7, k3, l1]
        exact Nat.le_refl _

theorem cost_u {t u : Tr} {F D P : Nat → Nat} (hc : CheckOk t) (hI : NI t u.ns.length 0 u.ns.length u.ns.length F D P) (hR : NodesR t F D P u.ns.length u.ns.length u.ns) (h0 : u.root = 0) {ct cu : Nat → Nat} (hct : IsCost t ct) (hcu : IsCost u cu) (i : Nat) (hi : i < u.ns.length) : cu i ≤ ct (F i) := by
  by_cases h : ∃ d, TAt u i d false
  · obtain ⟨d, h⟩ := h
    rw [(hcu i).1 ⟨d, h⟩, (hct (F i)).1 ⟨d, (tat_u hc hI hR h0 h).2⟩]
    exact wd_u hc hI hR h0 h
  · rw [(hcu i).2 h]
    exact Nat.zero_le _

theorem bnd_u {t u : Tr} {F D P : Nat → Nat} (hc : CheckOk t) (hI : NI t u.ns.length 0 u.ns.length u.ns.length F D P) (hR : NodesR t F D P u.ns.length u.ns.length u.ns) (h0 : u.root = 0) : Bnd u := by
  have hb : Bnd t := hc.bnd.resolve_left (by have := hI.f0; omega)
  refine ⟨fun p j k d e hp hk => ?_, fun cu hcu => ?_⟩
  · obtain ⟨x1, x2⟩ := tat_u hc hI hR h0 hp
    obtain ⟨y1, _⟩ := kid_u hc hI hR hk
    rw [(kind_u hc hI hR x1).2.2.2.2]
    exact hb.deep _ _ _ _ _ x2 y1
  · obtain ⟨ct, hct⟩ := cost_ex t
    have h1 := hb.words ct hct
    rw [sum_sm] at h1 ⊢
    have h2 := sm_le (g := cu) (h := fun i => ct (F i)) u.ns.length (fun i hi => cost_u hc hI hR h0 hct hcu i hi)
    have h3 := inj_sum u.ns.length ct hI.at_ hI.inj
    omega

theorem norm_check {t u : Tr} (hc : CheckOk t) (h : NormOf t u) : CheckOk u := by
  obtain ⟨h0, F, D, P, hI, hR⟩ := h
  have hl := hI.le
  have := hc.len
  have := hI.pos
  exact ⟨by omega, by omega, by omega, linked_u hc hI hR h0, .inr (bnd_u hc hI hR h0)⟩
end Go.Proofs.Ygcfac
