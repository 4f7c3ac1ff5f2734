import Derived.Test.YgcfacResolve
namespace Go.Proofs.Ygcfac
open Go.RowKit
set_option linter.unusedVariables false

/-- The boxed argument and the result's cell, behind a call. -/
theorem two_boxes {w w2 : World} {s t : TypeId} {k a d q c n k' a' d' q' c' n' : Int}
    (hg : Grows ((w.alloc (.cells #[.int .u8 k, .int .u16 a, .int .u8 d, .int .u8 q, .int .u8 c, .int .u16 n] s)).alloc (.cells #[.int .u8 k', .int .u16 a', .int .u8 d', .int .u8 q', .int .u8 c', .int .u16 n'] t)) w2) :
    Cell6 w2 w.heap.size k a d q c n ∧ Cell6 w2 (w.heap.size + 1) k' a' d' q' c' n' ∧ Grows w w2 :=
  ⟨Cell6.first (((Kept.refl _ _).alloc _).trans hg), Cell6.second hg, (((Kept.refl _ _).alloc _).alloc _).trans hg⟩

/-- read.Child. -/
def childI (f : Nat → Int) (n : Nat) (p : P) (i : Nat) : Option P :=
  bif (p.kind == 1) && insideI n p then (if p.ptrs ≤ (i : Int) then some ⟨0, 0, 0, 0, 0, 0⟩ else resolveI f n (p.at_ + p.data + i).toNat) else none

set_option maxRecDepth 10000 in
theorem child_no (a : Option Addr) (n c i : Nat) (pk at_ d q cd m : Int) (w : World) (hc : n ≤ 9223372036854775807) (hi : i < 256) (HH : Hid (∀ w, Calls Facg.prog 75 #[.slice a n c, .agg #[.int .u8 pk, .int .u16 at_, .int .u8 d, .int .u8 q, .int .u8 cd, .int .u16 m], .int .u8 1] w fun e w' => e = .returned (.bool false) ∧ Grows w w')) :
    Calls Facg.prog 32 #[.slice a n c, .agg #[.int .u8 pk, .int .u16 at_, .int .u8 d, .int .u8 q, .int .u8 cd, .int .u16 m], .int .u8 i] w fun e w' => e = .returned (resV (none)) ∧ Grows w w' := by
  go_enter Facg.func32, Facg.ntmps32
  go_wp2_with (first
    | (go_at_call 75; refine (HH.out _).mono ?_; rintro e w2 ⟨rfl, hg⟩; obtain ⟨⟨⟨p0, p1, p2, p3, p4, p5⟩, pf⟩, ⟨⟨z0, z1, z2, z3, z4, z5⟩, zf⟩, hgw⟩ := two_boxes hg; have HG := hide hgw; clear hg hgw))
  refine bodyPost_ret (v := resV (none)) (by simp [results, Facg.results32, go_sem, resV, z0, z1, z2, z3, z4, z5]) rfl ⟨rfl, ?_⟩
  exact HG.out.set6 (by omega) _ _ _ _ _ _

set_option maxRecDepth 10000 in
theorem child_null (a : Option Addr) (n c i : Nat) (pk at_ d q cd m : Int) (w : World) (hc : n ≤ 9223372036854775807) (hi : i < 256) (HH : Hid (∀ w, Calls Facg.prog 75 #[.slice a n c, .agg #[.int .u8 pk, .int .u16 at_, .int .u8 d, .int .u8 q, .int .u8 cd, .int .u16 m], .int .u8 1] w fun e w' => e = .returned (.bool true) ∧ Grows w w')) (hq : q ≤ (i : Int)) :
    Calls Facg.prog 32 #[.slice a n c, .agg #[.int .u8 pk, .int .u16 at_, .int .u8 d, .int .u8 q, .int .u8 cd, .int .u16 m], .int .u8 i] w fun e w' => e = .returned (resV (some ⟨0, 0, 0, 0, 0, 0⟩)) ∧ Grows w w' := by
  have e1 : decide (q ≤ (i : Int)) = true := decide_eq_true hq
  go_enter Facg.func32, Facg.ntmps32
  go_wp2_with (first
    | (go_at_call 75; refine (HH.out _).mono ?_; rintro e w2 ⟨rfl, hg⟩; obtain ⟨⟨⟨p0, p1, p2, p3, p4, p5⟩, pf⟩, ⟨⟨z0, z1, z2, z3, z4, z5⟩, zf⟩, hgw⟩ := two_boxes hg; have HG := hide hgw; clear hg hgw))
  refine bodyPost_ret (v := resV (some ⟨0, 0, 0, 0, 0, 0⟩)) (by simp [results, Facg.results32, go_sem, resV, z0, z1, z2, z3, z4, z5]) rfl ⟨rfl, ?_⟩
  exact HG.out.set6 (by omega) _ _ _ _ _ _

set_option maxRecDepth 10000 in
theorem child_go_none (a : Option Addr) (n c i : Nat) (pk at_ d q cd m : Int) (w : World) (hc : n ≤ 9223372036854775807) (hi : i < 256) (HH : Hid (∀ w, Calls Facg.prog 75 #[.slice a n c, .agg #[.int .u8 pk, .int .u16 at_, .int .u8 d, .int .u8 q, .int .u8 cd, .int .u16 m], .int .u8 1] w fun e w' => e = .returned (.bool true) ∧ Grows w w')) (hq : (i : Int) < q) (ha : 0 ≤ at_ ∧ at_ ≤ 256) (hd : 0 ≤ d ∧ d ≤ 8) (hq8 : q ≤ 8)
    (HR : Hid (∀ w' : World, Grows w w' → Calls Facg.prog 18 #[.slice a n c, .int .u16 (at_ + d + (i : Int))] w' fun e w2 => e = .returned (resV (none)) ∧ Grows w' w2)) :
    Calls Facg.prog 32 #[.slice a n c, .agg #[.int .u8 pk, .int .u16 at_, .int .u8 d, .int .u8 q, .int .u8 cd, .int .u16 m], .int .u8 i] w fun e w' => e = .returned (resV (none)) ∧ Grows w w' := by
  have e1 : decide (q ≤ (i : Int)) = false := decide_eq_false (by omega)
  unfold resV at HR
  simp only at HR
  go_enter Facg.func32, Facg.ntmps32
  go_wp2_with (first
    | (go_at_call 75; refine (HH.out _).mono ?_; rintro e w2 ⟨rfl, hg⟩; obtain ⟨⟨⟨p0, p1, p2, p3, p4, p5⟩, pf⟩, ⟨⟨z0, z1, z2, z3, z4, z5⟩, zf⟩, hgw⟩ := two_boxes hg; have HG := hide hgw; clear hg hgw)
    | (go_at_call 18; refine (HR.out _ HG.out).mono ?_; rintro e w3 ⟨rfl, hg⟩; obtain ⟨⟨y0, y1, y2, y3, y4, y5⟩, yf⟩ := Cell6.kept ⟨⟨z0, z1, z2, z3, z4, z5⟩, zf⟩ hg trivial; have HG3 := hide (HG.out.trans hg); clear hg z0 z1 z2 z3 z4 z5 zf))
  refine bodyPost_ret (v := resV (none)) (by simp [results, Facg.results32, go_sem, resV, y0, y1, y2, y3, y4, y5]) rfl ⟨rfl, ?_⟩
  exact HG3.out.set6 (by omega) _ _ _ _ _ _

set_option maxRecDepth 10000 in
theorem child_go_some (a : Option Addr) (n c i : Nat) (pk at_ d q cd m : Int) (w : World) (hc : n ≤ 9223372036854775807) (hi : i < 256) (HH : Hid (∀ w, Calls Facg.prog 75 #[.slice a n c, .agg #[.int .u8 pk, .int .u16 at_, .int .u8 d, .int .u8 q, .int .u8 cd, .int .u16 m], .int .u8 1] w fun e w' => e = .returned (.bool true) ∧ Grows w w')) (hq : (i : Int) < q) (ha : 0 ≤ at_ ∧ at_ ≤ 256) (hd : 0 ≤ d ∧ d ≤ 8) (hq8 : q ≤ 8) (rk ra rd rq rc rn : Int)
    (HR : Hid (∀ w' : World, Grows w w' → Calls Facg.prog 18 #[.slice a n c, .int .u16 (at_ + d + (i : Int))] w' fun e w2 => e = .returned (resV (some ⟨rk, ra, rd, rq, rc, rn⟩)) ∧ Grows w' w2)) :
    Calls Facg.prog 32 #[.slice a n c, .agg #[.int .u8 pk, .int .u16 at_, .int .u8 d, .int .u8 q, .int .u8 cd, .int .u16 m], .int .u8 i] w fun e w' => e = .returned (resV (some ⟨rk, ra, rd, rq, rc, rn⟩)) ∧ Grows w w' := by
  have e1 : decide (q ≤ (i : Int)) = false := decide_eq_false (by omega)
  unfold resV at HR
  simp only at HR
  go_enter Facg.func32, Facg.ntmps32
  go_wp2_with (first
    | (go_at_call 75; refine (HH.out _).mono ?_; rintro e w2 ⟨rfl, hg⟩; obtain ⟨⟨⟨p0, p1, p2, p3, p4, p5⟩, pf⟩, ⟨⟨z0, z1, z2, z3, z4, z5⟩, zf⟩, hgw⟩ := two_boxes hg; have HG := hide hgw; clear hg hgw)
    | (go_at_call 18; refine (HR.out _ HG.out).mono ?_; rintro e w3 ⟨rfl, hg⟩; obtain ⟨⟨y0, y1, y2, y3, y4, y5⟩, yf⟩ := Cell6.kept ⟨⟨z0, z1, z2, z3, z4, z5⟩, zf⟩ hg trivial; have HG3 := hide (HG.out.trans hg); clear hg z0 z1 z2 z3 z4 z5 zf))
  refine bodyPost_ret (v := resV (some ⟨rk, ra, rd, rq, rc, rn⟩)) (by simp [results, Facg.results32, go_sem, resV, y0, y1, y2, y3, y4, y5]) rfl ⟨rfl, ?_⟩
  exact HG3.out.set6 (by omega) _ _ _ _ _ _

theorem inside_kind1 {n : Nat} {p : P} (h : p.Ok) (hin : insideI n p = true) (hk : p.kind = 1) : n ≤ 256 ∧ p.at_ ≤ n ∧ p.data ≤ 8 ∧ p.ptrs ≤ 8 ∧ wordsI p = p.data + p.ptrs ∧ p.at_ + p.data + p.ptrs ≤ n := by
  have hb := pwords_bd p h
  have h0 := h.at_
  have h1 := h.data
  have h2 := h.ptrs
  unfold insideI P.first at hin
  rw [if_neg (by omega)] at hin
  simp at hin
  have hw : wordsI p = if p.sized = true then p.data + p.ptrs else 257 := by
    unfold wordsI
    rw [if_neg (by omega)]
    by_cases hs : p.sized = true
    · rw [if_pos ⟨hk, hs⟩, if_pos hs]
    · rw [if_neg (by intro x; exact hs x.2), if_neg hs, if_pos (.inl (by omega))]
  by_cases hs : p.sized = true
  · rw [if_pos hs] at hw
    simp [P.sized] at hs
    omega
  · rw [if_neg hs] at hw
    omega

theorem child_any (a : Option Addr) (n c i : Nat) (f : Nat → Int) (p : P) (w : World) (h : p.Ok) (hc : n ≤ 9223372036854775807) (hi : i < 256) (hA : ArenaAt w a n f) :
    Calls Facg.prog 32 #[.slice a n c, p.val, .int .u8 i] w fun e w' => e = .returned (resV (childI f n p i)) ∧ Grows w w' := by
  have HH := hide (fun w => holds_any a n c p 1 w h hc)
  unfold childI
  cases hh : (p.kind == 1) && insideI n p with
  | false =>
    rw [hh] at HH
    exact child_no a n c i p.kind p.at_ p.data p.ptrs p.code p.count w hc hi HH
  | true =>
    rw [hh] at HH
    rw [Bool.and_eq_true, beq_iff_eq] at hh
    obtain ⟨g1, g2, g3, g4, g5, g6⟩ := inside_kind1 h hh.2 hh.1
    have h0 := h.at_
    have h1 := h.data
    simp only [cond_true]
    by_cases hq : p.ptrs ≤ (i : Int)
    · rw [if_pos hq]
      exact child_null a n c i p.kind p.at_ p.data p.ptrs p.code p.count w hc hi HH hq
    · rw [if_neg hq]
      obtain ⟨j, hj⟩ := Int.eq_ofNat_of_zero_le (show 0 ≤ p.at_ + p.data + i by omega)
      have H := hide (fun w' (hg : Grows w w') => resolve_any a n c j f w' hc (by omega) (hA.grows hg))
      rw [hj]
      simp only [Int.toNat_natCast]
      cases hr : resolveI f n j with
      | none =>
        rw [hr] at H
        exact child_go_none a n c i p.kind p.at_ p.data p.ptrs p.code p.count w hc hi HH (by omega) (by omega) (by omega) (by omega) (by rw [hj]; exact H)
      | some r =>
        rw [hr] at H
        exact child_go_some a n c i p.kind p.at_ p.data p.ptrs p.code p.count w hc hi HH (by omega) (by omega) (by omega) (by omega) r.kind r.at_ r.data r.ptrs r.code r.count (by rw [hj]; exact H)

/-- read.ElemPtr. -/
def elemI (f : Nat → Int) (n : Nat) (p : P) (i : Nat) : Option P :=
  if p.count ≤ (i : Int) then none
  else bif (p.kind == 2) && insideI n p then
    (if p.code = 6 then resolveI f n (p.at_ + i).toNat
     else if p.code = 7 then some ⟨1, p.at_ + i * (p.data + p.ptrs), p.data, p.ptrs, 0, 0⟩ else none)
  else none

set_option maxRecDepth 10000 in
theorem elem_beyond (a : Option Addr) (n c i : Nat) (pk at_ d q cd m : Int) (w : World) (hc : n ≤ 9223372036854775807) (hi : i < 65536) (hm : m ≤ (i : Int)) :
    Calls Facg.prog 33 #[.slice a n c, .agg #[.int .u8 pk, .int .u16 at_, .int .u8 d, .int .u8 q, .int .u8 cd, .int .u16 m], .int .u16 i] w fun e w' => e = .returned (resV (none)) ∧ Grows w w' := by
  have e1 : decide (m ≤ (i : Int)) = true := decide_eq_true hm
  go_enter Facg.func33, Facg.ntmps33
  go_wp2
  refine bodyPost_ret (v := resV (none)) (by simp [results, Facg.results33, go_sem, resV]) rfl ⟨rfl, ?_⟩
  exact ((Kept.refl _ _).alloc _).alloc _

set_option maxRecDepth 10000 in
theorem elem_no (a : Option Addr) (n c i : Nat) (pk at_ d q cd m : Int) (w : World) (hc : n ≤ 9223372036854775807) (hi : i < 65536) (hm : (i : Int) < m) (HH : Hid (∀ w, Calls Facg.prog 75 #[.slice a n c, .agg #[.int .u8 pk, .int .u16 at_, .int .u8 d, .int .u8 q, .int .u8 cd, .int .u16 m], .int .u8 2] w fun e w' => e = .returned (.bool false) ∧ Grows w w')) :
    Calls Facg.prog 33 #[.slice a n c, .agg #[.int .u8 pk, .int .u16 at_, .int .u8 d, .int .u8 q, .int .u8 cd, .int .u16 m], .int .u16 i] w fun e w' => e = .returned (resV (none)) ∧ Grows w w' := by
  have e1 : decide (m ≤ (i : Int)) = false := decide_eq_false (by omega)
  go_enter Facg.func33, Facg.ntmps33
  go_wp2_with (first
    | (go_at_call 75; refine (HH.out _).mono ?_; rintro e w2 ⟨rfl, hg⟩; obtain ⟨⟨⟨p0, p1, p2, p3, p4, p5⟩, pf⟩, ⟨⟨z0, z1, z2, z3, z4, z5⟩, zf⟩, hgw⟩ := two_boxes hg; have HG := hide hgw; clear hg hgw))
  refine bodyPost_ret (v := resV (none)) (by simp [results, Facg.results33, go_sem, resV, z0, z1, z2, z3, z4, z5]) rfl ⟨rfl, ?_⟩
  exact HG.out.set6 (by omega) _ _ _ _ _ _

set_option maxRecDepth 10000 in
theorem elem_other (a : Option Addr) (n c i : Nat) (pk at_ d q cd m : Int) (w : World) (hc : n ≤ 9223372036854775807) (hi : i < 65536) (hm : (i : Int) < m) (HH : Hid (∀ w, Calls Facg.prog 75 #[.slice a n c, .agg #[.int .u8 pk, .int .u16 at_, .int .u8 d, .int .u8 q, .int .u8 cd, .int .u16 m], .int .u8 2] w fun e w' => e = .returned (.bool true) ∧ Grows w w')) (h6 : ¬ cd = 6) (h7 : ¬ cd = 7) :
    Calls Facg.prog 33 #[.slice a n c, .agg #[.int .u8 pk, .int .u16 at_, .int .u8 d, .int .u8 q, .int .u8 cd, .int .u16 m], .int .u16 i] w fun e w' => e = .returned (resV (none)) ∧ Grows w w' := by
  have e1 : decide (m ≤ (i : Int)) = false := decide_eq_false (by omega)
  have e6 : (cd == 6) = false := by rw [beq_eq_false_iff_ne]; exact h6
  have e7 : (cd == 7) = false := by rw [beq_eq_false_iff_ne]; exact h7
  go_enter Facg.func33, Facg.ntmps33
  go_wp2_with (first
    | (go_at_call 75; refine (HH.out _).mono ?_; rintro e w2 ⟨rfl, hg⟩; obtain ⟨⟨⟨p0, p1, p2, p3, p4, p5⟩, pf⟩, ⟨⟨z0, z1, z2, z3, z4, z5⟩, zf⟩, hgw⟩ := two_boxes hg; have HG := hide hgw; clear hg hgw))
  refine bodyPost_ret (v := resV (none)) (by simp [results, Facg.results33, go_sem, resV, z0, z1, z2, z3, z4, z5]) rfl ⟨rfl, ?_⟩
  exact HG.out.set6 (by omega) _ _ _ _ _ _

set_option maxRecDepth 10000 in
theorem elem_7 (a : Option Addr) (n c i : Nat) (pk at_ d q cd m : Int) (w : World) (hc : n ≤ 9223372036854775807) (hi : i < 65536) (hm : (i : Int) < m) (HH : Hid (∀ w, Calls Facg.prog 75 #[.slice a n c, .agg #[.int .u8 pk, .int .u16 at_, .int .u8 d, .int .u8 q, .int .u8 cd, .int .u16 m], .int .u8 2] w fun e w' => e = .returned (.bool true) ∧ Grows w w')) (h7 : cd = 7) (ha : 0 ≤ at_ ∧ at_ ≤ 257) (hd : 0 ≤ d ∧ d ≤ 8) (hq : 0 ≤ q ∧ q ≤ 8) (hmu : 0 ≤ (i : Int) * (d + q) ∧ (i : Int) * (d + q) ≤ 2048) :
    Calls Facg.prog 33 #[.slice a n c, .agg #[.int .u8 pk, .int .u16 at_, .int .u8 d, .int .u8 q, .int .u8 cd, .int .u16 m], .int .u16 i] w fun e w' => e = .returned (resV (some ⟨1, at_ + i * (d + q), d, q, 0, 0⟩)) ∧ Grows w w' := by
  have e1 : decide (m ≤ (i : Int)) = false := decide_eq_false (by omega)
  subst h7
  go_enter Facg.func33, Facg.ntmps33
  go_wp2_with (first
    | (go_at_call 75; refine (HH.out _).mono ?_; rintro e w2 ⟨rfl, hg⟩; obtain ⟨⟨⟨p0, p1, p2, p3, p4, p5⟩, pf⟩, ⟨⟨z0, z1, z2, z3, z4, z5⟩, zf⟩, hgw⟩ := two_boxes hg; have HG := hide hgw; clear hg hgw))
  refine bodyPost_ret (v := resV (some ⟨1, at_ + i * (d + q), d, q, 0, 0⟩)) (by simp [results, Facg.results33, go_sem, resV, z0, z1, z2, z3, z4, z5]) rfl ⟨rfl, ?_⟩
  exact HG.out.set6 (by omega) _ _ _ _ _ _

set_option maxRecDepth 10000 in
theorem elem_6_none (a : Option Addr) (n c i : Nat) (pk at_ d q cd m : Int) (w : World) (hc : n ≤ 9223372036854775807) (hi : i < 65536) (hm : (i : Int) < m) (HH : Hid (∀ w, Calls Facg.prog 75 #[.slice a n c, .agg #[.int .u8 pk, .int .u16 at_, .int .u8 d, .int .u8 q, .int .u8 cd, .int .u16 m], .int .u8 2] w fun e w' => e = .returned (.bool true) ∧ Grows w w')) (h6 : cd = 6) (hb : 0 ≤ at_ + (i : Int) ∧ at_ + (i : Int) < 65536)
    (HR : Hid (∀ w' : World, Grows w w' → Calls Facg.prog 18 #[.slice a n c, .int .u16 (at_ + (i : Int))] w' fun e w2 => e = .returned (resV (none)) ∧ Grows w' w2)) :
    Calls Facg.prog 33 #[.slice a n c, .agg #[.int .u8 pk, .int .u16 at_, .int .u8 d, .int .u8 q, .int .u8 cd, .int .u16 m], .int .u16 i] w fun e w' => e = .returned (resV (none)) ∧ Grows w w' := by
  have e1 : decide (m ≤ (i : Int)) = false := decide_eq_false (by omega)
  subst h6
  unfold resV at HR
  simp only at HR
  go_enter Facg.func33, Facg.ntmps33
  go_wp2_with (first
    | (go_at_call 75; refine (HH.out _).mono ?_; rintro e w2 ⟨rfl, hg⟩; obtain ⟨⟨⟨p0, p1, p2, p3, p4, p5⟩, pf⟩, ⟨⟨z0, z1, z2, z3, z4, z5⟩, zf⟩, hgw⟩ := two_boxes hg; have HG := hide hgw; clear hg hgw)
    | (go_at_call 18; refine (HR.out _ HG.out).mono ?_; rintro e w3 ⟨rfl, hg⟩; obtain ⟨⟨y0, y1, y2, y3, y4, y5⟩, yf⟩ := Cell6.kept ⟨⟨z0, z1, z2, z3, z4, z5⟩, zf⟩ hg trivial; have HG3 := hide (HG.out.trans hg); clear hg z0 z1 z2 z3 z4 z5 zf))
  refine bodyPost_ret (v := resV (none)) (by simp [results, Facg.results33, go_sem, resV, y0, y1, y2, y3, y4, y5]) rfl ⟨rfl, ?_⟩
  exact HG3.out.set6 (by omega) _ _ _ _ _ _

set_option maxRecDepth 10000 in
theorem elem_6_some (a : Option Addr) (n c i : Nat) (pk at_ d q cd m : Int) (w : World) (hc : n ≤ 9223372036854775807) (hi : i < 65536) (hm : (i : Int) < m) (HH : Hid (∀ w, Calls Facg.prog 75 #[.slice a n c, .agg #[.int .u8 pk, .int .u16 at_, .int .u8 d, .int .u8 q, .int .u8 cd, .int .u16 m], .int .u8 2] w fun e w' => e = .returned (.bool true) ∧ Grows w w')) (h6 : cd = 6) (hb : 0 ≤ at_ + (i : Int) ∧ at_ + (i : Int) < 65536) (rk ra rd rq rc rn : Int)
    (HR : Hid (∀ w' : World, Grows w w' → Calls Facg.prog 18 #[.slice a n c, .int .u16 (at_ + (i : Int))] w' fun e w2 => e = .returned (resV (some ⟨rk, ra, rd, rq, rc, rn⟩)) ∧ Grows w' w2)) :
    Calls Facg.prog 33 #[.slice a n c, .agg #[.int .u8 pk, .int .u16 at_, .int .u8 d, .int .u8 q, .int .u8 cd, .int .u16 m], .int .u16 i] w fun e w' => e = .returned (resV (some ⟨rk, ra, rd, rq, rc, rn⟩)) ∧ Grows w w' := by
  have e1 : decide (m ≤ (i : Int)) = false := decide_eq_false (by omega)
  subst h6
  unfold resV at HR
  simp only at HR
  go_enter Facg.func33, Facg.ntmps33
  go_wp2_with (first
    | (go_at_call 75; refine (HH.out _).mono ?_; rintro e w2 ⟨rfl, hg⟩; obtain ⟨⟨⟨p0, p1, p2, p3, p4, p5⟩, pf⟩, ⟨⟨z0, z1, z2, z3, z4, z5⟩, zf⟩, hgw⟩ := two_boxes hg; have HG := hide hgw; clear hg hgw)
    | (go_at_call 18; refine (HR.out _ HG.out).mono ?_; rintro e w3 ⟨rfl, hg⟩; obtain ⟨⟨y0, y1, y2, y3, y4, y5⟩, yf⟩ := Cell6.kept ⟨⟨z0, z1, z2, z3, z4, z5⟩, zf⟩ hg trivial; have HG3 := hide (HG.out.trans hg); clear hg z0 z1 z2 z3 z4 z5 zf))
  refine bodyPost_ret (v := resV (some ⟨rk, ra, rd, rq, rc, rn⟩)) (by simp [results, Facg.results33, go_sem, resV, y0, y1, y2, y3, y4, y5]) rfl ⟨rfl, ?_⟩
  exact HG3.out.set6 (by omega) _ _ _ _ _ _

theorem inside_kind2 {n : Nat} {p : P} (h : p.Ok) (hin : insideI n p = true) (hk : p.kind = 2) : n ≤ 256 ∧ p.count ≤ 128 ∧ p.first + wordsI p ≤ n ∧ (wordsI p = 0 ∨ 1 ≤ p.first) := by
  have hb := pwords_bd p h
  have h0 := h.at_
  unfold insideI at hin
  simp at hin
  refine ⟨by omega, ?_, by omega, by omega⟩
  by_cases hc : p.count ≤ 128
  · exact hc
  · have : wordsI p = 257 := by
      unfold wordsI
      rw [if_neg (by omega), if_neg (by omega), if_pos (.inr (by omega))]
    unfold P.first at hin
    split at hin <;> omega

theorem words_code7 {p : P} (hk : p.kind = 2) (hc : p.count ≤ 128) (h7 : p.code = 7) (hle : wordsI p ≤ 256) : p.data ≤ 8 ∧ p.ptrs ≤ 8 ∧ wordsI p = 1 + p.count * (p.data + p.ptrs) := by
  have e : wordsI p = if p.sized = true then (if 257 < 1 + p.count * (p.data + p.ptrs) then 257 else 1 + p.count * (p.data + p.ptrs)) else 257 := by
    unfold wordsI
    rw [if_neg (by omega), if_neg (by omega), if_neg (by omega), if_neg (by omega), if_neg (by omega)]
    by_cases hs : p.sized = true
    · rw [if_pos ⟨h7, hs⟩, if_pos hs]
    · rw [if_neg (by intro x; exact hs x.2), if_neg hs]
  by_cases hs : p.sized = true
  · rw [if_pos hs] at e
    simp [P.sized] at hs
    refine ⟨hs.1, hs.2, ?_⟩
    split at e <;> omega
  · rw [if_neg hs] at e
    omega

theorem words_code6 {p : P} (hk : p.kind = 2) (hc : p.count ≤ 128) (h6 : p.code = 6) : wordsI p = p.count := by
  unfold wordsI
  rw [if_neg (by omega), if_neg (by omega), if_neg (by omega), if_neg (by omega), if_pos h6]

theorem elem_any (a : Option Addr) (n c i : Nat) (f : Nat → Int) (p : P) (w : World) (h : p.Ok) (hc : n ≤ 9223372036854775807) (hi : i < 65536) (hA : ArenaAt w a n f) :
    Calls Facg.prog 33 #[.slice a n c, p.val, .int .u16 i] w fun e w' => e = .returned (resV (elemI f n p i)) ∧ Grows w w' := by
  have HH := hide (fun w => holds_any a n c p 2 w h hc)
  unfold elemI
  by_cases hm : p.count ≤ (i : Int)
  · rw [if_pos hm]
    exact elem_beyond a n c i p.kind p.at_ p.data p.ptrs p.code p.count w hc hi hm
  rw [if_neg hm]
  cases hh : (p.kind == 2) && insideI n p with
  | false =>
    rw [hh] at HH
    exact elem_no a n c i p.kind p.at_ p.data p.ptrs p.code p.count w hc hi (by omega) HH
  | true =>
    rw [hh] at HH
    rw [Bool.and_eq_true, beq_iff_eq] at hh
    obtain ⟨g1, g2, g3, g4⟩ := inside_kind2 h hh.2 hh.1
    have h0 := h.at_
    have h1 := h.data
    have h2 := h.ptrs
    have hb := pwords_bd p h
    simp only [cond_true]
    by_cases h6 : p.code = 6
    · rw [if_pos h6]
      have hw := words_code6 hh.1 g2 h6
      unfold P.first at g3
      rw [if_neg (by omega)] at g3
      obtain ⟨j, hj⟩ := Int.eq_ofNat_of_zero_le (show 0 ≤ p.at_ + i by omega)
      have H := hide (fun w' (hg : Grows w w') => resolve_any a n c j f w' hc (by omega) (hA.grows hg))
      rw [hj]
      simp only [Int.toNat_natCast]
      cases hr : resolveI f n j with
      | none =>
        rw [hr] at H
        exact elem_6_none a n c i p.kind p.at_ p.data p.ptrs p.code p.count w hc hi (by omega) HH h6 (by omega) (by rw [hj]; exact H)
      | some r =>
        rw [hr] at H
        exact elem_6_some a n c i p.kind p.at_ p.data p.ptrs p.code p.count w hc hi (by omega) HH h6 (by omega) r.kind r.at_ r.data r.ptrs r.code r.count (by rw [hj]; exact H)
    rw [if_neg h6]
    by_cases h7 : p.code = 7
    · rw [if_pos h7]
      unfold P.first at g3 g4
      rw [if_pos ⟨hh.1, h7⟩] at g3 g4
      have hfirst : p.at_ - 1 + wordsI p ≤ n := g3
      obtain ⟨k1, k2, k3⟩ := words_code7 hh.1 g2 h7 (by omega)
      have m0 : 0 ≤ (i : Int) * (p.data + p.ptrs) := Int.mul_nonneg (by omega) (by omega)
      have m1 : (i : Int) * (p.data + p.ptrs) ≤ 2048 := Int.le_trans (Int.mul_le_mul (by omega : (i : Int) ≤ 128) (by omega : p.data + p.ptrs ≤ 16) (by omega) (by decide)) (by decide)
      exact elem_7 a n c i p.kind p.at_ p.data p.ptrs p.code p.count w hc hi (by omega) HH h7 (by omega) ⟨h1.1, k1⟩ ⟨h2.1, k2⟩ ⟨m0, m1⟩
    rw [if_neg h7]
    exact elem_other a n c i p.kind p.at_ p.data p.ptrs p.code p.count w hc hi (by omega) HH h6 h7
end Go.Proofs.Ygcfac
