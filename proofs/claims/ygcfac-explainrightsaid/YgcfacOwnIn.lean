import Derived.Test.YgcfacOwnW3
import Derived.Deep.RegionHeld
import Derived.Deep.DeepCutAuto
namespace Go.Proofs.Ygcfac
open Go.RowKit
set_option linter.unusedVariables false

theorem ownWords_any (p : P) (h : p.Ok) (w : World) :
    Calls Facg.prog 21 #[p.val] w fun e w' => e = .returned (.int .i64 (wordsI p)) ∧ Grows w w' := by
  obtain ⟨k, a, d, q, c, n⟩ := p
  obtain ⟨hk, ha, hd, hq, hc, hn⟩ := h
  simp only at hk ha hd hq hc hn
  by_cases k0 : k = 0
  · subst k0
    have e : wordsI ⟨0, a, d, q, c, n⟩ = 0 := rfl
    rw [e]; exact ow_0 a d q c n w hd hq _ _ rfl rfl
  by_cases k1 : k = 1
  · subst k1
    have e : wordsI ⟨1, a, d, q, c, n⟩ = if decide (d ≤ 8) && decide (q ≤ 8) then d + q else 257 := by
      simp only [wordsI, P.sized]
      rw [if_neg (by decide)]
      by_cases h : (decide (d ≤ 8) && decide (q ≤ 8)) = true
      · rw [if_pos (by exact ⟨trivial, h⟩), if_pos h]
      · rw [if_neg (by intro x; exact h x.2), if_neg h, if_pos (.inl (by decide))]
    rw [e]; exact ow_1 a d q c n w hd hq _ _ rfl rfl
  by_cases k2 : k = 2
  · subst k2
    by_cases hn2 : 128 < n
    · have e : wordsI ⟨2, a, d, q, c, n⟩ = 257 := by
        simp only [wordsI]
        rw [if_neg (by decide), if_neg (by simp), if_pos (.inr hn2)]
      rw [e]; exact ow_n a d q c n w hn2 hd hq _ _ rfl rfl
    have e1 : wordsI ⟨2, a, d, q, c, n⟩ = if 2 ≤ c ∧ c ≤ 5 then (n * 2 ^ (c - 2).toNat + 7) / 8 else if c = 6 then n
        else if c = 7 ∧ (P.mk 2 a d q c n).sized = true then (if 257 < 1 + n * (d + q) then 257 else 1 + n * (d + q)) else 257 := by
      simp only [wordsI]
      rw [if_neg (by decide), if_neg (by simp), if_neg (by omega)]
    rw [e1]
    by_cases hc2 : 2 ≤ c ∧ c ≤ 5
    · rw [if_pos hc2]
      have hcc : c = 2 ∨ c = 3 ∨ c = 4 ∨ c = 5 := by omega
      rcases hcc with rfl | rfl | rfl | rfl
      · have := ow_2_2 a d q n w hn.1 (by omega) hd hq _ _ rfl rfl
        simpa using this
      · exact ow_2_3 a d q n w hn.1 (by omega) hd hq _ _ rfl rfl
      · exact ow_2_4 a d q n w hn.1 (by omega) hd hq _ _ rfl rfl
      · exact ow_2_5 a d q n w hn.1 (by omega) hd hq _ _ rfl rfl
    rw [if_neg hc2]
    by_cases hc6 : c = 6
    · subst hc6
      rw [if_pos rfl]
      exact ow_6 a d q n w hn.1 (by omega) hd hq _ _ rfl rfl
    rw [if_neg hc6]
    by_cases hc7 : c = 7
    · subst hc7
      by_cases hs : d ≤ 8 ∧ q ≤ 8
      · rw [if_pos ⟨rfl, by simp [P.sized, hs]⟩]
        exact ow_7 a d q n w hn.1 (by omega) ⟨hd.1, hs.1⟩ ⟨hq.1, hs.2⟩
      · rw [if_neg (by intro x; apply hs; simpa [P.sized] using x.2)]
        exact ow_7n a d q n w (by omega) hd hq (by omega)
    rw [if_neg (by intro x; exact hc7 x.1)]
    exact ow_c a d q c n w (by omega) (by omega) hd hq _ _ rfl rfl
  have e : wordsI ⟨k, a, d, q, c, n⟩ = 257 := by
    simp only [wordsI]
    rw [if_neg k0, if_neg (by intro x; exact k1 x.1), if_pos (.inl k2)]
  rw [e]; exact ow_k k a d q c n w k0 k1 k2 hd hq _ _ rfl rfl

/-- The six cells of a boxed Ptr. -/
def BoxP (w : World) (B : Nat) (p : P) : Prop :=
  w.cell? ⟨B, 0, none⟩ = some (.int .u8 p.kind) ∧ w.cell? ⟨B, 1, none⟩ = some (.int .u16 p.at_) ∧ w.cell? ⟨B, 2, none⟩ = some (.int .u8 p.data) ∧ w.cell? ⟨B, 3, none⟩ = some (.int .u8 p.ptrs) ∧ w.cell? ⟨B, 4, none⟩ = some (.int .u8 p.code) ∧ w.cell? ⟨B, 5, none⟩ = some (.int .u16 p.count)
theorem BoxP.kept {q : Nat → Prop} {w w' : World} {B : Nat} {p : P} (h : BoxP w B p) (hk : Kept q w w') (hq : q B) : BoxP w' B p :=
  ⟨hk.cell h.1 hq, hk.cell h.2.1 hq, hk.cell h.2.2.1 hq, hk.cell h.2.2.2.1 hq, hk.cell h.2.2.2.2.1 hq, hk.cell h.2.2.2.2.2 hq⟩
theorem BoxP.box (w : World) (p : P) (t : TypeId) : BoxP (w.alloc (.cells #[.int .u8 p.kind, .int .u16 p.at_, .int .u8 p.data, .int .u8 p.ptrs, .int .u8 p.code, .int .u16 p.count] t)) w.heap.size p :=
  ⟨box_cell w _ t 0 _ rfl, box_cell w _ t 1 _ rfl, box_cell w _ t 2 _ rfl, box_cell w _ t 3 _ rfl, box_cell w _ t 4 _ rfl, box_cell w _ t 5 _ rfl⟩

/-- What the draw's region holds on to: the box's cells, said out. -/
theorem held6 {W0 w' : World} {B : Nat} {k a d q c n : Int} (hg : Grows W0 w') (h : BoxP W0 B ⟨k, a, d, q, c, n⟩) :
    Grows W0 w' ∧ w'.cell? ⟨B, 0, none⟩ = some (.int .u8 k) ∧ w'.cell? ⟨B, 1, none⟩ = some (.int .u16 a) ∧ w'.cell? ⟨B, 2, none⟩ = some (.int .u8 d) ∧ w'.cell? ⟨B, 3, none⟩ = some (.int .u8 q) ∧ w'.cell? ⟨B, 4, none⟩ = some (.int .u8 c) ∧ w'.cell? ⟨B, 5, none⟩ = some (.int .u16 n) :=
  ⟨hg, h.kept hg trivial⟩


set_option maxHeartbeats 1000000 in
set_option maxRecDepth 10000 in
theorem oi_big (n : Nat) (k at_ d q cd m : Int) (w : World) (h : (P.mk k at_ d q cd m).Ok) (hn : 256 < n) (hc : n ≤ 9223372036854775807) (W : Int) (hW : wordsI (P.mk k at_ d q cd m) = W) :
    Calls Facg.prog 31 #[.int .i64 n, (P.mk k at_ d q cd m).val] w fun e w' => e = .returned (.bool (false)) ∧ Grows w w' := by
  have HW := hide (fun w => ownWords_any _ h w)
  have hb := pwords_bd _ h
  have hat := h.at_
  simp only at hat
  rw [hW] at HW hb
  have HWR : Hid (IntKind.i64.wrap at_ = at_) := by unfold Hid; rw [IntKind.wrap_i64]; omega
  clear hW h
  have e1 : decide ((256 : Int) < (n : Int)) = true := decide_eq_true (by omega)
  have HBX := hide (BoxP.box w (P.mk k at_ d q cd m) 31)
  unfold P.val at *
  go_enter Facg.func31, Facg.ntmps31
  go_wp2
  go_cut [5, 6] (fun s5 s6 wc => s5 = .int .i64 at_ ∧ s6 = .int .i64 W ∧ Grows (w.alloc (.cells #[.int .u8 k, .int .u16 at_, .int .u8 d, .int .u8 q, .int .u8 cd, .int .u16 m] 31)) wc)
  case first =>
    go_region_held (fun w' => Grows (w.alloc (.cells #[.int .u8 k, .int .u16 at_, .int .u8 d, .int .u8 q, .int .u8 cd, .int .u16 m] 31)) w' ∧ w'.cell? ⟨w.heap.size, 0, none⟩ = some (.int .u8 k) ∧ w'.cell? ⟨w.heap.size, 1, none⟩ = some (.int .u16 at_) ∧ w'.cell? ⟨w.heap.size, 2, none⟩ = some (.int .u8 d) ∧ w'.cell? ⟨w.heap.size, 3, none⟩ = some (.int .u8 q) ∧ w'.cell? ⟨w.heap.size, 4, none⟩ = some (.int .u8 cd) ∧ w'.cell? ⟨w.heap.size, 5, none⟩ = some (.int .u16 m))
      ((first | assumption | exact held6 (Kept.refl _ _).drew HBX.out | exact held6 (Kept.trans (And.left (by assumption)) hg) HBX.out))
      ((go_at_call 21; refine (HW.out _).mono ?_; rintro e wA ⟨rfl, hg⟩))
    all_goals go_wp2
    all_goals go_meet
    all_goals exact ⟨congrArg (Value.int IntKind.i64) HWR.out, rfl, And.left (by assumption)⟩
  case rest =>
    obtain ⟨rfl, rfl, hg⟩ := hcut
    have HG := hide hg
    obtain ⟨c0, c1, c2, c3, c4, c5⟩ := HBX.out.kept hg trivial
    simp only at c0 c1 c2 c3 c4 c5
    clear hg HBX HW HWR
    all_goals
      go_wp2
      go_ret
      exact ⟨rfl, ((Kept.refl _ _).alloc _).trans HG.out⟩

set_option maxHeartbeats 1000000 in
set_option maxRecDepth 10000 in
theorem oi_kind (n : Nat) (k at_ d q cd m : Int) (w : World) (h : (P.mk k at_ d q cd m).Ok) (hn : n ≤ 256) (h1 : ¬ k = 1) (h2 : ¬ k = 2) (W : Int) (hW : wordsI (P.mk k at_ d q cd m) = W) :
    Calls Facg.prog 31 #[.int .i64 n, (P.mk k at_ d q cd m).val] w fun e w' => e = .returned (.bool (false)) ∧ Grows w w' := by
  have HW := hide (fun w => ownWords_any _ h w)
  have hb := pwords_bd _ h
  have hat := h.at_
  simp only at hat
  rw [hW] at HW hb
  have HWR : Hid (IntKind.i64.wrap at_ = at_) := by unfold Hid; rw [IntKind.wrap_i64]; omega
  clear hW h
  have e1 : decide ((256 : Int) < (n : Int)) = false := decide_eq_false (by omega)
  have e2 : (k != 1) = true := by rw [bne_iff_ne]; exact h1
  have e3 : (k != 2) = true := by rw [bne_iff_ne]; exact h2
  have HBX := hide (BoxP.box w (P.mk k at_ d q cd m) 31)
  unfold P.val at *
  go_enter Facg.func31, Facg.ntmps31
  go_wp2
  go_cut [5, 6] (fun s5 s6 wc => s5 = .int .i64 at_ ∧ s6 = .int .i64 W ∧ Grows (w.alloc (.cells #[.int .u8 k, .int .u16 at_, .int .u8 d, .int .u8 q, .int .u8 cd, .int .u16 m] 31)) wc)
  case first =>
    go_region_held (fun w' => Grows (w.alloc (.cells #[.int .u8 k, .int .u16 at_, .int .u8 d, .int .u8 q, .int .u8 cd, .int .u16 m] 31)) w' ∧ w'.cell? ⟨w.heap.size, 0, none⟩ = some (.int .u8 k) ∧ w'.cell? ⟨w.heap.size, 1, none⟩ = some (.int .u16 at_) ∧ w'.cell? ⟨w.heap.size, 2, none⟩ = some (.int .u8 d) ∧ w'.cell? ⟨w.heap.size, 3, none⟩ = some (.int .u8 q) ∧ w'.cell? ⟨w.heap.size, 4, none⟩ = some (.int .u8 cd) ∧ w'.cell? ⟨w.heap.size, 5, none⟩ = some (.int .u16 m))
      ((first | assumption | exact held6 (Kept.refl _ _).drew HBX.out | exact held6 (Kept.trans (And.left (by assumption)) hg) HBX.out))
      ((go_at_call 21; refine (HW.out _).mono ?_; rintro e wA ⟨rfl, hg⟩))
    all_goals go_wp2
    all_goals go_meet
    all_goals exact ⟨congrArg (Value.int IntKind.i64) HWR.out, rfl, And.left (by assumption)⟩
  case rest =>
    obtain ⟨rfl, rfl, hg⟩ := hcut
    have HG := hide hg
    obtain ⟨c0, c1, c2, c3, c4, c5⟩ := HBX.out.kept hg trivial
    simp only at c0 c1 c2 c3 c4 c5
    clear hg HBX HW HWR
    all_goals
      go_wp2
      go_ret
      exact ⟨rfl, ((Kept.refl _ _).alloc _).trans HG.out⟩

set_option maxHeartbeats 1000000 in
set_option maxRecDepth 10000 in
theorem oi_1 (n : Nat) (at_ d q cd m : Int) (w : World) (h : (P.mk 1 at_ d q cd m).Ok) (hn : n ≤ 256) (W : Int) (b1 b2 b3 b4 : Bool) (h1 : decide (at_ + W ≤ (n : Int)) = b1) (h2 : (W == 0) = b2) (h3 : decide (1 ≤ at_) = b3) (h4 : decide (at_ ≤ (n : Int)) = b4) (hW : wordsI (P.mk 1 at_ d q cd m) = W) :
    Calls Facg.prog 31 #[.int .i64 n, (P.mk 1 at_ d q cd m).val] w fun e w' => e = .returned (.bool (bif b2 then b4 else b3 && b1)) ∧ Grows w w' := by
  have HW := hide (fun w => ownWords_any _ h w)
  have hb := pwords_bd _ h
  have hat := h.at_
  simp only at hat
  rw [hW] at HW hb
  have HWR : Hid (IntKind.i64.wrap at_ = at_) := by unfold Hid; rw [IntKind.wrap_i64]; omega
  clear hW h
  have e1 : decide ((256 : Int) < (n : Int)) = false := decide_eq_false (by omega)
  have HBX := hide (BoxP.box w (P.mk 1 at_ d q cd m) 31)
  unfold P.val at *
  go_enter Facg.func31, Facg.ntmps31
  go_wp2
  go_cut [5, 6] (fun s5 s6 wc => s5 = .int .i64 at_ ∧ s6 = .int .i64 W ∧ Grows (w.alloc (.cells #[.int .u8 1, .int .u16 at_, .int .u8 d, .int .u8 q, .int .u8 cd, .int .u16 m] 31)) wc)
  case first =>
    go_region_held (fun w' => Grows (w.alloc (.cells #[.int .u8 1, .int .u16 at_, .int .u8 d, .int .u8 q, .int .u8 cd, .int .u16 m] 31)) w' ∧ w'.cell? ⟨w.heap.size, 0, none⟩ = some (.int .u8 1) ∧ w'.cell? ⟨w.heap.size, 1, none⟩ = some (.int .u16 at_) ∧ w'.cell? ⟨w.heap.size, 2, none⟩ = some (.int .u8 d) ∧ w'.cell? ⟨w.heap.size, 3, none⟩ = some (.int .u8 q) ∧ w'.cell? ⟨w.heap.size, 4, none⟩ = some (.int .u8 cd) ∧ w'.cell? ⟨w.heap.size, 5, none⟩ = some (.int .u16 m))
      ((first | assumption | exact held6 (Kept.refl _ _).drew HBX.out | exact held6 (Kept.trans (And.left (by assumption)) hg) HBX.out))
      ((go_at_call 21; refine (HW.out _).mono ?_; rintro e wA ⟨rfl, hg⟩))
    all_goals go_wp2
    all_goals go_meet
    all_goals exact ⟨congrArg (Value.int IntKind.i64) HWR.out, rfl, And.left (by assumption)⟩
  case rest =>
    obtain ⟨rfl, rfl, hg⟩ := hcut
    have HG := hide hg
    obtain ⟨c0, c1, c2, c3, c4, c5⟩ := HBX.out.kept hg trivial
    simp only at c0 c1 c2 c3 c4 c5
    clear hg HBX HW HWR
    cases b1 <;> cases b2 <;> cases b3 <;> cases b4
    all_goals
      go_wp2
      go_ret
      exact ⟨rfl, ((Kept.refl _ _).alloc _).trans HG.out⟩

set_option maxHeartbeats 1000000 in
set_option maxRecDepth 10000 in
theorem oi_2 (n : Nat) (at_ d q cd m : Int) (w : World) (h : (P.mk 2 at_ d q cd m).Ok) (hn : n ≤ 256) (h7 : ¬ cd = 7) (W : Int) (b1 b2 b3 b4 : Bool) (h1 : decide (at_ + W ≤ (n : Int)) = b1) (h2 : (W == 0) = b2) (h3 : decide (1 ≤ at_) = b3) (h4 : decide (at_ ≤ (n : Int)) = b4) (hW : wordsI (P.mk 2 at_ d q cd m) = W) :
    Calls Facg.prog 31 #[.int .i64 n, (P.mk 2 at_ d q cd m).val] w fun e w' => e = .returned (.bool (bif b2 then b4 else b3 && b1)) ∧ Grows w w' := by
  have HW := hide (fun w => ownWords_any _ h w)
  have hb := pwords_bd _ h
  have hat := h.at_
  simp only at hat
  rw [hW] at HW hb
  have HWR : Hid (IntKind.i64.wrap at_ = at_) := by unfold Hid; rw [IntKind.wrap_i64]; omega
  clear hW h
  have e1 : decide ((256 : Int) < (n : Int)) = false := decide_eq_false (by omega)
  have e7 : (cd == 7) = false := by rw [beq_eq_false_iff_ne]; exact h7
  have HBX := hide (BoxP.box w (P.mk 2 at_ d q cd m) 31)
  unfold P.val at *
  go_enter Facg.func31, Facg.ntmps31
  go_wp2
  go_cut [5, 6] (fun s5 s6 wc => s5 = .int .i64 at_ ∧ s6 = .int .i64 W ∧ Grows (w.alloc (.cells #[.int .u8 2, .int .u16 at_, .int .u8 d, .int .u8 q, .int .u8 cd, .int .u16 m] 31)) wc)
  case first =>
    go_region_held (fun w' => Grows (w.alloc (.cells #[.int .u8 2, .int .u16 at_, .int .u8 d, .int .u8 q, .int .u8 cd, .int .u16 m] 31)) w' ∧ w'.cell? ⟨w.heap.size, 0, none⟩ = some (.int .u8 2) ∧ w'.cell? ⟨w.heap.size, 1, none⟩ = some (.int .u16 at_) ∧ w'.cell? ⟨w.heap.size, 2, none⟩ = some (.int .u8 d) ∧ w'.cell? ⟨w.heap.size, 3, none⟩ = some (.int .u8 q) ∧ w'.cell? ⟨w.heap.size, 4, none⟩ = some (.int .u8 cd) ∧ w'.cell? ⟨w.heap.size, 5, none⟩ = some (.int .u16 m))
      ((first | assumption | exact held6 (Kept.refl _ _).drew HBX.out | exact held6 (Kept.trans (And.left (by assumption)) hg) HBX.out))
      ((go_at_call 21; refine (HW.out _).mono ?_; rintro e wA ⟨rfl, hg⟩))
    all_goals go_wp2
    all_goals go_meet
    all_goals exact ⟨congrArg (Value.int IntKind.i64) HWR.out, rfl, And.left (by assumption)⟩
  case rest =>
    obtain ⟨rfl, rfl, hg⟩ := hcut
    have HG := hide hg
    obtain ⟨c0, c1, c2, c3, c4, c5⟩ := HBX.out.kept hg trivial
    simp only at c0 c1 c2 c3 c4 c5
    clear hg HBX HW HWR
    cases b1 <;> cases b2 <;> cases b3 <;> cases b4
    all_goals
      go_wp2
      go_ret
      exact ⟨rfl, ((Kept.refl _ _).alloc _).trans HG.out⟩

set_option maxHeartbeats 1000000 in
set_option maxRecDepth 10000 in
theorem oi_7 (n : Nat) (at_ d q m : Int) (w : World) (h : (P.mk 2 at_ d q 7 m).Ok) (hn : n ≤ 256) (W : Int) (b1 b3 : Bool) (h1 : decide (at_ - 1 + W ≤ (n : Int)) = b1) (h3 : decide (1 ≤ at_ - 1) = b3) (hW : wordsI (P.mk 2 at_ d q 7 m) = W) :
    Calls Facg.prog 31 #[.int .i64 n, (P.mk 2 at_ d q 7 m).val] w fun e w' => e = .returned (.bool (b3 && b1)) ∧ Grows w w' := by
  have HW := hide (fun w => ownWords_any _ h w)
  have hb := pwords_bd _ h
  have hat := h.at_
  simp only at hat
  rw [hW] at HW hb
  have HWR : Hid (IntKind.i64.wrap at_ = at_) := by unfold Hid; rw [IntKind.wrap_i64]; omega
  clear hW h
  have e1 : decide ((256 : Int) < (n : Int)) = false := decide_eq_false (by omega)
  have HBX := hide (BoxP.box w (P.mk 2 at_ d q 7 m) 31)
  unfold P.val at *
  go_enter Facg.func31, Facg.ntmps31
  go_wp2
  go_cut [5, 6] (fun s5 s6 wc => s5 = .int .i64 at_ ∧ s6 = .int .i64 W ∧ Grows (w.alloc (.cells #[.int .u8 2, .int .u16 at_, .int .u8 d, .int .u8 q, .int .u8 7, .int .u16 m] 31)) wc)
  case first =>
    go_region_held (fun w' => Grows (w.alloc (.cells #[.int .u8 2, .int .u16 at_, .int .u8 d, .int .u8 q, .int .u8 7, .int .u16 m] 31)) w' ∧ w'.cell? ⟨w.heap.size, 0, none⟩ = some (.int .u8 2) ∧ w'.cell? ⟨w.heap.size, 1, none⟩ = some (.int .u16 at_) ∧ w'.cell? ⟨w.heap.size, 2, none⟩ = some (.int .u8 d) ∧ w'.cell? ⟨w.heap.size, 3, none⟩ = some (.int .u8 q) ∧ w'.cell? ⟨w.heap.size, 4, none⟩ = some (.int .u8 7) ∧ w'.cell? ⟨w.heap.size, 5, none⟩ = some (.int .u16 m))
      ((first | assumption | exact held6 (Kept.refl _ _).drew HBX.out | exact held6 (Kept.trans (And.left (by assumption)) hg) HBX.out))
      ((go_at_call 21; refine (HW.out _).mono ?_; rintro e wA ⟨rfl, hg⟩))
    all_goals go_wp2
    all_goals go_meet
    all_goals exact ⟨congrArg (Value.int IntKind.i64) HWR.out, rfl, And.left (by assumption)⟩
  case rest =>
    obtain ⟨rfl, rfl, hg⟩ := hcut
    have HG := hide hg
    obtain ⟨c0, c1, c2, c3, c4, c5⟩ := HBX.out.kept hg trivial
    simp only at c0 c1 c2 c3 c4 c5
    clear hg HBX HW HWR
    cases b1 <;> cases b3
    all_goals
      go_wp2
      go_ret
      exact ⟨rfl, ((Kept.refl _ _).alloc _).trans HG.out⟩

/-- law.ownInside is wire.Inside. -/
theorem ownInside_any (n : Nat) (p : P) (w : World) (h : p.Ok) (hc : n ≤ 9223372036854775807) :
    Calls Facg.prog 31 #[.int .i64 n, p.val] w fun e w' => e = .returned (.bool (insideI (n : Int) p)) ∧ Grows w w' := by
  have hb := pwords_bd p h
  by_cases hn : 256 < n
  · have e : insideI (n : Int) p = false := by
      unfold insideI
      rw [decide_eq_false (by omega)]; rfl
    rw [e]; exact oi_big n _ _ _ _ _ _ w h hn hc _ rfl
  have e0 : decide ((n : Int) ≤ 256) = true := decide_eq_true (by omega)
  have hbool : ∀ W a : Int, 0 ≤ W → (decide (a + W ≤ (n : Int)) && ((W == 0) || decide (1 ≤ a))) = (bif (W == 0) then decide (a ≤ (n : Int)) else decide (1 ≤ a) && decide (a + W ≤ (n : Int))) := by
    intro W a h0
    by_cases hz : W = 0
    · subst hz; simp
    · rw [beq_eq_false_iff_ne.2 hz]; simp [Bool.and_comm]
  by_cases h1 : p.kind = 1
  · obtain ⟨k, at_, d, q, cd, m⟩ := p
    simp only at h1
    subst h1
    have e : insideI (n : Int) ⟨1, at_, d, q, cd, m⟩ = (decide (at_ + wordsI ⟨1, at_, d, q, cd, m⟩ ≤ (n : Int)) && ((wordsI ⟨1, at_, d, q, cd, m⟩ == 0) || decide (1 ≤ at_))) := by
      unfold insideI P.first
      rw [e0]
      simp
    rw [e, hbool _ _ hb.1]; exact oi_1 n at_ d q cd m w h (by omega) _ _ _ _ _ rfl rfl rfl rfl rfl
  by_cases h2 : p.kind = 2
  · obtain ⟨k, at_, d, q, cd, m⟩ := p
    simp only at h2
    subst h2
    by_cases h7 : cd = 7
    · subst h7
      have hp := h.count
      have hd := h.data
      have hq := h.ptrs
      simp only at hp hd hq
      have h1 : wordsI ⟨2, at_, d, q, 7, m⟩ ≠ 0 := by
        have m0 : 0 ≤ m * (d + q) := Int.mul_nonneg hp.1 (by omega)
        simp only [wordsI]
        rw [if_neg (by decide), if_neg (by simp)]
        split
        · decide
        rw [if_neg (by decide), if_neg (by decide)]
        split
        · split <;> omega
        · decide
      have e : insideI (n : Int) ⟨2, at_, d, q, 7, m⟩ = (decide (1 ≤ at_ - 1) && decide (at_ - 1 + wordsI ⟨2, at_, d, q, 7, m⟩ ≤ (n : Int))) := by
        unfold insideI P.first
        rw [e0, beq_eq_false_iff_ne.2 h1]
        simp [Bool.and_comm]
      rw [e]; exact oi_7 n at_ d q m w h (by omega) _ _ _ rfl rfl rfl
    · have e : insideI (n : Int) ⟨2, at_, d, q, cd, m⟩ = (decide (at_ + wordsI ⟨2, at_, d, q, cd, m⟩ ≤ (n : Int)) && ((wordsI ⟨2, at_, d, q, cd, m⟩ == 0) || decide (1 ≤ at_))) := by
        unfold insideI P.first
        rw [e0]
        simp [h7]
      rw [e, hbool _ _ hb.1]; exact oi_2 n at_ d q cd m w h (by omega) h7 _ _ _ _ _ rfl rfl rfl rfl rfl
  have e : insideI (n : Int) p = false := by
    unfold insideI
    rw [show (p.kind == 1) = false by rw [beq_eq_false_iff_ne]; exact h1, show (p.kind == 2) = false by rw [beq_eq_false_iff_ne]; exact h2]
    simp
  rw [e]; exact oi_kind n _ _ _ _ _ _ w h (by omega) h1 h2 _ rfl
end Go.Proofs.Ygcfac
