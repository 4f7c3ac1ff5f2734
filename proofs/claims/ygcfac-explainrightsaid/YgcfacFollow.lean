import Derived.Test.YgcfacPush
namespace Go.Proofs.Ygcfac
open Go.RowKit
set_option linter.unusedVariables false

/-- Entries put on the stack, by a list of their places. -/
def appA (A : Nat → Nat) (sp : Nat) (l : List Nat) : Nat → Nat := fun k => if sp ≤ k ∧ k < sp + l.length then l.getD (k - sp) 0 else A k
def runL (a n : Nat) : List Nat := (List.range n).map (a + ·)
theorem runL_length (a n : Nat) : (runL a n).length = n := by simp [runL]
theorem pushA_app (A : Nat → Nat) (sp a n : Nat) : pushA A sp a n = appA A sp (runL a n) := by
  funext k
  unfold pushA appA
  rw [runL_length]
  by_cases h : sp ≤ k ∧ k < sp + n
  · rw [if_pos h, if_pos h]
    simp [runL, List.getD_eq_getElem?_getD, List.getElem?_map, List.getElem?_range (show k - sp < n by omega)]
  · rw [if_neg h, if_neg h]
theorem appA_app (A : Nat → Nat) (sp : Nat) (l l' : List Nat) : appA (appA A sp l) (sp + l.length) l' = appA A sp (l ++ l') := by
  funext k
  unfold appA
  rw [List.length_append]
  by_cases h : sp ≤ k ∧ k < sp + l.length
  · rw [if_neg (by omega), if_pos h, if_pos (by omega), List.getD_eq_getElem?_getD, List.getD_eq_getElem?_getD, List.getElem?_append_left (by omega)]
  · by_cases h2 : sp + l.length ≤ k ∧ k < sp + l.length + l'.length
    · rw [if_pos h2, if_pos (by omega), List.getD_eq_getElem?_getD, List.getD_eq_getElem?_getD, List.getElem?_append_right (by omega), show k - sp - l.length = k - (sp + l.length) by omega]
    · rw [if_neg h2, if_neg h, if_neg (by omega)]
theorem appA_nil (A : Nat → Nat) (sp : Nat) : appA A sp [] = A := by
  funext k; unfold appA; rw [if_neg (by simp)]
theorem pushD_app (D : Nat → Nat) (sp d n m : Nat) : pushD (pushD D sp d n) (sp + n) d m = pushD D sp d (n + m) := by
  funext k
  unfold pushD
  by_cases h : sp + n ≤ k ∧ k < sp + n + m
  · rw [if_pos h, if_pos (by omega)]
  · rw [if_neg h]
    by_cases h2 : sp ≤ k ∧ k < sp + n
    · rw [if_pos h2, if_pos (by omega)]
    · rw [if_neg h2, if_neg (by omega)]

/-- The pointer words of a code 7 list's first c elements. -/
def runs7 (a d e q c : Nat) : List Nat := (List.range c).flatMap fun i => runL (a + i * e + d) q
theorem runs7_succ (a d e q c : Nat) : runs7 a d e q (c + 1) = runs7 a d e q c ++ runL (a + c * e + d) q := by
  simp [runs7, List.range_succ]
theorem runs7_length (a d e q c : Nat) : (runs7 a d e q c).length = c * q := by
  induction c with
  | zero => simp [runs7]
  | succ c ih => rw [runs7_succ, List.length_append, ih, runL_length, Nat.succ_mul]

/-- The pointer words of an object. -/
def slotsL (p : P) : List Nat :=
  if p.kind = 1 then runL (p.at_ + p.data).toNat p.ptrs.toNat
  else if p.code = 6 then runL p.at_.toNat p.count.toNat
  else if p.code = 7 then runs7 p.at_.toNat p.data.toNat (p.data + p.ptrs).toNat p.ptrs.toNat p.count.toNat
  else []

def FollowPost (w : World) (g : Nat) (S A D : Nat → Nat) (sp d : Nat) (l : List Nat) (e : Ending) (w' : World) : Prop :=
  e = .returned (.tuple #[]) ∧ Kept (fun k => k ≠ g) w w' ∧ WalkAt w' g S (appA A sp l) (pushD D sp d l.length) (sp + l.length)

theorem kept_box {w w' : World} {g : Nat} {o : Obj} (hk : Kept (fun k => k ≠ g) (w.alloc o) w') : Kept (fun k => k ≠ g) w w' := ((Kept.refl _ _).alloc _).trans hk

set_option maxRecDepth 10000 in
theorem follow_1 (g : Nat) (S A D : Nat → Nat) (sp dep at_ dt pt : Nat) (cd m : Int) (w : World) (hsp : sp + pt ≤ 256) (ha : at_ + dt + pt ≤ 65535) (h8 : dt < 256) (h9 : pt < 256) (hd : dep < 256) (hW : WalkAt w g S A D sp) :
    Calls Facg.prog 90 #[.pointer (some ⟨g, 0, none⟩), .agg #[.int .u8 1, .int .u16 at_, .int .u8 dt, .int .u8 pt, .int .u8 cd, .int .u16 m], .int .u8 dep] w (FollowPost w g S A D sp dep (runL (at_ + dt) pt)) := by
  have HP := hide (fun w' (h : WalkAt w' g S A D sp) => push_any g S A D sp (at_ + dt) pt dep w' hsp (by omega) (by omega) hd h)
  have HW := hide hW
  clear hW
  go_enter Facg.func90, Facg.ntmps90
  go_wp2_with (first
    | (go_at_call 105; refine (HP.out _ (HW.out.kept ((Kept.refl (fun _ => True) _).alloc _) trivial)).mono ?_; rintro e w2 ⟨rfl, hk, hw⟩; have HK := hide (kept_box hk); have HW2 := hide hw; clear hk hw))
  refine bodyPost_end (by simp [results, Facg.results90, go_sem]) rfl ⟨rfl, HK.out, ?_⟩
  rw [runL_length, ← pushA_app]
  exact HW2.out

set_option maxRecDepth 10000 in
theorem follow_6 (g : Nat) (S A D : Nat → Nat) (sp dep at_ ct : Nat) (dt pt : Int) (w : World) (hsp : sp + ct ≤ 256) (ha : at_ + ct ≤ 65535) (hd : dep < 256) (hW : WalkAt w g S A D sp) :
    Calls Facg.prog 90 #[.pointer (some ⟨g, 0, none⟩), .agg #[.int .u8 2, .int .u16 at_, .int .u8 dt, .int .u8 pt, .int .u8 6, .int .u16 ct], .int .u8 dep] w (FollowPost w g S A D sp dep (runL at_ ct)) := by
  have HP := hide (fun w' (h : WalkAt w' g S A D sp) => push_any g S A D sp at_ ct dep w' hsp (by omega) (by omega) hd h)
  have HW := hide hW
  clear hW
  go_enter Facg.func90, Facg.ntmps90
  go_wp2_with (first
    | (go_at_call 105; refine (HP.out _ (HW.out.kept ((Kept.refl (fun _ => True) _).alloc _) trivial)).mono ?_; rintro e w2 ⟨rfl, hk, hw⟩; have HK := hide (kept_box hk); have HW2 := hide hw; clear hk hw))
  refine bodyPost_end (by simp [results, Facg.results90, go_sem]) rfl ⟨rfl, HK.out, ?_⟩
  rw [runL_length, ← pushA_app]
  exact HW2.out

set_option maxRecDepth 10000 in
theorem follow_0 (g : Nat) (S A D : Nat → Nat) (sp dep : Nat) (at_ dt pt cd m : Int) (w : World) (h6 : ¬ cd = 6) (h7 : ¬ cd = 7) (hd : dep < 256) (hW : WalkAt w g S A D sp) :
    Calls Facg.prog 90 #[.pointer (some ⟨g, 0, none⟩), .agg #[.int .u8 2, .int .u16 at_, .int .u8 dt, .int .u8 pt, .int .u8 cd, .int .u16 m], .int .u8 dep] w (FollowPost w g S A D sp dep []) := by
  have HW := hide hW
  have e6 : (cd == 6) = false := by rw [beq_eq_false_iff_ne]; exact h6
  have e7 : (cd == 7) = false := by rw [beq_eq_false_iff_ne]; exact h7
  clear hW
  go_enter Facg.func90, Facg.ntmps90
  go_wp2
  refine bodyPost_end (by simp [results, Facg.results90, go_sem]) rfl ⟨rfl, (Kept.refl _ _).alloc _, ?_⟩
  rw [appA_nil]
  rw [show pushD D sp dep ([] : List Nat).length = D from pushD_zero _ _ _]
  exact HW.out.kept ((Kept.refl (fun _ => True) _).alloc _) trivial

set_option maxRecDepth 10000 in
theorem follow_7 (g : Nat) (S A D : Nat → Nat) (sp dep at_ dt pt ct : Nat) (w : World) (hsp : sp + ct * pt ≤ 256) (ha : at_ + ct * (dt + pt) ≤ 65000) (h8 : dt ≤ 8) (h9 : pt ≤ 8) (hct : ct ≤ 128) (hd : dep < 256) (hW : WalkAt w g S A D sp) :
    Calls Facg.prog 90 #[.pointer (some ⟨g, 0, none⟩), .agg #[.int .u8 2, .int .u16 at_, .int .u8 dt, .int .u8 pt, .int .u8 7, .int .u16 ct], .int .u8 dep] w (FollowPost w g S A D sp dep (runs7 at_ dt (dt + pt) pt ct)) := by
  have HW := hide hW
  have hglt := hW.lt
  clear hW
  go_enter Facg.func90, Facg.ntmps90
  go_wp2
  go_loopw [7] (fun t wr => ∃ i : Nat, t = .int .u16 i ∧ i ≤ ct ∧ Kept (fun k => k ≠ g) (w.alloc (.cells #[.int .u8 2, .int .u16 at_, .int .u8 dt, .int .u8 pt, .int .u8 7, .int .u16 ct] 31)) wr ∧ WalkAt wr g S (appA A sp (runs7 at_ dt (dt + pt) pt i)) (pushD D sp dep (i * pt)) (sp + i * pt)) (fun t _ => ct - (intOf t).toNat)
  case atStart => exact ⟨0, rfl, Nat.zero_le _, Kept.refl _ _, by
    rw [show runs7 at_ dt (dt + pt) pt 0 = [] from rfl, appA_nil, Nat.zero_mul, pushD_zero]
    exact HW.out.kept ((Kept.refl (fun _ => True) _).alloc _) trivial⟩
  case round =>
    obtain ⟨i, rfl, hi, hk, hw⟩ := hrel
    obtain ⟨b0, b1, b2, b3, b4, b5⟩ := (BoxP.box w ⟨2, at_, dt, pt, 7, ct⟩ 31).kept hk (by omega)
    simp only at b0 b1 b2 b3 b4 b5
    have HK := hide hk
    have HWr := hide hw
    clear hk hw
    by_cases hlt : i < ct
    · have hd1 : decide (i < ct) = true := decide_eq_true hlt
      have m1 : i * (dt + pt) + (dt + pt) ≤ ct * (dt + pt) := by rw [← Nat.succ_mul]; exact Nat.mul_le_mul_right _ hlt
      have m2 : i * pt + pt ≤ ct * pt := by rw [← Nat.succ_mul]; exact Nat.mul_le_mul_right _ hlt
      have HP := hide (push_any g S _ _ _ (at_ + i * (dt + pt) + dt) pt dep wr (by omega) (by omega) (by omega) hd HWr.out)
      have hmul : (i : Int) * ((dt : Int) + (pt : Int)) = ((i * (dt + pt) : Nat) : Int) := by simp
      have p0 : 0 ≤ (i : Int) * ((dt : Int) + (pt : Int)) := by omega
      have p1 : (i : Int) * ((dt : Int) + (pt : Int)) ≤ 65000 - (at_ : Int) - (dt : Int) := by omega
      have hadd : ((at_ + i * (dt + pt) + dt : Nat) : Int) = (at_ : Int) + (i : Int) * ((dt : Int) + (pt : Int)) + (dt : Int) := by omega
      rw [hadd] at HP
      have HJ := hide (And.intro m1 m2)
      clear hmul hadd m1 m2
      go_wp2_with (first
        | (go_at_call 105; refine HP.out.mono ?_; rintro e w2 ⟨rfl, hk, hw⟩; have HK2 := hide (HK.out.trans hk); have HW2 := hide hw; clear hk hw))
      go_roundw
      case rel =>
        refine ⟨i + 1, rfl, by omega, HK2.out, ?_⟩
        have h1 := HW2.out
        rw [pushA_app, pushD_app] at h1
        have hl := runs7_length at_ dt (dt + pt) pt i
        rw [← hl, appA_app, ← runs7_succ, hl, Nat.add_assoc, ← Nat.succ_mul] at h1
        exact h1
      case measure => simp [intOf]; omega
    · have hd1 : decide (i < ct) = false := decide_eq_false hlt
      go_wp2
      have hin : i = ct := by omega
      subst hin
      refine bodyPost_end (by simp [results, Facg.results90, go_sem]) rfl ⟨rfl, kept_box HK.out, ?_⟩
      rw [runs7_length]
      exact HWr.out
end Go.Proofs.Ygcfac
