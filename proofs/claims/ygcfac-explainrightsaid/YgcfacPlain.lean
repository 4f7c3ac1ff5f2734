import Derived.Test.YgcfacStructs
import Derived.Test.YgcfacInside
import Derived.Deep.RegionHeld
import Derived.Deep.DeepCutAuto
namespace Go.Proofs.Ygcfac
open Go.RowKit
set_option linter.unusedVariables false

/-- The words of an arena. -/
def ArenaAt (w : World) (a : Option Addr) (n : Nat) (f : Nat → Int) : Prop :=
  (∀ j, 0 ≤ f j ∧ f j < 18446744073709551616) ∧ (0 < n → ∃ b o, a = some ⟨b, o, none⟩ ∧ ∀ j, j < n → w.cell? ⟨b, o + j, none⟩ = some (.int .u64 (f j)))
theorem ArenaAt.grows {w w' : World} {a : Option Addr} {n : Nat} {f : Nat → Int} (h : ArenaAt w a n f) (hg : Grows w w') : ArenaAt w' a n f := by
  refine ⟨h.1, fun hn => ?_⟩
  obtain ⟨b, o, rfl, hc⟩ := h.2 hn
  exact ⟨b, o, rfl, fun j hj => hg.cell (hc j hj) trivial⟩

theorem secF_bd {g d q : Int} (h : secF g = some (d, q)) (h0 : 0 ≤ g) : 0 ≤ d ∧ d ≤ 8 ∧ 0 ≤ q ∧ q ≤ 8 := by
  unfold secF at h
  split at h
  · cases h
  · injection h with h
    injection h with h1 h2
    omega

theorem spans_pos {n low t k : Int} (h : spansI n low t k = true) (hl : 0 ≤ low) (hk : 0 < k) : 0 ≤ t ∧ low ≤ t ∧ t + k ≤ n := by
  unfold spansI at h
  rw [beq_eq_false_iff_ne.2 (by omega : k ≠ 0)] at h
  simp at h
  omega

theorem structs_any (a : Option Addr) (n c : Nat) (f : Nat → Int) (low t m : Int) (w : World) (hn : n ≤ 256) (hl : 0 ≤ low ∧ low < 65536) (ht : -536870912 ≤ t ∧ t ≤ 536936448) (hm : 0 ≤ m ∧ m < 536870912) (hA : ArenaAt w a n f) :
    Calls Facg.prog 111 #[.agg #[.slice a n c, .int .u16 low], .int .i32 t, .int .i32 m] w fun e w' => e = .returned (resV (structsI f n low t m)) ∧ Grows w w' := by
  cases hs : spansI n low t (m + 1) with
  | false =>
    have e : structsI f n low t m = none := by unfold structsI; rw [hs]; rfl
    rw [e]; exact structs_no a n c low t m w hn hl ht hm hs
  | true =>
    obtain ⟨p1, p2, p3⟩ := spans_pos hs hl.1 (by omega)
    obtain ⟨t, rfl⟩ := Int.eq_ofNat_of_zero_le p1
    obtain ⟨b, o, rfl, hc⟩ := hA.2 (by omega)
    have hc := hc t (by omega)
    have hb := hA.1 t
    have e : structsI f n low t m = tagI (f t) t m := by unfold structsI; rw [hs]; rfl
    rw [e]
    generalize f t = g at *
    clear e hA
    have hcb : 0 ≤ g / 4 % 1073741824 ∧ g / 4 % 1073741824 < 1073741824 := by omega
    unfold tagI
    cases hq : secF g with
    | none => exact structs_sec b o n c t low m g _ w hn hl (by omega) hm hs hc hb.1 hb.2 rfl hcb hq
    | some r =>
      obtain ⟨d, q⟩ := r
      have hdq := secF_bd hq hb.1
      simp only
      by_cases h4 : g % 4 = 0
      · by_cases hmany : 128 < g / 4 % 1073741824
        · rw [if_pos (.inr hmany)]
          exact structs_many b o n c t low m g _ w hn hl (by omega) hm hs hc hb.1 hb.2 rfl hcb d q hq h4 hmany
        · rw [if_neg (by omega)]
          by_cases hfl : d + q = 0 ∧ ¬ g / 4 % 1073741824 = 0
          · rw [if_pos (.inl hfl)]
            exact structs_flat b o n c t low m g _ w hn hl (by omega) hm hs hc hb.1 hb.2 rfl hcb d q hq hdq h4 (by omega) hfl.1 hfl.2
          · have hbb : ((d + q == 0) && (g / 4 % 1073741824 != 0)) = false := by
              rw [Bool.eq_false_iff]
              intro h
              rw [Bool.and_eq_true, beq_iff_eq, bne_iff_ne] at h
              exact hfl h
            by_cases hmm : g / 4 % 1073741824 * (d + q) = m
            · rw [if_neg (by intro h; rcases h with h | h; exact hfl h; exact h hmm)]
              exact structs_ok b o n c t low m g _ w hn hl (by omega) hm hs hc hb.1 hb.2 rfl hcb d q hq hdq h4 (by omega) _ _ rfl rfl hbb hmm
            · rw [if_pos (.inr hmm)]
              exact structs_off b o n c t low m g _ w hn hl (by omega) hm hs hc hb.1 hb.2 rfl hcb d q hq hdq h4 (by omega) _ _ rfl rfl hbb hmm
      · rw [if_pos (.inl h4)]
        exact structs_low b o n c t low m g _ w hn hl (by omega) hm hs hc hb.1 hb.2 rfl hcb d q hq h4

/-! ### plain -/
def plainI (n low t code m : Int) : Option P :=
  if code < 2 ∨ 6 < code ∨ 128 < m then none
  else bif spansI n low t (wordsI ⟨2, 0, 0, 0, code, m⟩) then some ⟨2, t, 0, 0, code, m⟩ else none

set_option maxRecDepth 10000 in
theorem plain_a (a : Option Addr) (n c : Nat) (low t code m : Int) (w : World) (hc : code < 2) :
    Calls Facg.prog 112 #[.agg #[.slice a n c, .int .u16 low], .int .i32 t, .int .u8 code, .int .i32 m] w fun e w' => e = .returned (resV none) ∧ Grows w w' := by
  have e1 : decide (code < 2) = true := decide_eq_true hc
  go_enter Facg.func112, Facg.ntmps112
  go_wp2
  refine bodyPost_ret (v := resV none) (by simp [results, Facg.results112, go_sem, resV]) rfl ⟨rfl, ?_⟩
  exact ((Kept.refl _ _).alloc _).alloc _

set_option maxRecDepth 10000 in
theorem plain_b (a : Option Addr) (n c : Nat) (low t code m : Int) (w : World) (hc : 6 < code) :
    Calls Facg.prog 112 #[.agg #[.slice a n c, .int .u16 low], .int .i32 t, .int .u8 code, .int .i32 m] w fun e w' => e = .returned (resV none) ∧ Grows w w' := by
  have e1 : decide (code < 2) = false := decide_eq_false (by omega)
  have e2 : decide (6 < code) = true := decide_eq_true hc
  go_enter Facg.func112, Facg.ntmps112
  go_wp2
  refine bodyPost_ret (v := resV none) (by simp [results, Facg.results112, go_sem, resV]) rfl ⟨rfl, ?_⟩
  exact ((Kept.refl _ _).alloc _).alloc _

set_option maxRecDepth 10000 in
theorem plain_c (a : Option Addr) (n c : Nat) (low t code m : Int) (w : World) (hc : 2 ≤ code) (hc6 : code ≤ 6) (hm : 128 < m) :
    Calls Facg.prog 112 #[.agg #[.slice a n c, .int .u16 low], .int .i32 t, .int .u8 code, .int .i32 m] w fun e w' => e = .returned (resV none) ∧ Grows w w' := by
  have e1 : decide (code < 2) = false := decide_eq_false (by omega)
  have e2 : decide (6 < code) = false := decide_eq_false (by omega)
  have e3 : decide (128 < m) = true := decide_eq_true hm
  go_enter Facg.func112, Facg.ntmps112
  go_wp2
  refine bodyPost_ret (v := resV none) (by simp [results, Facg.results112, go_sem, resV]) rfl ⟨rfl, ?_⟩
  exact ((Kept.refl _ _).alloc _).alloc _

theorem held8 {W0 w' : World} {B D : Nat} {x y : Value} {k a d q c n : Int} (hg : Grows W0 w') (h : Cell6 W0 B k a d q c n) (h0 : W0.cell? ⟨D, 0, none⟩ = some x) (h1 : W0.cell? ⟨D, 1, none⟩ = some y) :
    Grows W0 w' ∧ w'.cell? ⟨D, 0, none⟩ = some x ∧ w'.cell? ⟨D, 1, none⟩ = some y ∧ w'.cell? ⟨B, 0, none⟩ = some (.int .u8 k) ∧ w'.cell? ⟨B, 1, none⟩ = some (.int .u16 a) ∧ w'.cell? ⟨B, 2, none⟩ = some (.int .u8 d) ∧ w'.cell? ⟨B, 3, none⟩ = some (.int .u8 q) ∧ w'.cell? ⟨B, 4, none⟩ = some (.int .u8 c) ∧ w'.cell? ⟨B, 5, none⟩ = some (.int .u16 n) :=
  ⟨hg, hg.cell h0 trivial, hg.cell h1 trivial, (h.kept hg trivial).1⟩

set_option maxRecDepth 10000 in
theorem plain_go (a : Option Addr) (n c : Nat) (low t code m W : Int) (w : World) (hn : n ≤ 256) (hl : 0 ≤ low ∧ low < 65536) (ht : -536870912 ≤ t ∧ t ≤ 536936448) (hc : 2 ≤ code ∧ code ≤ 6) (hm : 0 ≤ m ∧ m ≤ 128) (hW : wordsI ⟨2, 0, 0, 0, code, m⟩ = W) (s : Bool) (hs : spansI n low t W = s) :
    Calls Facg.prog 112 #[.agg #[.slice a n c, .int .u16 low], .int .i32 t, .int .u8 code, .int .i32 m] w fun e w' => e = .returned (resV (bif s then some ⟨2, t, 0, 0, code, m⟩ else none)) ∧ Grows w w' := by
  have hok : (P.mk 2 0 0 0 code m).Ok := ⟨by simp, by simp, by simp, by simp, by simp only; omega, by simp only; omega⟩
  have HW := hide (fun w => pwords_any _ hok w)
  have hb := pwords_bd _ hok
  rw [hW] at HW hb
  have HS := hide (fun w => spans_any a n c low t W w hn hl ht (by omega))
  rw [hs] at HS
  have hwr : IntKind.i32.wrap W = W := by rw [IntKind.wrap_i32]; omega
  have HS : Hid (∀ w, Calls Facg.prog 110 #[.agg #[.slice a n c, .int .u16 low], .int .i32 t, .int .i32 (IntKind.i32.wrap W)] w fun e w' => e = .returned (.bool s) ∧ Grows w w') := by rw [hwr]; exact HS
  clear hwr
  have hst : s = true → 0 ≤ t ∧ t ≤ 256 := by
    intro e
    subst e
    unfold spansI at hs
    by_cases hz : W = 0
    · subst hz; simp at hs; omega
    · rw [beq_eq_false_iff_ne.2 hz] at hs; simp at hs; omega
  unfold P.val at HW
  clear hW hs hok
  have e1 : decide (code < 2) = false := decide_eq_false (by omega)
  have e2 : decide (6 < code) = false := decide_eq_false (by omega)
  have e3 : decide (128 < m) = false := decide_eq_false (by omega)
  go_enter Facg.func112, Facg.ntmps112
  go_wp2
  generalize hW0 : ((w.alloc (.cells #[.slice a n c, .int .u16 low] 175)).alloc (.cells #[.int .u8 0, .int .u16 0, .int .u8 0, .int .u8 0, .int .u8 0, .int .u16 0] 31)).alloc (.cells #[.int .u8 2, .int .u16 0, .int .u8 0, .int .u8 0, .int .u8 code, .int .u16 m] 31) = W0
  have g0 : Grows w W0 := by
    rw [← hW0]
    exact (((Kept.refl _ _).alloc _).alloc _).alloc _
  have hp : Cell6 W0 (w.heap.size + 1 + 1) 2 0 0 0 code m := by
    rw [← hW0]
    have := Cell6.alloc ((w.alloc (.cells #[.slice a n c, .int .u16 low] 175)).alloc (.cells #[.int .u8 0, .int .u16 0, .int .u8 0, .int .u8 0, .int .u8 0, .int .u16 0] 31)) 31 2 0 0 0 code m
    simpa only [World.size_alloc] using this
  have hz : Cell6 W0 (w.heap.size + 1) 0 0 0 0 0 0 := by
    rw [← hW0]
    exact Cell6.second ((Kept.refl _ _).alloc _)
  have hr : W0.cell? ⟨w.heap.size, 0, none⟩ = some (.slice a n c) ∧ W0.cell? ⟨w.heap.size, 1, none⟩ = some (.int .u16 low) := by
    rw [← hW0]
    exact room_first ((Kept.refl _ _).alloc _)
  have HH := hide (And.intro hp hr)
  have HZ := hide hz
  have HG0 := hide g0
  clear hW0 hp hz hr g0
  go_cut [32] (fun s32 wc => s32 = .bool (!s) ∧ Grows W0 wc)
  case first =>
    go_region_held (fun w' => Grows W0 w' ∧ w'.cell? ⟨w.heap.size, 0, none⟩ = some (.slice a n c) ∧ w'.cell? ⟨w.heap.size, 1, none⟩ = some (.int .u16 low) ∧ w'.cell? ⟨w.heap.size + 1 + 1, 0, none⟩ = some (.int .u8 2) ∧ w'.cell? ⟨w.heap.size + 1 + 1, 1, none⟩ = some (.int .u16 0) ∧ w'.cell? ⟨w.heap.size + 1 + 1, 2, none⟩ = some (.int .u8 0) ∧ w'.cell? ⟨w.heap.size + 1 + 1, 3, none⟩ = some (.int .u8 0) ∧ w'.cell? ⟨w.heap.size + 1 + 1, 4, none⟩ = some (.int .u8 code) ∧ w'.cell? ⟨w.heap.size + 1 + 1, 5, none⟩ = some (.int .u16 m))
      ((first | assumption | exact held8 (Kept.refl _ _).drew HH.out.1 HH.out.2.1 HH.out.2.2 | exact held8 (Kept.trans (And.left (by assumption)) hg) HH.out.1 HH.out.2.1 HH.out.2.2 | exact held8 (Kept.trans (And.left (by assumption)) hg2) HH.out.1 HH.out.2.1 HH.out.2.2))
      (first | (go_at_call 74; refine (HW.out _).mono ?_; rintro e wA ⟨rfl, hg⟩) | (go_at_call 110; refine (HS.out _).mono ?_; rintro e wB ⟨rfl, hg2⟩))
    all_goals go_wp2
    all_goals go_meet
    all_goals exact ⟨rfl, And.left (by assumption)⟩
  case rest =>
    obtain ⟨rfl, hg⟩ := hcut
    have HG := hide hg
    obtain ⟨⟨z0, z1, z2, z3, z4, z5⟩, zf⟩ := HZ.out.kept hg trivial
    obtain ⟨⟨y0, y1, y2, y3, y4, y5⟩, yf⟩ := HH.out.1.kept hg trivial
    clear hg HW HS HH
    cases s with
    | false =>
      clear y0 y1 y2 y3 y4 y5 yf hst
      go_wp2
      refine bodyPost_ret (v := resV none) (by simp [results, Facg.results112, go_sem, resV, z0, z1, z2, z3, z4, z5]) rfl ⟨rfl, ?_⟩
      exact (HG0.out.trans HG.out).set6 (by omega) _ _ _ _ _ _
    | true =>
      obtain ⟨ht0, ht1⟩ := hst rfl
      go_wp2
      refine bodyPost_ret (v := resV (some ⟨2, t, 0, 0, code, m⟩)) (by simp [results, Facg.results112, go_sem, resV, z0, z1, z2, z3, z4, z5]) rfl ⟨rfl, ?_⟩
      exact ((HG0.out.trans HG.out).setCell (.inl (by simp only; omega)) _).set6 (by omega) _ _ _ _ _ _

theorem plain_any (a : Option Addr) (n c : Nat) (low t code m : Int) (w : World) (hn : n ≤ 256) (hl : 0 ≤ low ∧ low < 65536) (ht : -536870912 ≤ t ∧ t ≤ 536936448) (hm : 0 ≤ m) :
    Calls Facg.prog 112 #[.agg #[.slice a n c, .int .u16 low], .int .i32 t, .int .u8 code, .int .i32 m] w fun e w' => e = .returned (resV (plainI n low t code m)) ∧ Grows w w' := by
  unfold plainI
  by_cases h1 : code < 2
  · rw [if_pos (.inl h1)]; exact plain_a a n c low t code m w h1
  by_cases h2 : 6 < code
  · rw [if_pos (.inr (.inl h2))]; exact plain_b a n c low t code m w h2
  by_cases h3 : 128 < m
  · rw [if_pos (.inr (.inr h3))]; exact plain_c a n c low t code m w (by omega) (by omega) h3
  rw [if_neg (by omega)]
  exact plain_go a n c low t code m _ w hn hl ht (by omega) (by omega) rfl _ rfl
end Go.Proofs.Ygcfac
