import Derived.Test.YgcfacFollow
import Derived.Deep.DeepCutAuto
import Derived.Deep.RegionHeld
namespace Go.Proofs.Ygcfac
open Go.RowKit
set_option linter.unusedVariables false

theorem follow_any (g : Nat) (S A D : Nat → Nat) (sp dep n : Nat) (p : P) (w : World) (hp : p.Ok) (hin : insideI n p = true) (hk0 : ¬ p.kind = 0) (hsp : sp + (slotsL p).length ≤ 256) (hd : dep < 256) (hW : WalkAt w g S A D sp) :
    Calls Facg.prog 90 #[.pointer (some ⟨g, 0, none⟩), p.val, .int .u8 dep] w (FollowPost w g S A D sp dep (slotsL p)) := by
  have h0 := hp.at_
  have h1 := hp.data
  have h2 := hp.ptrs
  have h3 := hp.count
  have hb := pwords_bd p hp
  have hkk : p.kind = 1 ∨ p.kind = 2 := by
    unfold insideI at hin
    simp at hin
    exact hin.1.2
  obtain ⟨k, at_, dt, pt, cd, m⟩ := p
  simp only at h0 h1 h2 h3 hkk hk0
  obtain ⟨a, rfl⟩ := Int.eq_ofNat_of_zero_le h0.1
  obtain ⟨d, rfl⟩ := Int.eq_ofNat_of_zero_le h1.1
  obtain ⟨q, rfl⟩ := Int.eq_ofNat_of_zero_le h2.1
  obtain ⟨c, rfl⟩ := Int.eq_ofNat_of_zero_le h3.1
  unfold P.val
  rcases hkk with rfl | rfl
  · obtain ⟨g1, g2, g3, g4, g5, g6⟩ := inside_kind1 hp hin rfl
    simp only at g1 g2 g3 g4 g5 g6
    have e : slotsL ⟨1, a, d, q, cd, c⟩ = runL (a + d) q := by
      unfold slotsL
      rw [if_pos rfl]
      simp only [Int.toNat_natCast]
      congr 1
    rw [e] at hsp ⊢
    rw [runL_length] at hsp
    exact follow_1 g S A D sp dep a d q cd c w hsp (by omega) (by omega) (by omega) hd hW
  · obtain ⟨g1, g2, g3, g4⟩ := inside_kind2 hp hin rfl
    simp only at g2
    by_cases h6 : cd = 6
    · subst h6
      have hw := words_code6 (p := ⟨2, a, d, q, 6, c⟩) rfl g2 rfl
      have hf : (P.mk 2 a d q 6 c).first = a := by unfold P.first; rw [if_neg (by simp)]
      rw [hw, hf] at g3
      simp only at g3
      have e : slotsL ⟨2, a, d, q, 6, c⟩ = runL a c := by
        unfold slotsL
        rw [if_neg (by simp), if_pos rfl]
        simp only [Int.toNat_natCast]
      rw [e] at hsp ⊢
      rw [runL_length] at hsp
      exact follow_6 g S A D sp dep a c d q w hsp (by omega) hd hW
    by_cases h7 : cd = 7
    · subst h7
      have hf : (P.mk 2 a d q 7 c).first = a - 1 := by unfold P.first; rw [if_pos ⟨rfl, rfl⟩]
      rw [hf] at g3 g4
      obtain ⟨k1, k2, k3⟩ := words_code7 (p := ⟨2, a, d, q, 7, c⟩) rfl g2 rfl (by omega)
      rw [k3] at g3
      simp only at k1 k2 g3
      have e : slotsL ⟨2, a, d, q, 7, c⟩ = runs7 a d (d + q) q c := by
        unfold slotsL
        rw [if_neg (by simp), if_neg (by simp), if_pos rfl]
        simp only [Int.toNat_natCast]
        congr 1
      rw [e] at hsp ⊢
      rw [runs7_length] at hsp
      have hm : ((c * (d + q) : Nat) : Int) = (c : Int) * ((d : Int) + (q : Int)) := by simp
      exact follow_7 g S A D sp dep a d q c w hsp (by omega) (by omega) (by omega) (by omega) hd hW
    have e : slotsL ⟨2, a, d, q, cd, c⟩ = [] := by
      unfold slotsL
      rw [if_neg (by simp), if_neg h6, if_neg h7]
    rw [e]
    exact follow_0 g S A D sp dep a d q cd c w h6 h7 hd hW

theorem words7_pos {p : P} (h : p.Ok) (hk : p.kind = 2) (h7 : p.code = 7) : 1 ≤ wordsI p := by
  have h1 := h.data
  have h2 := h.ptrs
  have h3 := h.count
  have m0 : 0 ≤ p.count * (p.data + p.ptrs) := Int.mul_nonneg h3.1 (by omega)
  unfold wordsI
  rw [if_neg (by omega), if_neg (by omega)]
  split
  · omega
  rw [if_neg (by omega), if_neg (by omega)]
  split
  · split <;> omega
  · omega

theorem inside_extent {n : Nat} {q : P} (h : q.Ok) (hin : insideI n q = true) : n ≤ 256 ∧ 0 ≤ q.first ∧ q.first + wordsI q ≤ n ∧ (wordsI q = 0 ∨ 1 ≤ q.first) := by
  have h0 := h.at_
  have hin' := hin
  unfold insideI at hin
  simp at hin
  refine ⟨by omega, ?_, by omega, by omega⟩
  by_cases h7 : q.kind = 2 ∧ q.code = 7
  · have := words7_pos h h7.1 h7.2
    omega
  · unfold P.first
    rw [if_neg h7]
    exact h0.1

theorem ArenaAt.kept {w w' : World} {a : Option Addr} {n g : Nat} {f : Nat → Int} (h : ArenaAt w a n f) (hk : Kept (fun k => k ≠ g) w w') (hne : ∀ b o, a = some ⟨b, o, none⟩ → b ≠ g) : ArenaAt w' a n f := by
  refine ⟨h.1, fun hn => ?_⟩
  obtain ⟨b, o, rfl, hc⟩ := h.2 hn
  exact ⟨b, o, rfl, fun j hj => hk.cell (hc j hj) (hne b o rfl)⟩

/-- What Step does, of a walk that has an entry. -/
def VStepR (f : Nat → Int) (n : Nat) (S A D : Nat → Nat) (sp : Nat) (ok : Bool) (S' A' D' : Nat → Nat) (sp' : Nat) : Prop :=
  (resolveI f n (A (sp - 1)) = none ∧ ok = false ∧ S' = S ∧ A' = A ∧ D' = D ∧ sp' = sp - 1) ∨
  (∃ q : P, resolveI f n (A (sp - 1)) = some q ∧ q.kind = 0 ∧ ok = true ∧ S' = S ∧ A' = A ∧ D' = D ∧ sp' = sp - 1) ∨
  (∃ q : P, resolveI f n (A (sp - 1)) = some q ∧ ¬ q.kind = 0 ∧ 8 ≤ D (sp - 1) ∧ ok = false ∧ S' = S ∧ A' = A ∧ D' = D ∧ sp' = sp - 1) ∨
  (∃ q : P, resolveI f n (A (sp - 1)) = some q ∧ ¬ q.kind = 0 ∧ D (sp - 1) < 8 ∧ ClaimR S q.first.toNat (wordsI q).toNat false S' ∧ ok = false ∧ A' = A ∧ D' = D ∧ sp' = sp - 1) ∨
  (∃ q : P, resolveI f n (A (sp - 1)) = some q ∧ ¬ q.kind = 0 ∧ D (sp - 1) < 8 ∧ ClaimR S q.first.toNat (wordsI q).toNat true S' ∧ paddedI f n q = false ∧ ok = false ∧ A' = A ∧ D' = D ∧ sp' = sp - 1) ∨
  (∃ q : P, resolveI f n (A (sp - 1)) = some q ∧ ¬ q.kind = 0 ∧ D (sp - 1) < 8 ∧ ClaimR S q.first.toNat (wordsI q).toNat true S' ∧ paddedI f n q = true ∧ ok = true ∧ A' = appA A (sp - 1) (slotsL q) ∧ D' = pushD D (sp - 1) (D (sp - 1) + 1) (slotsL q).length ∧ sp' = sp - 1 + (slotsL q).length)

section
variable {f : Nat → Int} {n : Nat} {S A D : Nat → Nat} {sp : Nat}
theorem VStepR.bad (h : resolveI f n (A (sp - 1)) = none) : VStepR f n S A D sp false S A D (sp - 1) := .inl ⟨h, rfl, rfl, rfl, rfl, rfl⟩
theorem VStepR.null (q : P) (h : resolveI f n (A (sp - 1)) = some q) (hk : q.kind = 0) : VStepR f n S A D sp true S A D (sp - 1) := .inr (.inl ⟨q, h, hk, rfl, rfl, rfl, rfl, rfl⟩)
theorem VStepR.deep (q : P) (h : resolveI f n (A (sp - 1)) = some q) (hk : ¬ q.kind = 0) (hd : 8 ≤ D (sp - 1)) : VStepR f n S A D sp false S A D (sp - 1) := .inr (.inr (.inl ⟨q, h, hk, hd, rfl, rfl, rfl, rfl, rfl⟩))
theorem VStepR.shared (q : P) (S' : Nat → Nat) (h : resolveI f n (A (sp - 1)) = some q) (hk : ¬ q.kind = 0) (hd : D (sp - 1) < 8) (hc : ClaimR S q.first.toNat (wordsI q).toNat false S') : VStepR f n S A D sp false S' A D (sp - 1) := .inr (.inr (.inr (.inl ⟨q, h, hk, hd, hc, rfl, rfl, rfl, rfl⟩)))
theorem VStepR.pad (q : P) (S' : Nat → Nat) (h : resolveI f n (A (sp - 1)) = some q) (hk : ¬ q.kind = 0) (hd : D (sp - 1) < 8) (hc : ClaimR S q.first.toNat (wordsI q).toNat true S') (hp : paddedI f n q = false) : VStepR f n S A D sp false S' A D (sp - 1) := .inr (.inr (.inr (.inr (.inl ⟨q, h, hk, hd, hc, hp, rfl, rfl, rfl, rfl⟩))))
theorem VStepR.ok (q : P) (S' : Nat → Nat) (h : resolveI f n (A (sp - 1)) = some q) (hk : ¬ q.kind = 0) (hd : D (sp - 1) < 8) (hc : ClaimR S q.first.toNat (wordsI q).toNat true S') (hp : paddedI f n q = true) :
    VStepR f n S A D sp true S' (appA A (sp - 1) (slotsL q)) (pushD D (sp - 1) (D (sp - 1) + 1) (slotsL q).length) (sp - 1 + (slotsL q).length) := .inr (.inr (.inr (.inr (.inr ⟨q, h, hk, hd, hc, hp, rfl, rfl, rfl, rfl⟩))))

/-- Its six ways. -/
theorem VStepR.ways {motive : ∀ (ok : Bool) (S' A' D' : Nat → Nat) (sp' : Nat), VStepR f n S A D sp ok S' A' D' sp' → Prop}
    (bad : ∀ (h : resolveI f n (A (sp - 1)) = none), motive false S A D (sp - 1) (VStepR.bad h))
    (null : ∀ (q : P) (h : resolveI f n (A (sp - 1)) = some q) (hk : q.kind = 0), motive true S A D (sp - 1) (VStepR.null q h hk))
    (deep : ∀ (q : P) (h : resolveI f n (A (sp - 1)) = some q) (hk : ¬ q.kind = 0) (hd : 8 ≤ D (sp - 1)), motive false S A D (sp - 1) (VStepR.deep q h hk hd))
    (shared : ∀ (q : P) (S' : Nat → Nat) (h : resolveI f n (A (sp - 1)) = some q) (hk : ¬ q.kind = 0) (hd : D (sp - 1) < 8) (hc : ClaimR S q.first.toNat (wordsI q).toNat false S'), motive false S' A D (sp - 1) (VStepR.shared q S' h hk hd hc))
    (pad : ∀ (q : P) (S' : Nat → Nat) (h : resolveI f n (A (sp - 1)) = some q) (hk : ¬ q.kind = 0) (hd : D (sp - 1) < 8) (hc : ClaimR S q.first.toNat (wordsI q).toNat true S') (hp : paddedI f n q = false), motive false S' A D (sp - 1) (VStepR.pad q S' h hk hd hc hp))
    (ok : ∀ (q : P) (S' : Nat → Nat) (h : resolveI f n (A (sp - 1)) = some q) (hk : ¬ q.kind = 0) (hd : D (sp - 1) < 8) (hc : ClaimR S q.first.toNat (wordsI q).toNat true S') (hp : paddedI f n q = true),
      motive true S' (appA A (sp - 1) (slotsL q)) (pushD D (sp - 1) (D (sp - 1) + 1) (slotsL q).length) (sp - 1 + (slotsL q).length) (VStepR.ok q S' h hk hd hc hp))
    {b : Bool} {S' A' D' : Nat → Nat} {sp' : Nat} (hs : VStepR f n S A D sp b S' A' D' sp') : motive b S' A' D' sp' hs := by
  rcases id hs with ⟨h, rfl, rfl, rfl, rfl, rfl⟩ | ⟨q, h, hk, rfl, rfl, rfl, rfl, rfl⟩ | ⟨q, h, hk, hd, rfl, rfl, rfl, rfl, rfl⟩ | ⟨q, h, hk, hd, hc, rfl, rfl, rfl, rfl⟩ | ⟨q, h, hk, hd, hc, hp, rfl, rfl, rfl, rfl⟩ | ⟨q, h, hk, hd, hc, hp, rfl, rfl, rfl, rfl⟩
  · exact bad h
  · exact null q h hk
  · exact deep q h hk hd
  · exact shared q _ h hk hd hc
  · exact pad q _ h hk hd hc hp
  · exact ok q _ h hk hd hc hp
end

def VStepPost (w : World) (g : Nat) (f : Nat → Int) (n : Nat) (S A D : Nat → Nat) (sp : Nat) (e : Ending) (w' : World) : Prop :=
  ∃ ok S' A' D' sp', e = .returned (.bool ok) ∧ Kept (fun k => k ≠ g) w w' ∧ WalkAt w' g S' A' D' sp' ∧ (∀ j, S' j < 18446744073709551616) ∧ VStepR f n S A D sp ok S' A' D' sp'

theorem WalkAt.setSp {w : World} {g : Nat} {S A D : Nat → Nat} {sp : Nat} (h : WalkAt w g S A D sp) (z : Nat) : WalkAt (w.setCell ⟨g, 516, none⟩ (.int .u16 z)) g S A D z :=
  ⟨fun i hi => cell_other (h.set i hi) (by omega), fun k hk => cell_other (h.ats k hk) (by omega), fun k hk => cell_other (h.dep k hk) (by omega), World.cell?_setCell_same _ _ _ h.sp, fun i => by rw [World.frozen?_setCell]; exact h.free i⟩

theorem vstep_zero (g : Nat) (S A D : Nat → Nat) (v : Value) (w : World) (hW : WalkAt w g S A D 0) :
    Calls Facg.prog 44 #[.pointer (some ⟨g, 0, none⟩), v] w fun e w' => e = .returned (.bool true) ∧ w' = w := by
  have c0 := hW.sp
  clear hW
  go_enter Facg.func44, Facg.ntmps44
  go_wp2
  go_ret
  exact ⟨rfl, rfl⟩

set_option maxRecDepth 10000 in
theorem vstep_any (g : Nat) (a : Option Addr) (n c : Nat) (f : Nat → Int) (S A D : Nat → Nat) (t : Nat) (w : World) (ht : t < 256) (hn : n ≤ 9223372036854775807) (hAt : A t < 65536) (hDt : D t < 256) (hS : ∀ j, S j < 18446744073709551616)
    (hA : ArenaAt w a n f) (hne : ∀ b o, a = some ⟨b, o, none⟩ → b ≠ g) (hW : WalkAt w g S A D (t + 1))
    (hroom : ∀ q, resolveI f n (A t) = some q → (∀ p, q.first.toNat ≤ p → p < q.first.toNat + (wordsI q).toNat → mem S p = false) → t + (slotsL q).length ≤ 256) :
    Calls Facg.prog 44 #[.pointer (some ⟨g, 0, none⟩), .slice a n c] w (VStepPost w g f n S A D (t + 1)) := by
  have c0 := hW.sp
  have cf := hW.free 516
  have c1 := hW.ats t ht
  have c2 := hW.dep t ht
  have hglt := hW.lt
  have HW1 := hide (hW.setSp t)
  have HA := hide hA
  have HNE := hide hne
  have HS := hide hS
  have HRoom := hide hroom
  clear hW hA hne hS hroom
  have hd0 : decide (256 < t + 1) = false := decide_eq_false (by omega)
  have he0 : (t + 1 == 0) = false := by simp
  go_enter Facg.func44, Facg.ntmps44
  go_wp2
  have hsz : (w.setCell ⟨g, 516, none⟩ (.int .u16 t)).heap.size = w.heap.size := by simp [World.setCell]
  have HK1 : Hid (Kept (fun k => k ≠ g) w (w.setCell ⟨g, 516, none⟩ (.int .u16 t))) := (Kept.refl _ _).setCell (.inr (fun h => h rfl)) _
  clear c0 c1 c2 cf
  generalize hW1 : w.setCell ⟨g, 516, none⟩ (.int .u16 t) = W1 at *
  clear hW1
  have c0 := HW1.out.sp
  have c1 := HW1.out.ats t ht
  have c2 := HW1.out.dep t ht
  go_cut [5] (fun s5 wc => s5 = .pointer (some ⟨w.heap.size, 0, none⟩) ∧ Grows W1 wc ∧ wc.cell? ⟨w.heap.size, 0, none⟩ = some (.int .u16 (A t)) ∧ wc.cell? ⟨w.heap.size, 1, none⟩ = some (.int .u8 (D t)))
  case first =>
    have n0 : w.heap.size ≠ g := by omega
    go_region_held (fun w' => w'.cell? ⟨g, 516, none⟩ = some (.int .u16 t) ∧ w'.cell? ⟨g, 4 + t * 2, none⟩ = some (.int .u16 (A t)) ∧ w'.cell? ⟨g, 4 + t * 2 + 1, none⟩ = some (.int .u8 (D t)))
      (go_keep) (fail)
    all_goals go_wp2
    all_goals go_meet
    all_goals
      have hb0 : (W1.alloc (.cells #[.int .u16 (A t), .int .u8 (D t)] 78)).cell? ⟨w.heap.size, 0, none⟩ = some (.int .u16 (A t)) := by rw [← hsz]; exact box_cell W1 _ 78 0 _ rfl
      have hb1 : (W1.alloc (.cells #[.int .u16 (A t), .int .u8 (D t)] 78)).cell? ⟨w.heap.size, 1, none⟩ = some (.int .u8 (D t)) := by rw [← hsz]; exact box_cell W1 _ 78 1 _ rfl
      exact ⟨rfl, ((Kept.refl _ _).alloc _).drew, (Kept.refl (fun _ => True) _).drew.cell hb0 trivial, (Kept.refl (fun _ => True) _).drew.cell hb1 trivial⟩
  case rest =>
    obtain ⟨rfl, hg, d0, d1⟩ := hcut
    have hne0 : w.heap.size ≠ g := by omega
    have HKc := hide (HK1.out.trans (hg.mono (q := fun k => k ≠ g) (fun _ _ _ => trivial)))
    have HWc := hide (HW1.out.kept hg trivial)
    have HRes := hide (fun w' (h : Kept (fun k => k ≠ g) w w') => resolve_any a n c (A t) f w' hn hAt (HA.out.kept h HNE.out))
    clear hg c0 c1 c2 HW1 HK1 hsz
    cases hr : resolveI f n (A t) with
    | none =>
      rw [hr] at HRes
      unfold resV at HRes
      simp only at HRes
      have HR := hide hr
      clear hr
      go_wp2_with (first
        | (go_at_call 18; refine (HRes.out _ HKc.out).mono ?_; rintro e w2 ⟨rfl, hg⟩; have HK2 := hide (HKc.out.trans (hg.mono (q := fun k => k ≠ g) (fun _ _ _ => trivial))); have HW2 := hide (HWc.out.kept hg trivial); clear hg))
      go_ret
      exact ⟨false, S, A, D, t, rfl, HK2.out.alloc _, HW2.out.kept ((Kept.refl (fun _ => True) _).alloc _) trivial, HS.out, .bad HR.out⟩
    | some q =>
      have hfine := resolve_fine HA.out.1 hr
      rw [hr] at HRes
      have HR := hide hr
      clear hr
      by_cases hk0 : q.kind = 0
      · have HQ := hide hk0
        have hq0 : (q.kind == 0) = true := by rw [hk0]; rfl
        clear hk0 hfine
        unfold resV at HRes
        simp only at HRes
        go_wp2_with (first
          | (go_at_call 18; refine (HRes.out _ HKc.out).mono ?_; rintro e w2 ⟨rfl, hg⟩; have HK2 := hide (HKc.out.trans (hg.mono (q := fun k => k ≠ g) (fun _ _ _ => trivial))); have HW2 := hide (HWc.out.kept hg trivial); clear hg))
        go_ret
        exact ⟨true, S, A, D, t, rfl, HK2.out.alloc _, HW2.out.kept ((Kept.refl (fun _ => True) _).alloc _) trivial, HS.out, .null q HR.out HQ.out⟩
      · obtain ⟨hok, _, hin⟩ := hfine.resolve_left (by intro h; apply hk0; rw [h])
        have hq0 : (q.kind == 0) = false := by rw [beq_eq_false_iff_ne]; exact hk0
        have HQ := hide hk0
        have HOK := hide hok
        have HIN := hide hin
        clear hk0 hok hin hfine
        unfold resV at HRes
        simp only at HRes
        by_cases hD : 8 ≤ D t
        · have hd8 : decide (8 ≤ D t) = true := decide_eq_true hD
          go_wp2_with (first
            | (go_at_call 18; refine (HRes.out _ HKc.out).mono ?_; rintro e w2 ⟨rfl, hg⟩; have HK2 := hide (HKc.out.trans (hg.mono (q := fun k => k ≠ g) (fun _ _ _ => trivial))); have HW2 := hide (HWc.out.kept hg trivial); have e0 := hg.cell d0 trivial; have e1 := hg.cell d1 trivial; have hs2 : w.heap.size < w2.heap.size := World.block_lt_of_cell? w2 ⟨w.heap.size, 0, none⟩ e0; clear hg d0 d1))
          go_ret
          exact ⟨false, S, A, D, t, rfl, HK2.out.alloc _, HW2.out.kept ((Kept.refl (fun _ => True) _).alloc _) trivial, HS.out, .deep q HR.out HQ.out hD⟩
        · have hd8 : decide (8 ≤ D t) = false := decide_eq_false hD
          go_wp2_with (first
            | (go_at_call 18; refine (HRes.out _ HKc.out).mono ?_; rintro e w2 ⟨rfl, hg⟩; have HK2 := hide (HKc.out.trans (hg.mono (q := fun k => k ≠ g) (fun _ _ _ => trivial))); have HW2 := hide (HWc.out.kept hg trivial); have e0 := hg.cell d0 trivial; have e1 := hg.cell d1 trivial; have hs2 : w.heap.size < w2.heap.size := World.block_lt_of_cell? w2 ⟨w.heap.size, 0, none⟩ e0; clear hg d0 d1))
          obtain ⟨x1, x2, x3, x4⟩ := inside_extent HOK.out HIN.out
          obtain ⟨a0, ha0⟩ := Int.eq_ofNat_of_zero_le x2
          obtain ⟨n0, hn0⟩ := Int.eq_ofNat_of_zero_le (pwords_bd q HOK.out).1
          have hq1 : q.first.toNat = a0 := by omega
          have hq2 : (wordsI q).toNat = n0 := by omega
          refine (claim_any g S A D t q a0 n0 _ HOK.out ha0 hn0 (by omega) HS.out (HW2.out.kept ((Kept.refl (fun _ => True) _).alloc _) trivial)).mono ?_
          rintro e w3 ⟨ok, S', rfl, hk3, hw3, hb3, hr3⟩
          have hbx := (BoxP.box w2 q 31).kept hk3 (by have := HW2.out.lt; omega)
          have hlt3 := hk3.size
          rw [World.size_alloc] at hlt3
          have hne2 : w2.heap.size ≠ g := by have := HW2.out.lt; omega
          have f1 := hk3.cell (((Kept.refl (fun _ => True) w2).alloc _).cell e1 trivial) hne0
          have HB3 := hide hbx
          obtain ⟨y0, y1, y2, y3, y4, y5⟩ := hbx
          have HK3 := hide (HK2.out.trans (kept_box hk3))
          have HW3 := hide hw3
          have HS3 := hide hb3
          have HC3 := hide hr3
          have HQ12 := hide (And.intro hq1 hq2)
          clear hk3 hw3 hb3 hr3 e0 e1 HRes hlt3 ha0 hn0 hq1 hq2 x1 x2 x3 x4 HW2 HK2
          cases ok
          · go_wp2
            go_ret
            exact ⟨false, S', A, D, t, rfl, HK3.out, HW3.out, HS3.out, .shared q S' HR.out HQ.out (by show D t < 8; omega) (by rw [HQ12.out.1, HQ12.out.2]; exact HC3.out)⟩
          · have HPd := hide (padded_any a n c f q w3 HOK.out hn (HA.out.kept HK3.out HNE.out))
            unfold P.val at HPd
            go_wp2_with (fail)
            refine HPd.out.mono ?_
            rintro e w4 ⟨rfl, hg4⟩
            obtain ⟨z0, z1, z2, z3, z4, z5⟩ := HB3.out.kept hg4 trivial
            have f2 := hg4.cell f1 trivial
            have HK4 := hide (HK3.out.trans (hg4.mono (q := fun k => k ≠ g) (fun _ _ _ => trivial)))
            have HW4 := hide (HW3.out.kept hg4 trivial)
            clear hg4 y0 y1 y2 y3 y4 y5 f1 HPd HB3 HW3 HK3
            cases hpd : paddedI f n q
            · have HPF := hide hpd
              clear hpd
              go_wp2
              go_ret
              exact ⟨false, S', A, D, t, rfl, HK4.out, HW4.out, HS3.out, .pad q S' HR.out HQ.out (by show D t < 8; omega) (by rw [HQ12.out.1, HQ12.out.2]; exact HC3.out) HPF.out⟩
            · have HPF := hide hpd
              clear hpd
              have hsl := HRoom.out q HR.out (by rw [HQ12.out.1, HQ12.out.2]; exact fun p h1 h2 => (HC3.out.2.2.1 rfl p h1 h2).1)
              have HF := hide (follow_any g S' A D t (D t + 1) n q w4 HOK.out HIN.out HQ.out hsl (by omega) HW4.out)
              unfold P.val at HF
              clear hsl
              go_wp2_with (first
                | (go_at_call 90; refine HF.out.mono ?_; rintro e w5 ⟨rfl, hk, hw⟩; have HK5 := hide (HK4.out.trans hk); have HW5 := hide hw; clear hk hw))
              go_ret
              exact ⟨true, S', _, _, _, rfl, HK5.out, HW5.out, HS3.out, .ok q S' HR.out HQ.out (by show D t < 8; omega) (by rw [HQ12.out.1, HQ12.out.2]; exact HC3.out) HPF.out⟩
end Go.Proofs.Ygcfac
