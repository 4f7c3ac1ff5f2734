import Derived.Test.YgcfacPadded
namespace Go.Proofs.Ygcfac
open Go.RowKit
set_option linter.unusedVariables false

/-- A valid.Walk that lies at the head of block g. -/
structure WalkAt (w : World) (g : Nat) (S A D : Nat → Nat) (sp : Nat) : Prop where
  set : ∀ j, j < 4 → w.cell? ⟨g, j, none⟩ = some (.int .u64 (S j))
  ats : ∀ k, k < 256 → w.cell? ⟨g, 4 + k * 2, none⟩ = some (.int .u16 (A k))
  dep : ∀ k, k < 256 → w.cell? ⟨g, 4 + k * 2 + 1, none⟩ = some (.int .u8 (D k))
  sp : w.cell? ⟨g, 516, none⟩ = some (.int .u16 sp)
  free : ∀ j, w.frozen? ⟨g, j, none⟩ = false
theorem WalkAt.kept {q : Nat → Prop} {w w' : World} {g : Nat} {S A D : Nat → Nat} {sp : Nat} (h : WalkAt w g S A D sp) (hk : Kept q w w') (hq : q g) : WalkAt w' g S A D sp :=
  ⟨fun j hj => hk.cell (h.set j hj) hq, fun j hj => hk.cell (h.ats j hj) hq, fun j hj => hk.cell (h.dep j hj) hq, hk.cell h.sp hq,
    fun j => by rw [hk.frozen (q := ⟨g, j, none⟩) (show g < w.heap.size from World.block_lt_of_cell? w ⟨g, 516, none⟩ h.sp) hq]; exact h.free j⟩
theorem WalkAt.lt {w : World} {g : Nat} {S A D : Nat → Nat} {sp : Nat} (h : WalkAt w g S A D sp) : g < w.heap.size := World.block_lt_of_cell? w ⟨g, 516, none⟩ h.sp

/-- Word p is in the set. -/
def mem (S : Nat → Nat) (p : Nat) : Bool := (S (p / 64)).testBit (p % 64)
/-- What claim does to the set. -/
def ClaimR (S : Nat → Nat) (a n : Nat) (ok : Bool) (S' : Nat → Nat) : Prop :=
  (∀ p, mem S p = true → mem S' p = true) ∧ (∀ p, mem S' p = true → mem S p = true ∨ (a ≤ p ∧ p < a + n)) ∧
  (ok = true → ∀ p, a ≤ p → p < a + n → mem S p = false ∧ mem S' p = true) ∧ (ok = false → ∃ p, a ≤ p ∧ p < a + n ∧ mem S p = true)

/-- The set with the run of r places from at on. -/
def orRun (S : Nat → Nat) (at_ r : Nat) : Nat → Nat := fun j => if j = at_ / 64 then S j ||| runM (at_ % 64) r else S j
theorem mem_orRun (S : Nat → Nat) (at_ r p : Nat) (h : at_ % 64 + r ≤ 64) : mem (orRun S at_ r) p = (mem S p || (decide (at_ ≤ p) && decide (p < at_ + r))) := by
  unfold mem orRun
  by_cases hj : p / 64 = at_ / 64
  · rw [if_pos hj, Nat.testBit_or, runM_bit]
    congr 1
    rw [decide_eq_decide.2 (show at_ % 64 ≤ p % 64 ↔ at_ ≤ p by omega), decide_eq_decide.2 (show p % 64 < at_ % 64 + r ↔ p < at_ + r by omega)]
  · rw [if_neg hj]
    have : (decide (at_ ≤ p) && decide (p < at_ + r)) = false := by
      rw [Bool.eq_false_iff]
      intro h
      simp at h
      omega
    rw [this, Bool.or_false]

theorem and_run (x a r : Nat) : (x &&& runM a r != 0) = true ↔ ∃ i, a ≤ i ∧ i < a + r ∧ x.testBit i = true := by
  rw [bne_iff_ne]
  constructor
  · intro h
    obtain ⟨i, hi⟩ := Nat.exists_testBit_of_ne_zero h
    rw [Nat.testBit_and, runM_bit] at hi
    simp at hi
    exact ⟨i, hi.2.1, hi.2.2, hi.1⟩
  · rintro ⟨i, h1, h2, h3⟩ e
    have := congrArg (fun y => Nat.testBit y i) e
    simp [Nat.testBit_and, runM_bit, h1, h2, h3] at this

theorem orRun_lt {S : Nat → Nat} {at_ r : Nat} (hS : ∀ j, S j < 18446744073709551616) (h : at_ % 64 + r ≤ 64) (j : Nat) : orRun S at_ r j < 18446744073709551616 := by
  unfold orRun
  split
  · have h1 := hS j
    have h2 := runM_lt (at_ % 64) r h
    exact Nat.or_lt_two_pow (n := 64) h1 h2
  · exact hS j

theorem cell_other {w : World} {g i j : Nat} {x v : Value} (h : w.cell? ⟨g, i, none⟩ = some v) (hne : j ≠ i) : (w.setCell ⟨g, j, none⟩ x).cell? ⟨g, i, none⟩ = some v := by
  rw [World.cell?_setCell_other _ _ _ _ (fun e => by injection e with _ e2 _; exact hne e2)]; exact h

theorem WalkAt.setSet {w : World} {g : Nat} {S A D : Nat → Nat} {sp : Nat} (h : WalkAt w g S A D sp) (j x : Nat) (hj : j < 4) :
    WalkAt (w.setCell ⟨g, j, none⟩ (.int .u64 x)) g (fun i => if i = j then x else S i) A D sp := by
  refine ⟨fun i hi => ?_, fun k hk => cell_other (h.ats k hk) (by omega), fun k hk => cell_other (h.dep k hk) (by omega), cell_other h.sp (by omega), fun i => by rw [World.frozen?_setCell]; exact h.free i⟩
  by_cases e : i = j
  · subst e
    simp only [if_true]
    exact World.cell?_setCell_same _ _ _ (h.set i hi)
  · simp only [if_neg e]
    exact cell_other (h.set i hi) (fun e' => e e'.symm)

theorem orRun_eq (S : Nat → Nat) (at_ r : Nat) : (fun i => if i = at_ / 64 then S (at_ / 64) ||| runM (at_ % 64) r else S i) = orRun S at_ r := by
  funext i
  unfold orRun
  by_cases h : i = at_ / 64
  · rw [if_pos h, if_pos h, h]
  · rw [if_neg h, if_neg h]

/-- The loop's relation. -/
def ClaimL (w : World) (g : Nat) (S A D : Nat → Nat) (sp a0 n0 : Nat) (at_ n : Nat) (wr : World) : Prop :=
  at_ + n = a0 + n0 ∧ a0 ≤ at_ ∧ Kept (fun k => k ≠ g) w wr ∧ ∃ S', WalkAt wr g S' A D sp ∧ (∀ j, S' j < 18446744073709551616) ∧
    (∀ p, mem S' p = (mem S p || (decide (a0 ≤ p) && decide (p < at_)))) ∧ ∀ p, a0 ≤ p → p < at_ → mem S p = false

set_option maxRecDepth 10000 in
theorem claim_any (g : Nat) (S A D : Nat → Nat) (sp : Nat) (p : P) (a0 n0 : Nat) (w : World) (hp : p.Ok) (hf : p.first = a0) (hn : wordsI p = n0) (hle : a0 + n0 ≤ 256) (hS : ∀ j, S j < 18446744073709551616) (hW : WalkAt w g S A D sp) :
    Calls Facg.prog 88 #[.pointer (some ⟨g, 0, none⟩), p.val] w fun e w' => ∃ ok S', e = .returned (.bool ok) ∧ Kept (fun k => k ≠ g) w w' ∧ WalkAt w' g S' A D sp ∧ (∀ j, S' j < 18446744073709551616) ∧ ClaimR S a0 n0 ok S' := by
  have HE := hide (fun w => extent_any p w hp (by omega))
  rw [hf, hn] at HE
  have HW := hide hW
  have HS := hide hS
  clear hp hf hn hW hS
  unfold P.val at *
  go_enter Facg.func88, Facg.ntmps88
  go_wp2_with (first
    | (go_at_call 141; refine (HE.out _).mono ?_; rintro e w1 ⟨rfl, hg⟩; have HG := hide (((Kept.refl _ _).alloc _).trans hg); clear hg))
  have HL : Hid (ClaimL w g S A D sp a0 n0 a0 n0 w1) := ⟨rfl, Nat.le_refl _, HG.out.mono (fun _ _ _ => trivial), S, HW.out.kept HG.out trivial, HS.out, fun p => by
    have : (decide (a0 ≤ p) && decide (p < a0)) = false := by rw [Bool.eq_false_iff]; intro h; simp at h; omega
    rw [this, Bool.or_false], fun p h1 h2 => by omega⟩
  clear HG HE
  go_loopw [5, 6, 4] (fun t u _ wr => ∃ at_ n : Nat, t = .int .u16 at_ ∧ u = .int .u16 n ∧ ClaimL w g S A D sp a0 n0 at_ n wr) (fun _ u _ _ => (intOf u).toNat)
  case atStart => exact ⟨a0, n0, rfl, rfl, HL.out⟩
  case round =>
    obtain ⟨at_, n, rfl, rfl, hl⟩ := hrel
    obtain ⟨h1, h2, hk, S', hw', hS', hm, hd⟩ := hl
    by_cases hn : n = 0
    · subst hn
      have HF := hide (show Kept (fun k => k ≠ g) w wr ∧ WalkAt wr g S' A D sp ∧ (∀ j, S' j < 18446744073709551616) ∧ ClaimR S a0 n0 true S' from
        ⟨hk, hw', hS', fun p hp => by rw [hm, hp]; rfl, fun p hp => by
          rw [hm] at hp
          cases hb : mem S p with
          | true => exact .inl rfl
          | false => rw [hb] at hp; simp at hp; exact .inr ⟨hp.1, by omega⟩, fun _ p q1 q2 => ⟨hd p q1 (by omega), by
            rw [hm, decide_eq_true q1, decide_eq_true (by omega : p < at_)]; simp⟩, fun h => by cases h⟩)
      clear hk hw' hS' hm hd
      go_wp2
      go_ret
      exact ⟨true, S', rfl, HF.out⟩
    · have hrun : ∃ r : Nat, (if (n : Int) < 64 - (at_ : Int) % 64 then (n : Int) else 64 - (at_ : Int) % 64) = (r : Int) ∧ 1 ≤ r ∧ r ≤ n ∧ at_ % 64 + r ≤ 64 ∧ (r = n ∨ at_ % 64 + r = 64) := by
        by_cases h : (n : Int) < 64 - (at_ : Int) % 64
        · exact ⟨n, by rw [if_pos h], by omega, by omega, by omega, .inl rfl⟩
        · exact ⟨64 - at_ % 64, by rw [if_neg h]; omega, by omega, by omega, by omega, .inr (by omega)⟩
      obtain ⟨r, hr, r1, r2, r3, r4⟩ := hrun
      have HP := hide (fun w => put_any (at_ % 64) r w r3 (by omega))
      have hj : at_ / 64 < 4 := by omega
      have hc0 := hw'.set (at_ / 64) hj
      have hcf := hw'.free (at_ / 64)
      have hx := hS' (at_ / 64)
      have hand := u64_and_nat (S' (at_ / 64)) (runM (at_ % 64) r) (by omega) (by have := runM_lt _ _ r3; omega)
      have hor := u64_or_nat (S' (at_ / 64)) (runM (at_ % 64) r) (by omega) (by have := runM_lt _ _ r3; omega)
      have hlt := runM_lt _ _ r3
      have har := and_run (S' (at_ / 64)) (at_ % 64) r
      have HA := hide har
      clear har
      have hn0 : decide (0 < n) = true := decide_eq_true (by omega)
      have HK := hide hk
      have HW' := hide hw'
      have HS' := hide hS'
      have HM := hide hm
      have HD := hide hd
      have HX := hide (WalkAt.setSet hw' (at_ / 64) (S' (at_ / 64) ||| runM (at_ % 64) r) hj)
      clear hk hw' hS' hm hd
      cases hb : (S' (at_ / 64) &&& runM (at_ % 64) r != 0) with
      | true =>
        have HB := hide hb
        have hbI : (((S' (at_ / 64) &&& runM (at_ % 64) r : Nat) : Int) != 0) = true := by rw [bne_iff_ne] at hb ⊢; omega
        clear hb HX
        go_wp2_with (first
          | (go_at_call 142; refine (HP.out _).mono ?_; rintro e w2 ⟨rfl, rfl⟩))
        go_ret
        refine ⟨false, S', rfl, HK.out, HW'.out, HS'.out, fun p hp => by rw [HM.out, hp]; rfl, fun p hp => ?_, fun h => (by cases h), fun _ => ?_⟩
        · rw [HM.out] at hp
          cases hb : mem S p with
          | true => exact .inl rfl
          | false => rw [hb] at hp; simp at hp; exact .inr ⟨hp.1, by omega⟩
        · obtain ⟨i, i1, i2, i3⟩ := HA.out.1 HB.out
          have hq : (64 * (at_ / 64) + i) / 64 = at_ / 64 ∧ (64 * (at_ / 64) + i) % 64 = i := by omega
          refine ⟨64 * (at_ / 64) + i, by omega, by omega, ?_⟩
          have hmm : mem S' (64 * (at_ / 64) + i) = true := by unfold mem; rw [hq.1, hq.2]; exact i3
          rw [HM.out] at hmm
          have : (decide (a0 ≤ 64 * (at_ / 64) + i) && decide (64 * (at_ / 64) + i < at_)) = false := by rw [Bool.eq_false_iff]; intro h; simp at h; omega
          rw [this, Bool.or_false] at hmm
          exact hmm
      | false =>
        have HB := hide hb
        have hbI : (((S' (at_ / 64) &&& runM (at_ % 64) r : Nat) : Int) != 0) = false := by rw [Bool.eq_false_iff] at hb ⊢; intro h; apply hb; rw [bne_iff_ne] at h ⊢; omega
        clear hb
        go_wp2_with (first
          | (go_at_call 142; refine (HP.out _).mono ?_; rintro e w2 ⟨rfl, rfl⟩))
        go_region
        go_wp2
        go_roundw
        case rel =>
          refine ⟨at_ + r, n - r, by congr 1, by congr 1; omega, by omega, by omega, (HK.out.setCell (.inr (fun h => h rfl)) _).drew, orRun S' at_ r, ?_, orRun_lt HS'.out r3, fun p => ?_, fun p q1 q2 => ?_⟩
          · rw [← orRun_eq]
            exact HX.out.kept (q := fun _ => True) (Kept.refl _ _).drew trivial
          · rw [mem_orRun _ _ _ _ r3, HM.out, Bool.or_assoc]
            congr 1
            rw [Bool.eq_iff_iff]
            simp
            omega
          · by_cases hp : p < at_
            · exact HD.out p q1 hp
            · cases hb : mem S p with
              | false => rfl
              | true =>
                have hm' : mem S' p = true := by rw [HM.out, hb]; rfl
                unfold mem at hm'
                have := HA.out.2 ⟨p % 64, by omega, by omega, by rw [show at_ / 64 = p / 64 by omega]; exact hm'⟩
                rw [HB.out] at this
                cases this
        case measure => simp [intOf]; omega
end Go.Proofs.Ygcfac
