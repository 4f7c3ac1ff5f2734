import Derived.Test.YgcfacAcc
namespace Go.Proofs.Ygcfac
open Go.RowKit
set_option linter.unusedVariables false

theorem walk_of_range {w : World} {g : Nat} {L : List Value} {S A D : Nat → Nat} {sp : Nat} (h : w.rangeAt g 0 L) (hc : WalkCells L.toArray S A D sp) (hf : ∀ j, w.frozen? ⟨g, j, none⟩ = false) : WalkAt w g S A D sp := by
  have get : ∀ j v, L.toArray[j]? = some v → w.cell? ⟨g, j, none⟩ = some v := fun j v hv => by
    have := h j v (by simpa using hv)
    rwa [Nat.zero_add] at this
  exact ⟨fun j hj => get _ _ (hc.set j hj), fun k hk => get _ _ (hc.ats k hk), fun k hk => get _ _ (hc.dep k hk), get _ _ hc.sp, hf⟩

theorem step_less_any {f : Nat → Int} {n : Nat} {S A D : Nat → Nat} {t : Nat} {ok : Bool} {S' A' D' : Nat → Nat} {sp' : Nat} (hf : ∀ j, 0 ≤ f j ∧ f j < 18446744073709551616) (hm : Mid n S A D (t + 1)) (hs : VStepR f n S A D (t + 1) ok S' A' D' sp') : (freeL S' n).length + sp' ≤ (freeL S n).length + t := by
  cases ok with
  | true => exact step_less hf hm hs
  | false =>
    have mono : ∀ S', (∀ p, mem S p = true → mem S' p = true) → (freeL S' n).length ≤ (freeL S n).length := fun S' h => nodup_le (freeL_nodup _ _) (fun x hx => by
      have h2 := mem_freeL.1 hx
      refine mem_freeL.2 ⟨h2.1, ?_⟩
      rw [Bool.eq_false_iff]
      intro h3
      rw [h _ h3] at h2
      exact absurd h2.2 (by simp))
    cases hs using VStepR.ways with
    | bad h => simp
    | deep q h hk hd => simp
    | shared q _ h hk hd hc => have := mono S' hc.1; simp only [Nat.add_sub_cancel]; omega
    | pad q _ h hk hd hc hp => have := mono S' hc.1; simp only [Nat.add_sub_cancel]; omega

/-- The loop's measure, read off the memory. -/
def natAt (w : World) (g j : Nat) : Nat := match w.cell? ⟨g, j, none⟩ with
  | some (.int _ x) => x.toNat
  | _ => 0
def leftIn (g n : Nat) (w : World) : Nat := (freeL (fun j => natAt w g j) n).length + natAt w g 516
theorem leftIn_of {w : World} {g n : Nat} {S A D : Nat → Nat} {sp : Nat} (h : WalkAt w g S A D sp) (hn : n ≤ 256) : leftIn g n w = (freeL S n).length + sp := by
  have h1 : natAt w g 516 = sp := by unfold natAt; rw [h.sp]; rfl
  have h2 : freeL (fun j => natAt w g j) n = freeL S n := by
    unfold freeL
    apply List.filter_congr
    intro p hp
    have hp := List.mem_range.1 hp
    have : natAt w g (p / 64) = S (p / 64) := by unfold natAt; rw [h.set _ (by omega)]; rfl
    unfold mem
    simp only
    rw [this]
  unfold leftIn
  rw [h1, h2]

theorem start_set (p : Nat) : mem (fun j => if j = 0 then 1 else 0) p = true ↔ p = 0 := by
  unfold mem
  simp only
  by_cases hp : p / 64 = 0
  · rw [if_pos hp, bit_of]
    simp
    by_cases h0 : p % 64 = 0
    · rw [h0]; simp; omega
    · constructor
      · intro h
        exfalso
        have : 2 ≤ 2 ^ (p % 64) := by
          calc 2 = 2 ^ 1 := rfl
            _ ≤ 2 ^ (p % 64) := Nat.pow_le_pow_right (by decide) (by omega)
        rw [Nat.div_eq_of_lt (by omega)] at h
        simp at h
      · intro h; omega
  · rw [if_neg hp]
    simp
    omega
theorem start_mid {n : Nat} (h1 : 1 ≤ n) (h2 : n ≤ 256) : Mid n (fun j => if j = 0 then 1 else 0) (fun _ => 0) (fun _ => 0) 1 :=
  ⟨h1, h2, (start_set 0).2 rfl, fun p hp _ => by
    rw [Bool.eq_false_iff]
    intro h
    have := (start_set p).1 h
    omega, by decide, fun k _ => ⟨by omega, by decide, (start_set 0).2 rfl⟩, fun j k h1 h2 => by omega⟩
theorem Kept.set4 {p : Nat → Prop} {w w2 : World} {B : Nat} (h : Kept p w w2) (hB : w.heap.size ≤ B) (v0 v1 v2 v3 : Value) :
    Kept p w ((((w2.setCell ⟨B, 0, none⟩ v0).setCell ⟨B, 1, none⟩ v1).setCell ⟨B, 2, none⟩ v2).setCell ⟨B, 3, none⟩ v3) :=
  (((h.setCell (.inl hB) _).setCell (.inl hB) _).setCell (.inl hB) _).setCell (.inl hB) _

def ClaimedPost (w : World) (f : Nat → Int) (n : Nat) (e : Ending) (w' : World) : Prop :=
  ∃ b x0 x1 x2 x3, e = .returned (.tuple #[.agg #[.int .u64 x0, .int .u64 x1, .int .u64 x2, .int .u64 x3], .bool b]) ∧ Grows w w' ∧ (b = true ↔ ArenaOk f n)

set_option maxRecDepth 10000 in
theorem claimed_any (a : Option Addr) (n c : Nat) (f : Nat → Int) (w : World) (hn : n ≤ 9223372036854775807) (hA : ArenaAt w a n f) (hlt : ∀ b o, a = some ⟨b, o, none⟩ → b < w.heap.size) :
    Calls Facg.prog 53 #[.slice a n c] w (ClaimedPost w f n) := by
  have HA := hide hA
  have HLt := hide hlt
  clear hA hlt
  cases hok : decide (1 ≤ n ∧ n ≤ 256) with
  | false =>
    have HSt := hide (fun w => start_any a n c w hn false hok)
    have HF : Hid (¬ ArenaOk f n) := fun h => by
      have h1 := h.1
      have h2 := h.2.1
      simp at hok
      omega
    go_enter Facg.func53, Facg.ntmps53
    go_wp2_with (fail)
    refine (HSt.out _).mono ?_
    rintro e w2 ⟨L, rfl, hg, q1, q3, q4⟩
    have HI : Hid ((Facg.prog.info? 81).map (·.size) = some L.length) := by unfold Hid; rw [q3]; exact info81
    have HAll : Hid (L.toArray.all (·.oneCell') = true) := all_oneCell_toArray q4
    have HQ4 : Hid (L.toArray.size = 517) := q3
    have HTh := hide (zero_there w2)
    obtain ⟨W5, hW5⟩ : ∃ W, W = (w2.alloc (.cells Facg.zeroCells81 81)).setCells w2.heap.size 0 L := ⟨_, rfl⟩
    have hK5 : Kept (fun k => k ≠ w2.heap.size) (w2.alloc (.cells Facg.zeroCells81 81)) W5 := by rw [hW5]; exact kept_setCells _ _ _ _ _ (Kept.refl _ _)
    have hg2 := (hg.alloc (.cells Facg.zeroCells81 81)).mono (q := fun k => k ≠ w2.heap.size) (fun _ _ _ => trivial) |>.trans hK5
    have hs0 : w.heap.size < w2.heap.size := by have := hg.size; rw [World.size_alloc] at this; omega
    have z0 := hg2.cell (q := ⟨w.heap.size, 0, none⟩) (v := .int .u64 0) (by simp) (by simp only; omega)
    have z1 := hg2.cell (q := ⟨w.heap.size, 1, none⟩) (v := .int .u64 0) (by simp) (by simp only; omega)
    have z2 := hg2.cell (q := ⟨w.heap.size, 2, none⟩) (v := .int .u64 0) (by simp) (by simp only; omega)
    have z3 := hg2.cell (q := ⟨w.heap.size, 3, none⟩) (v := .int .u64 0) (by simp) (by simp only; omega)
    have zf : ∀ j, W5.frozen? ⟨w.heap.size, j, none⟩ = false := fun j => by
      rw [hg2.frozen (q := ⟨w.heap.size, j, none⟩) (by simp) (by simp only; omega)]
      exact World.frozen?_alloc_at _ _ _ _ rfl
    have HG5 : Hid (Grows w W5) := ((Kept.refl _ _).alloc _).then hg2 (fun i hi _ => by omega)
    have HW5e := hide hW5
    clear q1 q3 q4 hg hg2 hK5 hW5
    go_wp2_with (first
      | (refine wpList_store_mid rfl 81 (.tmp 4) (.tmp 8) rfl w2.heap.size 0 L.toArray rfl rfl (by rw [HQ4.out]; exact HTh.out) HI.out HAll.out ?_; rw [show L.toArray.toList = L from rfl, ← HW5e.out]))
    go_loopw [3] (fun t wr => t = .bool false ∧ wr = W5) (fun _ _ => 0)
    case atStart => exact ⟨rfl, rfl⟩
    case round =>
      obtain ⟨rfl, hwr⟩ := hrel
      have hwr' := hwr.symm
      subst hwr'
      clear hwr
      go_wp2
      refine bodyPost_ret (v := .tuple #[.agg #[.int .u64 0, .int .u64 0, .int .u64 0, .int .u64 0], .bool false]) (by simp [results, Facg.results53, go_sem, z0, z1, z2, z3]) rfl ⟨false, 0, 0, 0, 0, rfl, ?_, ⟨fun h => (by cases h), fun h => absurd h HF.out⟩⟩
      exact HG5.out.set4 (Nat.le_refl _) _ _ _ _
  | true =>
    have hyes : 1 ≤ n ∧ n ≤ 256 := by simpa using hok
    have HSt := hide (fun w => start_any a n c w hn true hok)
    go_enter Facg.func53, Facg.ntmps53
    go_wp2_with (fail)
    refine (HSt.out _).mono ?_
    rintro e w2 ⟨L, rfl, hg, q1, q3, q4⟩
    have HI : Hid ((Facg.prog.info? 81).map (·.size) = some L.length) := by unfold Hid; rw [q3]; exact info81
    have HAll : Hid (L.toArray.all (·.oneCell') = true) := all_oneCell_toArray q4
    have HQ4 : Hid (L.toArray.size = 517) := q3
    have HTh := hide (zero_there w2)
    obtain ⟨W5, hW5⟩ : ∃ W, W = (w2.alloc (.cells Facg.zeroCells81 81)).setCells w2.heap.size 0 L := ⟨_, rfl⟩
    have hK5 : Kept (fun k => k ≠ w2.heap.size) (w2.alloc (.cells Facg.zeroCells81 81)) W5 := by rw [hW5]; exact kept_setCells _ _ _ _ _ (Kept.refl _ _)
    have hg2 := (hg.alloc (.cells Facg.zeroCells81 81)).mono (q := fun k => k ≠ w2.heap.size) (fun _ _ _ => trivial) |>.trans hK5
    have hs0 : w.heap.size < w2.heap.size := by have := hg.size; rw [World.size_alloc] at this; omega
    have z0 := hg2.cell (q := ⟨w.heap.size, 0, none⟩) (v := .int .u64 0) (by simp) (by simp only; omega)
    have z1 := hg2.cell (q := ⟨w.heap.size, 1, none⟩) (v := .int .u64 0) (by simp) (by simp only; omega)
    have z2 := hg2.cell (q := ⟨w.heap.size, 2, none⟩) (v := .int .u64 0) (by simp) (by simp only; omega)
    have z3 := hg2.cell (q := ⟨w.heap.size, 3, none⟩) (v := .int .u64 0) (by simp) (by simp only; omega)
    have zf : ∀ j, W5.frozen? ⟨w.heap.size, j, none⟩ = false := fun j => by
      rw [hg2.frozen (q := ⟨w.heap.size, j, none⟩) (by simp) (by simp only; omega)]
      exact World.frozen?_alloc_at _ _ _ _ rfl
    have HG5 : Hid (Grows w W5) := ((Kept.refl _ _).alloc _).then hg2 (fun i hi _ => by omega)
    have HW5e := hide hW5
    have hrange : W5.rangeAt w2.heap.size 0 L := by
      rw [hW5]
      exact World.rangeAt_setCells_same _ _ _ _ (by rw [q3]; exact HTh.out)
    have hfz : ∀ j, W5.frozen? ⟨w2.heap.size, j, none⟩ = false := fun j => by
      rw [hW5, World.frozen?_setCells]
      exact World.frozen?_alloc_at _ _ _ _ rfl
    have HW5 := hide (walk_of_range hrange q1 hfz)
    have HK5 : Hid (Kept (fun k => k ≠ w2.heap.size) w W5) := ((Kept.refl _ _).alloc _).trans hg2
    clear q1 q3 q4 hg hg2 hK5 hW5 hrange hfz
    go_wp2_with (first
      | (refine wpList_store_mid rfl 81 (.tmp 4) (.tmp 8) rfl w2.heap.size 0 L.toArray rfl rfl (by rw [HQ4.out]; exact HTh.out) HI.out HAll.out ?_; rw [show L.toArray.toList = L from rfl, ← HW5e.out]))
    have hglt := HW5.out.lt
    go_loopw [3] (fun t wr => ∃ ok S A D sp, t = .bool ok ∧ Kept (fun k => k ≠ w2.heap.size) W5 wr ∧ WalkAt wr w2.heap.size S A D sp ∧ (∀ j, S j < 18446744073709551616) ∧ (∀ k, A k < 65536) ∧ (∀ k, D k < 256) ∧ Mid n S A D sp ∧ (ok = true → (ArenaOk f n ↔ Acc f n (fun p => mem S p = true) (stkE A D sp))) ∧ (ok = false → ¬ ArenaOk f n)) (fun _ wr => leftIn w2.heap.size n wr)
    case atStart =>
      exact ⟨true, fun j => if j = 0 then 1 else 0, fun _ => 0, fun _ => 0, 1, rfl, Kept.refl _ _, HW5.out, fun j => (by show (if j = 0 then 1 else 0) < 18446744073709551616; split <;> decide), fun _ => (by simp), fun _ => (by simp), start_mid hyes.1 hyes.2, fun _ => (acc_start hyes.1 hyes.2).symm, fun h => (by cases h)⟩
    case round =>
      obtain ⟨ok, S, A, D, sp, rfl, hk, hw, hS, hAb, hDb, hmid, ht, hf⟩ := hrel
      have HK := hide hk
      have HW := hide hw
      have HS := hide hS
      have HAb := hide hAb
      have HDb := hide hDb
      have HM := hide hmid
      have HTr := hide ht
      have HFl := hide hf
      have c0 := hw.sp
      have hle := hmid.le
      have s0 := hw.set 0 (by decide)
      have s1 := hw.set 1 (by decide)
      have s2 := hw.set 2 (by decide)
      have s3 := hw.set 3 (by decide)
      have y0 := hk.cell z0 (show w.heap.size ≠ w2.heap.size by omega)
      have y1 := hk.cell z1 (show w.heap.size ≠ w2.heap.size by omega)
      have y2 := hk.cell z2 (show w.heap.size ≠ w2.heap.size by omega)
      have y3 := hk.cell z3 (show w.heap.size ≠ w2.heap.size by omega)
      have yf : ∀ j, wr.frozen? ⟨w.heap.size, j, none⟩ = false := fun j => by
        rw [hk.frozen (q := ⟨w.heap.size, j, none⟩) (show w.heap.size < W5.heap.size by omega) (show w.heap.size ≠ w2.heap.size by omega)]
        exact zf j
      clear hk hw hS hAb hDb ht hf
      have HGr : Hid (Grows w wr) := HG5.out.then HK.out (fun i hi _ => by omega)
      cases ok
      · go_wp2
        refine bodyPost_ret (v := .tuple #[.agg #[.int .u64 0, .int .u64 0, .int .u64 0, .int .u64 0], .bool false]) (by simp [results, Facg.results53, go_sem, y0, y1, y2, y3]) rfl ⟨false, 0, 0, 0, 0, rfl, HGr.out.set4 (Nat.le_refl _) _ _ _ _, ⟨fun h => (by cases h), fun h => absurd h (HFl.out (by first | exact rfl | trivial))⟩⟩
      · by_cases hsp : sp = 0
        · subst hsp
          go_wp2
          refine bodyPost_ret (v := .tuple #[.agg #[.int .u64 (S 0), .int .u64 (S 1), .int .u64 (S 2), .int .u64 (S 3)], .bool true]) (by simp [results, Facg.results53, go_sem, y0, y1, y2, y3]) rfl ⟨true, S 0, S 1, S 2, S 3, rfl, HGr.out.set4 (Nat.le_refl _) _ _ _ _, ⟨fun _ => (HTr.out (by first | exact rfl | trivial)).2 acc_end, fun _ => rfl⟩⟩
        · obtain ⟨t, rfl⟩ : ∃ t, sp = t + 1 := ⟨sp - 1, by omega⟩
          have hd0 : decide ((0 : Int) < ((t + 1 : Nat) : Int)) = true := decide_eq_true (by omega)
          have HSp := hide (vstep_any w2.heap.size a n c f S A D t wr (by omega) hn (HAb.out t) (HDb.out t) HS.out (HA.out.kept (HK5.out.trans HK.out) (fun b o e => by have := HLt.out b o e; omega)) (fun b o e => by have := HLt.out b o e; omega) HW.out (fun q hq hfr => by
            have := mid_room HM.out (resolve_fine HA.out.1 hq) hfr
            have := HM.out.hi
            omega))
          clear hmid
          go_wp2_with (fail)
          refine HSp.out.mono ?_
          rintro e w3 ⟨ok, S', A', D', sp', rfl, hk3, hw3, hS3, hr3⟩
          have hmid' := step_mid HA.out.1 HM.out hr3
          obtain ⟨bA, bD⟩ := step_bd HA.out.1 HM.out hr3 HAb.out HDb.out
          have hacc := step_acc hr3
          have hless := step_less_any HA.out.1 HM.out hr3
          have HLess : Hid (leftIn w2.heap.size n w3 < leftIn w2.heap.size n wr) := by
            unfold Hid
            rw [leftIn_of hw3 hyes.2, leftIn_of HW.out hyes.2]
            omega
          have HRel := hide (show Kept (fun k => k ≠ w2.heap.size) W5 w3 ∧ WalkAt w3 w2.heap.size S' A' D' sp' ∧ (∀ j, S' j < 18446744073709551616) ∧ (∀ k, A' k < 65536) ∧ (∀ k, D' k < 256) ∧ Mid n S' A' D' sp' ∧ (ok = true → (ArenaOk f n ↔ Acc f n (fun p => mem S' p = true) (stkE A' D' sp'))) ∧ (ok = false → ¬ ArenaOk f n) from
            ⟨HK.out.trans hk3, hw3, hS3, bA, bD, hmid', fun h => (HTr.out (by first | exact rfl | trivial)).trans (hacc.1 h), fun h hx => hacc.2 h ((HTr.out (by first | exact rfl | trivial)).1 hx)⟩)
          clear hk3 hw3 hS3 hr3 hmid' bA bD hacc hless HSp
          go_wp2
          go_roundw
          case rel => exact ⟨ok, S', A', D', sp', rfl, HRel.out⟩
          case measure => exact HLess.out

set_option maxRecDepth 10000 in
theorem validate_any (a : Option Addr) (n c : Nat) (f : Nat → Int) (w : World) (hn : n ≤ 9223372036854775807) (hA : ArenaAt w a n f) (hlt : ∀ b o, a = some ⟨b, o, none⟩ → b < w.heap.size) :
    Calls Facg.prog 16 #[.slice a n c] w fun e w' => ∃ b, e = .returned (.bool b) ∧ Grows w w' ∧ (b = true ↔ ArenaOk f n) := by
  have HC := hide (claimed_any a n c f w hn hA hlt)
  clear hA hlt
  go_enter Facg.func16, Facg.ntmps16
  go_wp2_with (fail)
  refine HC.out.mono ?_
  rintro e w2 ⟨b, x0, x1, x2, x3, rfl, hg, hb⟩
  have HG := hide hg
  have HB := hide hb
  clear hg hb
  go_wp2
  go_ret
  exact ⟨b, rfl, HG.out.alloc _, HB.out⟩
end Go.Proofs.Ygcfac
