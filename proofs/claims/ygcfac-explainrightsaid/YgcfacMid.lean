import Derived.Test.YgcfacVStep
namespace Go.Proofs.Ygcfac
open Go.RowKit
set_option linter.unusedVariables false

/-- What CheckMid asks. -/
structure Mid (n : Nat) (S A D : Nat → Nat) (sp : Nat) : Prop where
  lo : 1 ≤ n
  hi : n ≤ 256
  zero : mem S 0 = true
  out : ∀ p, n ≤ p → p < 256 → mem S p = false
  le : sp ≤ 256
  ent : ∀ k, k < sp → A k < n ∧ D k ≤ 8 ∧ mem S (A k) = true
  one : ∀ j k, j < k → k < sp → A j ≠ A k

def MidPost (w : World) (n : Nat) (S A D : Nat → Nat) (sp : Nat) (e : Ending) (w' : World) : Prop :=
  ∃ b, e = .returned (.bool b) ∧ Grows w w' ∧ (b = true ↔ Mid n S A D sp)

theorem bit_of (x i : Nat) : x.testBit i = decide (x / 2 ^ i % 2 = 1) := Nat.testBit_eq_decide_div_mod_eq

theorem mid_no (g : Nat) (S A D : Nat → Nat) (sp : Nat) (a : Option Addr) (n c : Nat) (w : World) (hn : n ≤ 9223372036854775807) (hW : WalkAt w g S A D sp) (h : n < 1 ∨ 256 < n) :
    Calls Facg.prog 43 #[.pointer (some ⟨g, 0, none⟩), .slice a n c] w (MidPost w n S A D sp) := by
  have HF : Hid (¬ Mid n S A D sp) := fun hm => by have := hm.lo; have := hm.hi; omega
  by_cases h1 : n < 1
  · have hd : decide ((n : Int) < 1) = true := decide_eq_true (by omega)
    clear h hW
    go_enter Facg.func43, Facg.ntmps43
    go_wp2
    go_ret
    exact ⟨false, rfl, Kept.refl _ _, ⟨fun h => (by cases h), fun h => absurd h HF.out⟩⟩
  · have hd : decide ((n : Int) < 1) = false := decide_eq_false (by omega)
    have hd2 : decide ((256 : Int) < (n : Int)) = true := decide_eq_true (by omega)
    clear h hW
    go_enter Facg.func43, Facg.ntmps43
    go_wp2
    go_ret
    exact ⟨false, rfl, Kept.refl _ _, ⟨fun h => (by cases h), fun h => absurd h HF.out⟩⟩

theorem and_one (x : Nat) (h : x < 18446744073709551616) : bits .and .u64 (x : Int) 1 = ((x % 2 : Nat) : Int) := by
  have := u64_and_nat x 1 (by omega) (by decide)
  rw [Nat.and_one_is_mod] at this
  exact this

theorem stack_slice (g sp : Nat) (h : sp ≤ 256) (w : World) : (Instr.sliceAt 79 (.pointer (some ⟨g, 4, none⟩)) none (some (.int .u16 (sp : Int))) none).run Facg.prog w = .ok (.slice (some ⟨g, 4, none⟩) sp 256) w := by
  have hl : Facg.prog.arrayLen 79 = 256 := by kernel_rfl
  have hu : Facg.prog.underlying 79 = some (.array (Facg.prog.arrayLen 79) (Facg.prog.elem 79)) := by kernel_rfl
  rw [run_sliceAt_array_h _ _ _ hu .u16 (sp : Int) (by omega) (by rw [hl]; omega)]
  have he : Facg.prog.elem 79 = 78 := by kernel_rfl
  rw [he, hl, Facg.sizeOf78]
  simp [slicedAt, Addr.add]

/-- The second loop's relation: the entries below i are in order, and seen holds their words. -/
def MidL (w : World) (n : Nat) (S A D : Nat → Nat) (sp i : Nat) (wr : World) : Prop :=
  i ≤ sp ∧ Grows w wr ∧ ∃ T : Nat → Nat, (∀ j, j < 4 → wr.cell? ⟨w.heap.size, j, none⟩ = some (.int .u64 (T j))) ∧ (∀ j, wr.frozen? ⟨w.heap.size, j, none⟩ = false) ∧ (∀ j, T j < 18446744073709551616) ∧
    (∀ p, mem T p = true ↔ ∃ k, k < i ∧ A k = p) ∧ (∀ k, k < i → A k < n ∧ D k ≤ 8 ∧ mem S (A k) = true) ∧ ∀ j k, j < k → k < i → A j ≠ A k

theorem midL_start (w : World) (n : Nat) (S A D : Nat → Nat) (sp : Nat) {wr : World} (hg : Grows (w.alloc (.cells #[.int .u64 0, .int .u64 0, .int .u64 0, .int .u64 0] 76)) wr) : MidL w n S A D sp 0 wr := by
  refine ⟨Nat.zero_le _, ((Kept.refl _ _).alloc _).trans hg, fun _ => 0, fun j hj => hg.cell ?_ trivial, fun j => ?_, fun _ => (by simp), fun p => ⟨fun h => ?_, fun ⟨k, h, _⟩ => by omega⟩, fun k h => by omega, fun j k _ h => by omega⟩
  · have : j = 0 ∨ j = 1 ∨ j = 2 ∨ j = 3 := by omega
    rcases this with rfl | rfl | rfl | rfl <;> exact box_cell w _ 76 _ _ rfl
  · rw [hg.frozens _ j (by simp)]; exact World.frozen?_alloc_at _ _ _ _ rfl
  · unfold mem at h; simp at h

set_option maxRecDepth 10000 in
theorem mid_any (g : Nat) (S A D : Nat → Nat) (sp : Nat) (a : Option Addr) (n c : Nat) (w : World) (h1 : 1 ≤ n) (h2 : n ≤ 256) (hW : WalkAt w g S A D sp) (hS : ∀ j, S j < 18446744073709551616) (hsp : sp < 65536) (hAb : ∀ k, A k < 65536) (hDb : ∀ k, D k < 256) :
    Calls Facg.prog 43 #[.pointer (some ⟨g, 0, none⟩), .slice a n c] w (MidPost w n S A D sp) := by
  have hd1 : decide ((n : Int) < 1) = false := decide_eq_false (by omega)
  have hd2 : decide ((256 : Int) < (n : Int)) = false := decide_eq_false (by omega)
  have c0 := hW.set 0 (by decide)
  have ha := and_one (S 0) (hS 0)
  have HW := hide hW
  have HS := hide hS
  have HA := hide hAb
  have HD := hide hDb
  have c5 := hW.sp
  clear hW hS hAb hDb
  obtain ⟨z, hz0⟩ : ∃ z, z = S 0 % 2 := ⟨_, rfl⟩
  rw [← hz0] at ha
  have HZ0 := hide hz0
  clear hz0
  cases hz : ((z : Int) == 0) with
  | true =>
    have HF : Hid (¬ Mid n S A D sp) := fun hm => by
      have h1 := hm.zero
      have h2 := HZ0.out
      unfold mem at h1
      rw [bit_of] at h1
      simp at h1 hz
      omega
    go_enter Facg.func43, Facg.ntmps43
    go_wp2
    go_ret
    exact ⟨false, rfl, Kept.refl _ _, ⟨fun h => (by cases h), fun h => absurd h HF.out⟩⟩
  | false =>
    have HZ : Hid (mem S 0 = true) := by
      have h2 := HZ0.out
      unfold Hid mem
      rw [bit_of]
      simp at hz ⊢
      omega
    go_enter Facg.func43, Facg.ntmps43
    go_wp2
    clear ha
    go_loopw [5] (fun t wr => ∃ p : Nat, t = .int .i64 p ∧ n ≤ p ∧ p ≤ 256 ∧ wr = w ∧ ∀ x, n ≤ x → x < p → mem S x = false) (fun t _ => 256 - (intOf t).toNat)
    case atStart => exact ⟨n, rfl, Nat.le_refl _, h2, rfl, fun x q1 q2 => by omega⟩
    case round =>
      obtain ⟨p, rfl, p1, p2, hwr, hp⟩ := hrel
      have hwr' := hwr.symm
      subst hwr'
      clear hwr
      have HP := hide hp
      clear hp
      by_cases hlt : p < 256
      · have hdp : decide ((p : Int) < 256) = true := decide_eq_true (by omega)
        have cj := HW.out.set (p / 64) (by omega)
        have hx := HS.out (p / 64)
        have hdiv : S (p / 64) / 2 ^ (p % 64) < 18446744073709551616 := Nat.lt_of_le_of_lt (Nat.div_le_self _ _) hx
        have ho : bits .and .u64 ((S (p / 64) : Int) / 2 ^ (p % 64)) 1 = ((S (p / 64) / 2 ^ (p % 64) % 2 : Nat) : Int) := by
          rw [← and_one _ hdiv]
          simp
        obtain ⟨y, hy0⟩ : ∃ y, y = S (p / 64) / 2 ^ (p % 64) % 2 := ⟨_, rfl⟩
        rw [← hy0] at ho
        have HY := hide hy0
        clear hy0
        cases hb : ((y : Int) == 1) with
        | true =>
          have HF : Hid (¬ Mid n S A D sp) := fun hm => by
            have h1 := hm.out p p1 hlt
            have h2 := HY.out
            unfold mem at h1
            rw [bit_of] at h1
            simp at h1 hb
            omega
          go_wp2
          go_ret
          exact ⟨false, rfl, Kept.refl _ _, ⟨fun h => (by cases h), fun h => absurd h HF.out⟩⟩
        | false =>
          have HQ : Hid (mem S p = false) := by
            have h2 := HY.out
            unfold Hid mem
            rw [bit_of]
            simp at hb ⊢
            omega
          go_wp2
          go_roundw
          case rel => exact ⟨p + 1, rfl, by omega, by omega, trivial, fun x q1 q2 => by
            by_cases hx : x = p
            · subst hx; exact HQ.out
            · exact HP.out x q1 (by omega)⟩
          case measure => simp [intOf]; omega
      · have hdp : decide ((p : Int) < 256) = false := decide_eq_false (by omega)
        have hp256 : p = 256 := by omega
        subst hp256
        clear p1 p2 hlt
        by_cases hs : 256 < sp
        · have hds : decide ((256 : Int) < (sp : Int)) = true := decide_eq_true (by omega)
          have HF : Hid (¬ Mid n S A D sp) := fun hm => by have := hm.le; omega
          go_wp2
          go_ret
          exact ⟨false, rfl, Kept.refl _ _, ⟨fun h => (by cases h), fun h => absurd h HF.out⟩⟩
        · have hds : decide ((256 : Int) < (sp : Int)) = false := decide_eq_false (by omega)
          have hglt := HW.out.lt
          have hslice := stack_slice g sp (by omega)
          go_wp2
          go_quiet (fail)
          go_wp2
          go_loopw [63] (fun t wx => ∃ i : Nat, t = .int .i64 i ∧ MidL w n S A D sp i wx) (fun t _ => sp - (intOf t).toNat)
          case atStart => exact ⟨0, rfl, midL_start w n S A D sp (by first | exact Kept.refl _ _ | exact (Kept.refl _ _).drewN _)⟩
          case round =>
            obtain ⟨i, rfl, hi, hg, T, ht, htf, htb, htm, hent, hone⟩ := hrel
            have HG := hide hg
            have HT := hide (And.intro ht (And.intro htf (And.intro htb htm)))
            have HEnt := hide hent
            have HOne := hide hone
            have hglt2 : g < wr.heap.size := Nat.lt_of_lt_of_le hglt hg.size
            have hGlt : w.heap.size < wr.heap.size := World.block_lt_of_cell? wr ⟨w.heap.size, 0, none⟩ (ht 0 (by decide))
            clear hg ht htf htb htm hent hone c0 c5
            by_cases hlt : i < sp
            · have hdi : decide (i < sp) = true := decide_eq_true hlt
              have a0 := (HW.out.kept HG.out trivial).ats i (by omega)
              have a1 := (HW.out.kept HG.out trivial).dep i (by omega)
              have hab := HA.out i
              have hdb := HD.out i
              by_cases hn1 : n ≤ A i
              · have hdn : decide (n ≤ A i) = true := decide_eq_true hn1
                have HF : Hid (¬ Mid n S A D sp) := fun hm => by have := (hm.ent i hlt).1; omega
                go_wp2
                go_ret
                exact ⟨false, rfl, HG.out.alloc _, ⟨fun h => (by cases h), fun h => absurd h HF.out⟩⟩
              have hdn : decide (n ≤ A i) = false := decide_eq_false hn1
              by_cases hn2 : 8 < D i
              · have hdn2 : decide ((8 : Int) < (D i : Int)) = true := decide_eq_true (by omega)
                have HF : Hid (¬ Mid n S A D sp) := fun hm => by have := (hm.ent i hlt).2.1; omega
                go_wp2
                go_ret
                exact ⟨false, rfl, HG.out.alloc _, ⟨fun h => (by cases h), fun h => absurd h HF.out⟩⟩
              have hdn2 : decide ((8 : Int) < (D i : Int)) = false := decide_eq_false (by omega)
              have hq : A i / 64 < 4 := by omega
              have b0 := (HW.out.kept HG.out trivial).set (A i / 64) hq
              have b1 := HT.out.1 (A i / 64) hq
              have b2 := HT.out.2.1 (A i / 64)
              have hsx := HS.out (A i / 64)
              have htx := HT.out.2.2.1 (A i / 64)
              have hlt1 := runM_lt (A i % 64) 1 (by omega)
              have hsh : (2 : Int) ^ (A i % 64) = (runM (A i % 64) 1 : Int) := by unfold runM; simp
              have an1 := u64_and_nat (S (A i / 64)) (runM (A i % 64) 1) (by omega) (by omega)
              have an2 := u64_and_nat (T (A i / 64)) (runM (A i % 64) 1) (by omega) (by omega)
              have or2 := u64_or_nat (T (A i / 64)) (runM (A i % 64) 1) (by omega) (by omega)
              have HR1 := hide (and_run (S (A i / 64)) (A i % 64) 1)
              have HR2 := hide (and_run (T (A i / 64)) (A i % 64) 1)
              obtain ⟨x1, hx1⟩ : ∃ x, x = S (A i / 64) &&& runM (A i % 64) 1 := ⟨_, rfl⟩
              obtain ⟨x2, hx2⟩ : ∃ x, x = T (A i / 64) &&& runM (A i % 64) 1 := ⟨_, rfl⟩
              rw [← hx1] at an1 HR1
              rw [← hx2] at an2 HR2
              clear hx1 hx2
              obtain ⟨M, hM⟩ : ∃ M, M = runM (A i % 64) 1 := ⟨_, rfl⟩
              rw [← hM] at hsh an1 an2 or2 hlt1
              have HMM := hide hM
              clear hM
              have HM1 : Hid (x1 ≠ 0 ↔ mem S (A i) = true) := by
                have := HR1.out
                rw [bne_iff_ne] at this
                rw [Hid, this]
                constructor
                · rintro ⟨y, y1, y2, y3⟩
                  have : y = A i % 64 := by omega
                  subst this
                  exact y3
                · intro h
                  exact ⟨A i % 64, by omega, by omega, h⟩
              have HM2 : Hid (x2 ≠ 0 ↔ mem T (A i) = true) := by
                have := HR2.out
                rw [bne_iff_ne] at this
                rw [Hid, this]
                constructor
                · rintro ⟨y, y1, y2, y3⟩
                  have : y = A i % 64 := by omega
                  subst this
                  exact y3
                · intro h
                  exact ⟨A i % 64, by omega, by omega, h⟩
              clear HR1 HR2
              cases t1 : ((x1 : Int) == 0) with
              | true =>
                have HF : Hid (¬ Mid n S A D sp) := fun hm => by
                  have := HM1.out.2 (hm.ent i hlt).2.2
                  simp at t1
                  exact this t1
                go_wp2
                go_quiet (fail)
                go_wp2
                go_ret
                exact ⟨false, rfl, (HG.out.alloc _).drewN _, ⟨fun h => (by cases h), fun h => absurd h HF.out⟩⟩
              | false =>
                cases t2 : ((x2 : Int) != 0) with
                | true =>
                  have HF : Hid (¬ Mid n S A D sp) := fun hm => by
                    have hx : x2 ≠ 0 := by
                      intro h
                      subst h
                      simp at t2
                    obtain ⟨k, k1, k2⟩ := (HT.out.2.2.2 (A i)).1 (HM2.out.1 hx)
                    exact hm.one k i k1 hlt k2
                  go_wp2
                  go_quiet (fail)
                  go_wp2
                  go_ret
                  exact ⟨false, rfl, (HG.out.alloc _).drewN _, ⟨fun h => (by cases h), fun h => absurd h HF.out⟩⟩
                | false =>
                  go_wp2
                  go_quiet (fail)
                  go_wp2
                  go_roundw
                  case rel =>
                    have hx1 : mem S (A i) = true := HM1.out.1 (by intro h; subst h; simp at t1)
                    have hx2 : mem T (A i) = false := by
                      rw [Bool.eq_false_iff]
                      intro h
                      have := HM2.out.2 h
                      simp at t2
                      exact this t2
                    have HK := ((Kept.refl (fun _ => True) wr).alloc (.cells #[.int .u16 (A i), .int .u8 (D i)] 78)).drewN nq
                    refine ⟨i + 1, rfl, by omega, ((HG.out.alloc _).drewN _).setCell (.inl (Nat.le_refl _)) _, orRun T (A i) 1, fun j hj => ?_, fun j => ?_, orRun_lt HT.out.2.2.1 (by omega), fun p => ?_, fun k hk => ?_, fun j k hjk hk => ?_⟩
                    · rw [HMM.out, ← orRun_eq]
                      by_cases e : j = A i / 64
                      · subst e
                        simp only [if_true]
                        exact World.cell?_setCell_same _ _ _ (HK.cell (HT.out.1 _ hj) trivial)
                      · simp only [if_neg e]
                        exact cell_other (HK.cell (HT.out.1 _ hj) trivial) (fun e' => e e'.symm)
                    · rw [World.frozen?_setCell, HK.frozen (q := ⟨w.heap.size, j, none⟩) hGlt trivial]
                      exact HT.out.2.1 j
                    · rw [mem_orRun _ _ _ _ (by omega)]
                      have hm := HT.out.2.2.2 p
                      constructor
                      · intro h
                        rw [Bool.or_eq_true] at h
                        rcases h with h | h
                        · obtain ⟨k, k1, k2⟩ := hm.1 h
                          exact ⟨k, by omega, k2⟩
                        · simp at h
                          exact ⟨i, by omega, by omega⟩
                      · rintro ⟨k, k1, k2⟩
                        rw [Bool.or_eq_true]
                        by_cases e : k = i
                        · subst e
                          right
                          simp
                          omega
                        · exact .inl (hm.2 ⟨k, by omega, k2⟩)
                    · by_cases e : k = i
                      · subst e
                        exact ⟨by omega, by omega, hx1⟩
                      · exact HEnt.out k (by omega)
                    · by_cases e : k = i
                      · subst e
                        intro h
                        have := (HT.out.2.2.2 (A k)).2 ⟨j, hjk, h⟩
                        rw [hx2] at this
                        cases this
                      · exact HOne.out j k hjk (by omega)
                  case measure => simp [intOf]; omega
            · have hdi : decide (i < sp) = false := decide_eq_false hlt
              go_wp2
              go_ret
              have hin : i = sp := by omega
              subst hin
              exact ⟨true, rfl, HG.out, ⟨fun _ => ⟨h1, h2, HZ.out, HP.out, by omega, HEnt.out, HOne.out⟩, fun _ => rfl⟩⟩
end Go.Proofs.Ygcfac
