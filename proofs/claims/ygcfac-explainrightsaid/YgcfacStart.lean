import Derived.Test.YgcfacValidWalk
import Derived.Deep.Cut
namespace Go.Proofs.Ygcfac
open Go.RowKit
set_option linter.unusedVariables false

theorem loadVar81 {w : World} {g : Nat} {L : List Value} (h : w.rangeAt g 0 L) (hl : L.length = 517) : (loadVar 81 ⟨g, 0, none⟩).run Facg.prog w = .ok (.agg L.toArray) w :=
  run_loadVar_mid w g 0 81 L _ h Facg.underlying81 rfl (by rw [hl]; exact info81)

theorem zero_eq : Facg.zeroCells81 = (walkL (fun _ => 0) (fun _ => 0) (fun _ => 0) 0).toArray := by kernel_rfl
theorem zero_walk : WalkCells Facg.zeroCells81 (fun _ => 0) (fun _ => 0) (fun _ => 0) 0 := by rw [zero_eq]; exact walkL_cells _ _ _ _
theorem zero_there (w : World) : (w.alloc (.cells Facg.zeroCells81 81)).there w.heap.size 0 517 := fun j hj => by
  refine ⟨?_, World.frozen?_alloc_at _ _ _ _ rfl⟩
  rw [Nat.zero_add, World.cell?_alloc_at _ _ _ _ rfl]
  have := zero81
  simp [hj, this]
def StartPost (w : World) (ok : Bool) (S A D : Nat → Nat) (sp : Nat) (e : Ending) (w' : World) : Prop :=
  ∃ L : List Value, e = .returned (.tuple #[.agg L.toArray, .bool ok]) ∧ Grows w w' ∧ WalkCells L.toArray S A D sp ∧ L.length = 517 ∧ ∀ v ∈ L, v.oneCell' = true

theorem there_kept {q : Nat → Prop} {w w' : World} {b n : Nat} (h : w.there b 0 n) (hk : Kept q w w') (hq : q b) : w'.there b 0 n := fun j hj => by
  obtain ⟨h1, h2⟩ := h j hj
  obtain ⟨u, hu⟩ := Option.isSome_iff_exists.1 h1
  refine ⟨by rw [hk.cell hu hq]; rfl, ?_⟩
  rw [hk.frozen (q := ⟨b, 0 + j, none⟩) (show b < w.heap.size from World.block_lt_of_cell? w ⟨b, 0 + j, none⟩ hu) hq]
  exact h2

set_option maxRecDepth 10000 in
theorem start_any (a : Option Addr) (n c : Nat) (w : World) (hn : n ≤ 9223372036854775807) (ok : Bool) (hok : decide (1 ≤ n ∧ n ≤ 256) = ok) :
    Calls Facg.prog 51 #[.slice a n c] w (fun e w' => bif ok then StartPost w true (fun j => if j = 0 then 1 else 0) (fun _ => 0) (fun _ => 0) 1 e w' else StartPost w false (fun _ => 0) (fun _ => 0) (fun _ => 0) 0 e w') := by
  go_enter Facg.func51, Facg.ntmps51
  go_upto_region 1 with fail
  generalize hW1 : w.alloc (.cells Facg.zeroCells81 81) = W1
  have HG : Hid (Grows w W1) := by unfold Hid; rw [← hW1]; exact (Kept.refl _ _).alloc _
  have HT : Hid (W1.there w.heap.size 0 517) := by unfold Hid; rw [← hW1]; exact zero_there w
  have hs1 : W1.heap.size = w.heap.size + 1 := by rw [← hW1]; simp
  clear hW1
  go_cut [4] (fun s4 wd => s4 = .pointer (some ⟨w.heap.size + 1, 0, none⟩) ∧ Grows W1 wd ∧ WalkAt wd (w.heap.size + 1) (fun _ => 0) (fun _ => 0) (fun _ => 0) 0)
  case first =>
    go_wp2
    go_meet
    refine ⟨rfl, (Kept.refl _ _).alloc _, ?_⟩
    rw [← hs1]
    exact zero_walk.box W1 81
  case rest =>
    obtain ⟨rfl, hg, hw⟩ := hcut
    have HG2 := hide (HG.out.trans hg)
    have HT2 := hide (there_kept HT.out hg trivial)
    have HW := hide hw
    have c0 := hw.set 0 (by decide)
    have cf := hw.free 0
    have hlt := hw.lt
    clear hg hw HG HT hs1
    have hinf : ∀ L : List Value, L.length = 517 → (Facg.prog.info? 81).map (·.size) = some L.length := fun L h => by rw [h]; exact info81
    have HInf := hide hinf
    clear hinf
    cases ok
    · have hno : n < 1 ∨ 256 < n := by simp at hok; omega
      obtain ⟨L, q1, q2, q3, q4⟩ := cells_of_walk HW.out
      have HR := hide q2
      have HI := hide (HInf.out L q3)
      have HQ := hide (And.intro q1 (And.intro q3 q4))
      have HAll : Hid (L.toArray.all (·.oneCell') = true) := all_oneCell_toArray q4
      have HQ4 : Hid (L.toArray.size = 517) := q3
      obtain ⟨W5, hW5⟩ : ∃ W, W = wc.setCells w.heap.size 0 L := ⟨_, rfl⟩
      have HR5 : Hid (W5.rangeAt w.heap.size 0 L) := by
        unfold Hid
        rw [hW5]
        exact World.rangeAt_setCells_same _ _ _ _ (by rw [q3]; exact HT2.out)
      have HG5 : Hid (Grows w W5) := by
        unfold Hid
        rw [hW5]
        exact HG2.out.then (kept_setCells _ _ _ _ _ (Kept.refl _ _)) (fun i hi _ => by omega)
      have HW5e := hide hW5
      clear q1 q2 q3 q4 hW5
      by_cases h1 : n < 1
      · have hd : decide ((n : Int) < 1) = true := decide_eq_true (by omega)
        go_wp2_with (first
          | (refine wpList_load_mid rfl 81 (.tmp 4) rfl (w.heap.size + 1) 0 rfl L _ HR.out Facg.underlying81 rfl HI.out ?_)
          | (refine wpList_store_mid rfl 81 (.tmp 2) (.tmp 13) rfl w.heap.size 0 L.toArray rfl rfl (by rw [HQ4.out]; exact HT2.out) HI.out HAll.out ?_; rw [show L.toArray.toList = L from rfl, ← HW5e.out]))
        refine bodyPost_ret (v := .tuple #[.agg L.toArray, .bool false]) ?_ rfl ⟨L, rfl, HG5.out, HQ.out⟩
        have hl := loadVar81 HR5.out HQ.out.2.1
        simp [results, Facg.results51, asAddr, hl]
      · have hd : decide ((n : Int) < 1) = false := decide_eq_false (by omega)
        have hd2 : decide ((256 : Int) < (n : Int)) = true := decide_eq_true (by omega)
        go_wp2_with (first
          | (refine wpList_load_mid rfl 81 (.tmp 4) rfl (w.heap.size + 1) 0 rfl L _ HR.out Facg.underlying81 rfl HI.out ?_)
          | (refine wpList_store_mid rfl 81 (.tmp 2) (.tmp 13) rfl w.heap.size 0 L.toArray rfl rfl (by rw [HQ4.out]; exact HT2.out) HI.out HAll.out ?_; rw [show L.toArray.toList = L from rfl, ← HW5e.out]))
        refine bodyPost_ret (v := .tuple #[.agg L.toArray, .bool false]) ?_ rfl ⟨L, rfl, HG5.out, HQ.out⟩
        have hl := loadVar81 HR5.out HQ.out.2.1
        simp [results, Facg.results51, asAddr, hl]
    · have hyes : 1 ≤ n ∧ n ≤ 256 := by simpa using hok
      have hd : decide ((n : Int) < 1) = false := decide_eq_false (by omega)
      have hd2 : decide ((256 : Int) < (n : Int)) = false := decide_eq_false (by omega)
      have HP := hide (push_any (w.heap.size + 1) _ _ _ 0 0 1 0 _ (by decide) (by decide) (by decide) (by decide) (HW.out.setSet 0 1 (by decide)))
      have HTs : Hid ((wc.setCell ⟨w.heap.size + 1, 0, none⟩ (.int .u64 (1 : Nat))).there w.heap.size 0 517) := there_kept (q := fun k => k ≠ w.heap.size + 1) HT2.out ((Kept.refl _ _).setCell (.inr (fun h => h rfl)) _) (by omega)
      have HKs : Hid (Grows w (wc.setCell ⟨w.heap.size + 1, 0, none⟩ (.int .u64 (1 : Nat)))) := HG2.out.setCell (.inl (by simp only; omega)) _
      go_wp2_with (fail)
      refine HP.out.mono ?_
      rintro e w3 ⟨rfl, hk3, hw3⟩
      have hw4 : WalkAt w3 (w.heap.size + 1) (fun j => if j = 0 then 1 else 0) (fun _ => 0) (fun _ => 0) 1 := by
        have e1 : pushA (fun _ => 0) 0 0 1 = fun _ => 0 := by
          funext k
          unfold pushA
          split
          · omega
          · rfl
        have e2 : pushD (fun _ => 0) 0 0 1 = fun _ => 0 := by funext k; unfold pushD; split <;> rfl
        rw [e1, e2] at hw3
        exact hw3
      have hth3 := there_kept HTs.out hk3 (show w.heap.size ≠ w.heap.size + 1 by omega)
      have HT2 := hide hth3
      have HG2 := hide (HKs.out.then hk3 (fun i hi _ => by omega))
      obtain ⟨L, q1, q2, q3, q4⟩ := cells_of_walk hw4
      have HR := hide q2
      have HI := hide (HInf.out L q3)
      have HQ := hide (And.intro q1 (And.intro q3 q4))
      have HAll : Hid (L.toArray.all (·.oneCell') = true) := all_oneCell_toArray q4
      have HQ4 : Hid (L.toArray.size = 517) := q3
      obtain ⟨W5, hW5⟩ : ∃ W, W = w3.setCells w.heap.size 0 L := ⟨_, rfl⟩
      have HR5 : Hid (W5.rangeAt w.heap.size 0 L) := by
        unfold Hid
        rw [hW5]
        exact World.rangeAt_setCells_same _ _ _ _ (by rw [q3]; exact HT2.out)
      have HG5 : Hid (Grows w W5) := by
        unfold Hid
        rw [hW5]
        exact HG2.out.then (kept_setCells _ _ _ _ _ (Kept.refl _ _)) (fun i hi _ => by omega)
      have HW5e := hide hW5
      clear q1 q2 q3 q4 hW5 hk3 hw3 hw4 hth3 HP HTs HKs HW
      go_wp2_with (first
        | (refine wpList_load_mid rfl 81 (.tmp 4) rfl (w.heap.size + 1) 0 rfl L _ HR.out Facg.underlying81 rfl HI.out ?_)
        | (refine wpList_store_mid rfl 81 (.tmp 2) (.tmp 17) rfl w.heap.size 0 L.toArray rfl rfl (by rw [HQ4.out]; exact HT2.out) HI.out HAll.out ?_; rw [show L.toArray.toList = L from rfl, ← HW5e.out]))
      refine bodyPost_ret (v := .tuple #[.agg L.toArray, .bool true]) ?_ rfl ⟨L, rfl, HG5.out, HQ.out⟩
      have hl := loadVar81 HR5.out HQ.out.2.1
      simp [results, Facg.results51, asAddr, hl]
end Go.Proofs.Ygcfac
