import Derived.Test.YgcfacClaimed
namespace Go.Proofs.Ygcfac
open Go.RowKit
set_option linter.unusedVariables false

/-! ### Validate, of an arena of no length that it may have -/
set_option maxRecDepth 10000 in
theorem claimed_no (a : Option Addr) (n c : Nat) (w : World) (hn : n ≤ 9223372036854775807) (hok : decide (1 ≤ n ∧ n ≤ 256) = false) :
    Calls Facg.prog 53 #[.slice a n c] w (fun e w' => e = .returned (.tuple #[.agg #[.int .u64 0, .int .u64 0, .int .u64 0, .int .u64 0], .bool false]) ∧ Grows w w') := by
  have HSt := hide (fun w => start_any a n c w hn false hok)
  go_enter Facg.func53, Facg.ntmps53
  go_wp2_with (fail)
  refine (HSt.out _).mono ?_
  rintro e w2 ⟨L, rfl, hg, q1, q3, q4⟩
  have HI : Hid ((Facg.prog.info? 81).map (·.size) = some L.length) := by unfold Hid; rw [q3]; exact info81
  have HAll : Hid (L.toArray.all (·.oneCell') = true) := all_oneCell_toArray q4
  have HQ4 : Hid (L.toArray.size = 517) := q3
  have HTh := hide (zero_there w2)
  obtain ⟨W5, hW5⟩ : ∃ W, W = (w2.alloc (.cells Facg.zeroCells81 81)).setCells w2.heap.size 0 L := ⟨_, rfl⟩
  have hK5 : Kept (fun k => k ≠ w2.heap.size) (w2.alloc (.cells Facg.zeroCells81 81)) W5 := by rw [hW5]; exact kept_setCells _ _ _ _ _ (Kept.refl _ _)
  have hg2 := (hg.alloc (.cells Facg.zeroCells81 81)).mono (q := fun k => k ≠ w2.heap.size) (fun _ _ _ => trivial) |>.trans hK5
  have hs0 : w.heap.size < w2.heap.size := by have := hg.size; rw [World.size_alloc] at this; omega
  have z0 := hg2.cell (q := ⟨w.heap.size, 0, none⟩) (v := .int .u64 0) (by simp) (by simp only; omega)
  have z1 := hg2.cell (q := ⟨w.heap.size, 1, none⟩) (v := .int .u64 0) (by simp) (by simp only; omega)
  have z2 := hg2.cell (q := ⟨w.heap.size, 2, none⟩) (v := .int .u64 0) (by simp) (by simp only; omega)
  have z3 := hg2.cell (q := ⟨w.heap.size, 3, none⟩) (v := .int .u64 0) (by simp) (by simp only; omega)
  have zf : ∀ j, W5.frozen? ⟨w.heap.size, j, none⟩ = false := fun j => by
    rw [hg2.frozen (q := ⟨w.heap.size, j, none⟩) (by simp) (by simp only; omega)]
    exact World.frozen?_alloc_at _ _ _ _ rfl
  have HG5 : Hid (Grows w W5) := ((Kept.refl _ _).alloc _).then hg2 (fun i hi _ => by omega)
  have HW5e := hide hW5
  clear q1 q3 q4 hg hg2 hK5 hW5
  go_wp2_with (first
    | (refine wpList_store_mid rfl 81 (.tmp 4) (.tmp 8) rfl w2.heap.size 0 L.toArray rfl rfl (by rw [HQ4.out]; exact HTh.out) HI.out HAll.out ?_; rw [show L.toArray.toList = L from rfl, ← HW5e.out]))
  go_loopw [3] (fun t wr => t = .bool false ∧ wr = W5) (fun _ _ => 0)
  case atStart => exact ⟨rfl, rfl⟩
  case round =>
    obtain ⟨rfl, hwr⟩ := hrel
    have hwr' := hwr.symm
    subst hwr'
    clear hwr
    go_wp2
    refine bodyPost_ret (v := .tuple #[.agg #[.int .u64 0, .int .u64 0, .int .u64 0, .int .u64 0], .bool false]) (by simp [results, Facg.results53, go_sem, z0, z1, z2, z3]) rfl ⟨rfl, ?_⟩
    exact HG5.out.set4 (Nat.le_refl _) _ _ _ _

set_option maxRecDepth 10000 in
theorem validate_no (a : Option Addr) (n c : Nat) (w : World) (hn : n ≤ 9223372036854775807) (hok : decide (1 ≤ n ∧ n ≤ 256) = false) :
    Calls Facg.prog 16 #[.slice a n c] w fun e w' => e = .returned (.bool false) ∧ Grows w w' := by
  have HC := hide (claimed_no a n c w hn hok)
  clear hok
  go_enter Facg.func16, Facg.ntmps16
  go_wp2_with (fail)
  refine HC.out.mono ?_
  rintro e w2 ⟨rfl, hg⟩
  have HG := hide hg
  clear hg
  go_wp2
  go_ret
  exact ⟨rfl, HG.out.alloc _⟩

theorem validate_all (a : Option Addr) (n c : Nat) (f : Nat → Int) (w : World) (hn : n ≤ 9223372036854775807) (hA : ArenaAt w a n f) (hlt : 1 ≤ n → ∀ b o, a = some ⟨b, o, none⟩ → b < w.heap.size) :
    Calls Facg.prog 16 #[.slice a n c] w fun e w' => ∃ b, e = .returned (.bool b) ∧ Grows w w' ∧ (b = true ↔ ArenaOk f n) := by
  by_cases h : 1 ≤ n
  · exact validate_any a n c f w hn hA (hlt h)
  · refine (validate_no a n c w hn (decide_eq_false (by omega))).mono ?_
    rintro e w' ⟨rfl, hg⟩
    exact ⟨false, rfl, hg, ⟨fun h => (by cases h), fun h' => absurd h'.1 h⟩⟩

/-- A word that is not 0 behind some place has a bit there. -/
theorem bit_exists (x : Int) (s : Nat) (h0 : 0 ≤ x) (h1 : x < 18446744073709551616) (h : ¬ x / 2 ^ s = 0) : ∃ k, s ≤ k ∧ k < 64 ∧ x / 2 ^ k % 2 = 1 := by
  obtain ⟨y, rfl⟩ := Int.eq_ofNat_of_zero_le h0
  have hy : y / 2 ^ s ≠ 0 := fun e => h (by
    have : ((y / 2 ^ s : Nat) : Int) = 0 := by rw [e]; rfl
    simpa using this)
  obtain ⟨j, hj⟩ := Nat.exists_testBit_of_ne_zero hy
  rw [Nat.testBit_div_two_pow] at hj
  have hk : j + s < 64 := by
    rcases Nat.lt_or_ge (j + s) 64 with h | h
    · exact h
    · have : y.testBit (j + s) = false := Nat.testBit_lt_two_pow (Nat.lt_of_lt_of_le (by omega : y < 2 ^ 64) (Nat.pow_le_pow_right (by decide) h))
      rw [this] at hj
      cases hj
  refine ⟨j + s, by omega, hk, ?_⟩
  rw [bit_of] at hj
  have hj := of_decide_eq_true hj
  have : ((y / 2 ^ (j + s) % 2 : Nat) : Int) = 1 := by rw [hj]; rfl
  simpa using this
end Go.Proofs.Ygcfac
