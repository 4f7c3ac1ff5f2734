/-
  law.sameWords, law.sameBytes: walked.
-/
import Derived.Test.YgcfacCopy
namespace Go.Proofs.Ygcfac
open Go.RowKit
set_option linter.unusedVariables false

theorem list_eq_of {xs ys : List Int} (hl : xs.length = ys.length) (h : ∀ j, j < xs.length → xs.getD j 0 = ys.getD j 0) : xs = ys := by
  apply List.ext_getElem hl
  intro j h1 h2
  have := h j h1
  simpa [List.getD_eq_getElem?_getD, List.getElem?_eq_getElem h1, List.getElem?_eq_getElem h2] using this

theorem same_len (a b : Option Addr) (n m ca cb : Nat) (h : n ≠ m) (hn : n ≤ 9223372036854775807) (hm : m ≤ 9223372036854775807) (w : World) :
    Calls Facg.prog 25 #[.slice a n ca, .slice b m cb] w fun e w' => e = .returned (.bool false) ∧ ∃ k, w' = w.drewN k := by
  have hb : ((n : Int) != (m : Int)) = true := by simp; omega
  go_enter Facg.func25, Facg.ntmps25
  go_wp2
  go_ret
  exact ⟨rfl, 0, rfl⟩

theorem same_zero (a b : Option Addr) (ca cb : Nat) (w : World) :
    Calls Facg.prog 25 #[.slice a 0 ca, .slice b 0 cb] w fun e w' => e = .returned (.bool true) ∧ ∃ k, w' = w.drewN k := by
  go_enter Facg.func25, Facg.ntmps25
  go_wp2
  go_loop [13] (fun t => t = .int .i64 0) (fun _ => 0)
  case atStart => rfl
  case round =>
    subst hrel
    go_wp2
    go_ret
    exact ⟨rfl, 0, rfl⟩

set_option maxHeartbeats 800000 in
theorem same_rows (b1 o1 b2 o2 n ca cb : Nat) (hn : n ≤ 9223372036854775807) (x y : Nat → Int) (w : World)
    (h1 : ∀ j, j < n → w.cell? ⟨b1, o1 + j, none⟩ = some (.int .u64 (x j))) (h2 : ∀ j, j < n → w.cell? ⟨b2, o2 + j, none⟩ = some (.int .u64 (y j))) :
    Calls Facg.prog 25 #[.slice (some ⟨b1, o1, none⟩) n ca, .slice (some ⟨b2, o2, none⟩) n cb] w fun e w' => (∃ r : Bool, e = .returned (.bool r) ∧ (r = true ↔ ∀ j, j < n → x j = y j)) ∧ ∃ k, w' = w.drewN k := by
  have H1 : Hid (∀ j, j < n → w.cell? ⟨b1, o1 + j, none⟩ = some (.int .u64 (x j))) := h1
  have H2 : Hid (∀ j, j < n → w.cell? ⟨b2, o2 + j, none⟩ = some (.int .u64 (y j))) := h2
  clear h1 h2
  go_enter Facg.func25, Facg.ntmps25
  go_wp2
  go_loopw [13, 5] (fun t _ wr => ∃ (j : Nat) (k : Nat), t = .int .i64 j ∧ j ≤ n ∧ wr = w.drewN k ∧ ∀ q, q < j → x q = y q) (fun t _ _ => n - (intOf t).toNat)
  case atStart => exact ⟨0, 0, rfl, Nat.zero_le _, rfl, fun q hq => absurd hq (Nat.not_lt_zero _)⟩
  case round =>
    obtain ⟨j, k, rfl, hj, hwr, hq⟩ := hrel
    have HW : Hid (wr = w.drewN k) := hwr
    have HQ : Hid (∀ q, q < j → x q = y q) := hq
    clear hwr hq
    by_cases hjn : j < n
    · have hc1 : wr.cell? ⟨b1, o1 + j, none⟩ = some (.int .u64 (x j)) := by rw [HW.out]; exact H1.out j hjn
      have hc2 : wr.cell? ⟨b2, o2 + j, none⟩ = some (.int .u64 (y j)) := by rw [HW.out]; exact H2.out j hjn
      have hji : (j : Int) < (n : Int) := by omega
      by_cases hxy : x j = y j
      · have hb : (x j != y j) = false := by simpa using hxy
        have HXY : Hid (x j = y j) := hxy
        clear hxy
        go_wp2
        go_quiet (fail)
        go_wp2
        go_roundw
        case rel => exact ⟨j + 1, _, by go_num, by omega, by rw [HW.out, World.drewN_drewN], fun q hq => by
            rcases Nat.lt_or_ge q j with h | h
            · exact HQ.out q h
            · rw [show q = j by omega]; exact HXY.out⟩
        case measure => simp [intOf]; omega
      · have hb : (x j != y j) = true := by simpa using hxy
        have HXY : Hid (¬ x j = y j) := hxy
        clear hxy
        go_wp2
        go_quiet (fail)
        go_wp2
        go_ret
        exact ⟨⟨false, rfl, by simpa using ⟨j, hjn, HXY.out⟩⟩, _, by rw [HW.out, World.drewN_drewN]⟩
    · go_wp2
      go_ret
      exact ⟨⟨true, rfl, by simpa using fun q hq => HQ.out q (by omega)⟩, k, HW.out⟩

/-- law.sameWords. -/
theorem same_words (va vb : Value) (xs ys : List Int) (w : World) (h1 : Ints w .u64 va xs) (h2 : Ints w .u64 vb ys) :
    Calls Facg.prog 25 #[va, vb] w fun e w' => e = .returned (.bool (decide (xs = ys))) ∧ ∃ k, w' = w.drewN k := by
  obtain ⟨a, ca, rfl, hca, hma, _, ra⟩ := h1
  obtain ⟨b, cb, rfl, hcb, hmb, _, rb⟩ := h2
  unfold maxLen at hma hmb
  by_cases hl : xs.length = ys.length
  · by_cases hx : xs = []
    · subst hx
      have hy : ys = [] := List.eq_nil_of_length_eq_zero (by simpa using hl.symm)
      subst hy
      simpa using same_zero a b ca cb w
    · have hy : ys ≠ [] := fun h => hx (List.eq_nil_of_length_eq_zero (by rw [hl, h]; rfl))
      obtain ⟨b1, o1, rfl, c1⟩ := ra hx
      obtain ⟨b2, o2, rfl, c2⟩ := rb hy
      rw [← hl] at c2 ⊢
      refine (same_rows b1 o1 b2 o2 xs.length ca cb (by omega) _ _ w c1 c2).mono ?_
      rintro e w' ⟨⟨r, rfl, hr⟩, hw⟩
      refine ⟨?_, hw⟩
      have : r = decide (xs = ys) := by
        rw [Bool.eq_iff_iff, hr, decide_eq_true_iff]
        exact ⟨fun h => list_eq_of hl h, fun h => by subst h; exact fun _ _ => rfl⟩
      rw [this]
  · have hne : decide (xs = ys) = false := by simp; exact fun h => hl (by rw [h])
    rw [hne]
    exact same_len a b xs.length ys.length ca cb hl (by omega) (by omega) w

/-- The string of some bytes. -/
def strOf (S : List Int) : ByteArray := S.foldl (fun r n => r.push (UInt8.ofNat n.toNat)) ByteArray.empty

theorem run_loadCells_ints {P : Program} (w : World) (k : IntKind) (b o : Nat) (S : List Int) (h : ∀ j, j < S.length → w.cell? ⟨b, o + j, none⟩ = some (.int k (S.getD j 0))) :
    (loadCells ⟨b, o, none⟩ S.length).run P w = .ok (S.map (Value.int k)).toArray w := by
  have := run_loadCells_list (P := P) (w := w) ⟨b, o, none⟩ (S.map (Value.int k)) (fun j v hv => by
    have hj : j < S.length := by
      rcases Nat.lt_or_ge j S.length with h | h
      · exact h
      · simp [List.getElem?_eq_none h] at hv
    have hadd : (⟨b, o, none⟩ : Addr).add j = ⟨b, o + j, none⟩ := by unfold Addr.add; split <;> simp_all
    rw [hadd, h j hj]
    simpa [List.getElem?_eq_getElem hj] using hv)
  simpa using this

theorem conv_bytes (w : World) (v : Value) (S : List Int) (h : Ints w .u8 v S) : (convert 40 9 v).run Facg.prog w = .ok (.string (strOf S)) w := by
  obtain ⟨a, c, rfl, hc, hm, _, hr⟩ := h
  rw [run_convert_bytes_string w 40 9 5 a _ c Facg.underlying40 Facg.underlying5 Facg.underlying9]
  by_cases hS : S = []
  · subst hS
    cases a with
    | none => rfl
    | some a => exact run_bytesToString w a 0 c [] (by simp [loadCells, loadCellsFrom])
  · obtain ⟨b, o, rfl, hcell⟩ := hr hS
    exact run_bytesToString w ⟨b, o, none⟩ S.length c S (run_loadCells_ints w .u8 b o S hcell)

theorem same_bytes (va vb : Value) (S : List Int) (w : World) (h1 : Ints w .u8 va S) (h2 : Ints w .u8 vb S) :
    Calls Facg.prog 42 #[va, vb] w fun e w' => e = .returned (.bool true) ∧ ∃ k, w' = w.drewN k := by
  have k1 := conv_bytes w va S h1
  have k2 := conv_bytes w vb S h2
  clear h1 h2
  go_enter Facg.func42, Facg.ntmps42
  go_wp2
  go_ret
  exact ⟨rfl, 0, rfl⟩
end Go.Proofs.Ygcfac
