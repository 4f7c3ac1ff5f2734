/-
  bitsx.Bytes, pack.tagOf, isDense, zeros, dense: walked.
-/
import Derived.Test.YgcfacMem
namespace Go.Proofs.Ygcfac
open Go.RowKit
set_option linter.unusedVariables false

theorem hid {p : Prop} (h : p) : Hid p := h

/-! ### bitsx.Bytes -/
def bytes8 (x : Int) : List Int := [x % 256, x / 256 % 256, x / 65536 % 256, x / 16777216 % 256, x / 4294967296 % 256, x / 1099511627776 % 256, x / 281474976710656 % 256, x / 72057594037927936 % 256]

theorem bytes_any (x : Int) (w : World) (h0 : 0 ≤ x) (h1 : x < 18446744073709551616) :
    Calls Facg.prog 59 #[.int .u64 x] w fun e w' => e = .returned (.agg ((bytes8 x).map (Value.int .u8)).toArray) ∧ Below w.heap.size w w' := by
  go_enter Facg.func59, Facg.ntmps59
  go_wp2
  refine bodyPost_ret (v := .agg ((bytes8 x).map (Value.int .u8)).toArray) ?_ rfl ⟨rfl, ?_⟩
  · simp [results, Facg.results59, go_sem, bytes8]
    omega
  · exact (Below.refl _ _).alloc (Nat.le_refl _) _

/-! ### pack.tagOf, pack.isDense -/
def tagI (x : Int) : Int := IntKind.u64.wrap (bits .andNot .u64 (bits .or .u64 (IntKind.u64.wrap (bits .and .u64 x 9187201950435737471 + 9187201950435737471)) x) 9187201950435737471 / 128 * 72624976668147840) / 72057594037927936 % 256

theorem tag_any (x : Int) (w : World) (h0 : 0 ≤ x) (h1 : x < 18446744073709551616) :
    Calls Facg.prog 113 #[.int .u64 x] w fun e w' => e = .returned (.int .u8 (tagI x)) ∧ w' = w := by
  go_enter Facg.func113, Facg.ntmps113
  go_wp2
  go_ret
  exact ⟨rfl, rfl⟩

theorem tag_bd (x : Int) : 0 ≤ tagI x ∧ tagI x < 256 := by unfold tagI; omega

def denseT (t : Int) : Bool := bits .and .u8 (bits .xor .u8 255 t) (IntKind.u8.wrap (bits .xor .u8 255 t - 1)) == 0
theorem isDense_any (t : Int) (w : World) (h0 : 0 ≤ t) (h1 : t < 256) :
    Calls Facg.prog 163 #[.int .u8 t] w fun e w' => e = .returned (.bool (denseT t)) ∧ w' = w := by
  go_enter Facg.func163, Facg.ntmps163
  go_wp2
  go_ret
  exact ⟨rfl, rfl⟩

/-! ### pack.zeros, pack.dense -/
/-- How many words xs begins with that p holds of, at most m. -/
def cntP (p : Int → Bool) : Nat → List Int → Nat
  | 0, _ => 0
  | _, [] => 0
  | m + 1, x :: xs => if p x then cntP p m xs + 1 else 0

theorem cntP_le (p : Int → Bool) : ∀ m xs, cntP p m xs ≤ m ∧ cntP p m xs ≤ xs.length
  | 0, _ => by simp [cntP]
  | m + 1, [] => by simp [cntP]
  | m + 1, x :: xs => by
    have := cntP_le p m xs
    simp only [cntP]
    split <;> simp <;> omega

theorem cntP_all (p : Int → Bool) : ∀ (m : Nat) (xs : List Int), ∀ x ∈ xs.take (cntP p m xs), p x = true
  | 0, _ => by simp [cntP]
  | m + 1, [] => by simp [cntP]
  | m + 1, x :: xs => by
    simp only [cntP]
    split
    · rename_i h
      intro y hy
      rw [List.take_succ_cons] at hy
      rcases List.mem_cons.1 hy with rfl | hy
      · exact h
      · exact cntP_all p m xs y hy
    · simp

/-- Where the count has come to j it goes on, or stops. -/
theorem cntP_at (p : Int → Bool) : ∀ (m : Nat) (xs : List Int) (j : Nat), (∀ q, q < j → q < xs.length ∧ p (xs.getD q 0) = true) → j ≤ m →
    (¬ (j < xs.length ∧ j < m ∧ p (xs.getD j 0) = true) → cntP p m xs = j)
  | 0, xs, j, _, hj, _ => by simp [cntP]; omega
  | m + 1, [], j, h, hj, _ => by
    rcases Nat.eq_zero_or_pos j with h0 | h0
    · subst h0; simp [cntP]
    · exact absurd (h 0 h0).1 (by simp)
  | m + 1, x :: xs, 0, h, hj, hn => by
    simp only [cntP]
    rw [if_neg]
    intro hp
    exact hn ⟨by simp, by omega, by simpa using hp⟩
  | m + 1, x :: xs, j + 1, h, hj, hn => by
    have h0 := (h 0 (by omega)).2
    simp only [cntP]
    rw [if_pos (by simpa using h0)]
    have := cntP_at p m xs j (fun q hq => by have := h (q + 1) (by omega); simpa using this) (by omega) (fun hh => hn ⟨by simp; omega, by omega, by simpa using hh.2.2⟩)
    omega

theorem zeros_nil (a : Option Addr) (c : Nat) (w : World) :
    Calls Facg.prog 114 #[.slice a 0 c, .int .i64 255] w fun e w' => e = .returned (.int .i64 0) ∧ w' = w := by
  go_enter Facg.func114, Facg.ntmps114
  go_wp2
  go_loop [5] (fun t => t = .int .i64 0) (fun _ => 0)
  case atStart => rfl
  case round =>
    subst hrel
    go_wp2
    go_ret
    exact ⟨rfl, rfl⟩

set_option maxHeartbeats 1000000 in
theorem zeros_row (b o n c : Nat) (s : Nat → Int) (w : World) (hn : n ≤ 9223372036854775807) (hS : ∀ j, j < n → w.cell? ⟨b, o + j, none⟩ = some (.int .u64 (s j))) :
    Calls Facg.prog 114 #[.slice (some ⟨b, o, none⟩) n c, .int .i64 255] w fun e w' => (∃ j : Nat, e = .returned (.int .i64 j) ∧ (∀ q, q < j → q < n ∧ s q = 0) ∧ j ≤ 255 ∧ (j < n → j < 255 → s j = 0 → False)) ∧ w' = w := by
  have HS := hid hS
  clear hS
  go_enter Facg.func114, Facg.ntmps114
  go_wp2
  go_loop [5] (fun t => ∃ j : Nat, t = .int .i64 j ∧ (∀ q, q < j → q < n ∧ s q = 0) ∧ j ≤ 255) (fun t => 255 - (intOf t).toNat)
  case atStart => exact ⟨0, rfl, fun q hq => absurd hq (Nat.not_lt_zero _), by omega⟩
  case round =>
    obtain ⟨j, rfl, hq, hj⟩ := hrel
    have HQ := hid hq
    clear hq
    by_cases h1 : j < n
    · have t1 : decide ((j : Int) < (n : Int)) = true := by simp; omega
      by_cases h2 : j < 255
      · have t2 : decide ((j : Int) < 255) = true := by simp; omega
        have hc := HS.out j h1
        have hi : (j : Int) < (n : Int) := by omega
        by_cases h3 : s j = 0
        · have t3 : (s j == 0) = true := by simpa using h3
          have H3 := hid h3
          clear h3
          go_wp2
          go_round
          case rel => exact ⟨j + 1, by go_num, fun q hq => by
              rcases Nat.lt_or_ge q j with h | h
              · exact HQ.out q h
              · rw [show q = j by omega]; exact ⟨h1, H3.out⟩, by omega⟩
          case measure => simp [intOf]; omega
        · have t3 : (s j == 0) = false := by simpa using h3
          have H3 := hid h3
          clear h3
          go_wp2
          go_ret
          exact ⟨⟨j, rfl, HQ.out, hj, fun _ _ h => H3.out h⟩, rfl⟩
      · have t2 : decide ((j : Int) < 255) = false := by simp; omega
        go_wp2
        go_ret
        exact ⟨⟨j, rfl, HQ.out, hj, fun _ h _ => h2 h⟩, rfl⟩
    · have t1 : decide ((j : Int) < (n : Int)) = false := by simp; omega
      go_wp2
      go_ret
      exact ⟨⟨j, rfl, HQ.out, hj, fun h _ _ => h1 h⟩, rfl⟩

set_option maxHeartbeats 1000000 in
theorem dense_row (b o n c : Nat) (s : Nat → Int) (w : World) (hn : n ≤ 9223372036854775807) (hB : ∀ j, 0 ≤ s j ∧ s j < 18446744073709551616) (hS : ∀ j, j < n → w.cell? ⟨b, o + j, none⟩ = some (.int .u64 (s j))) :
    Calls Facg.prog 115 #[.slice (some ⟨b, o, none⟩) n c, .int .i64 255] w fun e w' => (∃ j : Nat, e = .returned (.int .i64 j) ∧ (∀ q, q < j → q < n ∧ denseT (tagI (s q)) = true) ∧ j ≤ 255 ∧ (j < n → j < 255 → denseT (tagI (s j)) = false)) ∧ w' = w := by
  have HS := hid hS
  have HB := hid hB
  clear hS hB
  go_enter Facg.func115, Facg.ntmps115
  go_wp2
  go_loop [5] (fun t => ∃ j : Nat, t = .int .i64 j ∧ (∀ q, q < j → q < n ∧ denseT (tagI (s q)) = true) ∧ j ≤ 255) (fun t => 255 - (intOf t).toNat)
  case atStart => exact ⟨0, rfl, fun q hq => absurd hq (Nat.not_lt_zero _), by omega⟩
  case round =>
    obtain ⟨j, rfl, hq, hj⟩ := hrel
    have HQ := hid hq
    clear hq
    by_cases h1 : j < n
    · have t1 : decide ((j : Int) < (n : Int)) = true := by simp; omega
      by_cases h2 : j < 255
      · have t2 : decide ((j : Int) < 255) = true := by simp; omega
        have hc := HS.out j h1
        have hi : (j : Int) < (n : Int) := by omega
        have hb := tag_bd (s j)
        cases t3 : denseT (tagI (s j)) with
        | true =>
          have H3 := hid t3
          clear t3
          go_wp2_with (first
            | (go_at_call 113; refine (tag_any _ _ (HB.out _).1 (HB.out _).2).mono ?_; rintro e w' ⟨rfl, rfl⟩)
            | (go_at_call 163; refine (isDense_any _ _ hb.1 hb.2).mono ?_; rw [H3.out]; rintro e w' ⟨rfl, rfl⟩))
          go_round
          case rel => exact ⟨j + 1, by go_num, fun q hq => by
              rcases Nat.lt_or_ge q j with h | h
              · exact HQ.out q h
              · rw [show q = j by omega]; exact ⟨h1, H3.out⟩, by omega⟩
          case measure => simp [intOf]; omega
        | false =>
          have H3 := hid t3
          clear t3
          go_wp2_with (first
            | (go_at_call 113; refine (tag_any _ _ (HB.out _).1 (HB.out _).2).mono ?_; rintro e w' ⟨rfl, rfl⟩)
            | (go_at_call 163; refine (isDense_any _ _ hb.1 hb.2).mono ?_; rw [H3.out]; rintro e w' ⟨rfl, rfl⟩))
          go_ret
          exact ⟨⟨j, rfl, HQ.out, hj, fun _ _ => H3.out⟩, rfl⟩
      · have t2 : decide ((j : Int) < 255) = false := by simp; omega
        go_wp2
        go_ret
        exact ⟨⟨j, rfl, HQ.out, hj, fun _ h => absurd h h2⟩, rfl⟩
    · have t1 : decide ((j : Int) < (n : Int)) = false := by simp; omega
      go_wp2
      go_ret
      exact ⟨⟨j, rfl, HQ.out, hj, fun h _ => absurd h h1⟩, rfl⟩

theorem dense_nil (a : Option Addr) (c : Nat) (w : World) :
    Calls Facg.prog 115 #[.slice a 0 c, .int .i64 255] w fun e w' => e = .returned (.int .i64 0) ∧ w' = w := by
  go_enter Facg.func115, Facg.ntmps115
  go_wp2
  go_loop [5] (fun t => t = .int .i64 0) (fun _ => 0)
  case atStart => rfl
  case round =>
    subst hrel
    go_wp2
    go_ret
    exact ⟨rfl, rfl⟩
end Go.Proofs.Ygcfac
