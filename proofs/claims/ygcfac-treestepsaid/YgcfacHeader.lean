/-
  frame.ReadHeader: walked.
-/
import Derived.Test.YgcfacWords
import Derived.Deep.RegionHeld
namespace Go.Proofs.Ygcfac
open Go.RowKit
set_option linter.unusedVariables false

theorem keep16 {w0 w1 w2 : World} {b o : Nat} {s : Nat → Int} (hg : Grows w1 w2) (h : Grows w0 w1 ∧ w1.cell? ⟨b, o, none⟩ = some (.int .u8 (s 0)) ∧ w1.cell? ⟨b, o + 1, none⟩ = some (.int .u8 (s 1)) ∧ w1.cell? ⟨b, o + 2, none⟩ = some (.int .u8 (s 2)) ∧ w1.cell? ⟨b, o + 3, none⟩ = some (.int .u8 (s 3)) ∧ w1.cell? ⟨b, o + 4, none⟩ = some (.int .u8 (s 4)) ∧ w1.cell? ⟨b, o + 5, none⟩ = some (.int .u8 (s 5)) ∧ w1.cell? ⟨b, o + 6, none⟩ = some (.int .u8 (s 6)) ∧ w1.cell? ⟨b, o + 7, none⟩ = some (.int .u8 (s 7)) ∧ w1.cell? ⟨b, o + 8, none⟩ = some (.int .u8 (s 8)) ∧ w1.cell? ⟨b, o + 9, none⟩ = some (.int .u8 (s 9)) ∧ w1.cell? ⟨b, o + 10, none⟩ = some (.int .u8 (s 10)) ∧ w1.cell? ⟨b, o + 11, none⟩ = some (.int .u8 (s 11)) ∧ w1.cell? ⟨b, o + 12, none⟩ = some (.int .u8 (s 12)) ∧ w1.cell? ⟨b, o + 13, none⟩ = some (.int .u8 (s 13)) ∧ w1.cell? ⟨b, o + 14, none⟩ = some (.int .u8 (s 14)) ∧ w1.cell? ⟨b, o + 15, none⟩ = some (.int .u8 (s 15))) :
    Grows w0 w2 ∧ w2.cell? ⟨b, o, none⟩ = some (.int .u8 (s 0)) ∧ w2.cell? ⟨b, o + 1, none⟩ = some (.int .u8 (s 1)) ∧ w2.cell? ⟨b, o + 2, none⟩ = some (.int .u8 (s 2)) ∧ w2.cell? ⟨b, o + 3, none⟩ = some (.int .u8 (s 3)) ∧ w2.cell? ⟨b, o + 4, none⟩ = some (.int .u8 (s 4)) ∧ w2.cell? ⟨b, o + 5, none⟩ = some (.int .u8 (s 5)) ∧ w2.cell? ⟨b, o + 6, none⟩ = some (.int .u8 (s 6)) ∧ w2.cell? ⟨b, o + 7, none⟩ = some (.int .u8 (s 7)) ∧ w2.cell? ⟨b, o + 8, none⟩ = some (.int .u8 (s 8)) ∧ w2.cell? ⟨b, o + 9, none⟩ = some (.int .u8 (s 9)) ∧ w2.cell? ⟨b, o + 10, none⟩ = some (.int .u8 (s 10)) ∧ w2.cell? ⟨b, o + 11, none⟩ = some (.int .u8 (s 11)) ∧ w2.cell? ⟨b, o + 12, none⟩ = some (.int .u8 (s 12)) ∧ w2.cell? ⟨b, o + 13, none⟩ = some (.int .u8 (s 13)) ∧ w2.cell? ⟨b, o + 14, none⟩ = some (.int .u8 (s 14)) ∧ w2.cell? ⟨b, o + 15, none⟩ = some (.int .u8 (s 15)) :=
  ⟨h.1.trans hg, hg.cell h.2.1 trivial, hg.cell h.2.2.1 trivial, hg.cell h.2.2.2.1 trivial, hg.cell h.2.2.2.2.1 trivial, hg.cell h.2.2.2.2.2.1 trivial, hg.cell h.2.2.2.2.2.2.1 trivial, hg.cell h.2.2.2.2.2.2.2.1 trivial, hg.cell h.2.2.2.2.2.2.2.2.1 trivial, hg.cell h.2.2.2.2.2.2.2.2.2.1 trivial, hg.cell h.2.2.2.2.2.2.2.2.2.2.1 trivial, hg.cell h.2.2.2.2.2.2.2.2.2.2.2.1 trivial, hg.cell h.2.2.2.2.2.2.2.2.2.2.2.2.1 trivial, hg.cell h.2.2.2.2.2.2.2.2.2.2.2.2.2.1 trivial, hg.cell h.2.2.2.2.2.2.2.2.2.2.2.2.2.2.1 trivial, hg.cell h.2.2.2.2.2.2.2.2.2.2.2.2.2.2.2.1 trivial, hg.cell h.2.2.2.2.2.2.2.2.2.2.2.2.2.2.2.2 trivial⟩

theorem header_short (a : Option Addr) (n c : Nat) (h : n < 16) (w : World) :
    Calls Facg.prog 61 #[.slice a n c] w fun e w' => e = .returned (.tuple #[.agg #[.int .u32 0, .int .u16 0, .int .u16 0, .int .u32 0, .int .u32 0], .bool false]) ∧ Grows w w' := by
  have hd : (n : Int) < 16 := by omega
  go_enter Facg.func61, Facg.ntmps61
  go_wp2
  refine bodyPost_ret (v := .tuple #[.agg #[.int .u32 0, .int .u16 0, .int .u16 0, .int .u32 0, .int .u32 0], .bool false]) (by simp [results, Facg.results61, go_sem]) rfl ⟨rfl, (Kept.refl _ _).alloc _⟩

set_option maxRecDepth 10000 in
set_option maxHeartbeats 1000000 in
theorem header_long (b o n c : Nat) (s : Nat → Int) (w : World) (h : 16 ≤ n) (hn : n ≤ 9223372036854775807) (hc : n ≤ c) (hB : ∀ j, 0 ≤ s j ∧ s j < 256)
    (hS : ∀ j, j < n → w.cell? ⟨b, o + j, none⟩ = some (.int .u8 (s j))) :
    Calls Facg.prog 61 #[.slice (some ⟨b, o, none⟩) n c] w fun e w' => e = .returned (.tuple #[.agg #[.int .u32 (wordAt s 0 % 4294967296), .int .u16 (wordAt s 0 / 4294967296 % 65536), .int .u16 (wordAt s 0 / 281474976710656), .int .u32 (wordAt s 8 % 4294967296), .int .u32 (wordAt s 8 / 4294967296)], .bool true]) ∧ Grows w w' := by
  have HB : Hid (∀ j, 0 ≤ s j ∧ s j < 256) := hB
  have hb : b < w.heap.size := World.block_lt_of_cell? w _ (hS 0 (by omega))
  have HP : Hid (Grows (w.alloc (.cells #[.int .u32 0, .int .u16 0, .int .u16 0, .int .u32 0, .int .u32 0] 114)) (w.alloc (.cells #[.int .u32 0, .int .u16 0, .int .u16 0, .int .u32 0, .int .u32 0] 114)) ∧ (w.alloc (.cells #[.int .u32 0, .int .u16 0, .int .u16 0, .int .u32 0, .int .u32 0] 114)).cell? ⟨b, o, none⟩ = some (.int .u8 (s 0)) ∧ (w.alloc (.cells #[.int .u32 0, .int .u16 0, .int .u16 0, .int .u32 0, .int .u32 0] 114)).cell? ⟨b, o + 1, none⟩ = some (.int .u8 (s 1)) ∧ (w.alloc (.cells #[.int .u32 0, .int .u16 0, .int .u16 0, .int .u32 0, .int .u32 0] 114)).cell? ⟨b, o + 2, none⟩ = some (.int .u8 (s 2)) ∧ (w.alloc (.cells #[.int .u32 0, .int .u16 0, .int .u16 0, .int .u32 0, .int .u32 0] 114)).cell? ⟨b, o + 3, none⟩ = some (.int .u8 (s 3)) ∧ (w.alloc (.cells #[.int .u32 0, .int .u16 0, .int .u16 0, .int .u32 0, .int .u32 0] 114)).cell? ⟨b, o + 4, none⟩ = some (.int .u8 (s 4)) ∧ (w.alloc (.cells #[.int .u32 0, .int .u16 0, .int .u16 0, .int .u32 0, .int .u32 0] 114)).cell? ⟨b, o + 5, none⟩ = some (.int .u8 (s 5)) ∧ (w.alloc (.cells #[.int .u32 0, .int .u16 0, .int .u16 0, .int .u32 0, .int .u32 0] 114)).cell? ⟨b, o + 6, none⟩ = some (.int .u8 (s 6)) ∧ (w.alloc (.cells #[.int .u32 0, .int .u16 0, .int .u16 0, .int .u32 0, .int .u32 0] 114)).cell? ⟨b, o + 7, none⟩ = some (.int .u8 (s 7)) ∧ (w.alloc (.cells #[.int .u32 0, .int .u16 0, .int .u16 0, .int .u32 0, .int .u32 0] 114)).cell? ⟨b, o + 8, none⟩ = some (.int .u8 (s 8)) ∧ (w.alloc (.cells #[.int .u32 0, .int .u16 0, .int .u16 0, .int .u32 0, .int .u32 0] 114)).cell? ⟨b, o + 9, none⟩ = some (.int .u8 (s 9)) ∧ (w.alloc (.cells #[.int .u32 0, .int .u16 0, .int .u16 0, .int .u32 0, .int .u32 0] 114)).cell? ⟨b, o + 10, none⟩ = some (.int .u8 (s 10)) ∧ (w.alloc (.cells #[.int .u32 0, .int .u16 0, .int .u16 0, .int .u32 0, .int .u32 0] 114)).cell? ⟨b, o + 11, none⟩ = some (.int .u8 (s 11)) ∧ (w.alloc (.cells #[.int .u32 0, .int .u16 0, .int .u16 0, .int .u32 0, .int .u32 0] 114)).cell? ⟨b, o + 12, none⟩ = some (.int .u8 (s 12)) ∧ (w.alloc (.cells #[.int .u32 0, .int .u16 0, .int .u16 0, .int .u32 0, .int .u32 0] 114)).cell? ⟨b, o + 13, none⟩ = some (.int .u8 (s 13)) ∧ (w.alloc (.cells #[.int .u32 0, .int .u16 0, .int .u16 0, .int .u32 0, .int .u32 0] 114)).cell? ⟨b, o + 14, none⟩ = some (.int .u8 (s 14)) ∧ (w.alloc (.cells #[.int .u32 0, .int .u16 0, .int .u16 0, .int .u32 0, .int .u32 0] 114)).cell? ⟨b, o + 15, none⟩ = some (.int .u8 (s 15))) := by
    have g1 : Grows w (w.alloc (.cells #[.int .u32 0, .int .u16 0, .int .u16 0, .int .u32 0, .int .u32 0] 114)) := (Kept.refl _ _).alloc _
    exact ⟨Kept.refl _ _, g1.cell (hS 0 (by omega)) trivial, g1.cell (hS 1 (by omega)) trivial, g1.cell (hS 2 (by omega)) trivial, g1.cell (hS 3 (by omega)) trivial, g1.cell (hS 4 (by omega)) trivial, g1.cell (hS 5 (by omega)) trivial, g1.cell (hS 6 (by omega)) trivial, g1.cell (hS 7 (by omega)) trivial, g1.cell (hS 8 (by omega)) trivial, g1.cell (hS 9 (by omega)) trivial, g1.cell (hS 10 (by omega)) trivial, g1.cell (hS 11 (by omega)) trivial, g1.cell (hS 12 (by omega)) trivial, g1.cell (hS 13 (by omega)) trivial, g1.cell (hS 14 (by omega)) trivial, g1.cell (hS 15 (by omega)) trivial⟩
  have harr := fun (a : Option Addr) (c : Nat) (w : World) => run_arrayAt (P := Facg.prog) (w := w) 110 5 8 a 8 c Facg.underlying110 (by decide)
  obtain ⟨v0, v1⟩ := wordAt_bd s hB 0
  obtain ⟨x0, x1⟩ := wordAt_bd s hB 8
  clear hB hS
  have h8 : (8 : Int) ≤ (c : Int) := by omega
  have hc8 : ¬ c = 8 := by omega
  have h16 : (16 : Int) ≤ (c : Int) := by omega
  go_enter Facg.func61, Facg.ntmps61
  go_wp2
  go_cut [4, 5] (fun s4 s5 wc => s4 = .int .u64 (wordAt s 0) ∧ s5 = .int .u64 (wordAt s 8) ∧ Grows (w.alloc (.cells #[.int .u32 0, .int .u16 0, .int .u16 0, .int .u32 0, .int .u32 0] 114)) wc)
  case first =>
    go_region_held (fun w' => Grows (w.alloc (.cells #[.int .u32 0, .int .u16 0, .int .u16 0, .int .u32 0, .int .u32 0] 114)) w' ∧ w'.cell? ⟨b, o, none⟩ = some (.int .u8 (s 0)) ∧ w'.cell? ⟨b, o + 1, none⟩ = some (.int .u8 (s 1)) ∧ w'.cell? ⟨b, o + 2, none⟩ = some (.int .u8 (s 2)) ∧ w'.cell? ⟨b, o + 3, none⟩ = some (.int .u8 (s 3)) ∧ w'.cell? ⟨b, o + 4, none⟩ = some (.int .u8 (s 4)) ∧ w'.cell? ⟨b, o + 5, none⟩ = some (.int .u8 (s 5)) ∧ w'.cell? ⟨b, o + 6, none⟩ = some (.int .u8 (s 6)) ∧ w'.cell? ⟨b, o + 7, none⟩ = some (.int .u8 (s 7)) ∧ w'.cell? ⟨b, o + 8, none⟩ = some (.int .u8 (s 8)) ∧ w'.cell? ⟨b, o + 9, none⟩ = some (.int .u8 (s 9)) ∧ w'.cell? ⟨b, o + 10, none⟩ = some (.int .u8 (s 10)) ∧ w'.cell? ⟨b, o + 11, none⟩ = some (.int .u8 (s 11)) ∧ w'.cell? ⟨b, o + 12, none⟩ = some (.int .u8 (s 12)) ∧ w'.cell? ⟨b, o + 13, none⟩ = some (.int .u8 (s 13)) ∧ w'.cell? ⟨b, o + 14, none⟩ = some (.int .u8 (s 14)) ∧ w'.cell? ⟨b, o + 15, none⟩ = some (.int .u8 (s 15)))
      ((first | assumption | exact ⟨(Kept.refl _ _).drew, HP.out.2⟩ | (refine keep16 (Grows.of_below hbel) ?_; assumption)))
      ((go_at_call 87; refine (word_any _ _ _ _ _ _ _ _ (HB.out _) (HB.out _) (HB.out _) (HB.out _) (HB.out _) (HB.out _) (HB.out _) (HB.out _) _).mono ?_; rintro e wA ⟨rfl, hbel⟩))
    all_goals go_wp2
    all_goals go_meet
    all_goals exact ⟨rfl, rfl, And.left (by assumption)⟩
  case rest =>
    obtain ⟨rfl, rfl, hg⟩ := hcut
    have HG : Hid (Grows (w.alloc (.cells #[.int .u32 0, .int .u16 0, .int .u16 0, .int .u32 0, .int .u32 0] 114)) wc) := hg
    have e0 : wc.cell? ⟨w.heap.size, 0, none⟩ = some (.int .u32 0) := hg.cell (by simp) trivial
    have e1 : wc.cell? ⟨w.heap.size, 1, none⟩ = some (.int .u16 0) := hg.cell (by simp) trivial
    have e2 : wc.cell? ⟨w.heap.size, 2, none⟩ = some (.int .u16 0) := hg.cell (by simp) trivial
    have e3 : wc.cell? ⟨w.heap.size, 3, none⟩ = some (.int .u32 0) := hg.cell (by simp) trivial
    have e4 : wc.cell? ⟨w.heap.size, 4, none⟩ = some (.int .u32 0) := hg.cell (by simp) trivial
    have ef : ∀ o, wc.frozen? ⟨w.heap.size, o, none⟩ = false := fun o => by rw [hg.frozens _ o (by simp)]; exact World.frozen?_alloc_at _ _ _ _ rfl
    clear hg HP harr
    go_wp2
    refine bodyPost_ret (v := .tuple #[.agg #[.int .u32 (wordAt s 0 % 4294967296), .int .u16 (wordAt s 0 / 4294967296 % 65536), .int .u16 (wordAt s 0 / 281474976710656), .int .u32 (wordAt s 8 % 4294967296), .int .u32 (wordAt s 8 / 4294967296)], .bool true]) ?_ rfl ⟨rfl, ?_⟩
    · simp [results, Facg.results61, go_sem, e0, e1, e2, e3, e4]
      exact IntKind.wrap_u16 _
    · exact (((Kept.refl _ w).alloc _).trans HG.out).setCell (.inl (Nat.le_refl _)) _ |>.setCell (.inl (Nat.le_refl _)) _ |>.setCell (.inl (Nat.le_refl _)) _ |>.setCell (.inl (Nat.le_refl _)) _ |>.setCell (.inl (Nat.le_refl _)) _
end Go.Proofs.Ygcfac
