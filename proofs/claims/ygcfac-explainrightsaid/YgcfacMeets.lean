import Derived.Test.YgcfacSpread
namespace Go.Proofs.Ygcfac
open Go.RowKit
set_option linter.unusedVariables false

theorem part_bool (w : World) (t : TypeId) (ht : Facg.prog.underlying t = some .bool) (xs : Array Value) (o : Nat) (v : Value) (h : xs[o]? = some v) : (part t xs o).run Facg.prog w = .ok v w := by
  have hagg : (isAgg t).run Facg.prog w = .ok false w := by
    unfold isAgg
    rw [Sem.run_bind, run_underlying ht w]
    simp
  simp [part, Sem.run_bind, hagg, h]

theorem eqItems_bools (w : World) (d : Nat) (xs ys : Array Value) (B : Nat → Bool) : ∀ is : List Nat, (∀ i ∈ is, xs[i]? = some (.bool (B i)) ∧ ys[i]? = some (.bool false)) →
    (Op.eqItems (d + 1) 4 1 xs ys is).run Facg.prog w = .ok (is.all fun i => !B i) w
  | [], _ => by simp [Op.eqItems]
  | i :: is, h => by
    obtain ⟨h1, h2⟩ := h i (by simp)
    have e1 := part_bool w 4 Facg.underlying4 xs (i * 1) _ (by rw [Nat.mul_one]; exact h1)
    have e2 := part_bool w 4 Facg.underlying4 ys (i * 1) _ (by rw [Nat.mul_one]; exact h2)
    have ih := eqItems_bools w d xs ys B is (fun j hj => h j (by simp [hj]))
    simp only [Op.eqItems, Sem.run_bind, e1, e2, Result.andThen_ok, run_equalIn_bool w d 4 (B i) false Facg.underlying4]
    cases hb : B i
    · simpa [hb] using ih
    · simp [hb]

theorem equal35 (w : World) (B : Nat → Bool) : (Op.equalIn 10000 35 (.agg #[.bool (B 0), .bool (B 1), .bool (B 2), .bool (B 3), .bool (B 4), .bool (B 5), .bool (B 6), .bool (B 7), .bool (B 8)])
    (.agg #[.bool false, .bool false, .bool false, .bool false, .bool false, .bool false, .bool false, .bool false, .bool false])).run Facg.prog w = .ok ((List.range 9).all fun i => !B i) w := by
  have hc : Facg.prog.cellsOf 4 = 1 := by kernel_rfl
  obtain ⟨i, hi⟩ : ∃ i, Facg.prog.info? 4 = some i := info_of_underlying Facg.underlying4
  rw [show (10000 : Nat) = 9998 + 1 + 1 from rfl, run_equalIn_array w (9998 + 1) _ _ Facg.underlying35 hi, hc]
  refine eqItems_bools w 9998 _ _ B _ (fun j hj => ?_)
  have hj := List.mem_range.1 hj
  have : j = 0 ∨ j = 1 ∨ j = 2 ∨ j = 3 ∨ j = 4 ∨ j = 5 ∨ j = 6 ∨ j = 7 ∨ j = 8 := by omega
  rcases this with rfl | rfl | rfl | rfl | rfl | rfl | rfl | rfl | rfl <;> exact ⟨rfl, rfl⟩

set_option maxRecDepth 10000 in
theorem meets_b (g i : Nat) (B : Nat → Bool) (w : World) (hi : i < 256) (hB : ∀ d, d < 9 → w.cell? ⟨g, i * 9 + d, none⟩ = some (.bool (B d))) :
    Calls Facg.prog 19 #[.pointer (some ⟨g, 0, none⟩), .int .i64 i] w fun e w' => e = .returned (.bool (!(List.range 9).all fun i => !B i)) ∧ w' = w := by
  have h0 := hB 0 (by decide)
  have h1 := hB 1 (by decide)
  have h2 := hB 2 (by decide)
  have h3 := hB 3 (by decide)
  have h4 := hB 4 (by decide)
  have h5 := hB 5 (by decide)
  have h6 := hB 6 (by decide)
  have h7 := hB 7 (by decide)
  have h8 := hB 8 (by decide)
  rw [Nat.add_zero] at h0
  have he := equal35 w B
  clear hB
  generalize ((List.range 9).all fun i => !B i) = r at *
  generalize B 0 = b0 at *
  generalize B 1 = b1 at *
  generalize B 2 = b2 at *
  generalize B 3 = b3 at *
  generalize B 4 = b4 at *
  generalize B 5 = b5 at *
  generalize B 6 = b6 at *
  generalize B 7 = b7 at *
  generalize B 8 = b8 at *
  go_enter Facg.func19, Facg.ntmps19
  go_wp2
  go_ret
  exact ⟨rfl, rfl⟩

theorem meets_any {X : Nat → Nat → Prop} (g i : Nat) (w : World) (hi : i < 256) (hR : RAt w g X) :
    Calls Facg.prog 19 #[.pointer (some ⟨g, 0, none⟩), .int .i64 i] w fun e w' => ∃ r, e = .returned (.bool r) ∧ w' = w ∧ (r = true ↔ ∃ d, d < 9 ∧ X i d) := by
  obtain ⟨B, hB⟩ : ∃ B : Nat → Bool, ∀ d, d < 9 → w.cell? ⟨g, i * 9 + d, none⟩ = some (.bool (B d)) ∧ (B d = true ↔ X i d) := by
    refine ⟨fun d => if h : d < 9 then Classical.choose (hR.1 i d hi h) else false, fun d hd => ?_⟩
    simp only [hd, dif_pos]
    exact Classical.choose_spec (hR.1 i d hi hd)
  refine (meets_b g i B w hi (fun d hd => (hB d hd).1)).mono ?_
  rintro e w' ⟨rfl, rfl⟩
  refine ⟨_, rfl, rfl, ?_⟩
  simp only [Bool.not_eq_true', List.all_eq_false, List.mem_range]
  constructor
  · rintro ⟨d, h1, h2⟩
    exact ⟨d, h1, (hB d h1).2.1 (by simpa using h2)⟩
  · rintro ⟨d, h1, h2⟩
    exact ⟨d, h1, by simpa using (hB d h1).2.2 h2⟩
end Go.Proofs.Ygcfac
