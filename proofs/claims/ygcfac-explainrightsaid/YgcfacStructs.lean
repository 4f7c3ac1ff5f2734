import Derived.Test.YgcfacSpans
namespace Go.Proofs.Ygcfac
open Go.RowKit
set_option linter.unusedVariables false

theorem box_cell' (w : World) (xs : Array Value) (t : TypeId) (j : Nat) (v : Value) (h : xs[j]? = some v) : (w.alloc (.cells xs t)).cell? ⟨w.heap.size, j, none⟩ = some v := by
  rw [World.cell?_alloc_at _ _ _ _ rfl]; simpa using h

/-- A result cell of type Ptr, laid second, behind a box: its cells and its freedom. -/
def Cell6 (w : World) (B : Nat) (k a d q c n : Int) : Prop :=
  (w.cell? ⟨B, 0, none⟩ = some (.int .u8 k) ∧ w.cell? ⟨B, 1, none⟩ = some (.int .u16 a) ∧ w.cell? ⟨B, 2, none⟩ = some (.int .u8 d) ∧ w.cell? ⟨B, 3, none⟩ = some (.int .u8 q) ∧ w.cell? ⟨B, 4, none⟩ = some (.int .u8 c) ∧ w.cell? ⟨B, 5, none⟩ = some (.int .u16 n)) ∧ ∀ j, w.frozen? ⟨B, j, none⟩ = false
theorem Cell6.kept {p : Nat → Prop} {w w' : World} {B : Nat} {k a d q c n : Int} (h : Cell6 w B k a d q c n) (hk : Kept p w w') (hp : p B) : Cell6 w' B k a d q c n :=
  ⟨⟨hk.cell h.1.1 hp, hk.cell h.1.2.1 hp, hk.cell h.1.2.2.1 hp, hk.cell h.1.2.2.2.1 hp, hk.cell h.1.2.2.2.2.1 hp, hk.cell h.1.2.2.2.2.2 hp⟩, fun j => by
    rw [hk.frozen (q := ⟨B, j, none⟩) (show B < w.heap.size from World.block_lt_of_cell? w ⟨B, 0, none⟩ h.1.1) hp]; exact h.2 j⟩
theorem Cell6.alloc (w : World) (t : TypeId) (k a d q c n : Int) : Cell6 (w.alloc (.cells #[.int .u8 k, .int .u16 a, .int .u8 d, .int .u8 q, .int .u8 c, .int .u16 n] t)) w.heap.size k a d q c n :=
  ⟨⟨box_cell' w _ t 0 _ rfl, box_cell' w _ t 1 _ rfl, box_cell' w _ t 2 _ rfl, box_cell' w _ t 3 _ rfl, box_cell' w _ t 4 _ rfl, box_cell' w _ t 5 _ rfl⟩, fun j => World.frozen?_alloc_at _ _ _ _ rfl⟩
/-- .. behind one box. -/
theorem Cell6.second {w w2 : World} {o : Obj} {t : TypeId} {k a d q c n : Int} (hg : Grows ((w.alloc o).alloc (.cells #[.int .u8 k, .int .u16 a, .int .u8 d, .int .u8 q, .int .u8 c, .int .u16 n] t)) w2) : Cell6 w2 (w.heap.size + 1) k a d q c n := by
  have := (Cell6.alloc (w.alloc o) t k a d q c n).kept hg trivial
  rwa [World.size_alloc] at this
theorem Cell6.first {w w2 : World} {t : TypeId} {k a d q c n : Int} (hg : Grows (w.alloc (.cells #[.int .u8 k, .int .u16 a, .int .u8 d, .int .u8 q, .int .u8 c, .int .u16 n] t)) w2) : Cell6 w2 w.heap.size k a d q c n :=
  (Cell6.alloc w t k a d q c n).kept hg trivial
theorem room_first {w w2 : World} {o : Obj} {t : TypeId} {x y : Value} (hg : Grows ((w.alloc (.cells #[x, y] t)).alloc o) w2) : w2.cell? ⟨w.heap.size, 0, none⟩ = some x ∧ w2.cell? ⟨w.heap.size, 1, none⟩ = some y := by
  have h1 := ((Kept.refl (fun _ => True) (w.alloc (.cells #[x, y] t))).alloc o).trans hg
  exact ⟨h1.cell (box_cell' w _ t 0 _ rfl) trivial, h1.cell (box_cell' w _ t 1 _ rfl) trivial⟩

theorem Kept.set6 {p : Nat → Prop} {w w2 : World} {B : Nat} (h : Kept p w w2) (hB : w.heap.size ≤ B) (v0 v1 v2 v3 v4 v5 : Value) :
    Kept p w ((((((w2.setCell ⟨B, 0, none⟩ v0).setCell ⟨B, 1, none⟩ v1).setCell ⟨B, 2, none⟩ v2).setCell ⟨B, 3, none⟩ v3).setCell ⟨B, 4, none⟩ v4).setCell ⟨B, 5, none⟩ v5) :=
  (((((h.setCell (.inl hB) _).setCell (.inl hB) _).setCell (.inl hB) _).setCell (.inl hB) _).setCell (.inl hB) _).setCell (.inl hB) _
def P.zero : P := ⟨0, 0, 0, 0, 0, 0⟩
def resV : Option P → Value
  | none => .tuple #[.agg #[.int .u8 0, .int .u16 0, .int .u8 0, .int .u8 0, .int .u8 0, .int .u16 0], .bool false]
  | some p => .tuple #[.agg #[.int .u8 p.kind, .int .u16 p.at_, .int .u8 p.data, .int .u8 p.ptrs, .int .u8 p.code, .int .u16 p.count], .bool true]

def tagI (g t m : Int) : Option P :=
  match secF g with
  | none => none
  | some (d, q) => if g % 4 ≠ 0 ∨ 128 < g / 4 % 1073741824 then none
    else if (d + q = 0 ∧ g / 4 % 1073741824 ≠ 0) ∨ g / 4 % 1073741824 * (d + q) ≠ m then none
    else some ⟨2, t + 1, d, q, 7, g / 4 % 1073741824⟩
def structsI (f : Nat → Int) (n low t m : Int) : Option P := bif spansI n low t (m + 1) then tagI (f t.toNat) t m else none

set_option maxRecDepth 10000 in
theorem structs_no (a : Option Addr) (n c : Nat) (low t m : Int) (w : World) (hn : n ≤ 256) (hl : 0 ≤ low ∧ low < 65536) (ht : -536870912 ≤ t ∧ t ≤ 536936448) (hm : 0 ≤ m ∧ m < 536870912) (h : spansI n low t (m + 1) = false) :
    Calls Facg.prog 111 #[.agg #[.slice a n c, .int .u16 low], .int .i32 t, .int .i32 m] w fun e w' => e = .returned (resV none) ∧ Grows w w' := by
  have HS := hide (fun w => spans_any a n c low t (m + 1) w hn hl ht (by omega))
  rw [h] at HS
  clear h
  go_enter Facg.func111, Facg.ntmps111
  go_wp2_with (first
    | (go_at_call 110; refine (HS.out _).mono ?_; rintro e w2 ⟨rfl, hg⟩; have HG := hide hg; obtain ⟨⟨z0, z1, z2, z3, z4, z5⟩, zf⟩ := Cell6.second hg; clear hg))
  refine bodyPost_ret (v := resV none) (by simp [results, Facg.results111, go_sem, resV, z0, z1, z2, z3, z4, z5]) rfl ⟨rfl, ?_⟩
  exact ((((Kept.refl _ _).alloc _).alloc _).trans HG.out).set6 (by omega) _ _ _ _ _ _


set_option maxRecDepth 10000 in
theorem structs_sec (b o n c t : Nat) (low m g cnt : Int) (w : World) (hn : n ≤ 256) (hl : 0 ≤ low ∧ low < 65536) (ht : t < n) (hm : 0 ≤ m ∧ m < 536870912) (h : spansI n low t (m + 1) = true)
    (hc : w.cell? ⟨b, o + t, none⟩ = some (.int .u64 g)) (h0 : 0 ≤ g) (h1 : g < 18446744073709551616) (hcnt : g / 4 % 1073741824 = cnt) (hcb : 0 ≤ cnt ∧ cnt < 1073741824) (hs : secF g = none) :
    Calls Facg.prog 111 #[.agg #[.slice (some ⟨b, o, none⟩) n c, .int .u16 low], .int .i32 t, .int .i32 m] w fun e w' => e = .returned (resV none) ∧ Grows w w' := by
  have HS := hide (fun w => spans_any (some ⟨b, o, none⟩) n c low t (m + 1) w hn hl (by omega) (by omega))
  rw [h] at HS
  have HSec := hide (fun w => sections_any g w h0 h1)
  have t1 : ∀ w, Calls Facg.prog 108 #[.int .u64 g, .int .u8 2, .int .u8 30] w fun e w' => e = .returned (.int .u64 (g / 4 % 1073741824)) ∧ w' = w := fun w => take_any g 2 30 w h0 h1 (by decide) (by decide) (by decide)
  have t2 : ∀ w, Calls Facg.prog 108 #[.int .u64 g, .int .u8 0, .int .u8 2] w fun e w' => e = .returned (.int .u64 (g % 4)) ∧ w' = w := fun w => by
    have := take_any g 0 2 w h0 h1 (by decide) (by decide) (by decide)
    simpa using this
  rw [hcnt] at t1
  have T1 := hide t1
  have T2 := hide t2
  have HC := hide hc
  clear t1 t2 h hc hcnt
  rw [hs] at HSec
  clear hs
  go_enter Facg.func111, Facg.ntmps111
  go_wp2_with (first
    | (go_at_call 110; refine (HS.out _).mono ?_; rintro e w2 ⟨rfl, hg⟩; have HG := hide hg; obtain ⟨⟨z0, z1, z2, z3, z4, z5⟩, zf⟩ := Cell6.second hg; obtain ⟨y0, y1⟩ := room_first hg; have hcell := ((((Kept.refl _ w).alloc _).alloc _).trans hg).cell HC.out trivial; clear hg)
    | (go_at_call 109; refine (HSec.out _).mono ?_; rintro e w3 ⟨rfl, rfl⟩)
    | (go_at_call 108; first | (with_reducible refine (T1.out _).mono ?_; rintro e w' ⟨rfl, rfl⟩) | (with_reducible refine (T2.out _).mono ?_; rintro e w' ⟨rfl, rfl⟩)))
  refine bodyPost_ret (v := resV none) (by simp [results, Facg.results111, go_sem, resV, z0, z1, z2, z3, z4, z5]) rfl ⟨rfl, ?_⟩
  exact ((((Kept.refl _ _).alloc _).alloc _).trans HG.out).set6 (by omega) _ _ _ _ _ _

set_option maxRecDepth 10000 in
theorem structs_low (b o n c t : Nat) (low m g cnt : Int) (w : World) (hn : n ≤ 256) (hl : 0 ≤ low ∧ low < 65536) (ht : t < n) (hm : 0 ≤ m ∧ m < 536870912) (h : spansI n low t (m + 1) = true)
    (hc : w.cell? ⟨b, o + t, none⟩ = some (.int .u64 g)) (h0 : 0 ≤ g) (h1 : g < 18446744073709551616) (hcnt : g / 4 % 1073741824 = cnt) (hcb : 0 ≤ cnt ∧ cnt < 1073741824) (d q : Int) (hs : secF g = some (d, q)) (h4 : ¬ g % 4 = 0) :
    Calls Facg.prog 111 #[.agg #[.slice (some ⟨b, o, none⟩) n c, .int .u16 low], .int .i32 t, .int .i32 m] w fun e w' => e = .returned (resV none) ∧ Grows w w' := by
  have HS := hide (fun w => spans_any (some ⟨b, o, none⟩) n c low t (m + 1) w hn hl (by omega) (by omega))
  rw [h] at HS
  have HSec := hide (fun w => sections_any g w h0 h1)
  have t1 : ∀ w, Calls Facg.prog 108 #[.int .u64 g, .int .u8 2, .int .u8 30] w fun e w' => e = .returned (.int .u64 (g / 4 % 1073741824)) ∧ w' = w := fun w => take_any g 2 30 w h0 h1 (by decide) (by decide) (by decide)
  have t2 : ∀ w, Calls Facg.prog 108 #[.int .u64 g, .int .u8 0, .int .u8 2] w fun e w' => e = .returned (.int .u64 (g % 4)) ∧ w' = w := fun w => by
    have := take_any g 0 2 w h0 h1 (by decide) (by decide) (by decide)
    simpa using this
  rw [hcnt] at t1
  have T1 := hide t1
  have T2 := hide t2
  have HC := hide hc
  clear t1 t2 h hc hcnt
  rw [hs] at HSec
  clear hs
  have e4 : (g % 4 != 0) = true := by rw [bne_iff_ne]; exact h4
  clear h4
  go_enter Facg.func111, Facg.ntmps111
  go_wp2_with (first
    | (go_at_call 110; refine (HS.out _).mono ?_; rintro e w2 ⟨rfl, hg⟩; have HG := hide hg; obtain ⟨⟨z0, z1, z2, z3, z4, z5⟩, zf⟩ := Cell6.second hg; obtain ⟨y0, y1⟩ := room_first hg; have hcell := ((((Kept.refl _ w).alloc _).alloc _).trans hg).cell HC.out trivial; clear hg)
    | (go_at_call 109; refine (HSec.out _).mono ?_; rintro e w3 ⟨rfl, rfl⟩)
    | (go_at_call 108; first | (with_reducible refine (T1.out _).mono ?_; rintro e w' ⟨rfl, rfl⟩) | (with_reducible refine (T2.out _).mono ?_; rintro e w' ⟨rfl, rfl⟩)))
  refine bodyPost_ret (v := resV none) (by simp [results, Facg.results111, go_sem, resV, z0, z1, z2, z3, z4, z5]) rfl ⟨rfl, ?_⟩
  exact ((((Kept.refl _ _).alloc _).alloc _).trans HG.out).set6 (by omega) _ _ _ _ _ _

set_option maxRecDepth 10000 in
theorem structs_many (b o n c t : Nat) (low m g cnt : Int) (w : World) (hn : n ≤ 256) (hl : 0 ≤ low ∧ low < 65536) (ht : t < n) (hm : 0 ≤ m ∧ m < 536870912) (h : spansI n low t (m + 1) = true)
    (hc : w.cell? ⟨b, o + t, none⟩ = some (.int .u64 g)) (h0 : 0 ≤ g) (h1 : g < 18446744073709551616) (hcnt : g / 4 % 1073741824 = cnt) (hcb : 0 ≤ cnt ∧ cnt < 1073741824) (d q : Int) (hs : secF g = some (d, q)) (h4 : g % 4 = 0) (hmany : 128 < cnt) :
    Calls Facg.prog 111 #[.agg #[.slice (some ⟨b, o, none⟩) n c, .int .u16 low], .int .i32 t, .int .i32 m] w fun e w' => e = .returned (resV none) ∧ Grows w w' := by
  have HS := hide (fun w => spans_any (some ⟨b, o, none⟩) n c low t (m + 1) w hn hl (by omega) (by omega))
  rw [h] at HS
  have HSec := hide (fun w => sections_any g w h0 h1)
  have t1 : ∀ w, Calls Facg.prog 108 #[.int .u64 g, .int .u8 2, .int .u8 30] w fun e w' => e = .returned (.int .u64 (g / 4 % 1073741824)) ∧ w' = w := fun w => take_any g 2 30 w h0 h1 (by decide) (by decide) (by decide)
  have t2 : ∀ w, Calls Facg.prog 108 #[.int .u64 g, .int .u8 0, .int .u8 2] w fun e w' => e = .returned (.int .u64 (g % 4)) ∧ w' = w := fun w => by
    have := take_any g 0 2 w h0 h1 (by decide) (by decide) (by decide)
    simpa using this
  rw [hcnt] at t1
  have T1 := hide t1
  have T2 := hide t2
  have HC := hide hc
  clear t1 t2 h hc hcnt
  rw [hs] at HSec
  rw [h4] at T2
  clear hs
  have e4 : decide (128 < cnt) = true := decide_eq_true hmany
  clear h4
  go_enter Facg.func111, Facg.ntmps111
  go_wp2_with (first
    | (go_at_call 110; refine (HS.out _).mono ?_; rintro e w2 ⟨rfl, hg⟩; have HG := hide hg; obtain ⟨⟨z0, z1, z2, z3, z4, z5⟩, zf⟩ := Cell6.second hg; obtain ⟨y0, y1⟩ := room_first hg; have hcell := ((((Kept.refl _ w).alloc _).alloc _).trans hg).cell HC.out trivial; clear hg)
    | (go_at_call 109; refine (HSec.out _).mono ?_; rintro e w3 ⟨rfl, rfl⟩)
    | (go_at_call 108; first | (with_reducible refine (T1.out _).mono ?_; rintro e w' ⟨rfl, rfl⟩) | (with_reducible refine (T2.out _).mono ?_; rintro e w' ⟨rfl, rfl⟩)))
  refine bodyPost_ret (v := resV none) (by simp [results, Facg.results111, go_sem, resV, z0, z1, z2, z3, z4, z5]) rfl ⟨rfl, ?_⟩
  exact ((((Kept.refl _ _).alloc _).alloc _).trans HG.out).set6 (by omega) _ _ _ _ _ _

set_option maxRecDepth 10000 in
theorem structs_flat (b o n c t : Nat) (low m g cnt : Int) (w : World) (hn : n ≤ 256) (hl : 0 ≤ low ∧ low < 65536) (ht : t < n) (hm : 0 ≤ m ∧ m < 536870912) (h : spansI n low t (m + 1) = true)
    (hc : w.cell? ⟨b, o + t, none⟩ = some (.int .u64 g)) (h0 : 0 ≤ g) (h1 : g < 18446744073709551616) (hcnt : g / 4 % 1073741824 = cnt) (hcb : 0 ≤ cnt ∧ cnt < 1073741824) (d q : Int) (hs : secF g = some (d, q)) (hdq : 0 ≤ d ∧ d ≤ 8 ∧ 0 ≤ q ∧ q ≤ 8) (h4 : g % 4 = 0) (hmany : cnt ≤ 128) (hf : d + q = 0) (hf0 : ¬ cnt = 0) :
    Calls Facg.prog 111 #[.agg #[.slice (some ⟨b, o, none⟩) n c, .int .u16 low], .int .i32 t, .int .i32 m] w fun e w' => e = .returned (resV none) ∧ Grows w w' := by
  have HS := hide (fun w => spans_any (some ⟨b, o, none⟩) n c low t (m + 1) w hn hl (by omega) (by omega))
  rw [h] at HS
  have HSec := hide (fun w => sections_any g w h0 h1)
  have t1 : ∀ w, Calls Facg.prog 108 #[.int .u64 g, .int .u8 2, .int .u8 30] w fun e w' => e = .returned (.int .u64 (g / 4 % 1073741824)) ∧ w' = w := fun w => take_any g 2 30 w h0 h1 (by decide) (by decide) (by decide)
  have t2 : ∀ w, Calls Facg.prog 108 #[.int .u64 g, .int .u8 0, .int .u8 2] w fun e w' => e = .returned (.int .u64 (g % 4)) ∧ w' = w := fun w => by
    have := take_any g 0 2 w h0 h1 (by decide) (by decide) (by decide)
    simpa using this
  rw [hcnt] at t1
  have T1 := hide t1
  have T2 := hide t2
  have HC := hide hc
  clear t1 t2 h hc hcnt
  rw [hs] at HSec
  rw [h4] at T2
  clear hs
  have e4 : decide (128 < cnt) = false := decide_eq_false (by omega)
  have m0 : 0 ≤ cnt * (d + q) := Int.mul_nonneg hcb.1 (by omega)
  have m1 : cnt * (d + q) ≤ 2048 := Int.le_trans (Int.mul_le_mul hmany (by omega : d + q ≤ 16) (by omega) (by decide)) (by decide)
  clear h4
  have e5 : (d + q == 0) = true := by rw [hf]; rfl
  have e6 : (cnt != 0) = true := by rw [bne_iff_ne]; exact hf0
  go_enter Facg.func111, Facg.ntmps111
  go_wp2_with (first
    | (go_at_call 110; refine (HS.out _).mono ?_; rintro e w2 ⟨rfl, hg⟩; have HG := hide hg; obtain ⟨⟨z0, z1, z2, z3, z4, z5⟩, zf⟩ := Cell6.second hg; obtain ⟨y0, y1⟩ := room_first hg; have hcell := ((((Kept.refl _ w).alloc _).alloc _).trans hg).cell HC.out trivial; clear hg)
    | (go_at_call 109; refine (HSec.out _).mono ?_; rintro e w3 ⟨rfl, rfl⟩)
    | (go_at_call 108; first | (with_reducible refine (T1.out _).mono ?_; rintro e w' ⟨rfl, rfl⟩) | (with_reducible refine (T2.out _).mono ?_; rintro e w' ⟨rfl, rfl⟩)))
  refine bodyPost_ret (v := resV none) (by simp [results, Facg.results111, go_sem, resV, z0, z1, z2, z3, z4, z5]) rfl ⟨rfl, ?_⟩
  exact ((((Kept.refl _ _).alloc _).alloc _).trans HG.out).set6 (by omega) _ _ _ _ _ _

set_option maxRecDepth 10000 in
theorem structs_off (b o n c t : Nat) (low m g cnt : Int) (w : World) (hn : n ≤ 256) (hl : 0 ≤ low ∧ low < 65536) (ht : t < n) (hm : 0 ≤ m ∧ m < 536870912) (h : spansI n low t (m + 1) = true)
    (hc : w.cell? ⟨b, o + t, none⟩ = some (.int .u64 g)) (h0 : 0 ≤ g) (h1 : g < 18446744073709551616) (hcnt : g / 4 % 1073741824 = cnt) (hcb : 0 ≤ cnt ∧ cnt < 1073741824) (d q : Int) (hs : secF g = some (d, q)) (hdq : 0 ≤ d ∧ d ≤ 8 ∧ 0 ≤ q ∧ q ≤ 8) (h4 : g % 4 = 0) (hmany : cnt ≤ 128) (b5 b6 : Bool) (e5 : (d + q == 0) = b5) (e6 : (cnt != 0) = b6) (hb : (b5 && b6) = false) (hf : ¬ cnt * (d + q) = m) :
    Calls Facg.prog 111 #[.agg #[.slice (some ⟨b, o, none⟩) n c, .int .u16 low], .int .i32 t, .int .i32 m] w fun e w' => e = .returned (resV none) ∧ Grows w w' := by
  have HS := hide (fun w => spans_any (some ⟨b, o, none⟩) n c low t (m + 1) w hn hl (by omega) (by omega))
  rw [h] at HS
  have HSec := hide (fun w => sections_any g w h0 h1)
  have t1 : ∀ w, Calls Facg.prog 108 #[.int .u64 g, .int .u8 2, .int .u8 30] w fun e w' => e = .returned (.int .u64 (g / 4 % 1073741824)) ∧ w' = w := fun w => take_any g 2 30 w h0 h1 (by decide) (by decide) (by decide)
  have t2 : ∀ w, Calls Facg.prog 108 #[.int .u64 g, .int .u8 0, .int .u8 2] w fun e w' => e = .returned (.int .u64 (g % 4)) ∧ w' = w := fun w => by
    have := take_any g 0 2 w h0 h1 (by decide) (by decide) (by decide)
    simpa using this
  rw [hcnt] at t1
  have T1 := hide t1
  have T2 := hide t2
  have HC := hide hc
  clear t1 t2 h hc hcnt
  rw [hs] at HSec
  rw [h4] at T2
  clear hs
  have e4 : decide (128 < cnt) = false := decide_eq_false (by omega)
  have m0 : 0 ≤ cnt * (d + q) := Int.mul_nonneg hcb.1 (by omega)
  have m1 : cnt * (d + q) ≤ 2048 := Int.le_trans (Int.mul_le_mul hmany (by omega : d + q ≤ 16) (by omega) (by decide)) (by decide)
  clear h4
  have e7 : (cnt * (d + q) != m) = true := by rw [bne_iff_ne]; exact hf
  clear hf
  cases b5 <;> cases b6 <;> first | (exact absurd hb (by decide)) | skip
  all_goals clear hb
  all_goals
    go_enter Facg.func111, Facg.ntmps111
    go_wp2_with (first
      | (go_at_call 110; refine (HS.out _).mono ?_; rintro e w2 ⟨rfl, hg⟩; have HG := hide hg; obtain ⟨⟨z0, z1, z2, z3, z4, z5⟩, zf⟩ := Cell6.second hg; obtain ⟨y0, y1⟩ := room_first hg; have hcell := ((((Kept.refl _ w).alloc _).alloc _).trans hg).cell HC.out trivial; clear hg)
      | (go_at_call 109; refine (HSec.out _).mono ?_; rintro e w3 ⟨rfl, rfl⟩)
      | (go_at_call 108; first | (with_reducible refine (T1.out _).mono ?_; rintro e w' ⟨rfl, rfl⟩) | (with_reducible refine (T2.out _).mono ?_; rintro e w' ⟨rfl, rfl⟩)))
    refine bodyPost_ret (v := resV none) (by simp [results, Facg.results111, go_sem, resV, z0, z1, z2, z3, z4, z5]) rfl ⟨rfl, ?_⟩
    exact ((((Kept.refl _ _).alloc _).alloc _).trans HG.out).set6 (by omega) _ _ _ _ _ _

set_option maxRecDepth 10000 in
theorem structs_ok (b o n c t : Nat) (low m g cnt : Int) (w : World) (hn : n ≤ 256) (hl : 0 ≤ low ∧ low < 65536) (ht : t < n) (hm : 0 ≤ m ∧ m < 536870912) (h : spansI n low t (m + 1) = true)
    (hc : w.cell? ⟨b, o + t, none⟩ = some (.int .u64 g)) (h0 : 0 ≤ g) (h1 : g < 18446744073709551616) (hcnt : g / 4 % 1073741824 = cnt) (hcb : 0 ≤ cnt ∧ cnt < 1073741824) (d q : Int) (hs : secF g = some (d, q)) (hdq : 0 ≤ d ∧ d ≤ 8 ∧ 0 ≤ q ∧ q ≤ 8) (h4 : g % 4 = 0) (hmany : cnt ≤ 128) (b5 b6 : Bool) (e5 : (d + q == 0) = b5) (e6 : (cnt != 0) = b6) (hb : (b5 && b6) = false) (hf : cnt * (d + q) = m) :
    Calls Facg.prog 111 #[.agg #[.slice (some ⟨b, o, none⟩) n c, .int .u16 low], .int .i32 t, .int .i32 m] w fun e w' => e = .returned (resV (some ⟨2, t + 1, d, q, 7, cnt⟩)) ∧ Grows w w' := by
  have HS := hide (fun w => spans_any (some ⟨b, o, none⟩) n c low t (m + 1) w hn hl (by omega) (by omega))
  rw [h] at HS
  have HSec := hide (fun w => sections_any g w h0 h1)
  have t1 : ∀ w, Calls Facg.prog 108 #[.int .u64 g, .int .u8 2, .int .u8 30] w fun e w' => e = .returned (.int .u64 (g / 4 % 1073741824)) ∧ w' = w := fun w => take_any g 2 30 w h0 h1 (by decide) (by decide) (by decide)
  have t2 : ∀ w, Calls Facg.prog 108 #[.int .u64 g, .int .u8 0, .int .u8 2] w fun e w' => e = .returned (.int .u64 (g % 4)) ∧ w' = w := fun w => by
    have := take_any g 0 2 w h0 h1 (by decide) (by decide) (by decide)
    simpa using this
  rw [hcnt] at t1
  have T1 := hide t1
  have T2 := hide t2
  have HC := hide hc
  clear t1 t2 h hc hcnt
  rw [hs] at HSec
  rw [h4] at T2
  clear hs
  have e4 : decide (128 < cnt) = false := decide_eq_false (by omega)
  have m0 : 0 ≤ cnt * (d + q) := Int.mul_nonneg hcb.1 (by omega)
  have m1 : cnt * (d + q) ≤ 2048 := Int.le_trans (Int.mul_le_mul hmany (by omega : d + q ≤ 16) (by omega) (by decide)) (by decide)
  clear h4
  have e7 : (cnt * (d + q) != m) = false := by rw [hf]; simp
  clear hf
  cases b5 <;> cases b6 <;> first | (exact absurd hb (by decide)) | skip
  all_goals clear hb
  all_goals
    go_enter Facg.func111, Facg.ntmps111
    go_wp2_with (first
      | (go_at_call 110; refine (HS.out _).mono ?_; rintro e w2 ⟨rfl, hg⟩; have HG := hide hg; obtain ⟨⟨z0, z1, z2, z3, z4, z5⟩, zf⟩ := Cell6.second hg; obtain ⟨y0, y1⟩ := room_first hg; have hcell := ((((Kept.refl _ w).alloc _).alloc _).trans hg).cell HC.out trivial; clear hg)
      | (go_at_call 109; refine (HSec.out _).mono ?_; rintro e w3 ⟨rfl, rfl⟩)
      | (go_at_call 108; first | (with_reducible refine (T1.out _).mono ?_; rintro e w' ⟨rfl, rfl⟩) | (with_reducible refine (T2.out _).mono ?_; rintro e w' ⟨rfl, rfl⟩)))
    refine bodyPost_ret (v := resV (some ⟨2, t + 1, d, q, 7, cnt⟩)) (by simp [results, Facg.results111, go_sem, resV, z0, z1, z2, z3, z4, z5]) rfl ⟨rfl, ?_⟩
    exact ((((Kept.refl _ _).alloc _).alloc _).trans HG.out).set6 (by omega) _ _ _ _ _ _
end Go.Proofs.Ygcfac
