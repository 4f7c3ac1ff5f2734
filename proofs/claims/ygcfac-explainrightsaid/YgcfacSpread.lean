import Derived.Test.YgcfacSlots
namespace Go.Proofs.Ygcfac
open Go.RowKit
set_option linter.unusedVariables false

/-- A law.reached at the head of block g. -/
def RAt (w : World) (g : Nat) (X : Nat → Nat → Prop) : Prop :=
  (∀ i d, i < 256 → d < 9 → ∃ b, w.cell? ⟨g, i * 9 + d, none⟩ = some (.bool b) ∧ (b = true ↔ X i d)) ∧ ∀ j, w.frozen? ⟨g, j, none⟩ = false
theorem RAt.lt {w : World} {g : Nat} {X : Nat → Nat → Prop} (h : RAt w g X) : g < w.heap.size := by
  obtain ⟨b, hb, _⟩ := h.1 0 0 (by decide) (by decide)
  exact World.block_lt_of_cell? w ⟨g, 0 * 9 + 0, none⟩ hb
theorem RAt.kept {q : Nat → Prop} {w w' : World} {g : Nat} {X : Nat → Nat → Prop} (h : RAt w g X) (hk : Kept q w w') (hq : q g) : RAt w' g X :=
  ⟨fun i d hi hd => by obtain ⟨b, h1, h2⟩ := h.1 i d hi hd; exact ⟨b, hk.cell h1 hq, h2⟩, fun j => by
    rw [hk.frozen (q := ⟨g, j, none⟩) h.lt hq]; exact h.2 j⟩
theorem RAt.iff {w : World} {g : Nat} {X Y : Nat → Nat → Prop} (h : RAt w g X) (hxy : ∀ i d, X i d ↔ Y i d) : RAt w g Y :=
  ⟨fun i d hi hd => by obtain ⟨b, h1, h2⟩ := h.1 i d hi hd; exact ⟨b, h1, h2.trans (hxy i d)⟩, h.2⟩
theorem RAt.put {w : World} {g : Nat} {X : Nat → Nat → Prop} (h : RAt w g X) (p e : Nat) (hp : p < 256) (he : e < 9) : RAt (w.setCell ⟨g, p * 9 + e, none⟩ (.bool true)) g (fun i d => X i d ∨ (i = p ∧ d = e)) := by
  refine ⟨fun i d hi hd => ?_, fun j => by rw [World.frozen?_setCell]; exact h.2 j⟩
  by_cases hc : i = p ∧ d = e
  · obtain ⟨rfl, rfl⟩ := hc
    obtain ⟨b, h1, h2⟩ := h.1 i d hi hd
    exact ⟨true, World.cell?_setCell_same _ _ _ h1, ⟨fun _ => .inr ⟨rfl, rfl⟩, fun _ => rfl⟩⟩
  · obtain ⟨b, h1, h2⟩ := h.1 i d hi hd
    refine ⟨b, cell_other h1 (fun e' => hc ?_), h2.trans ⟨.inl, fun h' => h'.resolve_right hc⟩⟩
    omega

theorem zero100 : Facg.zeroCells100 = Array.replicate 2304 (Value.bool false) := by kernel_rfl
theorem RAt.one (w : World) : RAt (w.alloc (.cells (Facg.zeroCells100.setIfInBounds 0 (.bool true)) 100)) w.heap.size (fun i d => i = 0 ∧ d = 0) := by
  refine ⟨fun i d hi hd => ?_, fun j => World.frozen?_alloc_at _ _ _ _ rfl⟩
  rw [World.cell?_alloc_at _ _ _ _ rfl, zero100, Array.getElem?_setIfInBounds]
  by_cases h : i = 0 ∧ d = 0
  · obtain ⟨rfl, rfl⟩ := h
    exact ⟨true, by simp, by simp⟩
  · refine ⟨false, ?_, by simpa using h⟩
    rw [if_neg (by omega), Array.getElem?_replicate, if_pos (by omega)]

/-- The words that the objects of the pointer words below m, reached at depth d, hold. -/
def Kid (f : Nat → Int) (n d m p : Nat) : Prop := ∃ i q, i < m ∧ Rch f n d i ∧ resolveI f n i = some q ∧ p ∈ slotsL q

def Lev (f : Nat → Int) (n D m : Nat) (p d : Nat) : Prop := (d ≤ D ∧ Rch f n d p) ∨ (d = D + 1 ∧ Kid f n D m p)
def Lev3 (f : Nat → Int) (n D m : Nat) (q : P) (k : Nat) (p d : Nat) : Prop := Lev f n D m p d ∨ (d = D + 1 ∧ ∃ j, j < k ∧ (slotsL q).getD j 0 = p)

theorem lev_start (f : Nat → Int) (n p d : Nat) : (p = 0 ∧ d = 0) ↔ (d ≤ 0 ∧ Rch f n d p) := by
  constructor
  · rintro ⟨rfl, rfl⟩; exact ⟨Nat.le_refl _, rfl⟩
  · rintro ⟨h1, h2⟩
    obtain rfl : d = 0 := by omega
    exact ⟨h2, rfl⟩
theorem lev_zero (f : Nat → Int) (n D p d : Nat) : (d ≤ D ∧ Rch f n d p) ↔ Lev f n D 0 p d := by
  unfold Lev Kid
  constructor
  · exact .inl
  · rintro (h | ⟨_, i, q, h, _⟩)
    · exact h
    · omega
theorem lev_full (f : Nat → Int) (n D p d : Nat) : Lev f n D n p d ↔ (d ≤ D + 1 ∧ Rch f n d p) := by
  unfold Lev
  constructor
  · rintro (h | ⟨rfl, h⟩)
    · exact ⟨by omega, h.2⟩
    · exact ⟨Nat.le_refl _, h⟩
  · rintro ⟨h1, h2⟩
    by_cases h : d ≤ D
    · exact .inl ⟨h, h2⟩
    · obtain rfl : d = D + 1 := by omega
      exact .inr ⟨rfl, h2⟩
theorem lev_skip {f : Nat → Int} {n D m : Nat} (h : ∀ q, Rch f n D m → resolveI f n m = some q → False) (p d : Nat) : Lev f n D m p d ↔ Lev f n D (m + 1) p d := by
  unfold Lev Kid
  constructor
  · rintro (h | ⟨h0, i, q, h1, h2⟩)
    · exact .inl h
    · exact .inr ⟨h0, i, q, by omega, h2⟩
  · rintro (h' | ⟨h0, i, q, h1, h2, h3, h4⟩)
    · exact .inl h'
    · by_cases hi : i = m
      · subst hi; exact (h q h2 h3).elim
      · exact .inr ⟨h0, i, q, by omega, h2, h3, h4⟩
theorem lev_at (f : Nat → Int) (n D m p : Nat) : Lev f n D m p D ↔ Rch f n D p := by
  unfold Lev
  constructor
  · rintro (h | ⟨h, _⟩)
    · exact h.2
    · omega
  · exact fun h => .inl ⟨Nat.le_refl _, h⟩
theorem Fine.ok {n : Nat} {q : P} (h : Fine n q) : q.Ok := by
  rcases h with rfl | h
  · exact ⟨by decide, by decide, by decide, by decide, by decide, by decide⟩
  · exact h.1
theorem Fine.slots {n : Nat} {q : P} (h : Fine n q) : ∀ x ∈ slotsL q, x < n := by
  rcases h with rfl | ⟨hok, hk, hin⟩
  · intro x hx; rw [slots_zero] at hx; simp at hx
  · intro x hx
    have h1 := (slots_in hok hin).2 x hx
    obtain ⟨x1, x2, x3, x4⟩ := inside_extent hok hin
    have := (pwords_bd q hok).1
    omega
theorem slot_lt {n : Nat} {q : P} (h : Fine n q) {k : Nat} (hk : k < (slotsL q).length) : (slotsL q).getD k 0 < n := by
  refine h.slots _ ?_
  rw [List.getD_eq_getElem?_getD, List.getElem?_eq_getElem hk]
  exact List.getElem_mem _
theorem lev3_zero (f : Nat → Int) (n D m : Nat) (q : P) (p d : Nat) : Lev f n D m p d ↔ Lev3 f n D m q 0 p d := by
  unfold Lev3
  constructor
  · exact .inl
  · rintro (h | ⟨_, j, h, _⟩)
    · exact h
    · omega
theorem lev3_succ (f : Nat → Int) (n D m : Nat) (q : P) (k : Nat) (p d : Nat) : (Lev3 f n D m q k p d ∨ (p = (slotsL q).getD k 0 ∧ d = D + 1)) ↔ Lev3 f n D m q (k + 1) p d := by
  unfold Lev3
  constructor
  · rintro ((h | ⟨h0, j, h1, h2⟩) | ⟨h1, h2⟩)
    · exact .inl h
    · exact .inr ⟨h0, j, by omega, h2⟩
    · exact .inr ⟨h2, k, by omega, h1.symm⟩
  · rintro (h | ⟨h0, j, h1, h2⟩)
    · exact .inl (.inl h)
    · by_cases hj : j = k
      · subst hj; exact .inr ⟨h2.symm, h0⟩
      · exact .inl (.inr ⟨h0, j, by omega, h2⟩)
theorem lev3_full {f : Nat → Int} {n D m : Nat} {q : P} (hr : Rch f n D m) (hq : resolveI f n m = some q) (p d : Nat) : Lev3 f n D m q (slotsL q).length p d ↔ Lev f n D (m + 1) p d := by
  have hmem : (∃ j, j < (slotsL q).length ∧ (slotsL q).getD j 0 = p) ↔ p ∈ slotsL q := by
    rw [List.mem_iff_getElem]
    constructor
    · rintro ⟨j, h1, h2⟩
      rw [List.getD_eq_getElem?_getD, List.getElem?_eq_getElem h1] at h2
      exact ⟨j, h1, h2⟩
    · rintro ⟨j, h1, h2⟩
      refine ⟨j, h1, ?_⟩
      rw [List.getD_eq_getElem?_getD, List.getElem?_eq_getElem h1]
      exact h2
  unfold Lev3 Lev Kid
  rw [hmem]
  constructor
  · rintro ((h | ⟨h0, i, q', h1, h2⟩) | ⟨h0, h1⟩)
    · exact .inl h
    · exact .inr ⟨h0, i, q', by omega, h2⟩
    · exact .inr ⟨h0, m, q, by omega, hr, hq, h1⟩
  · rintro (h' | ⟨h0, i, q', h1, h2, h3, h4⟩)
    · exact .inl (.inl h')
    · by_cases hi : i = m
      · subst hi
        rw [hq] at h3
        cases h3
        exact .inr ⟨h0, h4⟩
      · exact .inl (.inr ⟨h0, i, q', by omega, h2, h3, h4⟩)

set_option maxRecDepth 10000 in
theorem spread_any (a : Option Addr) (n c : Nat) (f : Nat → Int) (w : World) (hn : n ≤ 256) (hA : ArenaAt w a n f) :
    Calls Facg.prog 17 #[.slice a n c] w fun e w' => ∃ g, e = .returned (.pointer (some ⟨g, 0, none⟩)) ∧ Grows w w' ∧ w.heap.size ≤ g ∧ RAt w' g (fun p d => d ≤ 8 ∧ Rch f n d p) := by
  have HA := hide (fun w' hg => hA.grows (w' := w') hg)
  have HF := hide hA.1
  clear hA
  go_enter Facg.func17, Facg.ntmps17
  go_wp2
  have HR1 : Hid (RAt (w.alloc (.cells (Facg.zeroCells100.setIfInBounds 0 (.bool true)) 100)) w.heap.size (fun p d => d ≤ 0 ∧ Rch f n d p)) := (RAt.one w).iff (fun p d => lev_start f n p d)
  have HG1 : Hid (Grows w (w.alloc (.cells (Facg.zeroCells100.setIfInBounds 0 (.bool true)) 100))) := (Kept.refl _ _).alloc _
  generalize w.alloc (.cells (Facg.zeroCells100.setIfInBounds 0 (.bool true)) 100) = W1 at *
  go_loopw [12] (fun t wr => ∃ D : Nat, t = .int .i64 D ∧ D ≤ 8 ∧ Grows w wr ∧ RAt wr w.heap.size (fun p d => d ≤ D ∧ Rch f n d p)) (fun t _ => 8 - (intOf t).toNat)
  case atStart => exact ⟨0, rfl, by omega, HG1.out, HR1.out⟩
  case round =>
    clear HR1 HG1
    obtain ⟨D, rfl, hD, hg, hr⟩ := hrel
    have HG := hide hg
    have HR := hide hr
    clear hg hr
    by_cases hlt : D < 8
    · have hd : decide ((D : Int) < 8) = true := decide_eq_true (by omega)
      go_wp2
      go_loopw [17] (fun t wr => ∃ m : Nat, t = .int .i64 m ∧ m ≤ n ∧ Grows w wr ∧ RAt wr w.heap.size (Lev f n D m)) (fun t _ => n - (intOf t).toNat)
      case atStart => exact ⟨0, rfl, by omega, HG.out, HR.out.iff (fun p d => lev_zero f n D p d)⟩
      case round =>
        clear HG HR
        obtain ⟨m, rfl, hm, hg, hr⟩ := hrel
        have HG := hide hg
        have HR := hide hr
        by_cases hmn : m < n
        · have hdm : decide (m < n) = true := decide_eq_true hmn
          obtain ⟨b, hb, hbx⟩ := hr.1 m D (by omega) (by omega)
          have HRes := hide (fun w' hg => resolve_any a n c m f w' (by omega) (by omega) (HA.out w' hg))
          have HBX := hide (hbx.trans (lev_at f n D m m))
          have HB := hide hb
          have hgl := hr.lt
          clear hg hr hbx hb
          cases hq : resolveI f n m with
          | none =>
            rw [hq] at HRes
            unfold resV at HRes
            simp only at HRes
            have HQ := hide hq
            clear hq
            cases b
            · go_wp2_with (first
                | (go_at_call 18; (with_reducible refine (HRes.out _ HG.out).mono ?_); rintro e w2 ⟨rfl, hg⟩; have HG2 := hide (HG.out.trans hg); have HR2 := hide (HR.out.kept hg trivial); have hb2 := hg.cell HB.out trivial; have hs2 : w.heap.size < w2.heap.size := World.block_lt_of_cell? w2 ⟨w.heap.size, m * 9 + D, none⟩ hb2; clear hg))
              go_roundw
              case rel => exact ⟨m + 1, rfl, by omega, HG2.out.alloc _, (HR2.out.kept ((Kept.refl (fun _ => True) _).alloc _) trivial).iff (fun p d => lev_skip (fun q h1 h2 => (by rw [HQ.out] at h2; cases h2)) p d)⟩
              case measure => simp [intOf]; omega
            · go_wp2_with (first
                | (go_at_call 18; (with_reducible refine (HRes.out _ HG.out).mono ?_); rintro e w2 ⟨rfl, hg⟩; have HG2 := hide (HG.out.trans hg); have HR2 := hide (HR.out.kept hg trivial); have hb2 := hg.cell HB.out trivial; have hs2 : w.heap.size < w2.heap.size := World.block_lt_of_cell? w2 ⟨w.heap.size, m * 9 + D, none⟩ hb2; clear hg))
              go_roundw
              case rel => exact ⟨m + 1, rfl, by omega, HG2.out.alloc _, (HR2.out.kept ((Kept.refl (fun _ => True) _).alloc _) trivial).iff (fun p d => lev_skip (fun q h1 h2 => (by rw [HQ.out] at h2; cases h2)) p d)⟩
              case measure => simp [intOf]; omega
          | some q =>
            have hfine := resolve_fine HF.out hq
            rw [hq] at HRes
            unfold resV at HRes
            simp only at HRes
            have HQ := hide hq
            have HFi := hide hfine
            clear hq hfine
            cases b
            · go_wp2_with (first
                | (go_at_call 18; (with_reducible refine (HRes.out _ HG.out).mono ?_); rintro e w2 ⟨rfl, hg⟩; have HG2 := hide (HG.out.trans hg); have HR2 := hide (HR.out.kept hg trivial); have hb2 := hg.cell HB.out trivial; have hs2 : w.heap.size < w2.heap.size := World.block_lt_of_cell? w2 ⟨w.heap.size, m * 9 + D, none⟩ hb2; clear hg))
              go_roundw
              case rel => exact ⟨m + 1, rfl, by omega, HG2.out.alloc _, (HR2.out.kept ((Kept.refl (fun _ => True) _).alloc _) trivial).iff (fun p d => lev_skip (fun q h1 h2 => (by have := HBX.out.2 h1; cases this)) p d)⟩
              case measure => simp [intOf]; omega
            · have HSl := hide (fun w => slotsOf_any q HFi.out.ok w)
              obtain ⟨sq1, sq2, sq3, sq4, sq5, sq6⟩ := slotsQ_ok HFi.out
              have HSQ := hide (And.intro sq1 sq2)
              have HAt := hide (fun (k : Nat) (w : World) (hk : k < (slotsQ q).count) => at_any (slotsQ q) k w (sq2 k hk).1 (by omega) ⟨sq4, sq5, sq6⟩)
              clear sq1 sq2 sq4 sq5 sq6
              generalize hsq : slotsQ q = s at *
              clear hsq
              obtain ⟨fi, co, ru, st⟩ := s
              unfold SlotsPost Sl.val at HSl
              unfold Sl.val at HAt
              unfold P.val at HSl
              simp only at HSl HAt HSQ sq3
              go_wp2_with (first
                | (go_at_call 18; (with_reducible refine (HRes.out _ HG.out).mono ?_); rintro e w2 ⟨rfl, hg⟩; have HG2 := hide (HG.out.trans hg); have HR2 := hide (HR.out.kept hg trivial); have hb2 := hg.cell HB.out trivial; have hs2 : w.heap.size < w2.heap.size := World.block_lt_of_cell? w2 ⟨w.heap.size, m * 9 + D, none⟩ hb2; clear hg)
                | (go_at_call 54; (with_reducible refine (HSl.out _).mono ?_); rintro e w3 ⟨rfl, hg⟩; have HG3 := hide ((HG2.out.alloc _).trans hg); have HR3 := hide (HR2.out.kept (((Kept.refl (fun _ => True) _).alloc _).trans hg) trivial); have hs3 := HR3.out.lt; clear hg hb2))
              have HKc : Hid (Grows w (w3.alloc (.cells #[.int .i64 fi, .int .i64 co, .int .i64 ru, .int .i64 st] 102))) := HG3.out.alloc _
              have HRc : Hid (RAt (w3.alloc (.cells #[.int .i64 fi, .int .i64 co, .int .i64 ru, .int .i64 st] 102)) w.heap.size (Lev f n D m)) := HR3.out.kept ((Kept.refl (fun _ => True) _).alloc _) trivial
              have b0 : (w3.alloc (.cells #[.int .i64 fi, .int .i64 co, .int .i64 ru, .int .i64 st] 102)).cell? ⟨w3.heap.size, 0, none⟩ = some (.int .i64 fi) := box_cell w3 _ 102 0 _ rfl
              have b1 : (w3.alloc (.cells #[.int .i64 fi, .int .i64 co, .int .i64 ru, .int .i64 st] 102)).cell? ⟨w3.heap.size, 1, none⟩ = some (.int .i64 co) := box_cell w3 _ 102 1 _ rfl
              have b2 : (w3.alloc (.cells #[.int .i64 fi, .int .i64 co, .int .i64 ru, .int .i64 st] 102)).cell? ⟨w3.heap.size, 2, none⟩ = some (.int .i64 ru) := box_cell w3 _ 102 2 _ rfl
              have b3 : (w3.alloc (.cells #[.int .i64 fi, .int .i64 co, .int .i64 ru, .int .i64 st] 102)).cell? ⟨w3.heap.size, 3, none⟩ = some (.int .i64 st) := box_cell w3 _ 102 3 _ rfl
              have B0 := hide b0
              have B1 := hide b1
              have B2 := hide b2
              have B3 := hide b3
              clear b0 b1 b2 b3 HG3 HR3 HG2 HR2 HRes HSl HB HG HR
              generalize hWc : w3.alloc (.cells #[.int .i64 fi, .int .i64 co, .int .i64 ru, .int .i64 st] 102) = Wc at *
              clear hWc
              go_loopw [41] (fun t wq => ∃ k : Nat, t = .int .i64 k ∧ k ≤ co ∧ Kept (fun b => b ≠ w.heap.size) Wc wq ∧ RAt wq w.heap.size (Lev3 f n D m q k)) (fun t _ => co - (intOf t).toNat)
              case atStart => exact ⟨0, rfl, by omega, Kept.refl _ _, HRc.out.iff (fun p d => lev3_zero f n D m q p d)⟩
              case round =>
                obtain ⟨k, rfl, hk, hkk, hr⟩ := hrel
                clear HRc
                by_cases hkc : k < co
                · have hdk : decide (k < co) = true := decide_eq_true hkc
                  have c0 := hkk.cell B0.out (show w3.heap.size ≠ w.heap.size by omega)
                  have c1 := hkk.cell B1.out (show w3.heap.size ≠ w.heap.size by omega)
                  have c2 := hkk.cell B2.out (show w3.heap.size ≠ w.heap.size by omega)
                  have c3 := hkk.cell B3.out (show w3.heap.size ≠ w.heap.size by omega)
                  have HKK := hide hkk
                  have HRR := hide hr
                  have HAk := hide (fun w => HAt.out k w hkc)
                  have hpe := (HSQ.out.2 k hkc).2
                  have hpl := slot_lt HFi.out (k := k) (by rw [← HSQ.out.1]; exact hkc)
                  rw [← hpe] at hpl
                  generalize hp : Sl.at ⟨fi, co, ru, st⟩ k = p at *
                  have HPE := hide hpe
                  clear hkk hr hp hpe
                  go_wp2_with (first
                    | (go_at_call 55; (with_reducible refine (HAk.out _).mono ?_); rintro e w4 ⟨rfl, hg⟩; have HK4 := hide (HKK.out.trans (hg.mono (q := fun b => b ≠ w.heap.size) (fun _ _ _ => trivial))); have HR4 := hide (HRR.out.kept hg trivial); obtain ⟨bb, hbb, _⟩ := HR4.out.1 p (D + 1) (by omega) (by omega); have hbf := HR4.out.2 (p * 9 + (D + 1)); clear hg))
                  go_roundw
                  case rel => exact ⟨k + 1, rfl, by omega, HK4.out.setCell (.inr (fun h => h rfl)) _, (HR4.out.put p (D + 1) (by omega) (by omega)).iff (fun x d => by rw [HPE.out]; exact lev3_succ f n D m q k x d)⟩
                  case measure => simp [intOf]; omega
                · have hdk : decide (k < co) = false := decide_eq_false hkc
                  obtain rfl : k = co := by omega
                  have HKK := hide hkk
                  have HRR := hide hr
                  clear hkk hr
                  go_wp2
                  go_roundw
                  case rel => exact ⟨m + 1, rfl, by omega, HKc.out.then HKK.out (fun i hi _ => by omega), HRR.out.iff (fun p d => by rw [HSQ.out.1]; exact lev3_full (HBX.out.1 (by first | exact rfl | trivial)) HQ.out p d)⟩
                  case measure => simp [intOf]; omega
        · have hdm : decide (m < n) = false := decide_eq_false hmn
          obtain rfl : m = n := by omega
          go_wp2
          go_roundw
          case rel => exact ⟨D + 1, rfl, by omega, HG.out, HR.out.iff (fun p d => lev_full f m D p d)⟩
          case measure => simp [intOf]; omega
    · have hd : decide ((D : Int) < 8) = false := decide_eq_false (by omega)
      obtain rfl : D = 8 := by omega
      go_wp2
      go_ret
      exact ⟨w.heap.size, rfl, HG.out, Nat.le_refl _, HR.out⟩
end Go.Proofs.Ygcfac
