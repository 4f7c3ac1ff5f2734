import Derived.Test.YgcfacWordsP
namespace Go.Proofs.Ygcfac
open Go.RowKit
set_option linter.unusedVariables false

theorem box_cell (w : World) (xs : Array Value) (t : TypeId) (j : Nat) (v : Value) (h : xs[j]? = some v) : (w.alloc (.cells xs t)).cell? ⟨w.heap.size, j, none⟩ = some v := by
  rw [World.cell?_alloc_at _ _ _ _ rfl]; simpa using h

def P.first (p : P) : Int := if p.kind = 2 ∧ p.code = 7 then p.at_ - 1 else p.at_
def insideI (n : Int) (p : P) : Bool := decide (n ≤ 256) && (p.kind == 1 || p.kind == 2) && (decide (p.first + wordsI p ≤ n) && (wordsI p == 0 || decide (1 ≤ p.first)))

set_option maxRecDepth 10000 in
theorem inside_big (a : Option Addr) (n c : Nat) (p : P) (w : World) (h : p.Ok) (hn : 256 < n) (hc : n ≤ 9223372036854775807) :
    Calls Facg.prog 30 #[.slice a n c, p.val] w fun e w' => e = .returned (.bool false) ∧ Grows w w' := by
  have HW := hide (fun w => pwords_any p h w)
  have hb := pwords_bd p h
  generalize wordsI p = W at *
  have hd : decide ((256 : Int) < (n : Int)) = true := decide_eq_true (by omega)
  obtain ⟨k, at_, d, q, cd, m⟩ := p
  unfold P.val at *
  go_enter Facg.func30, Facg.ntmps30
  go_wp2_with (first
    | (go_at_call 74; refine (HW.out _).mono ?_; rintro e w2 ⟨rfl, hg⟩; have HG := hide hg; clear hg))
  go_ret
  exact ⟨rfl, ((Kept.refl _ _).alloc _).trans HG.out⟩

set_option maxRecDepth 10000 in
theorem inside_kind (a : Option Addr) (n c : Nat) (p : P) (w : World) (h : p.Ok) (hn : n ≤ 256) (h1 : ¬ p.kind = 1) (h2 : ¬ p.kind = 2) :
    Calls Facg.prog 30 #[.slice a n c, p.val] w fun e w' => e = .returned (.bool false) ∧ Grows w w' := by
  have HW := hide (fun w => pwords_any p h w)
  have hb := pwords_bd p h
  generalize wordsI p = W at *
  have hd : decide ((256 : Int) < (n : Int)) = false := decide_eq_false (by omega)
  obtain ⟨k, at_, d, q, cd, m⟩ := p
  have e1 : (k != 1) = true := by rw [bne_iff_ne]; exact h1
  have e2 : (k != 2) = true := by rw [bne_iff_ne]; exact h2
  unfold P.val at *
  go_enter Facg.func30, Facg.ntmps30
  go_wp2_with (first
    | (go_at_call 74; refine (HW.out _).mono ?_; rintro e w2 ⟨rfl, hg⟩; have HG := hide hg; have c0 := hg.cell (box_cell w _ 31 0 _ rfl) trivial; clear hg))
  go_ret
  exact ⟨rfl, ((Kept.refl _ _).alloc _).trans HG.out⟩

set_option maxRecDepth 10000 in
theorem inside_1 (a : Option Addr) (n c : Nat) (at_ d q cd m : Int) (w : World) (h : (P.mk 1 at_ d q cd m).Ok) (hn : n ≤ 256) (W : Int) (hW : wordsI (P.mk 1 at_ d q cd m) = W) (b1 b2 b3 : Bool)
    (h1 : decide (at_ + W ≤ (n : Int)) = b1) (h2 : (W == 0) = b2) (h3 : decide (1 ≤ at_) = b3) :
    Calls Facg.prog 30 #[.slice a n c, (P.mk 1 at_ d q cd m).val] w fun e w' => e = .returned (.bool (b1 && (b2 || b3))) ∧ Grows w w' := by
  have HW := hide (fun w => pwords_any _ h w)
  have hb := pwords_bd _ h
  have hat := h.at_
  simp only at hat
  rw [hW] at HW hb
  clear hW
  have hd : decide ((256 : Int) < (n : Int)) = false := decide_eq_false (by omega)
  unfold P.val at *
  cases b1 <;> cases b2 <;> cases b3
  all_goals
    go_enter Facg.func30, Facg.ntmps30
    go_wp2_with (first
      | (go_at_call 74; refine (HW.out _).mono ?_; rintro e w2 ⟨rfl, hg⟩; have HG := hide hg; have c0 := hg.cell (box_cell w _ 31 0 _ rfl) trivial; have c1 := hg.cell (box_cell w _ 31 1 _ rfl) trivial; have c4 := hg.cell (box_cell w _ 31 4 _ rfl) trivial; clear hg))
    go_ret
    exact ⟨rfl, ((Kept.refl _ _).alloc _).trans HG.out⟩

set_option maxRecDepth 10000 in
theorem inside_2 (a : Option Addr) (n c : Nat) (at_ d q cd m : Int) (w : World) (h : (P.mk 2 at_ d q cd m).Ok) (hn : n ≤ 256) (h7 : ¬ cd = 7) (W : Int) (hW : wordsI (P.mk 2 at_ d q cd m) = W) (b1 b2 b3 : Bool)
    (h1 : decide (at_ + W ≤ (n : Int)) = b1) (h2 : (W == 0) = b2) (h3 : decide (1 ≤ at_) = b3) :
    Calls Facg.prog 30 #[.slice a n c, (P.mk 2 at_ d q cd m).val] w fun e w' => e = .returned (.bool (b1 && (b2 || b3))) ∧ Grows w w' := by
  have HW := hide (fun w => pwords_any _ h w)
  have hb := pwords_bd _ h
  have hat := h.at_
  simp only at hat
  rw [hW] at HW hb
  clear hW
  have hd : decide ((256 : Int) < (n : Int)) = false := decide_eq_false (by omega)
  have e7 : (cd == 7) = false := by rw [beq_eq_false_iff_ne]; exact h7
  unfold P.val at *
  cases b1 <;> cases b2 <;> cases b3
  all_goals
    go_enter Facg.func30, Facg.ntmps30
    go_wp2_with (first
      | (go_at_call 74; refine (HW.out _).mono ?_; rintro e w2 ⟨rfl, hg⟩; have HG := hide hg; have c0 := hg.cell (box_cell w _ 31 0 _ rfl) trivial; have c1 := hg.cell (box_cell w _ 31 1 _ rfl) trivial; have c4 := hg.cell (box_cell w _ 31 4 _ rfl) trivial; clear hg))
    go_ret
    exact ⟨rfl, ((Kept.refl _ _).alloc _).trans HG.out⟩

set_option maxRecDepth 10000 in
theorem inside_7 (a : Option Addr) (n c : Nat) (at_ d q m : Int) (w : World) (h : (P.mk 2 at_ d q 7 m).Ok) (hn : n ≤ 256) (W : Int) (hW : wordsI (P.mk 2 at_ d q 7 m) = W) (b1 b2 b3 : Bool)
    (h1 : decide (at_ - 1 + W ≤ (n : Int)) = b1) (h2 : (W == 0) = b2) (h3 : decide (1 ≤ at_ - 1) = b3) :
    Calls Facg.prog 30 #[.slice a n c, (P.mk 2 at_ d q 7 m).val] w fun e w' => e = .returned (.bool (b1 && (b2 || b3))) ∧ Grows w w' := by
  have HW := hide (fun w => pwords_any _ h w)
  have hb := pwords_bd _ h
  have hat := h.at_
  simp only at hat
  rw [hW] at HW hb
  clear hW
  have hd : decide ((256 : Int) < (n : Int)) = false := decide_eq_false (by omega)
  unfold P.val at *
  cases b1 <;> cases b2 <;> cases b3
  all_goals
    go_enter Facg.func30, Facg.ntmps30
    go_wp2_with (first
      | (go_at_call 74; refine (HW.out _).mono ?_; rintro e w2 ⟨rfl, hg⟩; have HG := hide hg; have c0 := hg.cell (box_cell w _ 31 0 _ rfl) trivial; have c1 := hg.cell (box_cell w _ 31 1 _ rfl) trivial; have c4 := hg.cell (box_cell w _ 31 4 _ rfl) trivial; clear hg))
    go_ret
    exact ⟨rfl, ((Kept.refl _ _).alloc _).trans HG.out⟩

/-- wire.Inside, of any arena and any Ptr. -/
theorem inside_any (a : Option Addr) (n c : Nat) (p : P) (w : World) (h : p.Ok) (hc : n ≤ 9223372036854775807) :
    Calls Facg.prog 30 #[.slice a n c, p.val] w fun e w' => e = .returned (.bool (insideI (n : Int) p)) ∧ Grows w w' := by
  by_cases hn : 256 < n
  · have e : insideI (n : Int) p = false := by
      unfold insideI
      rw [decide_eq_false (by omega)]; rfl
    rw [e]; exact inside_big a n c p w h hn hc
  have e0 : decide ((n : Int) ≤ 256) = true := decide_eq_true (by omega)
  by_cases h1 : p.kind = 1
  · obtain ⟨k, at_, d, q, cd, m⟩ := p
    simp only at h1
    subst h1
    have e : insideI (n : Int) ⟨1, at_, d, q, cd, m⟩ = (decide (at_ + wordsI ⟨1, at_, d, q, cd, m⟩ ≤ (n : Int)) && ((wordsI ⟨1, at_, d, q, cd, m⟩ == 0) || decide (1 ≤ at_))) := by
      unfold insideI P.first
      rw [e0]
      simp
    rw [e]; exact inside_1 a n c at_ d q cd m w h (by omega) _ rfl _ _ _ rfl rfl rfl
  by_cases h2 : p.kind = 2
  · obtain ⟨k, at_, d, q, cd, m⟩ := p
    simp only at h2
    subst h2
    by_cases h7 : cd = 7
    · subst h7
      have e : insideI (n : Int) ⟨2, at_, d, q, 7, m⟩ = (decide (at_ - 1 + wordsI ⟨2, at_, d, q, 7, m⟩ ≤ (n : Int)) && ((wordsI ⟨2, at_, d, q, 7, m⟩ == 0) || decide (1 ≤ at_ - 1))) := by
        unfold insideI P.first
        rw [e0]
        simp
      rw [e]; exact inside_7 a n c at_ d q m w h (by omega) _ rfl _ _ _ rfl rfl rfl
    · have e : insideI (n : Int) ⟨2, at_, d, q, cd, m⟩ = (decide (at_ + wordsI ⟨2, at_, d, q, cd, m⟩ ≤ (n : Int)) && ((wordsI ⟨2, at_, d, q, cd, m⟩ == 0) || decide (1 ≤ at_))) := by
        unfold insideI P.first
        rw [e0]
        simp [h7]
      rw [e]; exact inside_2 a n c at_ d q cd m w h (by omega) h7 _ rfl _ _ _ rfl rfl rfl
  have e : insideI (n : Int) p = false := by
    unfold insideI
    rw [show (p.kind == 1) = false by rw [beq_eq_false_iff_ne]; exact h1, show (p.kind == 2) = false by rw [beq_eq_false_iff_ne]; exact h2]
    simp
  rw [e]; exact inside_kind a n c p w h (by omega) h1 h2
end Go.Proofs.Ygcfac
