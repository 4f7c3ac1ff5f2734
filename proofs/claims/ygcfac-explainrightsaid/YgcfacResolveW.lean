import Derived.Test.YgcfacPlain
namespace Go.Proofs.Ygcfac
open Go.RowKit
set_option linter.unusedVariables false

def toI (x base : Int) : Int := base + signI (x / 4)
def listI (f : Nat → Int) (n low t code m : Int) : Option P := if code = 7 then structsI f n low t m else plainI n low t code m
/-- wire.ResolveWord. -/
def resolveW (f : Nat → Int) (n x base low : Int) : Option P :=
  if 256 < n then none
  else if x = 0 then some ⟨0, 0, 0, 0, 0, 0⟩
  else if x % 4 = 0 then
    match secF x with
    | none => none
    | some (d, q) => bif spansI n low (toI x base) (d + q) then some ⟨1, toI x base, d, q, 0, 0⟩ else none
  else if x % 4 = 1 then listI f n low (toI x base) (x / 4294967296 % 8) (x / 34359738368 % 536870912)
  else none

theorem signI_bd (x : Int) : -536870912 ≤ signI x ∧ signI x < 536870912 := by
  unfold signI
  split <;> omega


set_option maxRecDepth 10000 in
theorem rw_big (a : Option Addr) (n c : Nat) (x base low : Int) (w : World) (hn : 256 < n) (hc : n ≤ 9223372036854775807) :
    Calls Facg.prog 56 #[.slice a n c, .int .u64 x, .int .u16 base, .int .u16 low] w fun e w' => e = .returned (resV (none)) ∧ Grows w w' := by
  have e1 : decide ((256 : Int) < (n : Int)) = true := decide_eq_true (by omega)
  go_enter Facg.func56, Facg.ntmps56
  go_wp2
  refine bodyPost_ret (v := resV none) (by simp [results, Facg.results56, go_sem, resV]) rfl ⟨rfl, ?_⟩
  exact (Kept.refl _ _).alloc _

set_option maxRecDepth 10000 in
theorem rw_zero (a : Option Addr) (n c : Nat) (base low : Int) (w : World) (hn : n ≤ 256) :
    Calls Facg.prog 56 #[.slice a n c, .int .u64 0, .int .u16 base, .int .u16 low] w fun e w' => e = .returned (resV (some ⟨0, 0, 0, 0, 0, 0⟩)) ∧ Grows w w' := by
  have e1 : decide ((256 : Int) < (n : Int)) = false := decide_eq_false (by omega)
  go_enter Facg.func56, Facg.ntmps56
  go_wp2
  refine bodyPost_ret (v := resV (some ⟨0, 0, 0, 0, 0, 0⟩)) (by simp [results, Facg.results56, go_sem, resV]) rfl ⟨rfl, ?_⟩
  exact (Kept.refl _ _).alloc _

set_option maxRecDepth 10000 in
theorem rw_other (a : Option Addr) (n c : Nat) (x base low : Int) (w : World) (hn : n ≤ 256) (hl : 0 ≤ low ∧ low < 65536) (hb : 0 ≤ base ∧ base < 65536) (h0 : 0 ≤ x) (h1 : x < 18446744073709551616) (hx : ¬ x = 0) (k : Int) (hk : x % 4 = k) (hk2 : 2 ≤ k) :
    Calls Facg.prog 56 #[.slice a n c, .int .u64 x, .int .u16 base, .int .u16 low] w fun e w' => e = .returned (resV (none)) ∧ Grows w w' := by
  have e1 : decide ((256 : Int) < (n : Int)) = false := decide_eq_false (by omega)
  have ex : (x == 0) = false := by rw [beq_eq_false_iff_ne]; exact hx
  have HSg := hide (fun w => sign_any (x / 4) w (by omega) (by omega))
  have hsg := signI_bd (x / 4)
  have t1 : ∀ w, Calls Facg.prog 108 #[.int .u64 x, .int .u8 0, .int .u8 2] w fun e w' => e = .returned (.int .u64 (x % 4)) ∧ w' = w := fun w => by
    have := take_any x 0 2 w h0 h1 (by decide) (by decide) (by decide)
    simpa using this
  rw [hk] at t1
  have T1 := hide t1
  have k0 : (k == 0) = false := by rw [beq_eq_false_iff_ne]; omega
  have k1 : (k == 1) = false := by rw [beq_eq_false_iff_ne]; omega
  clear t1 hk
  generalize signI (x / 4) = sg at *
  go_enter Facg.func56, Facg.ntmps56
  go_wp2_with (first
    | (go_at_call 107; refine (HSg.out _).mono ?_; rintro e w3 ⟨rfl, rfl⟩)
    | (go_at_call 108; with_reducible refine (T1.out _).mono ?_; rintro e w' ⟨rfl, rfl⟩))
  refine bodyPost_ret (v := resV (none)) (by simp [results, Facg.results56, go_sem, resV]) rfl ⟨rfl, ?_⟩
  exact ((Kept.refl _ _).alloc _).alloc _

set_option maxRecDepth 10000 in
theorem rw_sec (a : Option Addr) (n c : Nat) (x base low : Int) (w : World) (hn : n ≤ 256) (hl : 0 ≤ low ∧ low < 65536) (hb : 0 ≤ base ∧ base < 65536) (h0 : 0 ≤ x) (h1 : x < 18446744073709551616) (hx : ¬ x = 0) (hk : x % 4 = 0) (hs : secF x = none) :
    Calls Facg.prog 56 #[.slice a n c, .int .u64 x, .int .u16 base, .int .u16 low] w fun e w' => e = .returned (resV (none)) ∧ Grows w w' := by
  have e1 : decide ((256 : Int) < (n : Int)) = false := decide_eq_false (by omega)
  have ex : (x == 0) = false := by rw [beq_eq_false_iff_ne]; exact hx
  have HSg := hide (fun w => sign_any (x / 4) w (by omega) (by omega))
  have hsg := signI_bd (x / 4)
  have t1 : ∀ w, Calls Facg.prog 108 #[.int .u64 x, .int .u8 0, .int .u8 2] w fun e w' => e = .returned (.int .u64 (x % 4)) ∧ w' = w := fun w => by
    have := take_any x 0 2 w h0 h1 (by decide) (by decide) (by decide)
    simpa using this
  rw [hk] at t1
  have T1 := hide t1
  have HSec := hide (fun w => sections_any x w h0 h1)
  rw [hs] at HSec
  clear t1 hk hs
  generalize signI (x / 4) = sg at *
  go_enter Facg.func56, Facg.ntmps56
  go_wp2_with (first
    | (go_at_call 107; refine (HSg.out _).mono ?_; rintro e w3 ⟨rfl, rfl⟩)
    | (go_at_call 108; with_reducible refine (T1.out _).mono ?_; rintro e w' ⟨rfl, rfl⟩)
    | (go_at_call 109; refine (HSec.out _).mono ?_; rintro e w3 ⟨rfl, rfl⟩))
  refine bodyPost_ret (v := resV (none)) (by simp [results, Facg.results56, go_sem, resV]) rfl ⟨rfl, ?_⟩
  exact ((Kept.refl _ _).alloc _).alloc _

set_option maxRecDepth 10000 in
theorem rw_str_no (a : Option Addr) (n c : Nat) (x base low : Int) (w : World) (hn : n ≤ 256) (hl : 0 ≤ low ∧ low < 65536) (hb : 0 ≤ base ∧ base < 65536) (h0 : 0 ≤ x) (h1 : x < 18446744073709551616) (hx : ¬ x = 0) (d q : Int) (hk : x % 4 = 0) (hs : secF x = some (d, q)) (hsp : spansI n low (base + signI (x / 4)) (d + q) = false) :
    Calls Facg.prog 56 #[.slice a n c, .int .u64 x, .int .u16 base, .int .u16 low] w fun e w' => e = .returned (resV (none)) ∧ Grows w w' := by
  have hdq := secF_bd hs h0
  have e1 : decide ((256 : Int) < (n : Int)) = false := decide_eq_false (by omega)
  have ex : (x == 0) = false := by rw [beq_eq_false_iff_ne]; exact hx
  have HSg := hide (fun w => sign_any (x / 4) w (by omega) (by omega))
  have hsg := signI_bd (x / 4)
  have t1 : ∀ w, Calls Facg.prog 108 #[.int .u64 x, .int .u8 0, .int .u8 2] w fun e w' => e = .returned (.int .u64 (x % 4)) ∧ w' = w := fun w => by
    have := take_any x 0 2 w h0 h1 (by decide) (by decide) (by decide)
    simpa using this
  rw [hk] at t1
  have T1 := hide t1
  have HSec := hide (fun w => sections_any x w h0 h1)
  rw [hs] at HSec
  clear t1 hk hs
  generalize signI (x / 4) = sg at *
  have HSp := hide (fun w => spans_any a n c low (base + sg) (d + q) w hn hl (by omega) (by omega))
  rw [hsp] at HSp
  clear hsp
  go_enter Facg.func56, Facg.ntmps56
  go_wp2_with (first
    | (go_at_call 107; refine (HSg.out _).mono ?_; rintro e w3 ⟨rfl, rfl⟩)
    | (go_at_call 108; with_reducible refine (T1.out _).mono ?_; rintro e w' ⟨rfl, rfl⟩)
    | (go_at_call 109; refine (HSec.out _).mono ?_; rintro e w3 ⟨rfl, rfl⟩)
    | (go_at_call 110; refine (HSp.out _).mono ?_; rintro e w2 ⟨rfl, hg⟩; have HG := hide (((Kept.refl _ _).alloc _).trans (((Kept.refl _ _).alloc _).trans hg)); obtain ⟨⟨z0, z1, z2, z3, z4, z5⟩, zf⟩ := Cell6.first (((Kept.refl _ _).alloc _).trans hg); clear hg))
  refine bodyPost_ret (v := resV (none)) (by simp [results, Facg.results56, go_sem, resV, z0, z1, z2, z3, z4, z5]) rfl ⟨rfl, ?_⟩
  exact HG.out.set6 (by omega) _ _ _ _ _ _

set_option maxRecDepth 10000 in
theorem rw_str_ok (a : Option Addr) (n c : Nat) (x base low : Int) (w : World) (hn : n ≤ 256) (hl : 0 ≤ low ∧ low < 65536) (hb : 0 ≤ base ∧ base < 65536) (h0 : 0 ≤ x) (h1 : x < 18446744073709551616) (hx : ¬ x = 0) (d q : Int) (hk : x % 4 = 0) (hs : secF x = some (d, q)) (hsp : spansI n low (base + signI (x / 4)) (d + q) = true) :
    Calls Facg.prog 56 #[.slice a n c, .int .u64 x, .int .u16 base, .int .u16 low] w fun e w' => e = .returned (resV (some ⟨1, base + signI (x / 4), d, q, 0, 0⟩)) ∧ Grows w w' := by
  have hdq := secF_bd hs h0
  have e1 : decide ((256 : Int) < (n : Int)) = false := decide_eq_false (by omega)
  have ex : (x == 0) = false := by rw [beq_eq_false_iff_ne]; exact hx
  have HSg := hide (fun w => sign_any (x / 4) w (by omega) (by omega))
  have hsg := signI_bd (x / 4)
  have t1 : ∀ w, Calls Facg.prog 108 #[.int .u64 x, .int .u8 0, .int .u8 2] w fun e w' => e = .returned (.int .u64 (x % 4)) ∧ w' = w := fun w => by
    have := take_any x 0 2 w h0 h1 (by decide) (by decide) (by decide)
    simpa using this
  rw [hk] at t1
  have T1 := hide t1
  have HSec := hide (fun w => sections_any x w h0 h1)
  rw [hs] at HSec
  clear t1 hk hs
  generalize signI (x / 4) = sg at *
  have HSp := hide (fun w => spans_any a n c low (base + sg) (d + q) w hn hl (by omega) (by omega))
  rw [hsp] at HSp
  have htb : 0 ≤ base + sg ∧ base + sg ≤ 256 := by
    unfold spansI at hsp
    by_cases hz : d + q = 0
    · rw [hz] at hsp; simp at hsp; omega
    · rw [beq_eq_false_iff_ne.2 hz] at hsp; simp at hsp; omega
  clear hsp
  go_enter Facg.func56, Facg.ntmps56
  go_wp2_with (first
    | (go_at_call 107; refine (HSg.out _).mono ?_; rintro e w3 ⟨rfl, rfl⟩)
    | (go_at_call 108; with_reducible refine (T1.out _).mono ?_; rintro e w' ⟨rfl, rfl⟩)
    | (go_at_call 109; refine (HSec.out _).mono ?_; rintro e w3 ⟨rfl, rfl⟩)
    | (go_at_call 110; refine (HSp.out _).mono ?_; rintro e w2 ⟨rfl, hg⟩; have HG := hide (((Kept.refl _ _).alloc _).trans (((Kept.refl _ _).alloc _).trans hg)); obtain ⟨⟨z0, z1, z2, z3, z4, z5⟩, zf⟩ := Cell6.first (((Kept.refl _ _).alloc _).trans hg); clear hg))
  refine bodyPost_ret (v := resV (some ⟨1, base + sg, d, q, 0, 0⟩)) (by simp [results, Facg.results56, go_sem, resV, z0, z1, z2, z3, z4, z5]) rfl ⟨rfl, ?_⟩
  exact HG.out.set6 (by omega) _ _ _ _ _ _

set_option maxRecDepth 10000 in
theorem rw_111_none (a : Option Addr) (n c : Nat) (x base low : Int) (w : World) (hn : n ≤ 256) (hl : 0 ≤ low ∧ low < 65536) (hb : 0 ≤ base ∧ base < 65536) (h0 : 0 ≤ x) (h1 : x < 18446744073709551616) (hx : ¬ x = 0) (code m : Int) (hk : x % 4 = 1) (hco : x / 4294967296 % 8 = code) (hm : x / 34359738368 % 536870912 = m) (h7 : code = 7)
    (H : Hid (∀ w' : World, Grows w w' → Calls Facg.prog 111 #[.agg #[.slice a n c, .int .u16 low], .int .i32 (base + signI (x / 4)), .int .i32 m] w' fun e w2 => e = .returned (resV (none)) ∧ Grows w' w2)) :
    Calls Facg.prog 56 #[.slice a n c, .int .u64 x, .int .u16 base, .int .u16 low] w fun e w' => e = .returned (resV (none)) ∧ Grows w w' := by
  have e1 : decide ((256 : Int) < (n : Int)) = false := decide_eq_false (by omega)
  have ex : (x == 0) = false := by rw [beq_eq_false_iff_ne]; exact hx
  have HSg := hide (fun w => sign_any (x / 4) w (by omega) (by omega))
  have hsg := signI_bd (x / 4)
  have t1 : ∀ w, Calls Facg.prog 108 #[.int .u64 x, .int .u8 0, .int .u8 2] w fun e w' => e = .returned (.int .u64 (x % 4)) ∧ w' = w := fun w => by
    have := take_any x 0 2 w h0 h1 (by decide) (by decide) (by decide)
    simpa using this
  have t2 : ∀ w, Calls Facg.prog 108 #[.int .u64 x, .int .u8 32, .int .u8 3] w fun e w' => e = .returned (.int .u64 (x / 4294967296 % 8)) ∧ w' = w := fun w => take_any x 32 3 w h0 h1 (by decide) (by decide) (by decide)
  have t3 : ∀ w, Calls Facg.prog 108 #[.int .u64 x, .int .u8 35, .int .u8 29] w fun e w' => e = .returned (.int .u64 (x / 34359738368 % 536870912)) ∧ w' = w := fun w => take_any x 35 29 w h0 h1 (by decide) (by decide) (by decide)
  have hcb : 0 ≤ code ∧ code < 8 := by omega
  have hmb : 0 ≤ m ∧ m < 536870912 := by omega
  rw [hk] at t1
  rw [hco] at t2
  rw [hm] at t3
  have T1 := hide t1
  have T2 := hide t2
  have T3 := hide t3
  clear t1 t2 t3 hk hco hm
  subst h7
  unfold resV at H
  simp only at H
  generalize signI (x / 4) = sg at *
  go_enter Facg.func56, Facg.ntmps56
  go_wp2_with (first
    | (go_at_call 107; refine (HSg.out _).mono ?_; rintro e w3 ⟨rfl, rfl⟩)
    | (go_at_call 108; first | (with_reducible refine (T1.out _).mono ?_; rintro e w' ⟨rfl, rfl⟩) | (with_reducible refine (T2.out _).mono ?_; rintro e w' ⟨rfl, rfl⟩) | (with_reducible refine (T3.out _).mono ?_; rintro e w' ⟨rfl, rfl⟩))
    | (go_at_call 111; refine (H.out _ (((Kept.refl _ _).alloc _).alloc _)).mono ?_; rintro e w2 ⟨rfl, hg⟩; have HG := hide (((Kept.refl _ _).alloc _).trans (((Kept.refl _ _).alloc _).trans hg)); obtain ⟨⟨z0, z1, z2, z3, z4, z5⟩, zf⟩ := Cell6.first (((Kept.refl _ _).alloc _).trans hg); clear hg))
  refine bodyPost_ret (v := resV (none)) (by simp [results, Facg.results56, go_sem, resV, z0, z1, z2, z3, z4, z5]) rfl ⟨rfl, ?_⟩
  exact HG.out.set6 (by omega) _ _ _ _ _ _

set_option maxRecDepth 10000 in
theorem rw_111_some (a : Option Addr) (n c : Nat) (x base low : Int) (w : World) (hn : n ≤ 256) (hl : 0 ≤ low ∧ low < 65536) (hb : 0 ≤ base ∧ base < 65536) (h0 : 0 ≤ x) (h1 : x < 18446744073709551616) (hx : ¬ x = 0) (code m : Int) (hk : x % 4 = 1) (hco : x / 4294967296 % 8 = code) (hm : x / 34359738368 % 536870912 = m) (h7 : code = 7) (pk pa pd pq pc pn : Int)
    (H : Hid (∀ w' : World, Grows w w' → Calls Facg.prog 111 #[.agg #[.slice a n c, .int .u16 low], .int .i32 (base + signI (x / 4)), .int .i32 m] w' fun e w2 => e = .returned (resV (some ⟨pk, pa, pd, pq, pc, pn⟩)) ∧ Grows w' w2)) :
    Calls Facg.prog 56 #[.slice a n c, .int .u64 x, .int .u16 base, .int .u16 low] w fun e w' => e = .returned (resV (some ⟨pk, pa, pd, pq, pc, pn⟩)) ∧ Grows w w' := by
  have e1 : decide ((256 : Int) < (n : Int)) = false := decide_eq_false (by omega)
  have ex : (x == 0) = false := by rw [beq_eq_false_iff_ne]; exact hx
  have HSg := hide (fun w => sign_any (x / 4) w (by omega) (by omega))
  have hsg := signI_bd (x / 4)
  have t1 : ∀ w, Calls Facg.prog 108 #[.int .u64 x, .int .u8 0, .int .u8 2] w fun e w' => e = .returned (.int .u64 (x % 4)) ∧ w' = w := fun w => by
    have := take_any x 0 2 w h0 h1 (by decide) (by decide) (by decide)
    simpa using this
  have t2 : ∀ w, Calls Facg.prog 108 #[.int .u64 x, .int .u8 32, .int .u8 3] w fun e w' => e = .returned (.int .u64 (x / 4294967296 % 8)) ∧ w' = w := fun w => take_any x 32 3 w h0 h1 (by decide) (by decide) (by decide)
  have t3 : ∀ w, Calls Facg.prog 108 #[.int .u64 x, .int .u8 35, .int .u8 29] w fun e w' => e = .returned (.int .u64 (x / 34359738368 % 536870912)) ∧ w' = w := fun w => take_any x 35 29 w h0 h1 (by decide) (by decide) (by decide)
  have hcb : 0 ≤ code ∧ code < 8 := by omega
  have hmb : 0 ≤ m ∧ m < 536870912 := by omega
  rw [hk] at t1
  rw [hco] at t2
  rw [hm] at t3
  have T1 := hide t1
  have T2 := hide t2
  have T3 := hide t3
  clear t1 t2 t3 hk hco hm
  subst h7
  unfold resV at H
  simp only at H
  generalize signI (x / 4) = sg at *
  go_enter Facg.func56, Facg.ntmps56
  go_wp2_with (first
    | (go_at_call 107; refine (HSg.out _).mono ?_; rintro e w3 ⟨rfl, rfl⟩)
    | (go_at_call 108; first | (with_reducible refine (T1.out _).mono ?_; rintro e w' ⟨rfl, rfl⟩) | (with_reducible refine (T2.out _).mono ?_; rintro e w' ⟨rfl, rfl⟩) | (with_reducible refine (T3.out _).mono ?_; rintro e w' ⟨rfl, rfl⟩))
    | (go_at_call 111; refine (H.out _ (((Kept.refl _ _).alloc _).alloc _)).mono ?_; rintro e w2 ⟨rfl, hg⟩; have HG := hide (((Kept.refl _ _).alloc _).trans (((Kept.refl _ _).alloc _).trans hg)); obtain ⟨⟨z0, z1, z2, z3, z4, z5⟩, zf⟩ := Cell6.first (((Kept.refl _ _).alloc _).trans hg); clear hg))
  refine bodyPost_ret (v := resV (some ⟨pk, pa, pd, pq, pc, pn⟩)) (by simp [results, Facg.results56, go_sem, resV, z0, z1, z2, z3, z4, z5]) rfl ⟨rfl, ?_⟩
  exact HG.out.set6 (by omega) _ _ _ _ _ _

set_option maxRecDepth 10000 in
theorem rw_112_none (a : Option Addr) (n c : Nat) (x base low : Int) (w : World) (hn : n ≤ 256) (hl : 0 ≤ low ∧ low < 65536) (hb : 0 ≤ base ∧ base < 65536) (h0 : 0 ≤ x) (h1 : x < 18446744073709551616) (hx : ¬ x = 0) (code m : Int) (hk : x % 4 = 1) (hco : x / 4294967296 % 8 = code) (hm : x / 34359738368 % 536870912 = m) (h7 : ¬ code = 7)
    (H : Hid (∀ w' : World, Grows w w' → Calls Facg.prog 112 #[.agg #[.slice a n c, .int .u16 low], .int .i32 (base + signI (x / 4)), .int .u8 code, .int .i32 m] w' fun e w2 => e = .returned (resV (none)) ∧ Grows w' w2)) :
    Calls Facg.prog 56 #[.slice a n c, .int .u64 x, .int .u16 base, .int .u16 low] w fun e w' => e = .returned (resV (none)) ∧ Grows w w' := by
  have e1 : decide ((256 : Int) < (n : Int)) = false := decide_eq_false (by omega)
  have ex : (x == 0) = false := by rw [beq_eq_false_iff_ne]; exact hx
  have HSg := hide (fun w => sign_any (x / 4) w (by omega) (by omega))
  have hsg := signI_bd (x / 4)
  have t1 : ∀ w, Calls Facg.prog 108 #[.int .u64 x, .int .u8 0, .int .u8 2] w fun e w' => e = .returned (.int .u64 (x % 4)) ∧ w' = w := fun w => by
    have := take_any x 0 2 w h0 h1 (by decide) (by decide) (by decide)
    simpa using this
  have t2 : ∀ w, Calls Facg.prog 108 #[.int .u64 x, .int .u8 32, .int .u8 3] w fun e w' => e = .returned (.int .u64 (x / 4294967296 % 8)) ∧ w' = w := fun w => take_any x 32 3 w h0 h1 (by decide) (by decide) (by decide)
  have t3 : ∀ w, Calls Facg.prog 108 #[.int .u64 x, .int .u8 35, .int .u8 29] w fun e w' => e = .returned (.int .u64 (x / 34359738368 % 536870912)) ∧ w' = w := fun w => take_any x 35 29 w h0 h1 (by decide) (by decide) (by decide)
  have hcb : 0 ≤ code ∧ code < 8 := by omega
  have hmb : 0 ≤ m ∧ m < 536870912 := by omega
  rw [hk] at t1
  rw [hco] at t2
  rw [hm] at t3
  have T1 := hide t1
  have T2 := hide t2
  have T3 := hide t3
  clear t1 t2 t3 hk hco hm
  have e7 : (code == 7) = false := by rw [beq_eq_false_iff_ne]; exact h7
  unfold resV at H
  simp only at H
  generalize signI (x / 4) = sg at *
  go_enter Facg.func56, Facg.ntmps56
  go_wp2_with (first
    | (go_at_call 107; refine (HSg.out _).mono ?_; rintro e w3 ⟨rfl, rfl⟩)
    | (go_at_call 108; first | (with_reducible refine (T1.out _).mono ?_; rintro e w' ⟨rfl, rfl⟩) | (with_reducible refine (T2.out _).mono ?_; rintro e w' ⟨rfl, rfl⟩) | (with_reducible refine (T3.out _).mono ?_; rintro e w' ⟨rfl, rfl⟩))
    | (go_at_call 112; refine (H.out _ (((Kept.refl _ _).alloc _).alloc _)).mono ?_; rintro e w2 ⟨rfl, hg⟩; have HG := hide (((Kept.refl _ _).alloc _).trans (((Kept.refl _ _).alloc _).trans hg)); obtain ⟨⟨z0, z1, z2, z3, z4, z5⟩, zf⟩ := Cell6.first (((Kept.refl _ _).alloc _).trans hg); clear hg))
  refine bodyPost_ret (v := resV (none)) (by simp [results, Facg.results56, go_sem, resV, z0, z1, z2, z3, z4, z5]) rfl ⟨rfl, ?_⟩
  exact HG.out.set6 (by omega) _ _ _ _ _ _

set_option maxRecDepth 10000 in
theorem rw_112_some (a : Option Addr) (n c : Nat) (x base low : Int) (w : World) (hn : n ≤ 256) (hl : 0 ≤ low ∧ low < 65536) (hb : 0 ≤ base ∧ base < 65536) (h0 : 0 ≤ x) (h1 : x < 18446744073709551616) (hx : ¬ x = 0) (code m : Int) (hk : x % 4 = 1) (hco : x / 4294967296 % 8 = code) (hm : x / 34359738368 % 536870912 = m) (h7 : ¬ code = 7) (pk pa pd pq pc pn : Int)
    (H : Hid (∀ w' : World, Grows w w' → Calls Facg.prog 112 #[.agg #[.slice a n c, .int .u16 low], .int .i32 (base + signI (x / 4)), .int .u8 code, .int .i32 m] w' fun e w2 => e = .returned (resV (some ⟨pk, pa, pd, pq, pc, pn⟩)) ∧ Grows w' w2)) :
    Calls Facg.prog 56 #[.slice a n c, .int .u64 x, .int .u16 base, .int .u16 low] w fun e w' => e = .returned (resV (some ⟨pk, pa, pd, pq, pc, pn⟩)) ∧ Grows w w' := by
  have e1 : decide ((256 : Int) < (n : Int)) = false := decide_eq_false (by omega)
  have ex : (x == 0) = false := by rw [beq_eq_false_iff_ne]; exact hx
  have HSg := hide (fun w => sign_any (x / 4) w (by omega) (by omega))
  have hsg := signI_bd (x / 4)
  have t1 : ∀ w, Calls Facg.prog 108 #[.int .u64 x, .int .u8 0, .int .u8 2] w fun e w' => e = .returned (.int .u64 (x % 4)) ∧ w' = w := fun w => by
    have := take_any x 0 2 w h0 h1 (by decide) (by decide) (by decide)
    simpa using this
  have t2 : ∀ w, Calls Facg.prog 108 #[.int .u64 x, .int .u8 32, .int .u8 3] w fun e w' => e = .returned (.int .u64 (x / 4294967296 % 8)) ∧ w' = w := fun w => take_any x 32 3 w h0 h1 (by decide) (by decide) (by decide)
  have t3 : ∀ w, Calls Facg.prog 108 #[.int .u64 x, .int .u8 35, .int .u8 29] w fun e w' => e = .returned (.int .u64 (x / 34359738368 % 536870912)) ∧ w' = w := fun w => take_any x 35 29 w h0 h1 (by decide) (by decide) (by decide)
  have hcb : 0 ≤ code ∧ code < 8 := by omega
  have hmb : 0 ≤ m ∧ m < 536870912 := by omega
  rw [hk] at t1
  rw [hco] at t2
  rw [hm] at t3
  have T1 := hide t1
  have T2 := hide t2
  have T3 := hide t3
  clear t1 t2 t3 hk hco hm
  have e7 : (code == 7) = false := by rw [beq_eq_false_iff_ne]; exact h7
  unfold resV at H
  simp only at H
  generalize signI (x / 4) = sg at *
  go_enter Facg.func56, Facg.ntmps56
  go_wp2_with (first
    | (go_at_call 107; refine (HSg.out _).mono ?_; rintro e w3 ⟨rfl, rfl⟩)
    | (go_at_call 108; first | (with_reducible refine (T1.out _).mono ?_; rintro e w' ⟨rfl, rfl⟩) | (with_reducible refine (T2.out _).mono ?_; rintro e w' ⟨rfl, rfl⟩) | (with_reducible refine (T3.out _).mono ?_; rintro e w' ⟨rfl, rfl⟩))
    | (go_at_call 112; refine (H.out _ (((Kept.refl _ _).alloc _).alloc _)).mono ?_; rintro e w2 ⟨rfl, hg⟩; have HG := hide (((Kept.refl _ _).alloc _).trans (((Kept.refl _ _).alloc _).trans hg)); obtain ⟨⟨z0, z1, z2, z3, z4, z5⟩, zf⟩ := Cell6.first (((Kept.refl _ _).alloc _).trans hg); clear hg))
  refine bodyPost_ret (v := resV (some ⟨pk, pa, pd, pq, pc, pn⟩)) (by simp [results, Facg.results56, go_sem, resV, z0, z1, z2, z3, z4, z5]) rfl ⟨rfl, ?_⟩
  exact HG.out.set6 (by omega) _ _ _ _ _ _

theorem resolveW_any (a : Option Addr) (n c : Nat) (f : Nat → Int) (x base low : Int) (w : World) (hc : n ≤ 9223372036854775807) (hl : 0 ≤ low ∧ low < 65536) (hb : 0 ≤ base ∧ base < 65536) (h0 : 0 ≤ x) (h1 : x < 18446744073709551616) (hA : ArenaAt w a n f) :
    Calls Facg.prog 56 #[.slice a n c, .int .u64 x, .int .u16 base, .int .u16 low] w fun e w' => e = .returned (resV (resolveW f n x base low)) ∧ Grows w w' := by
  unfold resolveW
  by_cases hn : 256 < n
  · rw [if_pos (by omega)]; exact rw_big a n c x base low w hn hc
  rw [if_neg (by omega)]
  by_cases hx : x = 0
  · subst hx; rw [if_pos rfl]; exact rw_zero a n c base low w (by omega)
  rw [if_neg hx]
  by_cases k0 : x % 4 = 0
  · rw [if_pos k0]
    cases hs : secF x with
    | none => exact rw_sec a n c x base low w (by omega) hl hb h0 h1 hx k0 hs
    | some r =>
      obtain ⟨d, q⟩ := r
      simp only
      unfold toI
      cases hsp : spansI n low (base + signI (x / 4)) (d + q) with
      | false => exact rw_str_no a n c x base low w (by omega) hl hb h0 h1 hx d q k0 hs hsp
      | true => exact rw_str_ok a n c x base low w (by omega) hl hb h0 h1 hx d q k0 hs hsp
  rw [if_neg k0]
  by_cases k1 : x % 4 = 1
  · rw [if_pos k1]
    unfold listI toI
    have hsg := signI_bd (x / 4)
    by_cases h7 : x / 4294967296 % 8 = 7
    · rw [if_pos h7]
      have H := hide (fun w' (hg : Grows w w') => structs_any a n c f low (base + signI (x / 4)) (x / 34359738368 % 536870912) w' (by omega) hl (by omega) (by omega) (hA.grows hg))
      cases hr : structsI f n low (base + signI (x / 4)) (x / 34359738368 % 536870912) with
      | none => rw [hr] at H; exact rw_111_none a n c x base low w (by omega) hl hb h0 h1 hx _ _ k1 rfl rfl h7 H
      | some p => rw [hr] at H; exact rw_111_some a n c x base low w (by omega) hl hb h0 h1 hx _ _ k1 rfl rfl h7 p.kind p.at_ p.data p.ptrs p.code p.count H
    · rw [if_neg h7]
      have H := hide (fun w' (hg : Grows w w') => plain_any a n c low (base + signI (x / 4)) (x / 4294967296 % 8) (x / 34359738368 % 536870912) w' (by omega) hl (by omega) (by omega))
      cases hr : plainI n low (base + signI (x / 4)) (x / 4294967296 % 8) (x / 34359738368 % 536870912) with
      | none => rw [hr] at H; exact rw_112_none a n c x base low w (by omega) hl hb h0 h1 hx _ _ k1 rfl rfl h7 H
      | some p => rw [hr] at H; exact rw_112_some a n c x base low w (by omega) hl hb h0 h1 hx _ _ k1 rfl rfl h7 p.kind p.at_ p.data p.ptrs p.code p.count H
  rw [if_neg k1]
  exact rw_other a n c x base low w (by omega) hl hb h0 h1 hx _ rfl (by omega)
end Go.Proofs.Ygcfac
