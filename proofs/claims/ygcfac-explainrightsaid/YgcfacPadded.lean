import Derived.Test.YgcfacPut
namespace Go.Proofs.Ygcfac
open Go.RowKit
set_option linter.unusedVariables false

def widthI (c : Int) : Int := if 2 ≤ c ∧ c ≤ 5 then 2 ^ (c - 2).toNat else 0
theorem widthI_bd (c : Int) : 0 ≤ widthI c ∧ widthI c ≤ 8 := by
  unfold widthI
  split
  · rename_i h
    have hc : c = 2 ∨ c = 3 ∨ c = 4 ∨ c = 5 := by omega
    rcases hc with rfl | rfl | rfl | rfl <;> decide
  · decide
theorem widthI_any (c : Int) (w : World) (h : 0 ≤ c ∧ c < 256) : Calls Facg.prog 133 #[.int .u8 c] w fun e w' => e = .returned (.int .u8 (widthI c)) ∧ w' = w := by
  unfold widthI
  split
  · rename_i h2; exact width_any c w h2.1 h2.2
  · exact width_none c w (by omega) (by omega) (by omega)

/-- The bytes of a list's elements. -/
def P.bytes (p : P) : Int := p.count * widthI p.code
/-- wire.Padded. -/
def paddedI (f : Nat → Int) (n : Nat) (p : P) : Bool :=
  if p.kind = 2 ∧ ¬ p.bytes % 8 = 0 then decide (p.at_ + p.bytes / 8 < (n : Int)) && (f (p.at_ + p.bytes / 8).toNat / 2 ^ (p.bytes % 8 * 8).toNat == 0) else true

set_option maxRecDepth 10000 in
theorem padded_k (a : Option Addr) (n c : Nat) (k at_ d q cd m : Int) (w : World) (hk : ¬ k = 2) :
    Calls Facg.prog 89 #[.slice a n c, (P.mk k at_ d q cd m).val] w fun e w' => e = .returned (.bool true) ∧ Grows w w' := by
  have e0 : (k != 2) = true := by rw [bne_iff_ne]; exact hk
  unfold P.val at *
  go_enter Facg.func89, Facg.ntmps89
  go_wp2
  go_ret
  exact ⟨rfl, (Kept.refl _ _).alloc _⟩

set_option maxRecDepth 10000 in
theorem padded_0 (a : Option Addr) (n c : Nat) (at_ d q cd m wd : Int) (w : World) (hm : 0 ≤ m ∧ m < 65536) (hcd : 0 ≤ cd ∧ cd < 256) (hwd : widthI cd = wd) (hz : m * wd % 8 = 0) :
    Calls Facg.prog 89 #[.slice a n c, (P.mk 2 at_ d q cd m).val] w fun e w' => e = .returned (.bool true) ∧ Grows w w' := by
  have HW := hide (fun w => widthI_any cd w hcd)
  have hb := widthI_bd cd
  rw [hwd] at HW hb
  have m0 : 0 ≤ m * wd := Int.mul_nonneg hm.1 hb.1
  have m1 : m * wd ≤ 524288 := Int.le_trans (Int.mul_le_mul (by omega : m ≤ 65536) hb.2 hb.1 (by decide)) (by decide)
  have e1 : (m * wd % 8 == 0) = true := by rw [hz]; rfl
  unfold P.val at *
  go_enter Facg.func89, Facg.ntmps89
  go_wp2
  go_quiet ((go_at_call 133; exact Calls.quiet_of_same (HW.out _)))
  go_wp2
  go_ret
  exact ⟨rfl, by first | exact (Kept.refl _ _).alloc _ | exact ((Kept.refl _ _).alloc _).drewN _⟩

set_option maxRecDepth 10000 in
theorem padded_far (a : Option Addr) (n c : Nat) (at_ d q cd m wd : Int) (b : Nat) (w : World) (hn : n ≤ 9223372036854775807) (hat : 0 ≤ at_ ∧ at_ < 65536) (hm : 0 ≤ m ∧ m < 65536) (hcd : 0 ≤ cd ∧ cd < 256) (hwd : widthI cd = wd) (hb' : m * wd = b) (hz : ¬ b % 8 = 0) (hf : (n : Int) ≤ at_ + b / 8) :
    Calls Facg.prog 89 #[.slice a n c, (P.mk 2 at_ d q cd m).val] w fun e w' => e = .returned (.bool false) ∧ Grows w w' := by
  have HW := hide (fun w => widthI_any cd w hcd)
  have hb := widthI_bd cd
  rw [hwd] at HW hb
  have m0 : 0 ≤ m * wd := Int.mul_nonneg hm.1 hb.1
  have m1 : m * wd ≤ 524288 := Int.le_trans (Int.mul_le_mul (by omega : m ≤ 65536) hb.2 hb.1 (by decide)) (by decide)
  have e1 : ((b : Int) % 8 == 0) = false := by rw [beq_eq_false_iff_ne]; omega
  have e2 : decide (at_ + (b : Int) / 8 < (n : Int)) = false := decide_eq_false (by omega)
  unfold P.val at *
  go_enter Facg.func89, Facg.ntmps89
  go_wp2
  go_quiet ((go_at_call 133; exact Calls.quiet_of_same (HW.out _)))
  go_wp2
  go_ret
  exact ⟨rfl, by first | exact (Kept.refl _ _).alloc _ | exact ((Kept.refl _ _).alloc _).drewN _⟩

set_option maxRecDepth 10000 in
theorem padded_at (bb o n c t : Nat) (at_ d q cd m wd x : Int) (b : Nat) (w : World) (hn : n ≤ 9223372036854775807) (hat : 0 ≤ at_ ∧ at_ < 65536) (hm : 0 ≤ m ∧ m < 65536) (hcd : 0 ≤ cd ∧ cd < 256) (hwd : widthI cd = wd) (hb' : m * wd = b) (hz : ¬ b % 8 = 0) (ht : at_ + b / 8 = t) (hf : t < n)
    (hx : 0 ≤ x ∧ x < 18446744073709551616) (hcell : w.cell? ⟨bb, o + t, none⟩ = some (.int .u64 x)) (r : Bool) (hr : (x / 2 ^ (b % 8 * 8) == 0) = r) :
    Calls Facg.prog 89 #[.slice (some ⟨bb, o, none⟩) n c, (P.mk 2 at_ d q cd m).val] w fun e w' => e = .returned (.bool r) ∧ Grows w w' := by
  have HW := hide (fun w => widthI_any cd w hcd)
  have hb := widthI_bd cd
  rw [hwd] at HW hb
  have m0 : 0 ≤ m * wd := Int.mul_nonneg hm.1 hb.1
  have m1 : m * wd ≤ 524288 := Int.le_trans (Int.mul_le_mul (by omega : m ≤ 65536) hb.2 hb.1 (by decide)) (by decide)
  have e1 : ((b : Int) % 8 == 0) = false := by rw [beq_eq_false_iff_ne]; omega
  have hcell := ((Kept.refl (fun _ => True) w).alloc (.cells #[.int .u8 2, .int .u16 at_, .int .u8 d, .int .u8 q, .int .u8 cd, .int .u16 m] 31)).cell hcell trivial
  have hd2 : decide ((b : Int) % 8 * 8 < 64) = true := decide_eq_true (by omega)
  unfold P.val at *
  go_enter Facg.func89, Facg.ntmps89
  go_wp2
  go_quiet ((go_at_call 133; exact Calls.quiet_of_same (HW.out _)))
  go_wp2
  go_ret
  exact ⟨rfl, by first | exact (Kept.refl _ _).alloc _ | exact ((Kept.refl _ _).alloc _).drewN _⟩

theorem padded_any (a : Option Addr) (n c : Nat) (f : Nat → Int) (p : P) (w : World) (h : p.Ok) (hc : n ≤ 9223372036854775807) (hA : ArenaAt w a n f) :
    Calls Facg.prog 89 #[.slice a n c, p.val] w fun e w' => e = .returned (.bool (paddedI f n p)) ∧ Grows w w' := by
  obtain ⟨k, at_, d, q, cd, m⟩ := p
  have hat := h.at_
  have hm := h.count
  have hcd := h.code
  unfold paddedI P.bytes
  simp only at *
  by_cases hk : k = 2
  · subst hk
    have hb := widthI_bd cd
    have m0 : 0 ≤ m * widthI cd := Int.mul_nonneg hm.1 hb.1
    obtain ⟨b, hbb⟩ := Int.eq_ofNat_of_zero_le m0
    by_cases hz : m * widthI cd % 8 = 0
    · rw [if_neg (by intro x; exact x.2 hz)]
      exact padded_0 a n c at_ d q cd m _ w hm hcd rfl hz
    · rw [if_pos ⟨rfl, hz⟩]
      rw [hbb] at hz ⊢
      by_cases hf : at_ + (b : Int) / 8 < (n : Int)
      · obtain ⟨t, ht⟩ := Int.eq_ofNat_of_zero_le (show 0 ≤ at_ + (b : Int) / 8 by omega)
        obtain ⟨bb, o, rfl, hcell⟩ := hA.2 (by omega)
        rw [decide_eq_true hf, ht]
        simp only [Bool.true_and, Int.toNat_natCast]
        refine padded_at bb o n c t at_ d q cd m _ (f t) b w hc hat hm hcd rfl hbb (by omega) ht (by omega) (hA.1 t) (hcell t (by omega)) _ ?_
        rw [show ((b : Int) % 8 * 8).toNat = b % 8 * 8 by omega]
      · rw [decide_eq_false hf]
        exact padded_far a n c at_ d q cd m _ b w hc hat hm hcd rfl hbb (by omega) (by omega)
  · rw [if_neg (by intro x; exact hk x.1)]
    exact padded_k a n c k at_ d q cd m w hk
end Go.Proofs.Ygcfac
