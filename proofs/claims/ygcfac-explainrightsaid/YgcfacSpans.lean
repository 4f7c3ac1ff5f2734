import Derived.Test.YgcfacPtr
namespace Go.Proofs.Ygcfac
open Go.RowKit
set_option linter.unusedVariables false

/-! ### wire.room -/
def roomV (a : Option Addr) (n c : Nat) (low : Int) : Value := .agg #[.slice a n c, .int .u16 low]
def spansI (n low t k : Int) : Bool := bif k == 0 then decide (0 ≤ t) && decide (t ≤ n) else decide (low ≤ t) && decide (t + k ≤ n)

theorem spans_0 (a : Option Addr) (n c : Nat) (low t : Int) (w : World) (hn : n ≤ 256) (ht : -536870912 ≤ t ∧ t ≤ 536936448) (b1 b2 : Bool) (h1 : decide (0 ≤ t) = b1) (h2 : decide (t ≤ (n : Int)) = b2) :
    Calls Facg.prog 110 #[.agg #[.slice a n c, .int .u16 low], .int .i32 t, .int .i32 0] w fun e w' => e = .returned (.bool (b1 && b2)) ∧ Grows w w' := by
  cases b1 <;> cases b2
  all_goals
    go_enter Facg.func110, Facg.ntmps110
    go_wp2
    go_ret
    exact ⟨rfl, (Kept.refl _ _).alloc _⟩

theorem spans_k (a : Option Addr) (n c : Nat) (low t k : Int) (w : World) (hn : n ≤ 256) (hl : 0 ≤ low ∧ low < 65536) (ht : -536870912 ≤ t ∧ t ≤ 536936448) (hk : 0 ≤ k ∧ k ≤ 536870912) (hz : ¬ k = 0) (b1 b2 : Bool) (h1 : decide (low ≤ t) = b1) (h2 : decide (t + k ≤ (n : Int)) = b2) :
    Calls Facg.prog 110 #[.agg #[.slice a n c, .int .u16 low], .int .i32 t, .int .i32 k] w fun e w' => e = .returned (.bool (b1 && b2)) ∧ Grows w w' := by
  have e0 : (k == 0) = false := by rw [beq_eq_false_iff_ne]; exact hz
  cases b1 <;> cases b2
  all_goals
    go_enter Facg.func110, Facg.ntmps110
    go_wp2
    go_ret
    exact ⟨rfl, (Kept.refl _ _).alloc _⟩

theorem spans_any (a : Option Addr) (n c : Nat) (low t k : Int) (w : World) (hn : n ≤ 256) (hl : 0 ≤ low ∧ low < 65536) (ht : -536870912 ≤ t ∧ t ≤ 536936448) (hk : 0 ≤ k ∧ k ≤ 536870912) :
    Calls Facg.prog 110 #[.agg #[.slice a n c, .int .u16 low], .int .i32 t, .int .i32 k] w fun e w' => e = .returned (.bool (spansI n low t k)) ∧ Grows w w' := by
  unfold spansI
  by_cases hz : k = 0
  · subst hz
    exact spans_0 a n c low t w hn ht _ _ rfl rfl
  · rw [beq_eq_false_iff_ne.2 hz]
    exact spans_k a n c low t k w hn hl ht hk hz _ _ rfl rfl
end Go.Proofs.Ygcfac
