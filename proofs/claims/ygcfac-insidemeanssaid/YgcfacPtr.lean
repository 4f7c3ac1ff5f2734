import Derived.Test.YgcfacTake
namespace Go.Proofs.Ygcfac
open Go.RowKit
set_option linter.unusedVariables false

/-! ### wire.Ptr -/
structure P where
  kind : Int
  at_ : Int
  data : Int
  ptrs : Int
  code : Int
  count : Int
def P.val (p : P) : Value := .agg #[.int .u8 p.kind, .int .u16 p.at_, .int .u8 p.data, .int .u8 p.ptrs, .int .u8 p.code, .int .u16 p.count]
structure P.Ok (p : P) : Prop where
  kind : 0 ≤ p.kind ∧ p.kind < 256
  at_ : 0 ≤ p.at_ ∧ p.at_ < 65536
  data : 0 ≤ p.data ∧ p.data < 256
  ptrs : 0 ≤ p.ptrs ∧ p.ptrs < 256
  code : 0 ≤ p.code ∧ p.code < 256
  count : 0 ≤ p.count ∧ p.count < 65536

/-- The two sections that a word names. -/
def secF (x : Int) : Option (Int × Int) := if 8 < x / 4294967296 % 65536 ∨ 8 < x / 281474976710656 % 65536 then none else some (x / 4294967296 % 65536, x / 281474976710656 % 65536)

theorem sections_any (x : Int) (w : World) (h0 : 0 ≤ x) (h1 : x < 18446744073709551616) :
    Calls Facg.prog 109 #[.int .u64 x] w fun e w' => (e = match secF x with
      | none => .returned (.tuple #[.int .u8 0, .int .u8 0, .bool false])
      | some (d, p) => .returned (.tuple #[.int .u8 d, .int .u8 p, .bool true])) ∧ w' = w := by
  have t1 : ∀ w, Calls Facg.prog 108 #[.int .u64 x, .int .u8 32, .int .u8 16] w fun e w' => e = .returned (.int .u64 (x / 4294967296 % 65536)) ∧ w' = w := fun w => take_any x 32 16 w h0 h1 (by decide) (by decide) (by decide)
  have t2 : ∀ w, Calls Facg.prog 108 #[.int .u64 x, .int .u8 48, .int .u8 16] w fun e w' => e = .returned (.int .u64 (x / 281474976710656 % 65536)) ∧ w' = w := fun w => take_any x 48 16 w h0 h1 (by decide) (by decide) (by decide)
  have T1 := hide t1
  have T2 := hide t2
  clear t1 t2
  unfold secF
  have b1 : 0 ≤ x / 4294967296 % 65536 ∧ x / 4294967296 % 65536 < 65536 := by omega
  have b2 : 0 ≤ x / 281474976710656 % 65536 ∧ x / 281474976710656 % 65536 < 65536 := by omega
  generalize x / 4294967296 % 65536 = d at *
  generalize x / 281474976710656 % 65536 = p at *
  by_cases hd : 8 < d
  · rw [if_pos (.inl hd)]
    have hd' : decide (8 < d) = true := decide_eq_true hd
    go_enter Facg.func109, Facg.ntmps109
    go_wp2_with (first
      | (go_at_call 108; first | (with_reducible refine (T1.out _).mono ?_; rintro e w' ⟨rfl, rfl⟩) | (with_reducible refine (T2.out _).mono ?_; rintro e w' ⟨rfl, rfl⟩)))
    exact bodyPost_ret (by simp [results, Facg.results109, go_sem]) rfl ⟨rfl, rfl⟩
  · have hd' : decide (8 < d) = false := decide_eq_false hd
    by_cases hp : 8 < p
    · rw [if_pos (.inr hp)]
      have hp' : decide (8 < p) = true := decide_eq_true hp
      go_enter Facg.func109, Facg.ntmps109
      go_wp2_with (first
        | (go_at_call 108; first | (with_reducible refine (T1.out _).mono ?_; rintro e w' ⟨rfl, rfl⟩) | (with_reducible refine (T2.out _).mono ?_; rintro e w' ⟨rfl, rfl⟩)))
      exact bodyPost_ret (by simp [results, Facg.results109, go_sem]) rfl ⟨rfl, rfl⟩
    · rw [if_neg (by omega)]
      have hp' : decide (8 < p) = false := decide_eq_false hp
      go_enter Facg.func109, Facg.ntmps109
      go_wp2_with (first
        | (go_at_call 108; first | (with_reducible refine (T1.out _).mono ?_; rintro e w' ⟨rfl, rfl⟩) | (with_reducible refine (T2.out _).mono ?_; rintro e w' ⟨rfl, rfl⟩)))
      exact bodyPost_ret (by simp [results, Facg.results109, go_sem]) rfl ⟨rfl, rfl⟩

/-! ### wire.Width, wire.Words -/
theorem width_any (c : Int) (w : World) (h0 : 2 ≤ c) (h1 : c ≤ 5) :
    Calls Facg.prog 133 #[.int .u8 c] w fun e w' => e = .returned (.int .u8 (2 ^ (c - 2).toNat)) ∧ w' = w := by
  have hc : c = 2 ∨ c = 3 ∨ c = 4 ∨ c = 5 := by omega
  rcases hc with rfl | rfl | rfl | rfl
  all_goals
    go_enter Facg.func133, Facg.ntmps133
    go_wp2
    go_ret
    exact ⟨rfl, rfl⟩

def P.sized (p : P) : Bool := decide (p.data ≤ 8) && decide (p.ptrs ≤ 8)
def wordsI (p : P) : Int :=
  if p.kind = 0 then 0
  else if p.kind = 1 ∧ p.sized = true then p.data + p.ptrs
  else if p.kind ≠ 2 ∨ 128 < p.count then 257
  else if 2 ≤ p.code ∧ p.code ≤ 5 then (p.count * 2 ^ (p.code - 2).toNat + 7) / 8
  else if p.code = 6 then p.count
  else if p.code = 7 ∧ p.sized = true then (if 257 < 1 + p.count * (p.data + p.ptrs) then 257 else 1 + p.count * (p.data + p.ptrs))
  else 257
end Go.Proofs.Ygcfac
