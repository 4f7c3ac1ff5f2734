/-
  wire.MakeStruct, MakeList, MakeTag: each returns some word.
-/
import Derived.Test.YgcfacTake
import Derived.OpenShut
namespace Go.Proofs.Ygcfac
open Go.RowKit
set_option linter.unusedVariables false

def WordP (w : World) (e : Ending) (w' : World) : Prop := ∃ x, e = .returned (.int .u64 x) ∧ w' = w ∧ (Lit.int .u64 x).wf = true

theorem WordP.of {w : World} {x : Int} (h : (Lit.int .u64 x).wf = true) : WordP w (.returned (.int .u64 x)) w := ⟨x, rfl, rfl, h⟩
theorem wf_zero : (Lit.int .u64 0).wf = true := rfl

theorem put_some (v : Int) (w : World) (h0 : 0 ≤ v) (h1 : v < 18446744073709551616) : Calls Facg.prog 142 #[.int .u64 0, .int .u64 v, .int .u8 2, .int .u8 30] w (WordP w) := by
  have HF : Hid (∀ w : World, Calls Facg.prog 162 #[.int .u8 2, .int .u8 30] w fun e w' => e = .returned (.bool true) ∧ w' = w) := fun w => fits_any 2 30 w (by decide) (by decide) (by decide)
  have HM : Hid (∀ w : World, Calls Facg.prog 161 #[.int .u8 30] w fun e w' => e = .returned (.int .u64 1073741823) ∧ w' = w) := fun w => mask_any 30 w (by decide)
  go_enter Facg.func142, Facg.ntmps142
  go_wp2_with (first
    | (go_at_call 162; (with_reducible refine (HF.out _).mono ?_); rintro e w2 ⟨rfl, rfl⟩)
    | (go_at_call 161; (with_reducible refine (HM.out _).mono ?_); rintro e w2 ⟨rfl, rfl⟩))
  go_ret
  exact WordP.of (wf_bits _ _ _ _)

theorem offset_some (a b : Nat) (w : World) (ha : a < 65536) (hb : b < 65536) : Calls Facg.prog 167 #[.int .u16 a, .int .u16 b] w (WordP w) := by
  have HP := hide (fun v w h0 h1 => put_some v w h0 h1)
  have h1 := wrap64_bd ((b : Int) - (a : Int) - 1)
  go_enter Facg.func167, Facg.ntmps167
  go_wp2_with (first
    | (go_at_call 142; (with_reducible refine (HP.out _ _ h1.1 h1.2).mono ?_); rintro e w2 ⟨x, rfl, rfl, hx⟩; have HX := hide hx; clear hx))
  go_ret
  exact WordP.of HX.out

set_option maxHeartbeats 1000000 in
theorem makeStruct_some (a b : Nat) (d p : Int) (w : World) (ha : a < 65536) (hb : b < 65536) (hd : 0 ≤ d ∧ d < 256) (hp : 0 ≤ p ∧ p < 256) : Calls Facg.prog 135 #[.int .u16 a, .int .u16 b, .int .u8 d, .int .u8 p] w (WordP w) := by
  have HO := hide (fun x y w hx hy => offset_some x y w hx hy)
  cases e1 : decide ((256 : Int) ≤ (a : Int)) with
  | true =>
    go_enter Facg.func135, Facg.ntmps135
    go_wp2
    go_ret
    exact WordP.of wf_zero
  | false =>
    cases e2 : decide ((256 : Int) < (b : Int)) with
    | true =>
      go_enter Facg.func135, Facg.ntmps135
      go_wp2
      go_ret
      exact WordP.of wf_zero
    | false =>
      cases e3 : decide (8 < d) with
      | true =>
        go_enter Facg.func135, Facg.ntmps135
        go_wp2
        go_ret
        exact WordP.of wf_zero
      | false =>
        cases e4 : decide (8 < p) with
        | true =>
          go_enter Facg.func135, Facg.ntmps135
          go_wp2
          go_ret
          exact WordP.of wf_zero
        | false =>
          cases e5 : (d == 0) with
          | true =>
            cases e6 : (p == 0) with
            | true =>
              go_enter Facg.func135, Facg.ntmps135
              go_wp2_with (first
                | (go_at_call 167; (with_reducible refine (HO.out _ _ _ ha ha).mono ?_); rintro e w2 ⟨x, rfl, rfl, hx⟩; have HX := hide hx; clear hx))
              go_ret
              exact WordP.of (wf_bits _ _ _ _)
            | false =>
              go_enter Facg.func135, Facg.ntmps135
              go_wp2_with (first
                | (go_at_call 167; (with_reducible refine (HO.out _ _ _ ha hb).mono ?_); rintro e w2 ⟨x, rfl, rfl, hx⟩; have HX := hide hx; clear hx))
              go_ret
              exact WordP.of (wf_bits _ _ _ _)
          | false =>
            go_enter Facg.func135, Facg.ntmps135
            go_wp2_with (first
              | (go_at_call 167; (with_reducible refine (HO.out _ _ _ ha hb).mono ?_); rintro e w2 ⟨x, rfl, rfl, hx⟩; have HX := hide hx; clear hx))
            go_ret
            exact WordP.of (wf_bits _ _ _ _)

set_option maxHeartbeats 1000000 in
theorem makeList_some (a b : Nat) (c n : Int) (w : World) (ha : a < 65536) (hb : b < 65536) (hc : 0 ≤ c ∧ c < 256) (hn : 0 ≤ n ∧ n < 4294967296) : Calls Facg.prog 158 #[.int .u16 a, .int .u16 b, .int .u8 c, .int .u32 n] w (WordP w) := by
  have HO := hide (fun x y w hx hy => offset_some x y w hx hy)
  cases e1 : decide ((256 : Int) ≤ (a : Int)) with
  | true =>
    go_enter Facg.func158, Facg.ntmps158
    go_wp2
    go_ret
    exact WordP.of wf_zero
  | false =>
    cases e2 : decide ((256 : Int) < (b : Int)) with
    | true =>
      go_enter Facg.func158, Facg.ntmps158
      go_wp2
      go_ret
      exact WordP.of wf_zero
    | false =>
      cases e3 : decide (c < 2) with
      | true =>
        go_enter Facg.func158, Facg.ntmps158
        go_wp2
        go_ret
        exact WordP.of wf_zero
      | false =>
        cases e4 : decide (7 < c) with
        | true =>
          go_enter Facg.func158, Facg.ntmps158
          go_wp2
          go_ret
          exact WordP.of wf_zero
        | false =>
          cases e5 : decide (256 < n) with
          | true =>
            go_enter Facg.func158, Facg.ntmps158
            go_wp2
            go_ret
            exact WordP.of wf_zero
          | false =>
            cases e6 : (c != 7) with
            | false =>
              go_enter Facg.func158, Facg.ntmps158
              go_wp2_with (first
                | (go_at_call 167; (with_reducible refine (HO.out _ _ _ ha hb).mono ?_); rintro e w2 ⟨x, rfl, rfl, hx⟩; have HX := hide hx; clear hx))
              go_ret
              exact WordP.of (wf_bits _ _ _ _)
            | true =>
              cases e7 : decide (128 < n) with
              | true =>
                go_enter Facg.func158, Facg.ntmps158
                go_wp2
                go_ret
                exact WordP.of wf_zero
              | false =>
                go_enter Facg.func158, Facg.ntmps158
                go_wp2_with (first
                  | (go_at_call 167; (with_reducible refine (HO.out _ _ _ ha hb).mono ?_); rintro e w2 ⟨x, rfl, rfl, hx⟩; have HX := hide hx; clear hx))
                go_ret
                exact WordP.of (wf_bits _ _ _ _)

theorem makeTag_some (a : Nat) (d p : Int) (w : World) (ha : a < 65536) (hd : 0 ≤ d ∧ d < 256) (hp : 0 ≤ p ∧ p < 256) : Calls Facg.prog 152 #[.int .u16 a, .int .u8 d, .int .u8 p] w (WordP w) := by
  cases e1 : decide ((128 : Int) < (a : Int)) with
  | true =>
    go_enter Facg.func152, Facg.ntmps152
    go_wp2
    go_ret
    exact WordP.of wf_zero
  | false =>
    cases e3 : decide (8 < d) with
    | true =>
      go_enter Facg.func152, Facg.ntmps152
      go_wp2
      go_ret
      exact WordP.of wf_zero
    | false =>
      cases e4 : decide (8 < p) with
      | true =>
        go_enter Facg.func152, Facg.ntmps152
        go_wp2
        go_ret
        exact WordP.of wf_zero
      | false =>
        go_enter Facg.func152, Facg.ntmps152
        go_wp2
        go_ret
        exact WordP.of (wf_bits _ _ _ _)
end Go.Proofs.Ygcfac
