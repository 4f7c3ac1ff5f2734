/-
  pack.Pack: walked.
-/
import Derived.Test.YgcfacPackParts
import Derived.Test.YgcfacCopy
namespace Go.Proofs.Ygcfac
open Go.RowKit
set_option linter.unusedVariables false

/-- A row of bytes that the call itself makes, in the midst of it. -/
structure BufAt (w0 : World) (D : List Int) (v : Value) (w : World) : Prop where
  grows : Kept (fun _ => True) w0 w
  owns : w.ownsRow 0 5 1 v D.length (D.map (Value.int .u8))
  fresh : ∀ g, v.ownBlock = some g → w0.heap.size ≤ g

theorem BufAt.app {w0 w W w3 : World} {D E : List Int} {v v' : Value} (h : BufAt w0 D v w) (hW : Kept (fun _ => True) w W) (hk : Kept (fun k => some k ≠ v.ownBlock) W w3)
    (ho : w3.ownsRow 0 5 1 v' (D.length + E.length) (D.map (Value.int .u8) ++ E.map (Value.int .u8))) (hp : v'.ownBlock = v.ownBlock ∨ ∃ g, W.heap.size ≤ g ∧ v'.ownBlock = some g) : BufAt w0 (D ++ E) v' w3 := by
  refine ⟨(h.grows.trans hW).then hk (fun j hj _ e => by have := h.fresh j e.symm; omega), by simpa using ho, fun g hg => ?_⟩
  have s1 := h.grows.size
  have s2 := hW.size
  rcases hp with e | ⟨g', hg', e⟩
  · exact h.fresh g (by rw [← e]; exact hg)
  · rw [hg] at e; injection e with e; omega
theorem BufAt.grow {w0 w W : World} {D : List Int} {v : Value} (h : BufAt w0 D v w) (hW : Kept (fun _ => True) w W) : BufAt w0 D v W :=
  ⟨h.grows.trans hW, owns_kept h.owns hW (fun _ _ => trivial), h.fresh⟩

/-- The bytes of x that are not zero, the least first. -/
def nzB : Nat → Int → List Int
  | 0, _ => []
  | f + 1, x => if x = 0 then [] else if x % 256 = 0 then nzB f (x / 256) else x % 256 :: nzB f (x / 256)
theorem nzB_zero (f : Nat) : nzB f 0 = [] := by cases f <;> simp [nzB]

/-- What Pack makes of the word x ahead of the words rest: its bytes, and how many of rest they tell. -/
def packStep (x : Int) (rest : List Int) : List Int × Nat :=
  if tagI x = 0 then (0 :: nzB 8 x ++ [((cntP (· == 0) 255 rest : Nat) : Int)], cntP (· == 0) 255 rest)
  else if tagI x = 255 then (255 :: nzB 8 x ++ [((cntP (fun y => denseT (tagI y)) 255 rest : Nat) : Int)] ++ (rest.take (cntP (fun y => denseT (tagI y)) 255 rest)).flatMap bytes8, cntP (fun y => denseT (tagI y)) 255 rest)
  else (tagI x :: nzB 8 x, 0)
def packL : Nat → List Int → List Int
  | 0, _ => []
  | _ + 1, [] => []
  | f + 1, x :: rest => (packStep x rest).1 ++ packL f (rest.drop (packStep x rest).2)
def packF (a : List Int) : List Int := if a.length = 0 ∨ 256 < a.length then [] else packL a.length a

theorem drop_cons (A : List Int) (q : Nat) (h : q < A.length) : A.drop q = A.getD q 0 :: A.drop (q + 1) := by
  rw [List.drop_eq_getElem_cons h]
  simp [List.getElem?_eq_getElem h]

theorem fuel_pos {x : Int} {f : Nat} (h0 : 0 ≤ x) (h : x < 256 ^ f) (hx : ¬ x = 0) : ∃ g, f = g + 1 := by
  cases f with
  | zero => simp at h; omega
  | succ g => exact ⟨g, rfl⟩

theorem words_bd {S : List Int} (h : ∀ x ∈ S, (Lit.int .u64 x).wf = true) : ∀ j, 0 ≤ S.getD j 0 ∧ S.getD j 0 < 18446744073709551616 := by
  intro j
  by_cases hj : j < S.length
  · have := h (S.getD j 0) (by simp [List.getElem?_eq_getElem hj])
    simp [Lit.wf, IntKind.min, IntKind.max, IntKind.signed, IntKind.bits] at this
    simp
    omega
  · simp [List.getElem?_eq_none (Nat.le_of_not_lt hj)]

theorem zeros_any (v : Value) (R : List Int) (w : World) (hv : Ints w .u64 v R) :
    Calls Facg.prog 114 #[v, .int .i64 255] w fun e w' => e = .returned (.int .i64 ((cntP (· == 0) 255 R : Nat) : Int)) ∧ w = w' := by
  obtain ⟨a, c, rfl, hc, hm, hw, hr⟩ := hv
  unfold maxLen at hm
  by_cases h0 : R = []
  · subst h0
    refine Calls.mono (zeros_nil a c w) ?_
    rintro e w' ⟨rfl, rfl⟩
    exact ⟨by simp [cntP], rfl⟩
  · obtain ⟨b, o, rfl, hcell⟩ := hr h0
    refine Calls.mono (zeros_row b o R.length c (fun j => R.getD j 0) w (by omega) hcell) ?_
    rintro e w' ⟨⟨j, rfl, h1, h2, h3⟩, rfl⟩
    have := cntP_at (· == 0) 255 R j (fun q hq => ⟨(h1 q hq).1, by simpa using (h1 q hq).2⟩) h2 (fun h => h3 h.1 h.2.1 (by simpa using h.2.2))
    exact ⟨by rw [this], rfl⟩

theorem dense_any (v : Value) (R : List Int) (w : World) (hv : Ints w .u64 v R) :
    Calls Facg.prog 115 #[v, .int .i64 255] w fun e w' => e = .returned (.int .i64 ((cntP (fun y => denseT (tagI y)) 255 R : Nat) : Int)) ∧ w = w' := by
  obtain ⟨a, c, rfl, hc, hm, hw, hr⟩ := hv
  unfold maxLen at hm
  by_cases h0 : R = []
  · subst h0
    refine Calls.mono (dense_nil a c w) ?_
    rintro e w' ⟨rfl, rfl⟩
    exact ⟨by simp [cntP], rfl⟩
  · obtain ⟨b, o, rfl, hcell⟩ := hr h0
    have hB : ∀ j, 0 ≤ R.getD j 0 ∧ R.getD j 0 < 18446744073709551616 := words_bd hw
    refine Calls.mono (dense_row b o R.length c (fun j => R.getD j 0) w (by omega) hB hcell) ?_
    rintro e w' ⟨⟨j, rfl, h1, h2, h3⟩, rfl⟩
    have := cntP_at (fun y => denseT (tagI y)) 255 R j (fun q hq => ⟨(h1 q hq).1, (h1 q hq).2⟩) h2 (fun h => by have := h3 h.1 h.2.1; rw [h.2.2] at this; cases this)
    exact ⟨by rw [this], rfl⟩

theorem rest_end {w : World} {b o q : Nat} {A : List Int} (h : A.length ≤ q + 1) : Ints w .u64 (.slice (some ⟨b, o, none⟩) 0 0) (A.drop (q + 1)) := by
  rw [List.drop_eq_nil_of_le h]
  exact ⟨_, 0, rfl, Nat.le_refl _, by decide, by simp, fun h => absurd rfl h⟩
theorem rest_mid {w : World} {b o q n : Nat} {A : List Int} (hA : A.length = n) (hq : q + 1 < n) (hn : n ≤ 256) (hB : ∀ x ∈ A, 0 ≤ x ∧ x < 18446744073709551616) (hS : ∀ j, j < n → w.cell? ⟨b, o + j, none⟩ = some (.int .u64 (A.getD j 0))) :
    Ints w .u64 (.slice (some ⟨b, o + (q + 1), none⟩) (n - (q + 1)) (n - (q + 1))) (A.drop (q + 1)) := by
  refine ⟨some ⟨b, o + (q + 1), none⟩, n - (q + 1), by simp [hA], by simp [hA], by unfold maxLen; omega, fun x hx => ?_, fun _ => ⟨b, o + (q + 1), rfl, fun j hj => ?_⟩⟩
  · have := hB x (List.mem_of_mem_drop hx)
    exact WalkArith.wf_u64 (by omega)
  · simp at hj
    rw [Nat.add_assoc, hS (q + 1 + j) (by omega)]
    simp

theorem bytes_lit (x : Int) (w : World) (h0 : 0 ≤ x) (h1 : x < 18446744073709551616) :
    Calls Facg.prog 59 #[.int .u64 x] w fun e w' => e = .returned (.agg #[.int .u8 (x % 256), .int .u8 (x / 256 % 256), .int .u8 (x / 65536 % 256), .int .u8 (x / 16777216 % 256), .int .u8 (x / 4294967296 % 256), .int .u8 (x / 1099511627776 % 256), .int .u8 (x / 281474976710656 % 256), .int .u8 (x / 72057594037927936 % 256)]) ∧ Below w.heap.size w w' :=
  bytes_any x w h0 h1

theorem cells8_new (w : World) (v0 v1 v2 v3 v4 v5 v6 v7 : Value) : ∀ (j : Nat) (u : Value), [v0, v1, v2, v3, v4, v5, v6, v7][j]? = some u → (w.alloc (.cells #[v0, v1, v2, v3, v4, v5, v6, v7] 110)).cell? ((⟨w.heap.size, 0, none⟩ : Addr).add j) = some u := by
  intro j u hu
  have hadd : (⟨w.heap.size, 0, none⟩ : Addr).add j = ⟨w.heap.size, j, none⟩ := by unfold Addr.add; split <;> simp_all
  rw [hadd, World.cell?_alloc_at _ _ _ _ rfl]
  simpa using hu

theorem drop_take_cons (A : List Int) (q z j : Nat) (hj : j < z) (hl : q + 1 + j < A.length) : ((A.drop (q + 1)).take z).drop j = A.getD (q + 1 + j) 0 :: ((A.drop (q + 1)).take z).drop (j + 1) := by
  have h : j < ((A.drop (q + 1)).take z).length := by simp; omega
  rw [List.drop_eq_getElem_cons h]
  simp [List.getElem?_eq_getElem hl]

theorem drop_take_nil (A : List Int) (q z j : Nat) (h : ¬ j < z) : ((A.drop (q + 1)).take z).drop j = [] := List.drop_eq_nil_of_le (by simp; omega)

theorem pack_none (a : Option Addr) (n c : Nat) (h : n = 0 ∨ 256 < n) (hn : n ≤ 9223372036854775807) (w : World) :
    Calls Facg.prog 58 #[.slice a n c] w fun e w' => e = .returned (.slice none 0 0) ∧ w' = w := by
  by_cases h0 : n = 0
  · have t0 : ((n : Int) == 0) = true := by simp; omega
    clear h
    go_enter Facg.func58, Facg.ntmps58
    go_wp2
    go_ret
    exact ⟨rfl, rfl⟩
  · have t0 : ((n : Int) == 0) = false := by simp; omega
    have t1 : decide ((256 : Int) < (n : Int)) = true := by simp; omega
    clear h h0
    go_enter Facg.func58, Facg.ntmps58
    go_wp2
    go_ret
    exact ⟨rfl, rfl⟩

set_option maxRecDepth 10000 in
set_option maxHeartbeats 4000000 in
theorem pack_row (b o n c : Nat) (A : List Int) (w : World) (hA : A.length = n) (hn0 : 0 < n) (hn : n ≤ 256) (hc : n ≤ c) (hcm : c ≤ 9223372036854775807) (hB : ∀ x ∈ A, 0 ≤ x ∧ x < 18446744073709551616)
    (hS : ∀ j, j < n → w.cell? ⟨b, o + j, none⟩ = some (.int .u64 (A.getD j 0))) (T : List Int) (hTA : packL n A = T) (hTl : T.length ≤ 2560) :
    Calls Facg.prog 58 #[.slice (some ⟨b, o, none⟩) n c] w fun e w' => ∃ v, e = .returned v ∧ BufAt w T v w' := by
  have t0 : ((n : Int) == 0) = false := by simp; omega
  have t1 : decide ((256 : Int) < (n : Int)) = false := by simp; omega
  have HS := hid hS
  have HB := hid hB
  have HA := hid hA
  have HTA := hid hTA
  have HTL := hid hTl
  clear hS hB hA hTA hTl
  obtain ⟨i5, hi, hz0, hz1, hz2⟩ := info_parts info5
  have hb : b < w.heap.size := World.block_lt_of_cell? w _ (HS.out 0 hn0)
  go_enter Facg.func58, Facg.ntmps58
  go_wp2_with (at_make; refine wpList_make_own _ rfl _ _ 40 rfl 0 5 i5 (.int .u8 0) 1 Facg.underlying40 hi hz0 hz1 _ _ _ (2 + 9 * n) rfl rfl (by omega) ?i5 ?i6 ?i7 ?_)
  case i5 => rw [hz2]; omega
  case i6 => unfold maxLen; omega
  case i7 => exact Nat.zero_le _
  intro w2 hown2 hgr2
  have HBUF : Hid (BufAt w [] (.slice (some ⟨w.heap.size, 0, none⟩) 0 (2 + 9 * n)) w2) := ⟨⟨hgr2.os, hgr2.tape, hgr2.output, hgr2.size, fun k hk _ => hgr2.block k hk (by simp)⟩, by simpa using hown2, fun g hg => by simp [Value.ownBlock] at hg; omega⟩
  clear hown2 hgr2 hi hz0 hz1 hz2
  go_wp2
  go_loopw [3, 4] (fun sv i wr => ∃ (q f : Nat) (D : List Int) (a2 : Option Addr) (c2 : Nat), i = .int .i64 q ∧ q ≤ n ∧ sv = .slice a2 D.length c2 ∧ BufAt w D (.slice a2 D.length c2) wr ∧ n ≤ q + f ∧ D ++ packL f (A.drop q) = T) (fun _ i _ => n - (intOf i).toNat)
  case atStart => exact ⟨0, n, [], _, _, rfl, Nat.zero_le _, rfl, HBUF.out, by omega, HTA.out⟩
  case round =>
    obtain ⟨q, f, D, a2, c2, rfl, hq, rfl, hbuf, hf, hD⟩ := hrel
    by_cases hlt : q < n
    · have HBF := hid hbuf
      have hDl : D.length ≤ 2560 := by have := HTL.out; rw [← hD] at this; simp at this; omega
      obtain ⟨f, rfl⟩ : ∃ g, f = g + 1 := ⟨f - 1, by omega⟩
      have hcq : wr.cell? ⟨b, o + q, none⟩ = some (.int .u64 (A.getD q 0)) := HBF.out.grows.cell (HS.out q hlt) trivial
      have hX := HB.out (A.getD q 0) (by have := HA.out; simp [List.getElem?_eq_getElem (show q < A.length by omega)])
      have hti : (q : Int) < (n : Int) := by omega
      rw [drop_cons A q (by have := HA.out; omega)] at hD
      simp only [packL] at hD
      generalize A.getD q 0 = X at *
      have htb := tag_bd X
      obtain ⟨htb0, htb1⟩ := htb
      clear hbuf
      by_cases hg0 : tagI X = 0
      · have s0 : (tagI X == 0) = true := by simpa using hg0
        obtain ⟨E, hE⟩ : ∃ E, ((cntP (· == 0) 255 (A.drop (q + 1)) : Nat) : Int) :: packL f ((A.drop (q + 1)).drop (cntP (· == 0) 255 (A.drop (q + 1)))) = E := ⟨_, rfl⟩
        have HD : Hid (D ++ (tagI X :: nzB 8 X ++ E) = T) := by
          unfold Hid
          rw [← hE, ← hD]
          simp [packStep, hg0]
        have HE := hid hE
        clear hD hE hg0
        go_wp2_with (first
          | (go_at_call 113; refine (tag_any X _ hX.1 hX.2).mono ?_; rintro e w' ⟨rfl, rfl⟩)
          | (at_builtin; refine wpList_app1 _ rfl _ _ 40 rfl 5 (.int .u8 0) 1 Facg.underlying40 info5 rfl (.slice a2 D.length c2) D.length (D.map (Value.int .u8)) rfl ?o1 w'.heap.size (.int .u8 (tagI X)) rfl ?o2 rfl ?o3 ?o4 ?_))
        case o1 => exact HBF.out.owns.alloc _
        case o2 => simp
        case o3 => unfold maxLen; omega
        case o4 => omega
        intro a3 c3 w3 hown3 hk3 hp3
        have HB3 : Hid (BufAt w (D ++ [tagI X]) (.slice a3 (D ++ [tagI X]).length c3) w3) := by
          unfold Hid
          have := HBF.out.app (E := [tagI X]) ((Kept.refl _ _).alloc _) hk3 (by simpa using hown3) (by simpa using hp3)
          simpa using this
        clear hown3 hk3 hp3 HBF
        go_wp2
        go_loopw [3, 5] (fun sv W wr => ∃ (x : Int) (f2 : Nat) (D2 : List Int) (a4 : Option Addr) (c4 : Nat), W = .int .u64 x ∧ 0 ≤ x ∧ x < 18446744073709551616 ∧ x < 256 ^ f2 ∧ sv = .slice a4 D2.length c4 ∧ BufAt w D2 (.slice a4 D2.length c4) wr ∧ D2 ++ (nzB f2 x ++ E) = T) (fun _ W _ => (intOf W).toNat)
        case atStart => exact ⟨X, 8, D ++ [tagI X], a3, c3, rfl, hX.1, hX.2, by simpa using hX.2, by simp, HB3.out, by rw [← HD.out]; simp⟩
        case round =>
          obtain ⟨x, f2, D2, a4, c4, rfl, hx0, hx1, hx2, rfl, hb4, hT⟩ := hrel
          have HB4 := hid hb4
          have HT4 := hid hT
          have hl4 : D2.length ≤ 2560 := by have := HTL.out; rw [← hT] at this; simp at this; omega
          clear hb4 hT
          by_cases hx : x = 0
          · have tx : (x != 0) = false := by simpa using hx
            have HT5 : Hid (D2 ++ E = T) := by have := HT4.out; rw [hx, nzB_zero] at this; exact this
            clear hx HT4
            have hzl := cntP_le (· == 0) 255 (A.drop (q + 1))
            have HA1 : Hid ((A.drop (q + 1)).length = n - (q + 1)) := by have := HA.out; unfold Hid; simp; omega
            rw [HA1.out] at hzl
            obtain ⟨hz1, hz2⟩ := hzl
            generalize hz : cntP (· == 0) 255 (A.drop (q + 1)) = z at *
            have HZ := hid hz
            clear hz
            by_cases hl : n = q + 1
            · have HR : Hid (Ints wr .u64 (.slice (some ⟨b, o, none⟩) 0 0) (A.drop (q + 1))) := rest_end (by have := HA.out; omega)
              have hl' : (n = q + 1) = True := eq_true hl
              have hl2 : n ≤ q + 1 := by omega
              clear hl
              go_wp2_with (first
                | (go_at_call 114; refine (zeros_any _ (A.drop (q + 1)) _ HR.out).mono ?_; rw [HZ.out]; rintro e w' ⟨rfl, rfl⟩)
                | (at_builtin; refine wpList_app1 _ rfl _ _ 40 rfl 5 (.int .u8 0) 1 Facg.underlying40 info5 rfl (.slice a4 D2.length c4) D2.length (D2.map (Value.int .u8)) rfl ?o1 wr.heap.size (.int .u8 (z : Int)) rfl ?o2 rfl ?o3 ?o4 ?_))
              case o1 => exact HB4.out.owns.alloc _
              case o2 => simp
              case o3 => unfold maxLen; omega
              case o4 => omega
              intro a5 c5 w5 hown5 hk5 hp5
              have HB5 : Hid (BufAt w (D2 ++ [(z : Int)]) (.slice a5 (D2 ++ [(z : Int)]).length c5) w5) := by
                unfold Hid
                have := HB4.out.app (E := [(z : Int)]) ((Kept.refl _ _).alloc _) hk5 (by simpa using hown5) (by simpa using hp5)
                simpa using this
              clear hown5 hk5 hp5
              go_wp2
              go_roundw
              case rel => exact ⟨q + z + 1, f, D2 ++ [(z : Int)], a5, c5, by go_num, by omega, by simp, HB5.out, by omega, by
                rw [← HT5.out, ← HE.out, List.drop_drop, show q + z + 1 = q + 1 + z by omega]
                simp⟩
              case measure => simp [intOf]; omega
            · have HR : Hid (Ints wr .u64 (.slice (some ⟨b, o + (q + 1), none⟩) (n - (q + 1)) (n - (q + 1))) (A.drop (q + 1))) := rest_mid (HA.out) (by omega) hn (fun x hx => HB.out x hx) (fun j hj => HB4.out.grows.cell (HS.out j hj) trivial)
              go_wp2_with (first
                | (go_at_call 114; refine (zeros_any _ (A.drop (q + 1)) _ HR.out).mono ?_; rw [HZ.out]; rintro e w' ⟨rfl, rfl⟩)
                | (at_builtin; refine wpList_app1 _ rfl _ _ 40 rfl 5 (.int .u8 0) 1 Facg.underlying40 info5 rfl (.slice a4 D2.length c4) D2.length (D2.map (Value.int .u8)) rfl ?o1 wr.heap.size (.int .u8 (z : Int)) rfl ?o2 rfl ?o3 ?o4 ?_))
              case o1 => exact HB4.out.owns.alloc _
              case o2 => simp
              case o3 => unfold maxLen; omega
              case o4 => omega
              intro a5 c5 w5 hown5 hk5 hp5
              have HB5 : Hid (BufAt w (D2 ++ [(z : Int)]) (.slice a5 (D2 ++ [(z : Int)]).length c5) w5) := by
                unfold Hid
                have := HB4.out.app (E := [(z : Int)]) ((Kept.refl _ _).alloc _) hk5 (by simpa using hown5) (by simpa using hp5)
                simpa using this
              clear hown5 hk5 hp5
              go_wp2
              go_roundw
              case rel => exact ⟨q + z + 1, f, D2 ++ [(z : Int)], a5, c5, by go_num, by omega, by simp, HB5.out, by omega, by
                rw [← HT5.out, ← HE.out, List.drop_drop, show q + z + 1 = q + 1 + z by omega]
                simp⟩
              case measure => simp [intOf]; omega
          · have tx : (x != 0) = true := by simpa using hx
            obtain ⟨g, rfl⟩ := fuel_pos hx0 hx2 hx
            have hg2 : x / 256 < 256 ^ g := by rw [Int.pow_succ] at hx2; generalize (256 : Int) ^ g = Y at *; omega
            by_cases hy : x % 256 = 0
            · have ty : (x % 256 != 0) = false := by simpa using hy
              have HT5 : Hid (D2 ++ (nzB g (x / 256) ++ E) = T) := by have := HT4.out; simp only [nzB] at this; rw [if_neg hx, if_pos hy] at this; exact this
              clear HT4 hy hx2
              go_wp2
              go_roundw
              case rel => exact ⟨x / 256, g, D2, a4, c4, rfl, by omega, by omega, hg2, rfl, HB4.out, HT5.out⟩
              case measure => simp [intOf]; omega
            · have ty : (x % 256 != 0) = true := by simpa using hy
              have HT5 : Hid ((D2 ++ [x % 256]) ++ (nzB g (x / 256) ++ E) = T) := by have := HT4.out; simp only [nzB] at this; rw [if_neg hx, if_neg hy] at this; unfold Hid; simpa using this
              clear HT4 hy hx2
              go_wp2_with (at_builtin; refine wpList_app1 _ rfl _ _ 40 rfl 5 (.int .u8 0) 1 Facg.underlying40 info5 rfl (.slice a4 D2.length c4) D2.length (D2.map (Value.int .u8)) rfl ?o1 wr.heap.size (.int .u8 (x % 256)) rfl ?o2 rfl ?o3 ?o4 ?_)
              case o1 => exact HB4.out.owns.alloc _
              case o2 => simp
              case o3 => unfold maxLen; omega
              case o4 => omega
              intro a5 c5 w5 hown5 hk5 hp5
              have HB5 : Hid (BufAt w (D2 ++ [x % 256]) (.slice a5 (D2 ++ [x % 256]).length c5) w5) := by
                unfold Hid
                have := HB4.out.app (E := [x % 256]) ((Kept.refl _ _).alloc _) hk5 (by simpa using hown5) (by simpa using hp5)
                simpa using this
              clear hown5 hk5 hp5
              go_wp2
              go_roundw
              case rel => exact ⟨x / 256, g, D2 ++ [x % 256], a5, c5, rfl, by omega, by omega, hg2, by simp, HB5.out, HT5.out⟩
              case measure => simp [intOf]; omega


      by_cases hg1 : tagI X = 255
      · have s0 : (tagI X == 0) = false := by simpa using hg0
        have s1 : (tagI X == 255) = true := by simpa using hg1
        obtain ⟨E, hE⟩ : ∃ E, ((cntP (fun y => denseT (tagI y)) 255 (A.drop (q + 1)) : Nat) : Int) :: (((A.drop (q + 1)).take (cntP (fun y => denseT (tagI y)) 255 (A.drop (q + 1)))).flatMap bytes8 ++ packL f ((A.drop (q + 1)).drop (cntP (fun y => denseT (tagI y)) 255 (A.drop (q + 1))))) = E := ⟨_, rfl⟩
        have HD : Hid (D ++ (tagI X :: nzB 8 X ++ E) = T) := by
          unfold Hid
          rw [← hE, ← hD]
          simp [packStep, hg1]
        have HE := hid hE
        clear hD hE hg0 hg1
        go_wp2_with (first
          | (go_at_call 113; refine (tag_any X _ hX.1 hX.2).mono ?_; rintro e w' ⟨rfl, rfl⟩)
          | (at_builtin; refine wpList_app1 _ rfl _ _ 40 rfl 5 (.int .u8 0) 1 Facg.underlying40 info5 rfl (.slice a2 D.length c2) D.length (D.map (Value.int .u8)) rfl ?o1 w'.heap.size (.int .u8 (tagI X)) rfl ?o2 rfl ?o3 ?o4 ?_))
        case o1 => exact HBF.out.owns.alloc _
        case o2 => simp
        case o3 => unfold maxLen; omega
        case o4 => omega
        intro a3 c3 w3 hown3 hk3 hp3
        have HB3 : Hid (BufAt w (D ++ [tagI X]) (.slice a3 (D ++ [tagI X]).length c3) w3) := by
          unfold Hid
          have := HBF.out.app (E := [tagI X]) ((Kept.refl _ _).alloc _) hk3 (by simpa using hown3) (by simpa using hp3)
          simpa using this
        clear hown3 hk3 hp3 HBF
        go_wp2
        go_loopw [3, 5] (fun sv W wr => ∃ (x : Int) (f2 : Nat) (D2 : List Int) (a4 : Option Addr) (c4 : Nat), W = .int .u64 x ∧ 0 ≤ x ∧ x < 18446744073709551616 ∧ x < 256 ^ f2 ∧ sv = .slice a4 D2.length c4 ∧ BufAt w D2 (.slice a4 D2.length c4) wr ∧ D2 ++ (nzB f2 x ++ E) = T) (fun _ W _ => (intOf W).toNat)
        case atStart => exact ⟨X, 8, D ++ [tagI X], a3, c3, rfl, hX.1, hX.2, by simpa using hX.2, by simp, HB3.out, by rw [← HD.out]; simp⟩
        case round =>
          obtain ⟨x, f2, D2, a4, c4, rfl, hx0, hx1, hx2, rfl, hb4, hT⟩ := hrel
          have HB4 := hid hb4
          have HT4 := hid hT
          have hl4 : D2.length ≤ 2560 := by have := HTL.out; rw [← hT] at this; simp at this; omega
          clear hb4 hT
          by_cases hx : x = 0
          · have tx : (x != 0) = false := by simpa using hx
            have HT5 : Hid (D2 ++ E = T) := by have := HT4.out; rw [hx, nzB_zero] at this; exact this
            clear hx HT4
            have hzl := cntP_le (fun y => denseT (tagI y)) 255 (A.drop (q + 1))
            have HA1 : Hid ((A.drop (q + 1)).length = n - (q + 1)) := by have := HA.out; unfold Hid; simp; omega
            rw [HA1.out] at hzl
            obtain ⟨hz1, hz2⟩ := hzl
            generalize hz : cntP (fun y => denseT (tagI y)) 255 (A.drop (q + 1)) = z at *
            have HZ := hid hz
            clear hz
            by_cases hl : n = q + 1
            · have HR : Hid (Ints wr .u64 (.slice (some ⟨b, o, none⟩) 0 0) (A.drop (q + 1))) := rest_end (by have := HA.out; omega)
              have hl' : (n = q + 1) = True := eq_true hl
              have hl2 : n ≤ q + 1 := by omega
              clear hl
              go_wp2_with (first
                | (go_at_call 115; refine (dense_any _ (A.drop (q + 1)) _ HR.out).mono ?_; rw [HZ.out]; rintro e w' ⟨rfl, rfl⟩)
                | (at_builtin; refine wpList_app1 _ rfl _ _ 40 rfl 5 (.int .u8 0) 1 Facg.underlying40 info5 rfl (.slice a4 D2.length c4) D2.length (D2.map (Value.int .u8)) rfl ?o1 wr.heap.size (.int .u8 (z : Int)) rfl ?o2 rfl ?o3 ?o4 ?_))
              case o1 => exact HB4.out.owns.alloc _
              case o2 => simp
              case o3 => unfold maxLen; omega
              case o4 => omega
              intro a5 c5 w5 hown5 hk5 hp5
              have HB5 : Hid (BufAt w (D2 ++ [(z : Int)]) (.slice a5 (D2 ++ [(z : Int)]).length c5) w5) := by
                unfold Hid
                have := HB4.out.app (E := [(z : Int)]) ((Kept.refl _ _).alloc _) hk5 (by simpa using hown5) (by simpa using hp5)
                simpa using this
              clear hown5 hk5 hp5
              have HT5' : Hid ((((D2 ++ [(z : Int)]) ++ (((A.drop (q + 1)).take z).drop 0).flatMap bytes8) ++ packL f ((A.drop (q + 1)).drop z)) = T) := by
                unfold Hid
                rw [← HT5.out, ← HE.out]
                simp
              go_wp2
              go_loopw [3, 88, 11, 12] (fun sv t _ _ wr => ∃ (j : Nat) (D6 : List Int) (a6 : Option Addr) (c6 : Nat), t = .int .i64 j ∧ j ≤ z ∧ sv = .slice a6 D6.length c6 ∧ BufAt w D6 (.slice a6 D6.length c6) wr ∧ (D6 ++ (((A.drop (q + 1)).take z).drop j).flatMap bytes8) ++ packL f ((A.drop (q + 1)).drop z) = T) (fun _ t _ _ _ => z - (intOf t).toNat)
              case atStart => exact ⟨0, D2 ++ [(z : Int)], a5, c5, rfl, Nat.zero_le _, by simp, HB5.out, HT5'.out⟩
              case round =>
                obtain ⟨j, D6, a6, c6, rfl, hjz0, rfl, hb6, hT6⟩ := hrel
                have HB6 := hid hb6
                have HT6 := hid hT6
                have hl6 : D6.length ≤ 2560 := by have := HTL.out; rw [← hT6] at this; simp at this; omega
                clear hb6 hT6
                by_cases hjz : j < z
                · exact absurd hjz (by omega)
                · have HT7 : Hid (D6 ++ packL f (A.drop (q + z + 1)) = T) := by
                    unfold Hid
                    rw [← HT6.out, drop_take_nil A q z j hjz, List.drop_drop, show q + z + 1 = q + 1 + z by omega]
                    simp
                  clear HT6
                  go_wp2
                  go_roundw
                  case rel => exact ⟨q + z + 1, f, D6, a6, c6, by go_num, by omega, rfl, HB6.out, by omega, HT7.out⟩
                  case measure => simp [intOf]; omega
            · have HR : Hid (Ints wr .u64 (.slice (some ⟨b, o + (q + 1), none⟩) (n - (q + 1)) (n - (q + 1))) (A.drop (q + 1))) := rest_mid (HA.out) (by omega) hn (fun x hx => HB.out x hx) (fun j hj => HB4.out.grows.cell (HS.out j hj) trivial)
              go_wp2_with (first
                | (go_at_call 115; refine (dense_any _ (A.drop (q + 1)) _ HR.out).mono ?_; rw [HZ.out]; rintro e w' ⟨rfl, rfl⟩)
                | (at_builtin; refine wpList_app1 _ rfl _ _ 40 rfl 5 (.int .u8 0) 1 Facg.underlying40 info5 rfl (.slice a4 D2.length c4) D2.length (D2.map (Value.int .u8)) rfl ?o1 wr.heap.size (.int .u8 (z : Int)) rfl ?o2 rfl ?o3 ?o4 ?_))
              case o1 => exact HB4.out.owns.alloc _
              case o2 => simp
              case o3 => unfold maxLen; omega
              case o4 => omega
              intro a5 c5 w5 hown5 hk5 hp5
              have HB5 : Hid (BufAt w (D2 ++ [(z : Int)]) (.slice a5 (D2 ++ [(z : Int)]).length c5) w5) := by
                unfold Hid
                have := HB4.out.app (E := [(z : Int)]) ((Kept.refl _ _).alloc _) hk5 (by simpa using hown5) (by simpa using hp5)
                simpa using this
              clear hown5 hk5 hp5
              have HT5' : Hid ((((D2 ++ [(z : Int)]) ++ (((A.drop (q + 1)).take z).drop 0).flatMap bytes8) ++ packL f ((A.drop (q + 1)).drop z)) = T) := by
                unfold Hid
                rw [← HT5.out, ← HE.out]
                simp
              go_wp2
              go_loopw [3, 88, 11, 12] (fun sv t _ _ wr => ∃ (j : Nat) (D6 : List Int) (a6 : Option Addr) (c6 : Nat), t = .int .i64 j ∧ j ≤ z ∧ sv = .slice a6 D6.length c6 ∧ BufAt w D6 (.slice a6 D6.length c6) wr ∧ (D6 ++ (((A.drop (q + 1)).take z).drop j).flatMap bytes8) ++ packL f ((A.drop (q + 1)).drop z) = T) (fun _ t _ _ _ => z - (intOf t).toNat)
              case atStart => exact ⟨0, D2 ++ [(z : Int)], a5, c5, rfl, Nat.zero_le _, by simp, HB5.out, HT5'.out⟩
              case round =>
                obtain ⟨j, D6, a6, c6, rfl, hjz0, rfl, hb6, hT6⟩ := hrel
                have HB6 := hid hb6
                have HT6 := hid hT6
                have hl6 : D6.length ≤ 2560 := by have := HTL.out; rw [← hT6] at this; simp at this; omega
                clear hb6 hT6
                by_cases hjz : j < z
                · have hjl : q + 1 + j < A.length := by have := HA.out; omega
                  have hcj : wr.cell? ⟨b, o + (q + 1) + j, none⟩ = some (.int .u64 (A.getD (q + 1 + j) 0)) := by rw [Nat.add_assoc o]; exact HB6.out.grows.cell (HS.out (q + 1 + j) (by omega)) trivial
                  have hY := HB.out (A.getD (q + 1 + j) 0) (by simp [List.getElem?_eq_getElem hjl])
                  have HT7 : Hid (((D6 ++ bytes8 (A.getD (q + 1 + j) 0)) ++ (((A.drop (q + 1)).take z).drop (j + 1)).flatMap bytes8) ++ packL f ((A.drop (q + 1)).drop z) = T) := by
                    unfold Hid
                    rw [← HT6.out, drop_take_cons A q z j hjz hjl]
                    simp
                  have hjz' : (j : Int) < (z : Int) := by omega
                  clear HT6
                  generalize A.getD (q + 1 + j) 0 = Y at *
                  have HBY := hid (fun w => bytes_lit Y w hY.1 hY.2)
                  go_wp2_with (first
                    | (go_at_call 59; refine (HBY.out _).mono ?_; rintro e wA ⟨rfl, hbel⟩; have HGA := hid (Grows.of_below hbel); clear hbel)
                    | (at_builtin; refine wpList_app _ rfl _ _ 40 rfl 5 (.int .u8 0) 1 1 Facg.underlying40 info5 rfl (by decide) (.slice a6 D6.length c6) D6.length (D6.map (Value.int .u8)) rfl ?p1 ⟨wA.heap.size, 0, none⟩ 8 8 ((bytes8 Y).map (Value.int .u8)) rfl rfl ?p2 ?p3 ?p4 ?p5 ?_))
                  case p1 => exact (HB6.out.grow HGA.out).owns.alloc _
                  case p2 => exact cells8_new _ _ _ _ _ _ _ _ _
                  case p3 => exact fun u hu => by obtain ⟨y, _, rfl⟩ := List.mem_map.1 hu; rfl
                  case p4 => unfold maxLen; omega
                  case p5 => omega
                  intro a7 c7 w7 hown7 hk7 hp7
                  have HB7 : Hid (BufAt w (D6 ++ bytes8 Y) (.slice a7 (D6 ++ bytes8 Y).length c7) w7) := by
                    unfold Hid
                    have := (HB6.out.grow HGA.out).app (E := bytes8 Y) ((Kept.refl _ _).alloc _) hk7 (by simpa [bytes8] using hown7) (by simpa using hp7)
                    simpa [bytes8] using this
                  clear hown7 hk7 hp7
                  go_wp2
                  go_roundw
                  case rel => exact ⟨j + 1, D6 ++ bytes8 Y, a7, c7, by go_num, by omega, by simp [bytes8], HB7.out, HT7.out⟩
                  case measure => simp [intOf]; omega
                · have HT7 : Hid (D6 ++ packL f (A.drop (q + z + 1)) = T) := by
                    unfold Hid
                    rw [← HT6.out, drop_take_nil A q z j hjz, List.drop_drop, show q + z + 1 = q + 1 + z by omega]
                    simp
                  clear HT6
                  go_wp2
                  go_roundw
                  case rel => exact ⟨q + z + 1, f, D6, a6, c6, by go_num, by omega, rfl, HB6.out, by omega, HT7.out⟩
                  case measure => simp [intOf]; omega
          · have tx : (x != 0) = true := by simpa using hx
            obtain ⟨g, rfl⟩ := fuel_pos hx0 hx2 hx
            have hg2 : x / 256 < 256 ^ g := by rw [Int.pow_succ] at hx2; generalize (256 : Int) ^ g = Y at *; omega
            by_cases hy : x % 256 = 0
            · have ty : (x % 256 != 0) = false := by simpa using hy
              have HT5 : Hid (D2 ++ (nzB g (x / 256) ++ E) = T) := by have := HT4.out; simp only [nzB] at this; rw [if_neg hx, if_pos hy] at this; exact this
              clear HT4 hy hx2
              go_wp2
              go_roundw
              case rel => exact ⟨x / 256, g, D2, a4, c4, rfl, by omega, by omega, hg2, rfl, HB4.out, HT5.out⟩
              case measure => simp [intOf]; omega
            · have ty : (x % 256 != 0) = true := by simpa using hy
              have HT5 : Hid ((D2 ++ [x % 256]) ++ (nzB g (x / 256) ++ E) = T) := by have := HT4.out; simp only [nzB] at this; rw [if_neg hx, if_neg hy] at this; unfold Hid; simpa using this
              clear HT4 hy hx2
              go_wp2_with (at_builtin; refine wpList_app1 _ rfl _ _ 40 rfl 5 (.int .u8 0) 1 Facg.underlying40 info5 rfl (.slice a4 D2.length c4) D2.length (D2.map (Value.int .u8)) rfl ?o1 wr.heap.size (.int .u8 (x % 256)) rfl ?o2 rfl ?o3 ?o4 ?_)
              case o1 => exact HB4.out.owns.alloc _
              case o2 => simp
              case o3 => unfold maxLen; omega
              case o4 => omega
              intro a5 c5 w5 hown5 hk5 hp5
              have HB5 : Hid (BufAt w (D2 ++ [x % 256]) (.slice a5 (D2 ++ [x % 256]).length c5) w5) := by
                unfold Hid
                have := HB4.out.app (E := [x % 256]) ((Kept.refl _ _).alloc _) hk5 (by simpa using hown5) (by simpa using hp5)
                simpa using this
              clear hown5 hk5 hp5
              go_wp2
              go_roundw
              case rel => exact ⟨x / 256, g, D2 ++ [x % 256], a5, c5, rfl, by omega, by omega, hg2, by simp, HB5.out, HT5.out⟩
              case measure => simp [intOf]; omega


      have s0 : (tagI X == 0) = false := by simpa using hg0
      have s1 : (tagI X == 255) = false := by simpa using hg1
      obtain ⟨E, hE⟩ : ∃ E, packL f (A.drop (q + 1)) = E := ⟨_, rfl⟩
      have HD : Hid (D ++ (tagI X :: nzB 8 X ++ E) = T) := by
        unfold Hid
        rw [← hE, ← hD]
        simp [packStep, hg0, hg1]
      have HE := hid hE
      clear hD hE hg0 hg1
      go_wp2_with (first
        | (go_at_call 113; refine (tag_any X _ hX.1 hX.2).mono ?_; rintro e w' ⟨rfl, rfl⟩)
        | (at_builtin; refine wpList_app1 _ rfl _ _ 40 rfl 5 (.int .u8 0) 1 Facg.underlying40 info5 rfl (.slice a2 D.length c2) D.length (D.map (Value.int .u8)) rfl ?o1 w'.heap.size (.int .u8 (tagI X)) rfl ?o2 rfl ?o3 ?o4 ?_))
      case o1 => exact HBF.out.owns.alloc _
      case o2 => simp
      case o3 => unfold maxLen; omega
      case o4 => omega
      intro a3 c3 w3 hown3 hk3 hp3
      have HB3 : Hid (BufAt w (D ++ [tagI X]) (.slice a3 (D ++ [tagI X]).length c3) w3) := by
        unfold Hid
        have := HBF.out.app (E := [tagI X]) ((Kept.refl _ _).alloc _) hk3 (by simpa using hown3) (by simpa using hp3)
        simpa using this
      clear hown3 hk3 hp3 HBF
      go_wp2
      go_loopw [3, 5] (fun sv W wr => ∃ (x : Int) (f2 : Nat) (D2 : List Int) (a4 : Option Addr) (c4 : Nat), W = .int .u64 x ∧ 0 ≤ x ∧ x < 18446744073709551616 ∧ x < 256 ^ f2 ∧ sv = .slice a4 D2.length c4 ∧ BufAt w D2 (.slice a4 D2.length c4) wr ∧ D2 ++ (nzB f2 x ++ E) = T) (fun _ W _ => (intOf W).toNat)
      case atStart => exact ⟨X, 8, D ++ [tagI X], a3, c3, rfl, hX.1, hX.2, by simpa using hX.2, by simp, HB3.out, by rw [← HD.out]; simp⟩
      case round =>
        obtain ⟨x, f2, D2, a4, c4, rfl, hx0, hx1, hx2, rfl, hb4, hT⟩ := hrel
        have HB4 := hid hb4
        have HT4 := hid hT
        have hl4 : D2.length ≤ 2560 := by have := HTL.out; rw [← hT] at this; simp at this; omega
        clear hb4 hT
        by_cases hx : x = 0
        · have tx : (x != 0) = false := by simpa using hx
          have HT5 : Hid (D2 ++ E = T) := by have := HT4.out; rw [hx, nzB_zero] at this; exact this
          clear hx HT4
          go_wp2
          go_roundw
          case rel => exact ⟨q + 1, f, D2, a4, c4, by go_num, by omega, rfl, HB4.out, by omega, by rw [HE.out]; exact HT5.out⟩
          case measure => simp [intOf]; omega
        · have tx : (x != 0) = true := by simpa using hx
          obtain ⟨g, rfl⟩ := fuel_pos hx0 hx2 hx
          have hg2 : x / 256 < 256 ^ g := by rw [Int.pow_succ] at hx2; generalize (256 : Int) ^ g = Y at *; omega
          by_cases hy : x % 256 = 0
          · have ty : (x % 256 != 0) = false := by simpa using hy
            have HT5 : Hid (D2 ++ (nzB g (x / 256) ++ E) = T) := by have := HT4.out; simp only [nzB] at this; rw [if_neg hx, if_pos hy] at this; exact this
            clear HT4 hy hx2
            go_wp2
            go_roundw
            case rel => exact ⟨x / 256, g, D2, a4, c4, rfl, by omega, by omega, hg2, rfl, HB4.out, HT5.out⟩
            case measure => simp [intOf]; omega
          · have ty : (x % 256 != 0) = true := by simpa using hy
            have HT5 : Hid ((D2 ++ [x % 256]) ++ (nzB g (x / 256) ++ E) = T) := by have := HT4.out; simp only [nzB] at this; rw [if_neg hx, if_neg hy] at this; unfold Hid; simpa using this
            clear HT4 hy hx2
            go_wp2_with (at_builtin; refine wpList_app1 _ rfl _ _ 40 rfl 5 (.int .u8 0) 1 Facg.underlying40 info5 rfl (.slice a4 D2.length c4) D2.length (D2.map (Value.int .u8)) rfl ?o1 wr.heap.size (.int .u8 (x % 256)) rfl ?o2 rfl ?o3 ?o4 ?_)
            case o1 => exact HB4.out.owns.alloc _
            case o2 => simp
            case o3 => unfold maxLen; omega
            case o4 => omega
            intro a5 c5 w5 hown5 hk5 hp5
            have HB5 : Hid (BufAt w (D2 ++ [x % 256]) (.slice a5 (D2 ++ [x % 256]).length c5) w5) := by
              unfold Hid
              have := HB4.out.app (E := [x % 256]) ((Kept.refl _ _).alloc _) hk5 (by simpa using hown5) (by simpa using hp5)
              simpa using this
            clear hown5 hk5 hp5
            go_wp2
            go_roundw
            case rel => exact ⟨x / 256, g, D2 ++ [x % 256], a5, c5, rfl, by omega, by omega, hg2, by simp, HB5.out, HT5.out⟩
            case measure => simp [intOf]; omega

    · have hfin : D = T := by
        rw [← hD, List.drop_eq_nil_of_le (by have := HA.out; omega)]
        cases f <;> simp [packL]
      have HF : Hid (BufAt w T (.slice a2 D.length c2) wr) := by unfold Hid; rw [← hfin]; exact hbuf
      clear hbuf hD hfin
      go_wp2
      go_ret
      exact ⟨_, rfl, HF.out⟩
end Go.Proofs.Ygcfac
