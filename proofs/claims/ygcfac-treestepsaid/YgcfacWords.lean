/-
  frame.words: walked.
-/
import Derived.Test.YgcfacUnpack
namespace Go.Proofs.Ygcfac
open Go.RowKit
set_option linter.unusedVariables false

theorem hide {p : Prop} (h : p) : Hid p := h

/-! ### frame.words -/
/-- The bytes of a list, as a function. -/
def at_ (S : List Int) (j : Nat) : Int := S.getD j 0
def plainW (S : List Int) (n : Nat) : List Int := (List.range n).map fun q => wordAt (at_ S) (8 * q)
def wordsF (S : List Int) (packed : Bool) (n : Nat) : Option (List Int) :=
  if packed then unpackF S else if S.length = 8 * n then some (plainW S n) else none

theorem plainW_succ (S : List Int) (n : Nat) : plainW S (n + 1) = plainW S n ++ [wordAt (at_ S) (8 * n)] := by simp [plainW, List.range_succ]
theorem plainW_length (S : List Int) (n : Nat) : (plainW S n).length = n := by simp [plainW]

theorem at_bd {S : List Int} (h : ∀ x ∈ S, (Lit.int .u8 x).wf = true) (j : Nat) : 0 ≤ at_ S j ∧ at_ S j < 256 := by
  have := bytes_bd h 0 j
  simpa [at_] using this

theorem set_next (A : List Value) (z u : Value) (j n : Nat) (hA : A.length = j) (hj : j < n) : (A ++ List.replicate (n - j) z).set j u = (A ++ [u]) ++ List.replicate (n - (j + 1)) z := by
  obtain ⟨m, hm⟩ : ∃ m, n - j = m + 1 := ⟨n - j - 1, by omega⟩
  rw [hm, List.replicate_succ, show n - (j + 1) = m by omega]
  subst hA
  simp

theorem words_packed (v : Value) (S : List Int) (n : Int) (w : World) (hv : Ints w .u8 v S) :
    Calls Facg.prog 62 #[v, .bool true, .int .i64 n] w (UnpackPost w (unpackF S)) := by
  have h := unpack_any v S w hv
  clear hv
  generalize unpackF S = r at *
  cases r with
  | none =>
    have H : Hid (Calls Facg.prog 65 #[v] w (UnpackPost w none)) := h
    clear h
    go_enter Facg.func62, Facg.ntmps62
    go_wp2_with (go_at_call 65; refine H.out.mono ?_; rintro e w' ⟨hg, rfl⟩; have HG := hide hg; clear hg)
    go_ret2
    exact ⟨HG.out, rfl⟩
  | some xs =>
    have H : Hid (Calls Facg.prog 65 #[v] w (UnpackPost w (some xs))) := h
    clear h
    go_enter Facg.func62, Facg.ntmps62
    go_wp2_with (go_at_call 65; refine H.out.mono ?_; rintro e w' ⟨hg, v', rfl, hi⟩; have HG := hide hg; have HI := hide hi; clear hg hi)
    go_ret2
    exact ⟨HG.out, v', rfl, HI.out⟩

theorem words_none (a : Option Addr) (l c n : Nat) (w : World) (hl : l ≤ 9223372036854775807) (hn : n ≤ 256) (h : ¬ l = 8 * n) :
    Calls Facg.prog 62 #[.slice a l c, .bool false, .int .i64 n] w (UnpackPost w none) := by
  have hb : ((l : Int) != 8 * (n : Int)) = true := by simp; omega
  go_enter Facg.func62, Facg.ntmps62
  go_wp2
  go_ret2
  exact ⟨Kept.refl _ _, rfl⟩

theorem words_zero (a : Option Addr) (c : Nat) (w : World) :
    Calls Facg.prog 62 #[.slice a 0 c, .bool false, .int .i64 0] w (UnpackPost w (some [])) := by
  go_enter Facg.func62, Facg.ntmps62
  go_wp2
  go_ret2
  exact ⟨Kept.refl _ _, _, rfl, none, 0, rfl, Nat.le_refl _, by decide, by simp, fun h => absurd rfl h⟩

set_option maxRecDepth 10000 in
set_option maxHeartbeats 1000000 in
theorem words_plain (b o c n : Nat) (s : Nat → Int) (w : World) (hn : n ≤ 256) (hn0 : 0 < n) (hc : 8 * n ≤ c) (hcm : c ≤ 9223372036854775807)
    (hB : ∀ j, 0 ≤ s j ∧ s j < 256) (hS : ∀ j, j < 8 * n → w.cell? ⟨b, o + j, none⟩ = some (.int .u8 (s j))) :
    Calls Facg.prog 62 #[.slice (some ⟨b, o, none⟩) (8 * n) c, .bool false, .int .i64 n] w fun e w' => Grows w w' ∧ ∃ v, e = .returned (.tuple #[v, .bool true]) ∧ w'.ownsRow 0 38 1 v n (((List.range n).map fun q => wordAt s (8 * q)).map (Value.int .u64)) := by
  have HS : Hid (∀ j, j < 8 * n → w.cell? ⟨b, o + j, none⟩ = some (.int .u8 (s j))) := hS
  have HB : Hid (∀ j, 0 ≤ s j ∧ s j < 256) := hB
  clear hS hB
  obtain ⟨i38, hi, hz0, hz1, hz2⟩ := info_parts info38
  have hb : (((8 * n : Nat) : Int) != 8 * (n : Int)) = false := by simp
  have hb0 : ((n : Int) == 0) = false := by simp; omega
  go_enter Facg.func62, Facg.ntmps62
  go_wp2_with (at_make; go_loud (refine wpList_make_full _ rfl _ _ 22 rfl 0 38 i38 (.int .u64 0) 1 Facg.underlying22 hi hz0 hz1 _ _ _ _ n rfl rfl rfl rfl ?i5 ?i6 ?i7 ?_))
  case i5 => rw [hz2]; omega
  case i6 => unfold maxLen; omega
  case i7 => exact Nat.zero_le _
  intro w2 hown2 hgr2
  have HO : Hid (w2.ownsRow 0 38 1 (.slice (some ⟨w.heap.size, 0, none⟩) n n) n (List.replicate n (.int .u64 0))) := by
    unfold Hid
    rw [toList_madeCells_one] at hown2
    exact hown2
  have HK : Hid (Grows w w2) := ⟨hgr2.os, hgr2.tape, hgr2.output, hgr2.size, fun k hk _ => hgr2.block k hk (by simp)⟩
  clear hown2 hgr2 hi hz0 hz1 hz2
  go_wp2
  go_loopw [26, 9] (fun t _ wr => ∃ j : Nat, t = .int .i64 j ∧ j ≤ n ∧ Grows w wr ∧ wr.ownsRow 0 38 1 (.slice (some ⟨w.heap.size, 0, none⟩) n n) n ((((List.range j).map fun q => wordAt s (8 * q)).map (Value.int .u64)) ++ List.replicate (n - j) (.int .u64 0))) (fun t _ _ => n - (intOf t).toNat)
  case atStart => exact ⟨0, rfl, Nat.zero_le _, HK.out, by simpa using HO.out⟩
  case round =>
    obtain ⟨j, rfl, hj, hgr, hown⟩ := hrel
    by_cases hlt : j < n
    · have hd : ∀ t, t < 8 → wr.cell? ⟨b, o + 8 * j + t, none⟩ = some (.int .u8 (s (8 * j + t))) := fun t ht => by rw [Nat.add_assoc o]; exact hgr.cell (HS.out (8 * j + t) (by omega)) trivial
      have q0 : wr.cell? ⟨b, o + 8 * j, none⟩ = some (.int .u8 (s (8 * j))) := hd 0 (by omega)
      have q1 := hd 1 (by omega)
      have q2 := hd 2 (by omega)
      have q3 := hd 3 (by omega)
      have q4 := hd 4 (by omega)
      have q5 := hd 5 (by omega)
      have q6 := hd 6 (by omega)
      have q7 := hd 7 (by omega)
      have harr := fun (a : Option Addr) (c : Nat) (w : World) => run_arrayAt (P := Facg.prog) (w := w) 110 5 8 a 8 c Facg.underlying110 (by decide)
      have HGR : Hid (Grows w wr) := hgr
      have HOW : Hid (wr.ownsRow 0 38 1 (.slice (some ⟨w.heap.size, 0, none⟩) n n) n ((((List.range j).map fun q => wordAt s (8 * q)).map (Value.int .u64)) ++ List.replicate (n - j) (.int .u64 0))) := hown
      clear hd hgr hown
      have hji : (j : Int) < (n : Int) := by omega
      go_wp2_with fail
      refine (word_any _ _ _ _ _ _ _ _ (HB.out _) (HB.out _) (HB.out _) (HB.out _) (HB.out _) (HB.out _) (HB.out _) (HB.out _) _).mono ?_
      rintro e wA ⟨rfl, hbel⟩
      have HGA : Hid (Grows w wA) := HGR.out.trans (Grows.of_below hbel)
      have HOA : Hid (wA.ownsRow 0 38 1 (.slice (some ⟨w.heap.size, 0, none⟩) n n) n ((((List.range j).map fun q => wordAt s (8 * q)).map (Value.int .u64)) ++ List.replicate (n - j) (.int .u64 0))) := owns_kept HOW.out (Grows.of_below hbel) (fun _ _ => trivial)
      have hcl : wA.cell? ⟨w.heap.size, j, none⟩ = some (.int .u64 0) := by
        rw [HOA.out.cellAt j (by omega), List.getElem?_append_right (by simp)]
        simp [List.getElem?_replicate]
        omega
      have hfr : wA.frozen? ⟨w.heap.size, j, none⟩ = false := HOA.out.frozenAt j
      have HOB : Hid ((wA.setCell ⟨w.heap.size, j, none⟩ (.int .u64 (wordAt s (8 * j)))).ownsRow 0 38 1 (.slice (some ⟨w.heap.size, 0, none⟩) n n) n ((((List.range (j + 1)).map fun q => wordAt s (8 * q)).map (Value.int .u64)) ++ List.replicate (n - (j + 1)) (.int .u64 0))) := by
        unfold Hid
        have := (HOA.out.stored j (.int .u64 (wordAt s (8 * j)))).1
        rw [set_next _ _ _ j n (by simp) hlt] at this
        rw [List.range_succ, List.map_append, List.map_append]
        exact this
      clear q0 q1 q2 q3 q4 q5 q6 q7 harr hbel HOW HGR
      go_wp2
      go_roundw
      case rel => exact ⟨j + 1, by go_num, by omega, HGA.out.setCell (.inl (Nat.le_refl _)) _, HOB.out⟩
      case measure => simp [intOf]; omega
    · have hjn : n - j = 0 := by omega
      rw [show j = n by omega] at hown
      have HOW : Hid (wr.ownsRow 0 38 1 (.slice (some ⟨w.heap.size, 0, none⟩) n n) n (((List.range n).map fun q => wordAt s (8 * q)).map (Value.int .u64))) := by unfold Hid; simpa using hown
      have HGR : Hid (Grows w wr) := hgr
      clear hown hgr hjn
      go_wp2
      go_ret2
      exact ⟨HGR.out, _, rfl, HOW.out⟩

/-- frame.words. -/
theorem words_any (v : Value) (S : List Int) (packed : Bool) (n : Nat) (w : World) (hv : Ints w .u8 v S) (hn : n ≤ 256) :
    Calls Facg.prog 62 #[v, .bool packed, .int .i64 n] w (UnpackPost w (wordsF S packed n)) := by
  unfold wordsF
  cases packed with
  | true => exact words_packed v S n w hv
  | false =>
    simp only [Bool.false_eq_true, if_false]
    obtain ⟨a, c, rfl, hc, hm, hw, hr⟩ := hv
    unfold maxLen at hm
    by_cases hl : S.length = 8 * n
    · rw [if_pos hl]
      by_cases h0 : n = 0
      · subst h0
        rw [hl]
        exact words_zero a c w
      · obtain ⟨b, o, rfl, hcell⟩ := hr (fun h => by subst h; simp at hl; omega)
        rw [hl]
        refine (words_plain b o c n (at_ S) w hn (by omega) (by omega) (by omega) (at_bd hw) (fun j hj => hcell j (by omega))).mono ?_
        rintro e w' ⟨hg, v, rfl, ho⟩
        refine ⟨hg, v, rfl, Ints.of_owns ho (fun x hx => ?_)⟩
        obtain ⟨q, _, rfl⟩ := List.mem_map.1 hx
        have := wordAt_bd (at_ S) (at_bd hw) (8 * q)
        exact wf_u64 this.1 this.2
    · rw [if_neg hl]
      exact words_none a S.length c n w (by omega) hn hl
end Go.Proofs.Ygcfac
