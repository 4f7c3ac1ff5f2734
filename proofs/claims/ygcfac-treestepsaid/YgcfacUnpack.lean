/-
  frame.Sum, pack.Unpack: walked.
-/
import Derived.Test.YgcfacStep
import Derived.Test.YgcfacUnpackWalk
import Derived.Deep.RegionHeldLaw
import Derived.OpenShut
namespace Go.Proofs.Ygcfac
open Go.RowKit
set_option linter.unusedVariables false

/-! ### The checksum -/
def sumStep (h c : Int) : Int := IntKind.u32.wrap (bits .xor .u32 h c * 16777619)
def sumFrom (h : Int) (S : List Int) : Int := S.foldl sumStep h

theorem sumFrom_take (h : Int) (S : List Int) (j : Nat) (hj : j < S.length) : sumFrom h (S.take (j + 1)) = sumStep (sumFrom h (S.take j)) (S.getD j 0) := by
  unfold sumFrom
  rw [List.take_succ_eq_append_getElem hj, List.foldl_append]
  simp [List.getElem?_eq_getElem hj]

theorem sumOn_any (h : Int) (v : Value) (S : List Int) (w : World) (hv : Ints w .u8 v S) :
    Calls Facg.prog 116 #[.int .u32 h, v] w fun e w' => e = .returned (.int .u32 (sumFrom h S)) ∧ w' = w := by
  obtain ⟨a, c, rfl, hc, hm, hw, hr⟩ := hv
  unfold maxLen at hm
  have HW : Hid (∀ x ∈ S, (Lit.int .u8 x).wf = true) := hw
  have HR : Hid (S ≠ [] → ∃ b o, a = some ⟨b, o, none⟩ ∧ ∀ j, j < S.length → w.cell? ⟨b, o + j, none⟩ = some (.int .u8 (S.getD j 0))) := hr
  clear hw hr
  go_enter Facg.func116, Facg.ntmps116
  go_wp2
  go_loop [0, 9, 6] (fun t i x => ∃ j : Nat, j ≤ S.length ∧ i = .int .i64 j ∧ t = .int .u32 (sumFrom h (S.take j))) (fun _ i _ => S.length - (intOf i).toNat)
  case atStart => exact ⟨0, Nat.zero_le _, rfl, rfl⟩
  case round =>
    obtain ⟨j, hj, rfl, rfl⟩ := hrel
    by_cases hlt : j < S.length
    · obtain ⟨b, o, rfl, hcell⟩ := HR.out (fun h => by subst h; simp at hlt)
      have hcj := hcell j hlt
      have hb := bounds_u8 (HW.out (S.getD j 0) (by simp [List.getElem?_eq_getElem hlt]))
      have HT : Hid (sumFrom h (S.take (j + 1)) = sumStep (sumFrom h (S.take j)) (S.getD j 0)) := sumFrom_take h S j hlt
      clear hcell HR
      generalize S.getD j 0 = x at *
      generalize sumFrom h (S.take j) = y at *
      have hji : (j : Int) < (S.length : Int) := by omega
      go_wp2
      go_round
      case rel => exact ⟨j + 1, by omega, by go_num, by rw [HT.out]; rfl⟩
      case measure => simp [intOf]; omega
    · have hj' : j = S.length := by omega
      go_wp2
      go_ret
      exact ⟨rfl, rfl⟩

def sumF (S : List Int) : Int := sumFrom 2166136261 S
theorem sum_any (v : Value) (S : List Int) (w : World) (hv : Ints w .u8 v S) :
    Calls Facg.prog 60 #[v] w fun e w' => e = .returned (.int .u32 (sumF S)) ∧ w' = w := by
  go_enter Facg.func60, Facg.ntmps60
  go_wp2_with (go_at_call 116; refine (sumOn_any _ _ S _ hv).mono ?_; rintro e w' ⟨rfl, rfl⟩)
  go_ret
  exact ⟨rfl, rfl⟩

/-! ### pack.Unpack -/
def unpackL (S : List Int) : Nat → Nat → List Int → Option (List Int)
  | 0, _, out => some out
  | f + 1, i, out => if i < S.length then
      (match stepF (fun j => S.getD (i + j) 0) (S.length - i) out.length with
        | none => none
        | some (c, ws) => unpackL S f (i + c) (out ++ ws))
    else some out
def unpackF (S : List Int) : Option (List Int) := if 4096 < S.length then none else unpackL S (S.length + 1) 0 []

theorem CurAt.rebase {w0 w w' : World} {b : Nat} {sS vO v v' : Value} {i i' : Int} {n n' : Nat} {xs xs' : List Value} (h : CurAt w0 b sS vO i n xs v w) (k : CurAt w b sS v i' n' xs' v' w') : CurAt w0 b sS vO i' n' xs' v' w' := by
  refine ⟨k.c0, k.c1, k.c2, k.fz, k.owns, ?_, ?_, h.apart, h.old⟩
  · rcases k.place with e | ⟨g, hg, e⟩
    · rw [e]; exact h.place
    · exact .inr ⟨g, Nat.le_trans h.kept.size hg, e⟩
  · refine h.kept.then k.kept (fun j hj hp => ⟨hp.1, ?_⟩)
    rcases h.place with e | ⟨g, hg, e⟩
    · rw [e]; exact hp.2
    · rw [e]; intro e; injection e with e; omega

theorem unpackL_stop (S : List Int) (f i : Nat) (out : List Int) (h : ¬ i < S.length) : unpackL S f i out = some out := by
  cases f with
  | zero => rfl
  | succ f => simp only [unpackL]; rw [if_neg h]

theorem unpack_long (a : Option Addr) (n c : Nat) (h : 4096 < n) (hn : n ≤ 9223372036854775807) (w : World) :
    Calls Facg.prog 65 #[.slice a n c] w fun e w' => e = .returned (.tuple #[.slice none 0 0, .bool false]) ∧ w' = w := by
  have hd : (4096 : Int) < (n : Int) := by omega
  go_enter Facg.func65, Facg.ntmps65
  go_wp2
  go_ret2
  exact ⟨rfl, rfl⟩

/-- The place of a cursor, read off the world. -/
def curI (b : Nat) (w : World) : Nat := match w.cell? ⟨b, 1, none⟩ with | some (.int _ n) => n.toNat | _ => 0
theorem curI_of {b : Nat} {w : World} {i : Nat} (h : w.cell? ⟨b, 1, none⟩ = some (.int .u16 i)) : curI b w = i := by simp [curI, h]

/-- Unpack's loop: where it stands. -/
structure UnAt (S : List Int) (R : Option (List Int)) (W0 : World) (B : Nat) (sS vO : Value) (wr : World) (i f : Nat) (out : List Int) (a2 : Option Addr) (c2 : Nat) : Prop where
  cur : CurAt W0 B sS vO i out.length (out.map (Value.int .u64)) (.slice a2 out.length c2) wr
  le : i ≤ S.length
  few : out.length ≤ 256
  wf : ∀ x ∈ out, (Lit.int .u64 x).wf = true
  fuel : S.length < i + f
  eq : unpackL S f i out = R

/-- What Unpack answers. -/
def UnpackPost (w : World) (r : Option (List Int)) (e : Ending) (w' : World) : Prop :=
  Grows w w' ∧ match r with
    | none => e = .returned (.tuple #[.slice none 0 0, .bool false])
    | some xs => ∃ v, e = .returned (.tuple #[v, .bool true]) ∧ Ints w' .u64 v xs

set_option maxRecDepth 10000 in
set_option maxHeartbeats 1000000 in
theorem unpack_short (v : Value) (S : List Int) (w : World) (hv : Ints w .u8 v S) (hs : S.length ≤ 4096) :
    Calls Facg.prog 65 #[v] w (UnpackPost w (unpackL S (S.length + 1) 0 [])) := by
  obtain ⟨a, c, rfl, hc, hm, hw, hr⟩ := id hv
  unfold maxLen at hm
  have HV : Hid (Ints w .u8 (.slice a S.length c) S) := hv
  clear hw hr hv
  by_cases h0 : S.length = 0
  · have hS : S = [] := List.eq_nil_of_length_eq_zero h0
    subst hS
    clear hs h0
    go_enter Facg.func65, Facg.ntmps65
    go_wp2
    go_loopw [24] (fun _ wr => wr = w.alloc (.cells #[.slice a 0 c, .int .u16 0, .slice none 0 0] 74)) (fun _ _ => 0)
    case atStart => rfl
    case round =>
      subst hrel
      go_wp2
      go_ret2
      exact ⟨(Kept.refl _ _).alloc _, _, rfl, none, 0, rfl, Nat.le_refl _, by decide, by simp, fun h => absurd rfl h⟩
  · have hp : (0 : Int) < (S.length : Int) := by omega
    go_enter Facg.func65, Facg.ntmps65
    obtain ⟨i38, hi, hz0, hz1, hz2⟩ := info_parts info38
    obtain ⟨cap, hcap, hcap1⟩ : ∃ cap : Nat, (if (256 : Int) < (S.length : Int) then (256 : Int) else (S.length : Int)) = (cap : Int) ∧ cap ≤ 256 := by
      by_cases h : 256 < S.length
      · exact ⟨256, by rw [if_pos (by omega)]; rfl, Nat.le_refl _⟩
      · exact ⟨S.length, by rw [if_neg (by omega)], by omega⟩
    go_wp2_with (at_make; go_loud (refine wpList_make_own _ rfl _ _ 22 rfl 0 38 i38 (.int .u64 0) 1 Facg.underlying22 hi hz0 hz1 _ _ _ cap rfl rfl rfl ?i5 ?i6 ?i7 ?_))
    case i5 => rw [hz2]; omega
    case i6 => unfold maxLen; omega
    case i7 => exact Nat.zero_le _
    intro w2 hown2 hgr2
    clear hcap hi hz0 hz1 hz2
    have hk2 : Grows (w.alloc (.cells #[.slice a S.length c, .int .u16 0, .slice none 0 0] 74)) w2 := ⟨hgr2.os, hgr2.tape, hgr2.output, hgr2.size, fun k hk _ => hgr2.block k hk (by simp)⟩
    have d0 : w2.cell? ⟨w.heap.size, 0, none⟩ = some (.slice a S.length c) := hk2.cell (by simp) trivial
    have d1 : w2.cell? ⟨w.heap.size, 1, none⟩ = some (.int .u16 0) := hk2.cell (by simp) trivial
    have d2 : w2.cell? ⟨w.heap.size, 2, none⟩ = some (.slice none 0 0) := hk2.cell (by simp) trivial
    have df : ∀ o, w2.frozen? ⟨w.heap.size, o, none⟩ = false := fun o => by rw [hk2.frozens _ o (by simp)]; exact World.frozen?_alloc_at _ _ _ _ rfl
    have hs2 := hk2.size
    simp at hs2
    have HC : Hid (CurAt (w2.setCell ⟨w.heap.size, 2, none⟩ (.slice (some ⟨w.heap.size + 1, 0, none⟩) 0 cap)) w.heap.size (.slice a S.length c) (.slice (some ⟨w.heap.size + 1, 0, none⟩) 0 cap) 0 0 [] (.slice (some ⟨w.heap.size + 1, 0, none⟩) 0 cap) (w2.setCell ⟨w.heap.size, 2, none⟩ (.slice (some ⟨w.heap.size + 1, 0, none⟩) 0 cap))) := by
      refine ⟨?_, ?_, ?_, ?_, ?_, .inl rfl, Kept.refl _ _, by simp [Value.ownBlock], by simp [World.setCell]; omega⟩
      · rw [World.cell?_setCell_other _ _ _ _ (by simp)]; exact d0
      · rw [World.cell?_setCell_other _ _ _ _ (by simp)]; exact d1
      · exact World.cell?_setCell_same _ _ _ d2
      · intro o; rw [World.frozen?_setCell]; exact df o
      · exact owns_kept (p := fun k => k ≠ w.heap.size) (by simpa using hown2) ((Kept.refl _ _).setCell (.inr (by simp)) _) (fun g hg e => by simp [Value.ownBlock] at hg; omega)
    have HG : Hid (Grows w (w2.setCell ⟨w.heap.size, 2, none⟩ (.slice (some ⟨w.heap.size + 1, 0, none⟩) 0 cap))) := by
      unfold Hid
      exact (((Kept.refl _ _).alloc _).trans hk2).setCell (.inl (Nat.le_refl _)) _
    clear hown2 hgr2 hk2 hs2
    go_wp2
    have HVW : Hid (S ≠ [] → ∃ b o, a = some ⟨b, o, none⟩ ∧ b < w.heap.size ∧ ∀ j, j < S.length → (w2.setCell ⟨w.heap.size, 2, none⟩ (.slice (some ⟨w.heap.size + 1, 0, none⟩) 0 cap)).cell? ⟨b, o + j, none⟩ = some (.int .u8 (S.getD j 0))) := by
      intro hne
      obtain ⟨_, _, e, _, _, _, hr⟩ := HV.out
      injection e with e1 _ _
      subst e1
      obtain ⟨b, o, rfl, hcell⟩ := hr hne
      have hb : b < w.heap.size := World.block_lt_of_cell? w _ (hcell 0 (by omega))
      exact ⟨b, o, rfl, hb, fun j hj => HG.out.cell (hcell j hj) trivial⟩
    have HWF : Hid (∀ x ∈ S, (Lit.int .u8 x).wf = true) := by obtain ⟨_, _, _, _, _, h, _⟩ := HV.out; exact h
    have HSZ : Hid (w.heap.size + 1 < (w2.setCell ⟨w.heap.size, 2, none⟩ (.slice (some ⟨w.heap.size + 1, 0, none⟩) 0 cap)).heap.size) := by have := HC.out.owns.lt (w.heap.size + 1) rfl; exact this.2
    clear d0 d1 d2 df
    generalize hW0 : w2.setCell ⟨w.heap.size, 2, none⟩ (.slice (some ⟨w.heap.size + 1, 0, none⟩) 0 cap) = W0 at *
    clear hW0
    generalize hR : unpackL S (S.length + 1) 0 [] = R at *
    have HR : Hid (unpackL S (S.length + 1) 0 [] = R) := hR
    clear hR
    go_loopw [24] (fun _ wr => ∃ (i f : Nat) (out : List Int) (a2 : Option Addr) (c2 : Nat), UnAt S R W0 w.heap.size (.slice a S.length c) (.slice (some ⟨w.heap.size + 1, 0, none⟩) 0 cap) wr i f out a2 c2) (fun _ wr => S.length - curI w.heap.size wr)
    case atStart => exact ⟨0, S.length + 1, [], _, _, HC.out, Nat.zero_le _, by simp, by simp, by omega, HR.out⟩
    case round =>
      obtain ⟨i, f, out, a2, c2, hun⟩ := hrel
      have d1 := hun.cur.c1
      have d2 := hun.cur.c2
      have hle := hun.le
      have HU : Hid (UnAt S R W0 w.heap.size (.slice a S.length c) (.slice (some ⟨w.heap.size + 1, 0, none⟩) 0 cap) wr i f out a2 c2) := hun
      clear hun
      by_cases hlt : i < S.length
      · obtain ⟨bs, os, rfl, hbs, hcell⟩ := HVW.out (fun h => by subst h; simp at hlt)
        have hB : ∀ j, 0 ≤ S.getD (i + j) 0 ∧ S.getD (i + j) 0 < 256 := bytes_bd HWF.out i
        have hsep' : (Value.slice a2 out.length c2).ownBlock ≠ some bs := by
          rcases HU.out.cur.place with e | ⟨g, hg, e⟩
          · rw [e]; simp [Value.ownBlock]; omega
          · rw [e]; intro h; injection h with h; have := HSZ.out; omega
        have hST := step_all w.heap.size S.length c out.length i (some ⟨bs, os, none⟩) (fun j => S.getD (i + j) 0) (.slice a2 out.length c2) (out.map (Value.int .u64)) wr HU.out.cur.c0 d1 d2 HU.out.cur.fz HU.out.cur.owns (fun h => HU.out.cur.ne h.symm) hs hle HU.out.few hc hB
          (fun _ => ⟨bs, os, rfl, by omega, hsep', fun j hj => by rw [Nat.add_assoc]; exact HU.out.cur.cell (hcell (i + j) hj) (by omega) (by simp [Value.ownBlock]; omega)⟩)
        have hul : unpackL S f i out = match stepF (fun j => S.getD (i + j) 0) (S.length - i) out.length with
            | none => none
            | some (c, ws) => unpackL S (f - 1) (i + c) (out ++ ws) := by
          have := HU.out.fuel
          obtain ⟨f, rfl⟩ : ∃ g, f = g + 1 := ⟨f - 1, by omega⟩
          simp only [unpackL, Nat.add_sub_cancel]
          rw [if_pos hlt]
        rw [HU.out.eq] at hul
        have hlti : (i : Int) < (S.length : Int) := by omega
        cases hr : stepF (fun j => S.getD (i + j) 0) (S.length - i) out.length with
        | none =>
          rw [hr] at hST hul
          have HST : Hid (Calls Facg.prog 41 #[.pointer (some ⟨w.heap.size, 0, none⟩)] wr (StepPost wr w.heap.size (.slice (some ⟨bs, os, none⟩) S.length c) (.slice a2 out.length c2) i out.length (out.map (Value.int .u64)) none)) := hST
          have HUL : Hid (R = none) := hul
          clear hST hul hcell hr hB
          go_wp2_with (go_at_call 41; refine HST.out.mono ?_; rintro e w' ⟨rfl, k', rfl⟩)
          go_ret2
          refine ⟨(HG.out.then HU.out.cur.kept (fun j hj _ => ⟨by omega, by simp [Value.ownBlock]; omega⟩)).drewN _, ?_⟩
          rw [HUL.out]
          exact rfl
        | some r =>
          obtain ⟨cc, ws⟩ := r
          obtain ⟨q1, q2, q3, q4, q5⟩ := stepF_some hB hr
          rw [hr] at hST hul
          have HST : Hid (Calls Facg.prog 41 #[.pointer (some ⟨w.heap.size, 0, none⟩)] wr (StepPost wr w.heap.size (.slice (some ⟨bs, os, none⟩) S.length c) (.slice a2 out.length c2) i out.length (out.map (Value.int .u64)) (some (cc, ws)))) := hST
          have HUL : Hid (R = unpackL S (f - 1) (i + cc) (out ++ ws)) := hul
          clear hST hul hcell hr hB
          go_wp2_with (go_at_call 41; refine HST.out.mono ?_; rintro e wf ⟨rfl, v', hcur⟩)
          have hcur2 : CurAt W0 w.heap.size (.slice (some ⟨bs, os, none⟩) S.length c) (.slice (some ⟨w.heap.size + 1, 0, none⟩) 0 cap) ((i + cc : Nat) : Int) (out ++ ws).length ((out ++ ws).map (Value.int .u64)) v' wf := by
            have := HU.out.cur.rebase hcur
            simpa using this
          go_roundw
          case rel =>
            obtain ⟨a3, c3, hv3⟩ := owns_slice hcur2.owns
            subst hv3
            exact ⟨i + cc, f - 1, out ++ ws, a3, c3, hcur2, by omega, by simp; omega, fun x hx => by
              rcases List.mem_append.1 hx with h | h
              · exact HU.out.wf x h
              · exact wf_u64 (q5 x h).1 (q5 x h).2, by have := HU.out.fuel; omega, HUL.out.symm⟩
          case measure =>
            rw [curI_of hcur2.c1, curI_of d1]
            omega
      · have hfin : unpackL S f i out = some out := unpackL_stop S f i out hlt
        have HF : Hid (R = some out) := by unfold Hid; rw [← HU.out.eq, hfin]
        clear hfin
        go_wp2
        go_ret2
        refine ⟨HG.out.then HU.out.cur.kept (fun j hj _ => ⟨by omega, by simp [Value.ownBlock]; omega⟩), ?_⟩
        rw [HF.out]
        exact ⟨_, rfl, Ints.of_owns HU.out.cur.owns HU.out.wf⟩

/-- pack.Unpack. -/
theorem unpack_any (v : Value) (S : List Int) (w : World) (hv : Ints w .u8 v S) : Calls Facg.prog 65 #[v] w (UnpackPost w (unpackF S)) := by
  unfold unpackF
  by_cases h : 4096 < S.length
  · rw [if_pos h]
    obtain ⟨a, c, rfl, hc, hm, hw, hr⟩ := id hv
    unfold maxLen at hm
    refine (unpack_long a S.length c h (by omega) w).mono ?_
    rintro e w' ⟨rfl, rfl⟩
    exact ⟨Kept.refl _ _, rfl⟩
  · rw [if_neg h]
    exact unpack_short v S w hv (by omega)
end Go.Proofs.Ygcfac
