import Derived.Test.YgcfacMidLaw
import Derived.Test.YgcfacInWalk
import Derived.Test.YgcfacWalkEq
import Derived.Deep.MidRow
namespace Go.Proofs.Ygcfac
open Go.RowKit
set_option linter.unusedVariables false

def walkV (S A D : Nat → Nat) (sp j : Nat) : Value :=
  if j < 4 then .int .u64 (S j) else if j = 516 then .int .u16 sp else if j % 2 = 0 then .int .u16 (A ((j - 4) / 2)) else .int .u8 (D ((j - 4) / 2))
def walkL (S A D : Nat → Nat) (sp : Nat) : List Value := (List.range 517).map (walkV S A D sp)
theorem walkL_get (S A D : Nat → Nat) (sp j : Nat) (h : j < 517) : (walkL S A D sp)[j]? = some (walkV S A D sp j) := by
  unfold walkL
  rw [List.getElem?_map, List.getElem?_range h]; rfl
theorem walkL_cells (S A D : Nat → Nat) (sp : Nat) : WalkCells (walkL S A D sp).toArray S A D sp := by
  refine ⟨by simp [walkL], fun j hj => ?_, fun k hk => ?_, fun k hk => ?_, ?_⟩
  · rw [List.getElem?_toArray, walkL_get _ _ _ _ _ (by omega)]
    unfold walkV
    rw [if_pos hj]
  · rw [List.getElem?_toArray, walkL_get _ _ _ _ _ (by omega)]
    unfold walkV
    rw [if_neg (by omega), if_neg (by omega), if_pos (by omega), show (4 + k * 2 - 4) / 2 = k by omega]
  · rw [List.getElem?_toArray, walkL_get _ _ _ _ _ (by omega)]
    unfold walkV
    rw [if_neg (by omega), if_neg (by omega), if_neg (by omega), show (4 + k * 2 + 1 - 4) / 2 = k by omega]
  · rw [List.getElem?_toArray, walkL_get _ _ _ _ _ (by omega)]
    unfold walkV
    rw [if_neg (by omega), if_pos rfl]
theorem cells_of_walk {w : World} {g : Nat} {S A D : Nat → Nat} {sp : Nat} (h : WalkAt w g S A D sp) : ∃ cs : List Value, WalkCells cs.toArray S A D sp ∧ w.rangeAt g 0 cs ∧ cs.length = 517 ∧ ∀ v ∈ cs, v.oneCell' = true := by
  refine ⟨walkL S A D sp, walkL_cells S A D sp, fun j v hv => ?_, by simp [walkL], fun v hv => ?_⟩
  · have hj : j < 517 := by
      have := (List.getElem?_eq_some_iff.1 hv).1
      simpa [walkL] using this
    rw [walkL_get _ _ _ _ _ hj] at hv
    injection hv with hv
    subst hv
    rw [Nat.zero_add]
    unfold walkV
    by_cases h1 : j < 4
    · rw [if_pos h1]; exact h.set j h1
    rw [if_neg h1]
    by_cases h2 : j = 516
    · rw [if_pos h2]; subst h2; exact h.sp
    rw [if_neg h2]
    by_cases h3 : j % 2 = 0
    · rw [if_pos h3]
      have := h.ats ((j - 4) / 2) (by omega)
      rwa [show 4 + (j - 4) / 2 * 2 = j by omega] at this
    · rw [if_neg h3]
      have := h.dep ((j - 4) / 2) (by omega)
      rwa [show 4 + (j - 4) / 2 * 2 + 1 = j by omega] at this
  · unfold walkL at hv
    rw [List.mem_map] at hv
    obtain ⟨j, _, rfl⟩ := hv
    unfold walkV
    split
    · rfl
    split
    · rfl
    split <;> rfl

theorem wpList_load_g {P : Program} {ops : Array Oper} {rest : List Oper} {op : Oper} {a : Act} {w : World} {Q : Exit → Act → World → Prop} (hw : Region.wanted op (yielded ops a.tmps) = true) (ty : TypeId) (x : Operand) (ho : op.op = .load ty x)
    (b o : Nat) (hx : a.eval x = .pointer (some ⟨b, o, none⟩)) (cs : List Value) (d : TypeDesc) (hc : w.rangeAt b o cs)
    (hu : P.underlying ty = some d) (hd : d.isRow = true) (hi : (P.info? ty).map (·.size) = some cs.length)
    (h : wpList P ops Q rest (a.put op.dst (.agg cs.toArray)) w) : wpList P ops Q (op :: rest) a w := by
  unfold wpList
  rw [if_pos hw]
  exact .inl (wp_load_mid ty x ho b o hx cs d hc hu hd hi h)

theorem kept_setCells (b : Nat) : ∀ (vs : List Value) (o : Nat) (w0 w : World), Kept (fun k => k ≠ b) w0 w → Kept (fun k => k ≠ b) w0 (w.setCells b o vs)
  | [], _, _, _, h => h
  | v :: r, o, w0, w, h => by
    rw [World.setCells]
    exact kept_setCells b r (o + 1) w0 _ (h.setCell (.inr (fun h => h rfl)) _)

theorem zero81 : Facg.zeroCells81.size = 517 := by kernel_rfl
theorem info81 : (Facg.prog.info? 81).map (·.size) = some 517 := by kernel_rfl

theorem WalkCells.box {cs : Array Value} {S A D : Nat → Nat} {sp : Nat} (h : WalkCells cs S A D sp) (w : World) (t : TypeId) : WalkAt (w.alloc (.cells cs t)) w.heap.size S A D sp :=
  ⟨fun j hj => box_cell' w cs t j _ (h.set j hj), fun k hk => box_cell' w cs t _ _ (h.ats k hk), fun k hk => box_cell' w cs t _ _ (h.dep k hk), box_cell' w cs t _ _ h.sp, fun j => World.frozen?_alloc_at _ _ _ _ rfl⟩

theorem checkMid_any (g : Nat) (S A D : Nat → Nat) (sp : Nat) (a : Option Addr) (n c : Nat) (w : World) (hn : n ≤ 9223372036854775807) (hW : WalkAt w g S A D sp) (hS : ∀ j, S j < 18446744073709551616) (hsp : sp < 65536) (hAb : ∀ k, A k < 65536) (hDb : ∀ k, D k < 256) :
    Calls Facg.prog 43 #[.pointer (some ⟨g, 0, none⟩), .slice a n c] w (MidPost w n S A D sp) := by
  by_cases h : n < 1 ∨ 256 < n
  · exact mid_no g S A D sp a n c w hn hW h
  · exact mid_any g S A D sp a n c w (by omega) (by omega) hW hS hsp hAb hDb

theorem step_bd {f : Nat → Int} {n : Nat} {S A D : Nat → Nat} {t : Nat} {ok : Bool} {S' A' D' : Nat → Nat} {sp' : Nat} (hf : ∀ j, 0 ≤ f j ∧ f j < 18446744073709551616) (hm : Mid n S A D (t + 1)) (hs : VStepR f n S A D (t + 1) ok S' A' D' sp')
    (hA : ∀ k, A k < 65536) (hD : ∀ k, D k < 256) : (∀ k, A' k < 65536) ∧ ∀ k, D' k < 256 := by
  have m2 := step_mid hf hm hs
  have hn := hm.hi
  cases hs using VStepR.ways with
  | bad h => exact ⟨hA, hD⟩
  | null q h hk => exact ⟨hA, hD⟩
  | deep q h hk hd => exact ⟨hA, hD⟩
  | shared q _ h hk hd hc => exact ⟨hA, hD⟩
  | pad q _ h hk hd hc hp => exact ⟨hA, hD⟩
  | ok q _ h hk hd hc hp =>
    refine ⟨fun k => ?_, fun k => ?_⟩
    · by_cases hk : k < t + 1 - 1 + (slotsL q).length
      · have := (m2.ent k hk).1
        omega
      · unfold appA
        rw [if_neg (by omega)]
        exact hA k
    · by_cases hk : k < t + 1 - 1 + (slotsL q).length
      · have := (m2.ent k hk).2.1
        omega
      · unfold pushD
        rw [if_neg (by omega)]
        exact hD k

/-- The loop's relation. -/
def VSL (w1 : World) (g n k : Nat) (wr : World) : Prop :=
  Kept (fun b => b ≠ g) w1 wr ∧ ∃ S A D sp, WalkAt wr g S A D sp ∧ (∀ j, S j < 18446744073709551616) ∧ (∀ k, A k < 65536) ∧ (∀ k, D k < 256) ∧ Mid n S A D sp ∧ k + (freeL S n).length + sp ≤ n

set_option maxRecDepth 10000 in
theorem validStep_walk (v : Value) (xs : List Int) (cs : Array Value) (S A D : Nat → Nat) (sp : Nat) (w : World) (hv : Ints w .u64 v xs) (hcs : WalkCells cs S A D sp) (hS : ∀ j, S j < 18446744073709551616) (hsp : sp < 65536) (hAb : ∀ k, A k < 65536) (hDb : ∀ k, D k < 256) :
    Calls Facg.prog 12 #[v, .agg cs] w fun e w' => e = .returned (.bool true) ∧ Grows w w' := by
  obtain ⟨a, c, rfl, hc, hm, hw, hr⟩ := id hv
  unfold maxLen at hm
  obtain ⟨m, hmin0, hm1, hm2, _⟩ := min_of xs.length 257
  have hmin : (if (257 : Int) < (xs.length : Int) then (257 : Int) else (xs.length : Int)) = (m : Int) := hmin0
  clear hmin0
  have hI := hv.front m hm1
  have HI := hide (fun w' hg => hI.grows (w' := w') hg)
  have hlen : (xs.take m).length = m := by rw [List.length_take]; omega
  have hwt : ∀ x ∈ xs.take m, (Lit.int .u64 x).wf = true := fun x hx => hw x (List.mem_of_mem_take hx)
  have hmc : (m : Int) ≤ (c : Int) := by omega
  have HWT := hide hwt
  clear hwt hw hr hI hv
  generalize hxs : xs.take m = ys at *
  clear hxs
  have HB := hide (hcs.box w 81)
  have HS := hide hS
  have HAb := hide hAb
  have HDb := hide hDb
  clear hcs hS hAb hDb
  go_enter Facg.func12, Facg.ntmps12
  go_wp2_with (at_builtin; refine wpList_copyapp _ rfl (.tmp 12) 22 rfl 38 (.int .u64 0) 8 Facg.underlying22 info38 rfl .u64 _ ys rfl (by exact HI.out _ ((Kept.refl _ _).alloc _)) (by omega) ?_)
  intro a1 c1 w1 ho hg hown
  have iA : Ints w1 .u64 (.slice a1 m c1) ys := Ints.of_owns ho HWT.out
  have hA := ArenaAt.of_ints iA
  generalize (fun j => ys.getD j 0) = f at hA
  have hne : ∀ b o, a1 = some ⟨b, o, none⟩ → b ≠ w.heap.size := fun b o e => by
    have := hown b (by rw [e]; rfl)
    omega
  have HW1 := hide (HB.out.kept hg trivial)
  have HG1 := hide (((Kept.refl _ _).alloc _).trans hg)
  have HA := hide hA
  have HNE := hide hne
  have hf := hA.1
  have HF := hide hf
  have hglt := HW1.out.lt
  clear ho iA hA HWT HI hg HB hmin hmc hlen hm1 hm hc hown hne hf
  have hmm : m ≤ 9223372036854775807 := by omega
  generalize hgg : w.heap.size = g at *
  have HGG := hide hgg
  clear hgg
  go_wp2_with (fail)
  refine (checkMid_any g S A D sp a1 m c1 w1 hmm HW1.out HS.out hsp HAb.out HDb.out).mono ?_
  rintro e w2 ⟨b, rfl, hg2, hiff⟩
  cases b
  · have HG2 := hide (HG1.out.trans hg2)
    clear hg2 hiff
    go_wp2
    go_ret
    exact ⟨rfl, HG2.out⟩
  · have hmid := hiff.1 rfl
    have HL : Hid (VSL w1 g m 0 w2) := ⟨hg2.mono (fun _ _ _ => trivial), S, A, D, sp, HW1.out.kept hg2 trivial, HS.out, HAb.out, HDb.out, hmid, by have := mid_start hmid; omega⟩
    clear hg2 hiff hmid
    go_wp2
    go_loopw [5] (fun t wr => ∃ k : Nat, t = .int .i64 k ∧ VSL w1 g m k wr) (fun t _ => m + 1 - (intOf t).toNat)
    case atStart => exact ⟨0, rfl, HL.out⟩
    case round =>
      clear HL HS HAb HDb HW1 hsp
      obtain ⟨k, rfl, hk, S, A, D, sp, hw, hS, hAb, hDb, hmid, hcnt⟩ := hrel
      have HK := hide hk
      have HW := hide hw
      have HS := hide hS
      have HAb := hide hAb
      have HDb := hide hDb
      have HM := hide hmid
      have c0 := hw.sp
      clear hk hw hS hAb hDb
      by_cases hsp : sp = 0
      · subst hsp
        clear hcnt hmid
        obtain ⟨L, q1, q2, q3, q4⟩ := cells_of_walk HW.out
        have HL := hide q1
        have HR := hide q2
        have HO := hide q4
        have hinfo : (Facg.prog.info? 81).map (·.size) = some L.length := by rw [q3]; exact info81
        have HI := hide hinfo
        have HQ3 := hide q3
        have HQ4 : Hid (L.toArray.size = 517) := q3
        clear q1 q2 q3 q4 hinfo
        have hthere : (wr.alloc (.cells Facg.zeroCells81 81)).there wr.heap.size 0 517 := fun j hj => by
          refine ⟨?_, World.frozen?_alloc_at _ _ _ _ rfl⟩
          rw [Nat.zero_add, World.cell?_alloc_at _ _ _ _ rfl]
          simp [hj]
        have HTh := hide hthere
        obtain ⟨W5, hW5⟩ : ∃ W, W = (wr.alloc (.cells Facg.zeroCells81 81)).setCells wr.heap.size 0 L := ⟨_, rfl⟩
        have hglt2 := HW.out.lt
        have HK5 : Hid (Kept (fun b => b ≠ wr.heap.size) (wr.alloc (.cells Facg.zeroCells81 81)) W5) := by
          unfold Hid
          rw [hW5]
          exact kept_setCells _ _ _ _ _ (Kept.refl _ _)
        have HW5 : Hid (WalkAt W5 g S A D 0) := (HW.out.kept ((Kept.refl (fun _ => True) _).alloc _) trivial).kept HK5.out (by omega)
        have HR5 : Hid (W5.rangeAt g 0 L) := by
          unfold Hid
          rw [hW5]
          refine World.rangeAt_setCells_apart (fun j v hv => ?_) _ _ _ (.inl (by omega))
          exact ((Kept.refl (fun _ => True) _).alloc _).cell (HR.out j v hv) trivial
        have HR6 : Hid (W5.rangeAt wr.heap.size 0 L) := by
          unfold Hid
          rw [hW5]
          exact World.rangeAt_setCells_same _ _ _ _ (by rw [HQ3.out]; exact HTh.out)
        have HSt := hide (vstep_zero g S A D (.slice a1 m c1) W5 HW5.out)
        have HEq := hide (fun w => equal81 w HL.out)
        have HGW : Hid (Grows w W5) := (HG1.out.then HK.out (fun i hi _ => by have := HGG.out; omega)).then (((Kept.refl _ _).alloc _).trans HK5.out) (fun i hi _ => by have := HG1.out.size; have := HK.out.size; omega)
        have HW5e := hide hW5
        have HAll : Hid (L.toArray.all (·.oneCell') = true) := all_oneCell_toArray HO.out
        clear hthere hW5
        have heq := HEq.out
        go_wp2_with (first
          | (refine wpList_load_mid rfl 81 (.tmp 3) rfl g 0 rfl L _ HR.out Facg.underlying81 rfl HI.out ?_)
          | (refine wpList_store_mid rfl 81 (.tmp 7) (.tmp 33) rfl wr.heap.size 0 L.toArray rfl rfl (by rw [HQ4.out]; exact HTh.out) HI.out HAll.out ?_; rw [show L.toArray.toList = L from rfl, ← HW5e.out])
          | (refine wpList_load_g rfl 81 (.tmp 3) rfl g 0 rfl L _ HR5.out Facg.underlying81 rfl HI.out ?_)
          | (refine wpList_load_g rfl 81 (.tmp 7) rfl wr.heap.size 0 rfl L _ HR6.out Facg.underlying81 rfl HI.out ?_)
          | (go_at_call 44; refine HSt.out.mono ?_; rintro e w9 ⟨rfl, hw9⟩; subst hw9))
        go_ret
        exact ⟨rfl, HGW.out⟩
      · obtain ⟨t, rfl⟩ : ∃ t, sp = t + 1 := ⟨sp - 1, by omega⟩
        have hle := hmid.le
        have hd0 : decide ((0 : Int) < ((t + 1 : Nat) : Int)) = true := decide_eq_true (by omega)
        have hkm : (k == m) = false := by rw [beq_eq_false_iff_ne]; omega
        have HSt := hide (vstep_any g a1 m c1 f S A D t wr (by omega) hmm (HAb.out t) (HDb.out t) HS.out (HA.out.kept HK.out HNE.out) HNE.out HW.out (fun q hq hfr => by
          have := mid_room HM.out (resolve_fine HF.out hq) hfr
          have := HM.out.hi
          omega))
        clear hmid
        go_wp2_with (fail)
        refine HSt.out.mono ?_
        rintro e w3 ⟨ok, S', A', D', sp', rfl, hk3, hw3, hS3, hr3⟩
        have hmid' := step_mid HF.out HM.out hr3
        obtain ⟨bA, bD⟩ := step_bd HF.out HM.out hr3 HAb.out HDb.out
        have HC := hide (checkMid_any g S' A' D' sp' a1 m c1 w3 hmm hw3 hS3 (by have := hmid'.le; omega) bA bD)
        have hless := fun h : ok = true => step_less HF.out HM.out (h ▸ hr3)
        have HLess := hide hless
        have HK3 := hide (HK.out.trans hk3)
        have HW3 := hide hw3
        have HS3 := hide hS3
        have HM3 := hide hmid'
        have HBD := hide (And.intro bA bD)
        clear hk3 hw3 hS3 hr3 hmid' bA bD hless HSt
        go_wp2_with (fail)
        refine HC.out.mono ?_
        rintro e w4 ⟨b, rfl, hg4, hiff⟩
        have hb : b = true := hiff.2 HM3.out
        subst hb
        have HK4 := hide (HK3.out.trans (hg4.mono (q := fun b => b ≠ g) (fun _ _ _ => trivial)))
        have HW4 := hide (HW3.out.kept hg4 trivial)
        clear hg4 hiff HC
        cases ok
        · go_wp2
          go_ret
          exact ⟨rfl, HG1.out.then HK4.out (fun i hi _ => by have := HGG.out; omega)⟩
        · have hl := HLess.out rfl
          go_wp2
          go_roundw
          case rel =>
            exact ⟨k + 1, rfl, HK4.out, S', A', D', sp', HW4.out, HS3.out, HBD.out.1, HBD.out.2, HM3.out, by omega⟩
          case measure => simp [intOf]; omega
end Go.Proofs.Ygcfac
