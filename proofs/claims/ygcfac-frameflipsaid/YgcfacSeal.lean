/-
  frame.Seal: walked.
-/
import Derived.Test.YgcfacPack
import Derived.Test.YgcfacOwn
namespace Go.Proofs.Ygcfac
open Go.RowKit
set_option linter.unusedVariables false

/-! ### append(v, x...): x whatever slice of integers -/
theorem run_appI {P : Program} (w : World) (t ty e : TypeId) (z : Value) (bytes : Nat) (ht : P.underlying t = some (.slice e)) (hi : (P.info? e).map (fun i => (i.zero, i.size, i.bytes)) = some (some z, 1, bytes)) (hzs : z.cells.size = 1)
    (v : Value) (n : Nat) (ys : List Value) (hown : w.ownsRow 0 e 1 v n ys) (k : IntKind) (x : Value) (xs : List Int) (hx : Ints w k x xs) (h63 : n + xs.length ≤ maxLen) (hbytes : (n + xs.length) * bytes ≤ 140737488355328) :
    ∃ v' w', (Builtin.append_ #[t, t] ty #[v, x]).run P w = .ok v' w' ∧ w'.ownsRow 0 e 1 v' (n + xs.length) (ys ++ xs.map (Value.int k)) ∧ Kept (fun k => some k ≠ v.ownBlock) w w' ∧
      (v'.ownBlock = v.ownBlock ∨ ∃ g, w.heap.size ≤ g ∧ v'.ownBlock = some g) := by
  obtain ⟨a, c, rfl, hc, hm, _, hr⟩ := hx
  obtain ⟨i, hi, hz, hsize, hby⟩ := info_parts hi
  cases a with
  | none =>
    have hxs : xs = [] := by
      rcases List.eq_nil_or_concat xs with h | h
      · exact h
      · obtain ⟨b, o, e, _⟩ := hr (by obtain ⟨_, _, e⟩ := h; rw [e]; simp)
        cases e
    subst hxs
    have hc0 : c = c := rfl
    refine ⟨v, w, ?_, by simpa using hown, Kept.refl _ _, .inl rfl⟩
    rcases hown.2 with ⟨rfl, rfl⟩ | ⟨g, cap, cur, rfl, _, _, hnc, _⟩
    · simp [Builtin.append_, run_underlying ht, sizeOf, typeInfo, hi, Builtin.lenOf, Builtin.firstCells]
    · simp [Builtin.append_, run_underlying ht, sizeOf, typeInfo, hi, Builtin.lenOf, Builtin.firstCells, hnc, storeCells]
  | some ad =>
    refine run_app (P := P) w t ty e i z 1 bytes ht hi hz hsize hby hzs (by decide) v n ys hown ad xs.length c (xs.map (Value.int k)) (by simp) (fun j u hu => ?_) (fun u hu => by obtain ⟨x, _, rfl⟩ := List.mem_map.1 hu; rfl) h63 hbytes
    have hj : j < xs.length := by
      rcases Nat.lt_or_ge j xs.length with h | h
      · exact h
      · simp [List.getElem?_eq_none h] at hu
    obtain ⟨b, o, e, hcell⟩ := hr (fun h => by subst h; simp at hj)
    injection e with e
    subst e
    have hadd : (⟨b, o, none⟩ : Addr).add j = ⟨b, o + j, none⟩ := by unfold Addr.add; split <;> simp_all
    rw [hadd, hcell j hj]
    simpa [List.getElem?_eq_getElem hj] using hu

theorem wpList_appI {P : Program} (w : World) {ops : Array Oper} {rest : List Oper} {o : Oper} {a : Act} {Q : Exit → Act → World → Prop} (hgd : o.guard = none) (s x : Operand) (t : TypeId)
    (ho : o.op = .call { callee := .builtin .append, args := #[s, x], argTypes := #[t, t] })
    (e : TypeId) (z : Value) (bytes : Nat) (ht : P.underlying t = some (.slice e)) (hi : (P.info? e).map (fun i => (i.zero, i.size, i.bytes)) = some (some z, 1, bytes)) (hzs : z.cells.size = 1)
    (v : Value) (n : Nat) (ys : List Value) (hs : a.eval s = v) (hown : w.ownsRow 0 e 1 v n ys) (k : IntKind) (xv : Value) (xs : List Int) (hx : a.eval x = xv) (hI : Ints w k xv xs) (h63 : n + xs.length ≤ maxLen) (hbytes : (n + xs.length) * bytes ≤ 140737488355328)
    (h : ∀ a' c' w', w'.ownsRow 0 e 1 (.slice a' (n + xs.length) c') (n + xs.length) (ys ++ xs.map (Value.int k)) → Kept (fun k => some k ≠ v.ownBlock) w w' → ((Value.slice a' (n + xs.length) c').ownBlock = v.ownBlock ∨ ∃ g, w.heap.size ≤ g ∧ (Value.slice a' (n + xs.length) c').ownBlock = some g) → wpList P ops Q rest (a.put o.dst (.slice a' (n + xs.length) c')) w') : wpList P ops Q (o :: rest) a w := by
  refine wpList_plain hgd fun K hK => ?_
  obtain ⟨v', w', hr, h2, h3, h4⟩ := run_appI (P := P) w t o.type e z bytes ht hi hzs v n ys hown k xv xs hI h63 hbytes
  unfold Oper.wp execOp
  simp only [ho, resolve, invoke, builtin, Sem.run_bind, Sem.run_pure, Result.andThen_ok, List.map_toArray, List.map_cons, List.map_nil, hs, hx, hr]
  obtain ⟨a', c', rfl⟩ := owns_slice h2
  exact hK _ _ (h a' c' w' h2 h3 h4)

/-! ### Sizes and bounds of what Pack makes -/
theorem bytes8_bd (x : Int) (h0 : 0 ≤ x) : ∀ y ∈ bytes8 x, 0 ≤ y ∧ y < 256 := by
  intro y hy
  simp only [bytes8, List.mem_cons, List.not_mem_nil, or_false] at hy
  omega
theorem nzB_len : ∀ f x, (nzB f x).length ≤ f
  | 0, x => by simp [nzB]
  | f + 1, x => by
    have := nzB_len f (x / 256)
    simp only [nzB]
    split
    · simp
    split
    · omega
    · simp; omega
theorem nzB_bd : ∀ f x, ∀ y ∈ nzB f x, 0 ≤ y ∧ y < 256
  | 0, x => by simp [nzB]
  | f + 1, x => by
    have := nzB_bd f (x / 256)
    simp only [nzB]
    split
    · simp
    split
    · exact this
    · intro y hy
      rcases List.mem_cons.1 hy with rfl | hy
      · omega
      · exact this y hy
theorem flat_len (l : List Int) : (l.flatMap bytes8).length = 8 * l.length := by
  induction l with
  | nil => rfl
  | cons x l ih => rw [List.flatMap_cons, List.length_append, ih]; simp [bytes8]; omega

theorem packStep_len (x : Int) (R : List Int) : (packStep x R).1.length ≤ 10 * ((packStep x R).2 + 1) ∧ (packStep x R).2 ≤ R.length := by
  have hn := nzB_len 8 x
  have h1 := cntP_le (· == 0) 255 R
  have h2 := cntP_le (fun y => denseT (tagI y)) 255 R
  unfold packStep
  split
  · simp; omega
  split
  · simp only [List.length_append, List.length_cons, List.length_nil, flat_len, List.length_take]; omega
  · simp; omega

theorem packL_len : ∀ f A, (packL f A).length ≤ 10 * A.length
  | 0, A => by simp [packL]
  | f + 1, [] => by simp [packL]
  | f + 1, x :: R => by
    have h := packStep_len x R
    have ih := packL_len f (R.drop (packStep x R).2)
    simp only [packL, List.length_append, List.length_cons, List.length_drop] at ih ⊢
    omega

theorem packL_bd : ∀ f A, (∀ x ∈ A, (0 : Int) ≤ x) → ∀ y ∈ packL f A, 0 ≤ y ∧ y < 256
  | 0, A, _ => by simp [packL]
  | f + 1, [], _ => by simp [packL]
  | f + 1, x :: R, hA => by
    have ih := packL_bd f (R.drop (packStep x R).2) (fun y hy => hA y (List.mem_cons_of_mem _ (List.mem_of_mem_drop hy)))
    intro y hy
    simp only [packL] at hy
    rcases List.mem_append.1 hy with h | h
    · have hn := nzB_bd 8 x
      have ht := tag_bd x
      have h1 := cntP_le (· == 0) 255 R
      have h2 := cntP_le (fun y => denseT (tagI y)) 255 R
      unfold packStep at h
      split at h
      · simp only [List.cons_append, List.mem_cons, List.mem_append, List.not_mem_nil, or_false] at h
        rcases h with rfl | h | rfl
        · decide
        · exact hn y h
        · omega
      split at h
      · simp only [List.cons_append, List.mem_cons, List.mem_append, List.not_mem_nil, or_false, List.mem_flatMap] at h
        rcases h with rfl | (h | rfl) | ⟨z, hz, h⟩
        · decide
        · exact hn y h
        · omega
        · exact bytes8_bd z (hA z (List.mem_cons_of_mem _ (List.mem_of_mem_take hz))) y h
      · simp only [List.mem_cons] at h
        rcases h with rfl | h
        · exact ht
        · exact hn y h
    · exact ih y h

theorem wf_u8 {x : Int} (h0 : 0 ≤ x) (h1 : x < 256) : (Lit.int .u8 x).wf = true := WalkArith.wf_u8 (by omega)

theorem ints_bd {w : World} {v : Value} {A : List Int} (h : Ints w .u64 v A) : ∀ x ∈ A, 0 ≤ x ∧ x < 18446744073709551616 := by
  obtain ⟨_, _, _, _, _, hw, _⟩ := h
  intro x hx
  have := hw x hx
  simp [Lit.wf, IntKind.min, IntKind.max, IntKind.signed, IntKind.bits] at this
  omega

/-- pack.Pack. -/
theorem pack_any (v : Value) (A : List Int) (w : World) (hv : Ints w .u64 v A) :
    Calls Facg.prog 58 #[v] w fun e w' => ∃ v', e = .returned v' ∧ Grows w w' ∧ Ints w' .u8 v' (packF A) := by
  have hbd := ints_bd hv
  obtain ⟨a, c, rfl, hc, hm, hw, hr⟩ := hv
  unfold maxLen at hm
  unfold packF
  by_cases h : A.length = 0 ∨ 256 < A.length
  · rw [if_pos h]
    refine Calls.mono (pack_none a A.length c h (by omega) w) ?_
    rintro e w' ⟨rfl, rfl⟩
    exact ⟨_, rfl, Kept.refl _ _, Ints.nil _ _ _ _ (by decide)⟩
  · rw [if_neg h]
    obtain ⟨b, o, rfl, hcell⟩ := hr (fun e => h (by subst e; simp))
    refine Calls.mono (pack_row b o A.length c A w rfl (by omega) (by omega) hc (by omega) hbd hcell _ rfl (by have := packL_len A.length A; omega)) ?_
    rintro e w' ⟨v', rfl, hb⟩
    exact ⟨v', rfl, hb.grows, Ints.of_owns hb.owns (fun x hx => by have := packL_bd A.length A (fun y hy => (hbd y hy).1) x hx; exact wf_u8 this.1 this.2)⟩

/-! ### frame.Seal -/
def loadF (A : List Int) (packed : Bool) : List Int := if packed then packF A else A.flatMap bytes8
def hdr0 (packed : Bool) : Int := if packed then 281480099419991 else 5122709335
def sealF (A : List Int) (packed : Bool) : List Int := bytes8 (hdr0 packed) ++ (bytes8 ((A.length : Int) + sumF (loadF A packed) * 4294967296) ++ loadF A packed)

theorem seal_none (a : Option Addr) (n c : Nat) (p : Bool) (h : 256 < n) (hn : n ≤ 9223372036854775807) (w : World) :
    Calls Facg.prog 23 #[.slice a n c, .bool p] w fun e w' => e = .returned (.slice none 0 0) ∧ w' = w := by
  have hd : (256 : Int) < (n : Int) := by omega
  go_enter Facg.func23, Facg.ntmps23
  go_wp2
  go_ret
  exact ⟨rfl, rfl⟩

theorem hdr_or : bits .or .u64 5122709335 281474976710656 = 281480099419991 := by decide +kernel
theorem hdr_or0 : bits .or .u64 5122709335 0 = 5122709335 := by decide +kernel

theorem bytes8_len (x : Int) : (bytes8 x).length = 8 := rfl
theorem BufAt.base {w W w' : World} {D : List Int} {v : Value} (h : BufAt W D v w') (hg : Grows w W) : BufAt w D v w' :=
  ⟨hg.trans h.grows, h.owns, fun g hgg => Nat.le_trans hg.size (h.fresh g hgg)⟩

theorem ints8_new (w : World) (x : Int) (h0 : 0 ≤ x) : Ints (w.alloc (.cells ((bytes8 x).map (Value.int .u8)).toArray 110)) .u8 (.slice (some ⟨w.heap.size, 0, none⟩) 8 8) (bytes8 x) := by
  refine ⟨_, 8, rfl, by simp [bytes8], by decide, fun y hy => by have := bytes8_bd x h0 y hy; exact wf_u8 this.1 this.2, fun _ => ⟨w.heap.size, 0, rfl, fun j hj => ?_⟩⟩
  rw [Nat.zero_add, World.cell?_alloc_at _ _ _ _ rfl]
  simp [List.getElem?_eq_getElem hj]

theorem Ints.keeps {w w' : World} {k : IntKind} {a : Addr} {n c : Nat} {xs : List Int} {p : Nat → Prop} (h : Ints w k (.slice (some a) n c) xs) (hk : Kept p w w') (hp : p a.block) : Ints w' k (.slice (some a) n c) xs := by
  obtain ⟨a', c', e, hc, hm, hw, hr⟩ := h
  injection e with e1 e2 e3
  subst e1 e3
  refine ⟨_, _, by rw [e2], hc, hm, hw, fun hne => ?_⟩
  obtain ⟨b, o, e, hcell⟩ := hr hne
  injection e with e
  subst e
  exact ⟨b, o, rfl, fun j hj => hk.cell (hcell j hj) hp⟩

set_option maxRecDepth 10000 in
set_option maxHeartbeats 2000000 in
theorem seal_packed (a : Option Addr) (n c : Nat) (A L : List Int) (w : World) (hn : n ≤ 256) (hLl : L.length ≤ 2560) (hLb : ∀ x ∈ L, 0 ≤ x ∧ x < 256)
    (hp : Calls Facg.prog 58 #[.slice a n c] w fun e w' => ∃ v', e = .returned v' ∧ Grows w w' ∧ Ints w' .u8 v' L) :
    Calls Facg.prog 23 #[.slice a n c, .bool true] w fun e w' => ∃ v, e = .returned v ∧ BufAt w (bytes8 281480099419991 ++ (bytes8 ((n : Int) + sumF L * 4294967296) ++ L)) v w' := by
  have HP := hid hp
  have hsb := sumFrom_bd L hLb 2166136261 (by decide) (by decide)
  have hsb' : 0 ≤ sumF L ∧ sumF L < 4294967296 := hsb
  obtain ⟨hs0, hs1⟩ := hsb'
  have HOR := hid (or_sum 32 (n : Int) (sumF L) (by omega) (by omega) hs0 (by omega) (by decide))
  have hor1 := hdr_or
  clear hp hsb hLb
  obtain ⟨i5, hi, hz0, hz1, hz2⟩ := info_parts info5
  go_enter Facg.func23, Facg.ntmps23
  go_wp2_with (go_at_call 58; refine HP.out.mono ?_; rintro e w1 ⟨v', rfl, hg, hI⟩; have HG1 := hid hg; have HI1 := hid hI; obtain ⟨aL, cL, hvL, _⟩ := hI; subst hvL; clear hg)
  refine (bytes_lit 281480099419991 _ (by decide) (by decide)).mono ?_
  rintro e wA ⟨rfl, hbel⟩
  have HGA := hid (Grows.of_below hbel)
  clear hbel
  go_wp2_with fail
  refine (sum_any _ L _ ((HI1.out.grows HGA.out).grows ((Kept.refl _ _).alloc _))).mono ?_
  rintro e wS ⟨rfl, hwS⟩
  rw [hwS]
  clear hwS wS
  go_wp2_with fail
  have HOR2 : Hid (bits .or .u64 (n : Int) (sumF L * 4294967296) = (n : Int) + sumF L * 4294967296) := by have := HOR.out; unfold Hid; simpa using this
  rw [HOR2.out]
  have hZ0 : 0 ≤ (n : Int) + sumF L * 4294967296 := by omega
  have hZ1 : (n : Int) + sumF L * 4294967296 < 18446744073709551616 := by omega
  refine (bytes_lit ((n : Int) + sumF L * 4294967296) _ hZ0 hZ1).mono ?_
  rintro e wB ⟨rfl, hbel⟩
  have HGB := hid (Grows.of_below hbel)
  have HJ0 : Hid (Ints wB .u8 (.slice (some ⟨wA.heap.size, 0, none⟩) 8 8) (bytes8 281480099419991)) := (ints8_new wA 281480099419991 (by decide)).grows HGB.out
  have HJ2 : Hid (Ints wB .u8 (.slice aL L.length cL) L) := ((HI1.out.grows HGA.out).grows ((Kept.refl _ _).alloc _)).grows HGB.out
  have HGW : Hid (Grows w wB) := ((HG1.out.trans HGA.out).alloc _).trans HGB.out
  clear hbel HOR HOR2
  generalize hZZ : (n : Int) + sumF L * 4294967296 = Z at *
  have HZZ := hid hZZ
  clear hZZ
  go_wp2_with (at_make; refine wpList_make_own _ rfl _ _ 40 rfl 0 5 i5 (.int .u8 0) 1 Facg.underlying40 hi hz0 hz1 _ _ _ (16 + L.length) rfl rfl (by omega) ?i5 ?i6 ?i7 ?_)
  case i5 => rw [hz2]; omega
  case i6 => unfold maxLen; omega
  case i7 => exact Nat.zero_le _
  intro w2 hown2 hgr2
  have HB2 : Hid (BufAt (wB.alloc (.cells ((bytes8 Z).map (Value.int .u8)).toArray 110)) [] (.slice (some ⟨wB.heap.size + 1, 0, none⟩) 0 (16 + L.length)) w2) := ⟨⟨hgr2.os, hgr2.tape, hgr2.output, hgr2.size, fun k hk _ => hgr2.block k hk (by simp)⟩, by simpa using hown2, fun g hg => by simp [Value.ownBlock] at hg; simp; omega⟩
  have HK0 : Hid (Ints (wB.alloc (.cells ((bytes8 Z).map (Value.int .u8)).toArray 110)) .u8 (.slice (some ⟨wA.heap.size, 0, none⟩) 8 8) (bytes8 281480099419991)) := HJ0.out.grows ((Kept.refl _ _).alloc _)
  have HK1 : Hid (Ints (wB.alloc (.cells ((bytes8 Z).map (Value.int .u8)).toArray 110)) .u8 (.slice (some ⟨wB.heap.size, 0, none⟩) 8 8) (bytes8 Z)) := ints8_new wB Z hZ0
  have HK2 : Hid (Ints (wB.alloc (.cells ((bytes8 Z).map (Value.int .u8)).toArray 110)) .u8 (.slice aL L.length cL) L) := HJ2.out.grows ((Kept.refl _ _).alloc _)
  clear hown2 hgr2 hi hz0 hz1 hz2 HJ0 HJ2
  go_wp2_with (at_builtin; refine wpList_appI _ rfl _ _ 40 rfl 5 (.int .u8 0) 1 Facg.underlying40 info5 rfl (.slice (some ⟨wB.heap.size + 1, 0, none⟩) 0 (16 + L.length)) 0 (([] : List Int).map (Value.int .u8)) rfl ?o1 .u8 _ (bytes8 281480099419991) rfl (HK0.out.grows HB2.out.grows) ?o2 ?o3 ?_)
  case o1 => exact HB2.out.owns
  case o2 => simp only [maxLen, bytes8_len]; omega
  case o3 => simp only [bytes8_len]; omega
  intro a3 c3 w3 hown3 hk3 hp3
  have HB3 : Hid (BufAt (wB.alloc (.cells ((bytes8 Z).map (Value.int .u8)).toArray 110)) ([] ++ bytes8 281480099419991) (.slice a3 (0 + (bytes8 281480099419991).length) c3) w3) := HB2.out.app (E := bytes8 281480099419991) (Kept.refl _ _) hk3 hown3 hp3
  clear hown3 hk3 hp3
  go_wp2_with (at_builtin; refine wpList_appI _ rfl _ _ 40 rfl 5 (.int .u8 0) 1 Facg.underlying40 info5 rfl (.slice a3 (0 + (bytes8 281480099419991).length) c3) (0 + (bytes8 281480099419991).length) (([] ++ bytes8 281480099419991).map (Value.int .u8)) rfl ?o1 .u8 _ (bytes8 Z) rfl (HK1.out.grows HB3.out.grows) ?o2 ?o3 ?_)
  case o1 => exact HB3.out.owns
  case o2 => simp only [maxLen, bytes8_len]; omega
  case o3 => simp only [bytes8_len]; omega
  intro a4 c4 w4 hown4 hk4 hp4
  have HB4 : Hid (BufAt (wB.alloc (.cells ((bytes8 Z).map (Value.int .u8)).toArray 110)) (([] ++ bytes8 281480099419991) ++ bytes8 Z) (.slice a4 ((0 + (bytes8 281480099419991).length) + (bytes8 Z).length) c4) w4) := HB3.out.app (E := bytes8 Z) (Kept.refl _ _) hk4 hown4 hp4
  clear hown4 hk4 hp4
  go_wp2_with (at_builtin; refine wpList_appI _ rfl _ _ 40 rfl 5 (.int .u8 0) 1 Facg.underlying40 info5 rfl (.slice a4 (0 + (bytes8 281480099419991).length + (bytes8 Z).length) c4) (0 + (bytes8 281480099419991).length + (bytes8 Z).length) ((([] ++ bytes8 281480099419991) ++ bytes8 Z).map (Value.int .u8)) rfl ?o1 .u8 _ (L) rfl (HK2.out.grows HB4.out.grows) ?o2 ?o3 ?_)
  case o1 => exact HB4.out.owns
  case o2 => simp only [maxLen, bytes8_len]; omega
  case o3 => simp only [bytes8_len]; omega
  intro a5 c5 w5 hown5 hk5 hp5
  have HB5 : Hid (BufAt (wB.alloc (.cells ((bytes8 Z).map (Value.int .u8)).toArray 110)) ((([] ++ bytes8 281480099419991) ++ bytes8 Z) ++ L) (.slice a5 ((0 + (bytes8 281480099419991).length + (bytes8 Z).length) + (L).length) c5) w5) := HB4.out.app (E := L) (Kept.refl _ _) hk5 hown5 hp5
  clear hown5 hk5 hp5
  go_wp2
  go_ret
  refine ⟨_, rfl, ?_⟩
  rw [HZZ.out, ← List.append_assoc]
  exact HB5.out.base (HGW.out.alloc _)

set_option maxRecDepth 10000 in
set_option maxHeartbeats 4000000 in
theorem seal_plain (a : Option Addr) (c : Nat) (A : List Int) (w : World) (hn : A.length ≤ 256) (hv : Ints w .u64 (.slice a A.length c) A) (L : List Int) (hL : A.flatMap bytes8 = L) (n : Nat) (hnA : A.length = n) :
    Calls Facg.prog 23 #[.slice a n c, .bool false] w fun e w' => ∃ v, e = .returned v ∧ BufAt w (bytes8 5122709335 ++ (bytes8 ((n : Int) + sumF L * 4294967296) ++ L)) v w' := by
  have hLl : L.length ≤ 2560 := by rw [← hL, flat_len]; omega
  have hbd := ints_bd hv
  have hLb : ∀ x ∈ L, 0 ≤ x ∧ x < 256 := by
    intro x hx
    rw [← hL] at hx
    obtain ⟨y, hy, hx⟩ := List.mem_flatMap.1 hx
    exact bytes8_bd y (hbd y hy).1 x hx
  have hsb' : 0 ≤ sumF L ∧ sumF L < 4294967296 := sumFrom_bd L hLb 2166136261 (by decide) (by decide)
  obtain ⟨hs0, hs1⟩ := hsb'
  have HOR := hid (or_sum 32 (n : Int) (sumF L) (by omega) (by omega) hs0 (by omega) (by decide))
  have hor1 := hdr_or0
  have HLB : Hid (∀ x ∈ L, (Lit.int .u8 x).wf = true) := fun x hx => wf_u8 (hLb x hx).1 (hLb x hx).2
  have HL := hid hL
  have HBD := hid hbd
  have HNA := hid hnA
  have hn' : n ≤ 256 := by omega
  obtain ⟨_, _, e, hc, hm, hw, hr⟩ := hv
  injection e with e1 e2 e3
  subst e1 e3
  have HR := hid hr
  unfold maxLen at hm
  clear hLb hL hbd hw hr hnA e2 hn
  obtain ⟨i5, hi, hz0, hz1, hz2⟩ := info_parts info5
  go_enter Facg.func23, Facg.ntmps23
  go_wp2_with (at_make; refine wpList_make_own _ rfl _ _ 40 rfl 0 5 i5 (.int .u8 0) 1 Facg.underlying40 hi hz0 hz1 _ _ _ (8 * n) rfl rfl (by omega) ?i5 ?i6 ?i7 ?_)
  case i5 => rw [hz2]; omega
  case i6 => unfold maxLen; omega
  case i7 => exact Nat.zero_le _
  intro w0 hown0 hgr0
  have HB0 : Hid (BufAt w [] (.slice (some ⟨w.heap.size, 0, none⟩) 0 (8 * n)) w0) := ⟨⟨hgr0.os, hgr0.tape, hgr0.output, hgr0.size, fun k hk _ => hgr0.block k hk (by simp)⟩, by simpa using hown0, fun g hg => by simp [Value.ownBlock] at hg; omega⟩
  clear hown0 hgr0
  go_wp2
  go_loopw [5, 25, 8, 9] (fun sv t _ _ wr => ∃ (j : Nat) (D : List Int) (a6 : Option Addr) (c6 : Nat), t = .int .i64 j ∧ j ≤ n ∧ sv = .slice a6 D.length c6 ∧ BufAt w D (.slice a6 D.length c6) wr ∧ D ++ (A.drop j).flatMap bytes8 = L) (fun _ t _ _ _ => n - (intOf t).toNat)
  case atStart => exact ⟨0, [], _, _, rfl, Nat.zero_le _, rfl, HB0.out, HL.out⟩
  case round =>
    obtain ⟨j, D6, a6, c6, rfl, hjn, rfl, hb6, hD6⟩ := hrel
    have HB6 := hid hb6
    have HT6 := hid hD6
    have hl6 : D6.length ≤ 2560 := by rw [← hD6] at hLl; simp at hLl; omega
    clear hb6 hD6
    by_cases hjz : j < n
    · have hjl : j < A.length := by have := HNA.out; omega
      obtain ⟨b, o, rfl, hcell⟩ := HR.out (fun h => by subst h; simp at hjl)
      have hcj : wr.cell? ⟨b, o + j, none⟩ = some (.int .u64 (A.getD j 0)) := HB6.out.grows.cell (hcell j hjl) trivial
      have hY := HBD.out (A.getD j 0) (by simp [List.getElem?_eq_getElem hjl])
      have HT7 : Hid ((D6 ++ bytes8 (A.getD j 0)) ++ (A.drop (j + 1)).flatMap bytes8 = L) := by
        unfold Hid
        rw [← HT6.out, drop_cons A j hjl]
        simp
      have hjz' : (j : Int) < (n : Int) := by omega
      clear HT6 hcell HR
      generalize A.getD j 0 = Y at *
      have HBY := hid (fun w => bytes_lit Y w hY.1 hY.2)
      go_wp2_with (first
        | (go_at_call 59; refine (HBY.out _).mono ?_; rintro e wA ⟨rfl, hbel⟩; have HGA := hid (Grows.of_below hbel); clear hbel)
        | (at_builtin; refine wpList_app _ rfl _ _ 40 rfl 5 (.int .u8 0) 1 1 Facg.underlying40 info5 rfl (by decide) (.slice a6 D6.length c6) D6.length (D6.map (Value.int .u8)) rfl ?p1 ⟨wA.heap.size, 0, none⟩ 8 8 ((bytes8 Y).map (Value.int .u8)) rfl rfl ?p2 ?p3 ?p4 ?p5 ?_))
      case p1 => exact (HB6.out.grow HGA.out).owns.alloc _
      case p2 => exact cells8_new _ _ _ _ _ _ _ _ _
      case p3 => exact fun u hu => by obtain ⟨y, _, rfl⟩ := List.mem_map.1 hu; rfl
      case p4 => unfold maxLen; omega
      case p5 => omega
      intro a7 c7 w7 hown7 hk7 hp7
      have HB7 : Hid (BufAt w (D6 ++ bytes8 Y) (.slice a7 (D6 ++ bytes8 Y).length c7) w7) := by
        unfold Hid
        have := (HB6.out.grow HGA.out).app (E := bytes8 Y) ((Kept.refl _ _).alloc _) hk7 (by simpa [bytes8] using hown7) (by simpa using hp7)
        simpa [bytes8] using this
      clear hown7 hk7 hp7
      go_wp2
      go_roundw
      case rel => exact ⟨j + 1, D6 ++ bytes8 Y, a7, c7, by go_num, by omega, by simp [bytes8], HB7.out, HT7.out⟩
      case measure => simp [intOf]; omega
    · have hDL : L = D6 := by
        have := HT6.out
        rw [List.drop_eq_nil_of_le (by have := HNA.out; omega)] at this
        simpa using this.symm
      subst hDL
      obtain ⟨w1, hw1⟩ : ∃ w1, w1 = wr := ⟨_, rfl⟩
      obtain ⟨aL, haL⟩ : ∃ aL, aL = a6 := ⟨_, rfl⟩
      obtain ⟨cL, hcL⟩ : ∃ cL, cL = c6 := ⟨_, rfl⟩
      subst hw1 haL hcL
      have HG1 : Hid (Grows w w1) := HB6.out.grows
      have HI1 : Hid (Ints w1 .u8 (.slice aL L.length cL) L) := Ints.of_owns HB6.out.owns HLB.out
      clear HT6 HB6
      go_wp2_with fail
      refine (bytes_lit 5122709335 _ (by decide) (by decide)).mono ?_
      rintro e wA ⟨rfl, hbel⟩
      have HGA := hid (Grows.of_below hbel)
      clear hbel
      go_wp2_with fail
      refine (sum_any _ L _ ((HI1.out.grows HGA.out).grows ((Kept.refl _ _).alloc _))).mono ?_
      rintro e wS ⟨rfl, hwS⟩
      rw [hwS]
      clear hwS wS
      go_wp2_with fail
      have HOR2 : Hid (bits .or .u64 (n : Int) (sumF L * 4294967296) = (n : Int) + sumF L * 4294967296) := by have := HOR.out; unfold Hid; simpa using this
      rw [HOR2.out]
      have hZ0 : 0 ≤ (n : Int) + sumF L * 4294967296 := by omega
      have hZ1 : (n : Int) + sumF L * 4294967296 < 18446744073709551616 := by omega
      refine (bytes_lit ((n : Int) + sumF L * 4294967296) _ hZ0 hZ1).mono ?_
      rintro e wB ⟨rfl, hbel⟩
      have HGB := hid (Grows.of_below hbel)
      have HJ0 : Hid (Ints wB .u8 (.slice (some ⟨wA.heap.size, 0, none⟩) 8 8) (bytes8 5122709335)) := (ints8_new wA 5122709335 (by decide)).grows HGB.out
      have HJ2 : Hid (Ints wB .u8 (.slice aL L.length cL) L) := ((HI1.out.grows HGA.out).grows ((Kept.refl _ _).alloc _)).grows HGB.out
      have HGW : Hid (Grows w wB) := ((HG1.out.trans HGA.out).alloc _).trans HGB.out
      clear hbel HOR HOR2
      generalize hZZ : (n : Int) + sumF L * 4294967296 = Z at *
      have HZZ := hid hZZ
      clear hZZ
      go_wp2_with (at_make; refine wpList_make_own _ rfl _ _ 40 rfl 0 5 i5 (.int .u8 0) 1 Facg.underlying40 hi hz0 hz1 _ _ _ (16 + L.length) rfl rfl (by omega) ?i5 ?i6 ?i7 ?_)
      case i5 => rw [hz2]; omega
      case i6 => unfold maxLen; omega
      case i7 => exact Nat.zero_le _
      intro w2 hown2 hgr2
      have HB2 : Hid (BufAt (wB.alloc (.cells ((bytes8 Z).map (Value.int .u8)).toArray 110)) [] (.slice (some ⟨wB.heap.size + 1, 0, none⟩) 0 (16 + L.length)) w2) := ⟨⟨hgr2.os, hgr2.tape, hgr2.output, hgr2.size, fun k hk _ => hgr2.block k hk (by simp)⟩, by simpa using hown2, fun g hg => by simp [Value.ownBlock] at hg; simp; omega⟩
      have HK0 : Hid (Ints (wB.alloc (.cells ((bytes8 Z).map (Value.int .u8)).toArray 110)) .u8 (.slice (some ⟨wA.heap.size, 0, none⟩) 8 8) (bytes8 5122709335)) := HJ0.out.grows ((Kept.refl _ _).alloc _)
      have HK1 : Hid (Ints (wB.alloc (.cells ((bytes8 Z).map (Value.int .u8)).toArray 110)) .u8 (.slice (some ⟨wB.heap.size, 0, none⟩) 8 8) (bytes8 Z)) := ints8_new wB Z hZ0
      have HK2 : Hid (Ints (wB.alloc (.cells ((bytes8 Z).map (Value.int .u8)).toArray 110)) .u8 (.slice aL L.length cL) L) := HJ2.out.grows ((Kept.refl _ _).alloc _)
      clear hown2 hgr2 hi hz0 hz1 hz2 HJ0 HJ2
      go_wp2_with (at_builtin; refine wpList_appI _ rfl _ _ 40 rfl 5 (.int .u8 0) 1 Facg.underlying40 info5 rfl (.slice (some ⟨wB.heap.size + 1, 0, none⟩) 0 (16 + L.length)) 0 (([] : List Int).map (Value.int .u8)) rfl ?o1 .u8 _ (bytes8 5122709335) rfl (HK0.out.grows HB2.out.grows) ?o2 ?o3 ?_)
      case o1 => exact HB2.out.owns
      case o2 => simp only [maxLen, bytes8_len]; omega
      case o3 => simp only [bytes8_len]; omega
      intro a3 c3 w3 hown3 hk3 hp3
      have HB3 : Hid (BufAt (wB.alloc (.cells ((bytes8 Z).map (Value.int .u8)).toArray 110)) ([] ++ bytes8 5122709335) (.slice a3 (0 + (bytes8 5122709335).length) c3) w3) := HB2.out.app (E := bytes8 5122709335) (Kept.refl _ _) hk3 hown3 hp3
      clear hown3 hk3 hp3
      go_wp2_with (at_builtin; refine wpList_appI _ rfl _ _ 40 rfl 5 (.int .u8 0) 1 Facg.underlying40 info5 rfl (.slice a3 (0 + (bytes8 5122709335).length) c3) (0 + (bytes8 5122709335).length) (([] ++ bytes8 5122709335).map (Value.int .u8)) rfl ?o1 .u8 _ (bytes8 Z) rfl (HK1.out.grows HB3.out.grows) ?o2 ?o3 ?_)
      case o1 => exact HB3.out.owns
      case o2 => simp only [maxLen, bytes8_len]; omega
      case o3 => simp only [bytes8_len]; omega
      intro a4 c4 w4 hown4 hk4 hp4
      have HB4 : Hid (BufAt (wB.alloc (.cells ((bytes8 Z).map (Value.int .u8)).toArray 110)) (([] ++ bytes8 5122709335) ++ bytes8 Z) (.slice a4 ((0 + (bytes8 5122709335).length) + (bytes8 Z).length) c4) w4) := HB3.out.app (E := bytes8 Z) (Kept.refl _ _) hk4 hown4 hp4
      clear hown4 hk4 hp4
      go_wp2_with (at_builtin; refine wpList_appI _ rfl _ _ 40 rfl 5 (.int .u8 0) 1 Facg.underlying40 info5 rfl (.slice a4 (0 + (bytes8 5122709335).length + (bytes8 Z).length) c4) (0 + (bytes8 5122709335).length + (bytes8 Z).length) ((([] ++ bytes8 5122709335) ++ bytes8 Z).map (Value.int .u8)) rfl ?o1 .u8 _ (L) rfl (HK2.out.grows HB4.out.grows) ?o2 ?o3 ?_)
      case o1 => exact HB4.out.owns
      case o2 => simp only [maxLen, bytes8_len]; omega
      case o3 => simp only [bytes8_len]; omega
      intro a5 c5 w5 hown5 hk5 hp5
      have HB5 : Hid (BufAt (wB.alloc (.cells ((bytes8 Z).map (Value.int .u8)).toArray 110)) ((([] ++ bytes8 5122709335) ++ bytes8 Z) ++ L) (.slice a5 ((0 + (bytes8 5122709335).length + (bytes8 Z).length) + (L).length) c5) w5) := HB4.out.app (E := L) (Kept.refl _ _) hk5 hown5 hp5
      clear hown5 hk5 hp5
      go_wp2
      go_ret
      refine ⟨_, rfl, ?_⟩
      rw [HZZ.out, ← List.append_assoc]
      exact HB5.out.base (HGW.out.alloc _)

/-- frame.Seal, of up to 256 words. -/
theorem seal_any (v : Value) (A : List Int) (p : Bool) (w : World) (hv : Ints w .u64 v A) (hn : A.length ≤ 256) :
    Calls Facg.prog 23 #[v, .bool p] w fun e w' => ∃ v, e = .returned v ∧ BufAt w (sealF A p) v w' := by
  obtain ⟨a, c, rfl, hc, hm, hw, hr⟩ := id hv
  unfold sealF
  cases p with
  | true =>
    have hbd := ints_bd hv
    have hpl : (packF A).length ≤ 2560 := by
      unfold packF
      split
      · simp
      · have := packL_len A.length A; omega
    have hpb : ∀ x ∈ packF A, 0 ≤ x ∧ x < 256 := by
      unfold packF
      split
      · simp
      · exact packL_bd A.length A (fun y hy => (hbd y hy).1)
    exact seal_packed a A.length c A (packF A) w hn hpl hpb (pack_any _ A w hv)
  | false => exact seal_plain a c A w hn hv _ rfl _ rfl
end Go.Proofs.Ygcfac
