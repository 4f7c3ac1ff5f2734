/-
  (*canon).push, .list, .sections, .kids.
-/
import Derived.Test.YgcfacCMem
import Derived.Deep.DeepCutAuto
import Derived.Deep.RegionLaw
namespace Go.Proofs.Ygcfac
open Go.RowKit
set_option linter.unusedVariables false

/-- What a method of canon leaves. -/
def CanonP (q : Nat → Prop) (w : World) (gC gU L : Nat) (st : List Nat) (e : Ending) (w' : World) : Prop := e = .returned (.tuple #[]) ∧ ∃ v', CM q w w' gC gU v' L st

theorem cpush_null (q : Nat → Prop) (w wr : World) (gC gU L at_ : Nat) (v : Value) (st : List Nat) (h : CM q w wr gC gU v L st) : Calls Facg.prog 82 #[.pointer (some ⟨gC, 0, none⟩), .int .u16 at_, .int .i16 (-1)] wr (CanonP q w gC gU L st) := by
  have H := hide h
  clear h
  go_enter Facg.func82, Facg.ntmps82
  go_wp2
  exact bodyPost_end (by simp [results, Facg.results82, go_sem]) rfl ⟨rfl, v, H.out⟩

theorem cpush_kid (q : Nat → Prop) (w wr : World) (gC gU L at_ k : Nat) (v : Value) (st : List Nat) (h : CM q w wr gC gU v L st) (hs : st.length < 512) (ha : at_ < L) (ha' : at_ < 65536) (hk : k < 32768) : Calls Facg.prog 82 #[.pointer (some ⟨gC, 0, none⟩), .int .u16 at_, .int .i16 k] wr (CanonP q w gC gU L (st ++ [k])) := by
  have H := hide (h.push hs ha ha' k)
  have hn := h.cn
  obtain ⟨a0, b0, s1, s2, _⟩ := h.stk st.length hs
  have f0 := h.fz
  have hkm : ((k : Int) != -1) = true := by rw [bne_iff_ne]; omega
  have hlt := h.lt
  clear h
  generalize hqn : st.length = n at *
  clear hqn
  go_enter Facg.func82, Facg.ntmps82
  go_wp2
  go_region
  all_goals
    go_wp2
    refine bodyPost_end (by simp [results, Facg.results82, go_sem]) rfl ⟨rfl, v, ?_⟩
    exact H.out.grow ((Kept.refl (fun _ => True) _).drew)

theorem run_appI {P : Program} (w : World) (t ty e : TypeId) (i : TypeInfo) (z : Value) (bytes : Nat) (ht : P.underlying t = some (.slice e)) (hi : P.info? e = some i) (hz : i.zero = some z)
    (hsize : i.size = 1) (hby : i.bytes = bytes) (hzs : z.cells.size = 1) (k : IntKind)
    (v : Value) (n : Nat) (xs : List Int) (hown : w.ownsRow 0 e 1 v n (xs.map (Value.int k))) (vx : Value) (ys : List Int) (hv : Ints w k vx ys)
    (h63 : n + ys.length ≤ maxLen) (hbytes : (n + ys.length) * bytes ≤ 140737488355328) :
    ∃ v' w', (Builtin.append_ #[t, t] ty #[v, vx]).run P w = .ok v' w' ∧ w'.ownsRow 0 e 1 v' (n + ys.length) ((xs ++ ys).map (Value.int k)) ∧ Kept (fun b => some b ≠ v.ownBlock) w w' ∧ (v'.ownBlock = v.ownBlock ∨ ∃ g, w.heap.size ≤ g ∧ v'.ownBlock = some g) := by
  obtain ⟨a, c, rfl, hc, hm, _, hr⟩ := hv
  by_cases hy : ys = []
  · subst hy
    cases a with
    | none =>
      have hc0 : ∃ c', c = c' := ⟨c, rfl⟩
      refine ⟨v, w, ?_, by simpa using hown, Kept.refl _ _, .inl rfl⟩
      rcases hown.2 with ⟨rfl, rfl⟩ | ⟨g, cap, cur, rfl, _, _, hnc, _⟩
      · simp [Builtin.append_, run_underlying ht, sizeOf, typeInfo, hi, Builtin.lenOf, Builtin.firstCells]
      · simp [Builtin.append_, run_underlying ht, sizeOf, typeInfo, hi, Builtin.lenOf, Builtin.firstCells, hnc, storeCells]
    | some ad =>
      obtain ⟨v', w', h1, h2, h3, h4⟩ := run_app (P := P) w t ty e i z 1 bytes ht hi hz hsize hby hzs (by decide) v n _ hown ad 0 c [] (by simp) (by simp) (by simp) (by simpa using h63) (by simpa using hbytes)
      exact ⟨v', w', h1, by simpa using h2, h3, h4⟩
  · obtain ⟨b, o, rfl, hcell⟩ := hr hy
    obtain ⟨v', w', h1, h2, h3, h4⟩ := run_app (P := P) w t ty e i z 1 bytes ht hi hz hsize hby hzs (by decide) v n _ hown ⟨b, o, none⟩ ys.length c (ys.map (Value.int k)) (by simp) (fun j u hu => by
        have hj : j < ys.length := by
          rcases Nat.lt_or_ge j ys.length with h | h
          · exact h
          · simp [List.getElem?_eq_none h] at hu
        have hadd : (⟨b, o, none⟩ : Addr).add j = ⟨b, o + j, none⟩ := by unfold Addr.add; split <;> simp_all
        rw [hadd, hcell j hj]
        simpa [List.getElem?_eq_getElem hj] using hu) (fun u hu => by obtain ⟨x, _, rfl⟩ := List.mem_map.1 hu; rfl) h63 hbytes
    exact ⟨v', w', h1, by simpa using h2, h3, h4⟩

theorem step_appI {P : Program} (w : World) {ops : Array Oper} {o : Oper} {a : Act} {K : Act → World → Prop} {Q : Exit → Act → World → Prop} {E : Prop} (hgd : o.guard = none) (s x : Operand) (t : TypeId)
    (ho : o.op = .call { callee := .builtin .append, args := #[s, x], argTypes := #[t, t] })
    (e : TypeId) (z : Value) (bytes : Nat) (ht : P.underlying t = some (.slice e)) (hi : (P.info? e).map (fun i => (i.zero, i.size, i.bytes)) = some (some z, 1, bytes)) (hzs : z.cells.size = 1) (k : IntKind)
    (v : Value) (n : Nat) (xs : List Int) (hs : a.eval s = v) (hown : w.ownsRow 0 e 1 v n (xs.map (Value.int k))) (vx : Value) (ys : List Int) (hx : a.eval x = vx) (hv : Ints w k vx ys)
    (h63 : n + ys.length ≤ maxLen) (hbytes : (n + ys.length) * bytes ≤ 140737488355328)
    (h : ∀ a' c' w', w'.ownsRow 0 e 1 (.slice a' (n + ys.length) c') (n + ys.length) ((xs ++ ys).map (Value.int k)) → Kept (fun k => some k ≠ v.ownBlock) w w' → ((Value.slice a' (n + ys.length) c').ownBlock = v.ownBlock ∨ ∃ g, w.heap.size ≤ g ∧ (Value.slice a' (n + ys.length) c').ownBlock = some g) → K (a.put o.dst (.slice a' (n + ys.length) c')) w') :
    if Region.wanted o (yielded ops a.tmps) = true then Oper.wp P o a w K Q else E := by
  rw [if_pos (by simp [Region.wanted, hgd])]
  obtain ⟨i, hi, hz, hsize, hby⟩ := info_parts hi
  obtain ⟨v', w', hr, h2, h3, h4⟩ := run_appI (P := P) w t o.type e i z bytes ht hi hz hsize hby hzs k v n xs hown vx ys hv h63 hbytes
  unfold Oper.wp execOp
  simp only [ho, resolve, invoke, builtin, Sem.run_bind, Sem.run_pure, Result.andThen_ok, List.map_toArray, List.map_cons, List.map_nil, hs, hx, hr]
  obtain ⟨a', c', rfl⟩ := owns_slice h2
  exact h a' c' w' h2 h3 h4

theorem wrap32_bd (x : Int) : 0 ≤ IntKind.u32.wrap x ∧ IntKind.u32.wrap x < 4294967296 := by
  rw [IntKind.wrap_u32]
  omega
theorem wrap16_bd (x : Int) : 0 ≤ IntKind.u16.wrap x ∧ IntKind.u16.wrap x < 65536 := by
  rw [IntKind.wrap_u16]
  omega
theorem wrap8_bd (x : Int) : 0 ≤ IntKind.u8.wrap x ∧ IntKind.u8.wrap x < 256 := by
  rw [IntKind.wrap_u8]
  omega

set_option maxHeartbeats 1000000 in
theorem clist_any (q : Nat → Prop) (w wr : World) (gC gU L at_ to_ n : Nat) (code : Int) (v : Value) (st : List Nat) (h : CM q w wr gC gU v L st) (ha : at_ < L) (ha' : at_ < 65536) (ht : to_ < 65536) (hc : 0 ≤ code ∧ code < 256) (hn : n ≤ 1000000) :
    Calls Facg.prog 138 #[.pointer (some ⟨gC, 0, none⟩), .int .u16 at_, .int .u16 to_, .int .u8 code, .int .i64 n] wr (CanonP q w gC gU L st) := by
  obtain ⟨g, c, rfl, hg1, hg2, hL, hcell, hfz⟩ := h.slice
  obtain ⟨x0, cx⟩ := hcell at_ ha
  have fx := hfz at_
  have H := hide h
  have c1 := h.c1
  have HML := hide (fun b (y : Int) w (hb : b < 65536) => makeList_some at_ b code (IntKind.u32.wrap y) w ha' hb hc (wrap32_bd y))
  clear h hcell hfz
  by_cases h0 : n = 0
  · subst h0
    obtain ⟨b, hb, hb'⟩ : ∃ b : Nat, IntKind.u16.wrap ((at_ : Int) + 1) = (b : Int) ∧ b < 65536 := by
      rw [IntKind.wrap_u16]
      exact ⟨((at_ + 1) % 65536), by omega, by omega⟩
    have HM1 := hide (fun y w => HML.out b y w hb')
    go_enter Facg.func138, Facg.ntmps138
    go_wp2
    go_region_with (first
      | (go_at_call 158; (with_reducible refine (HM1.out _ _).mono ?_); rintro e w3 ⟨x, rfl, rfl, hx⟩; clear hx))
    all_goals
      go_wp2_with (fail)
      refine bodyPost_end (by simp [results, Facg.results138, go_sem]) rfl ⟨rfl, .slice (some ⟨g, 0, none⟩) L c, ?_⟩
      first | exact (H.out.setA at_ x).grow ((Kept.refl (fun _ => True) _).drew) | exact (H.out.grow ((Kept.refl (fun _ => True) _).drew)).setA at_ x
  · have h0' : ((n : Int) == 0) = false := by rw [beq_eq_false_iff_ne]; omega
    have HM1 := hide (fun y w => HML.out to_ y w ht)
    go_enter Facg.func138, Facg.ntmps138
    go_wp2
    go_region_with (first
      | (go_at_call 158; (with_reducible refine (HM1.out _ _).mono ?_); rintro e w3 ⟨x, rfl, rfl, hx⟩; clear hx))
    all_goals
      go_wp2_with (fail)
      refine bodyPost_end (by simp [results, Facg.results138, go_sem]) rfl ⟨rfl, .slice (some ⟨g, 0, none⟩) L c, ?_⟩
      first | exact (H.out.setA at_ x).grow ((Kept.refl (fun _ => True) _).drew) | exact (H.out.grow ((Kept.refl (fun _ => True) _).drew)).setA at_ x

/-- (*canon).sections. -/
theorem csections_any (q : Nat → Prop) (w wr : World) (gC gU L b o : Nat) (x : Nd) (v : Value) (st : List Nat) (h : CM q w wr gC gU v L st) (hx : NodeQ w q b o x) (hd : x.data.length ≤ 128) (hk : x.kids.length ≤ 128) (hL : L ≤ 1000000000) :
    Calls Facg.prog 136 #[.pointer (some ⟨gC, 0, none⟩), .pointer (some ⟨b, o, none⟩)] wr (CanonP q w gC gU (L + x.data.length + x.kids.length) st) := by
  obtain ⟨_, _, hqb, _, _, ⟨vd, d2, hdI⟩, vk, d3, hkI⟩ := hx
  have HD := hide (fun w' (hg : Kept q w w') => (hdI.kept (q' := q) hg (fun b _ hq => ⟨hq, hq⟩)).ints)
  obtain ⟨ad, cd, rfl, _, _, _⟩ := hdI.ints.row
  obtain ⟨ak, ck, rfl, _, _, _⟩ := hkI.ints.row
  have HD2 := hide d2
  have HD3 := hide d3
  clear hdI hkI d2 d3
  obtain ⟨xs, ho⟩ := h.own
  have HO := hide ho
  have H := hide h
  have c1 := h.c1
  have z2 := h.gr.cell HD2.out hqb
  obtain ⟨av, cv, rfl⟩ := owns_slice ho
  have hlt := h.lt
  clear h ho
  obtain ⟨K, hK⟩ : ∃ K, x.kids.length = K := ⟨_, rfl⟩
  obtain ⟨D, hD⟩ : ∃ D, x.data.length = D := ⟨_, rfl⟩
  rw [hK] at hk HD3 ⊢
  rw [hD] at hd HD2 z2 HD ⊢
  have HDe := hide hD
  clear hK hD
  go_enter Facg.func136, Facg.ntmps136
  go_wp2
  go_cut [4] (fun _ wc => ∃ v', CM q w wc gC gU v' (L + D) st)
  case first =>
    go_region_law (refine step_appI _ rfl (.tmp 8) (.tmp 12) 22 rfl 38 (.int .u64 0) 8 Facg.underlying22 info38 rfl .u64 (.slice av L cv) L xs rfl (by exact owns_kept HO.out (Kept.refl (fun _ => True) _).drew (fun _ _ => trivial)) (.slice ad D cd) x.data rfl (by exact HD.out _ (H.out.gr.drew)) (by have := HDe.out; unfold maxLen; omega) (by have := HDe.out; omega) ?_; intro a' c' w' ho hk' hb'; have HX := hide (CM.app (H.out.grow (Kept.refl (fun _ => True) _).drew) (by omega) ho hk' hb'); have q1 := hk'.cell ((Kept.refl (fun _ => True) wr).drew.cell c1 trivial) (fun e => (H.out.vb gC e.symm).2 rfl); have q2 : w'.frozen? ⟨gC, 1, none⟩ = false := (by rw [hk'.frozen (q := ⟨gC, 1, none⟩) hlt (fun e => (H.out.vb gC e.symm).2 rfl)]; exact H.out.fz 1); clear ho hk' hb')
    all_goals go_wp2
    all_goals go_meet
    all_goals
      have h5 := HX.out
      simp only [HDe.out] at h5 ⊢
      exact ⟨_, h5⟩
  case rest =>
    obtain ⟨v', hcm⟩ := hcut
    have HC := hide hcm
    have z3 := hcm.gr.cell HD3.out hqb
    clear hcm z2 c1 H HO
    go_wp2
    go_loopw [21] (fun tj wr => ∃ (j : Nat) (v' : Value), tj = .int .i64 j ∧ j ≤ K ∧ CM q w wr gC gU v' (L + D + j) st) (fun tj _ => K - (intOf tj).toNat)
    case atStart => exact ⟨0, v', rfl, Nat.zero_le _, HC.out⟩
    case round =>
      clear HC z3
      obtain ⟨j, v', rfl, hj, hC⟩ := hrel
      by_cases hjK : j < K
      · have hdj : decide (j < K) = true := decide_eq_true hjK
        obtain ⟨xs, ho⟩ := hC.own
        obtain ⟨av, cv, rfl⟩ := owns_slice ho
        have HO := hide ho
        have H := hide hC
        have c1 := hC.c1
        have hlt := hC.lt
        clear hC ho
        go_wp2_with (first
          | (at_builtin; refine wpList_app1 _ rfl _ _ 22 rfl 38 (.int .u64 0) 8 Facg.underlying22 info38 rfl (.slice av (L + D + j) cv) (L + D + j) (xs.map (Value.int .u64)) rfl ?o1 wr.heap.size (.int .u64 0) rfl ?o2 rfl ?o3 ?o4 ?_))
        case o1 => exact owns_kept HO.out ((Kept.refl (fun _ => True) _).alloc _) (fun _ _ => trivial)
        case o2 => simp
        case o3 => unfold maxLen; omega
        case o4 => omega
        intro a' c' w5 ho hk' hv
        have HX := hide (CM.app (L' := L + D + j + 1) (ys := xs ++ [0]) (H.out.grow ((Kept.refl (fun _ => True) _).alloc _)) (by omega) (by rw [List.map_append]; exact ho) hk' (by rw [World.size_alloc]; exact hv))
        have q1 := hk'.cell (((Kept.refl (fun _ => True) wr).alloc _).cell c1 trivial) (fun e => (H.out.vb gC e.symm).2 rfl)
        have q2 : w5.frozen? ⟨gC, 1, none⟩ = false := by
          rw [hk'.frozen (q := ⟨gC, 1, none⟩) (by show gC < _; rw [World.size_alloc]; have := H.out.lt; omega) (fun e => (H.out.vb gC e.symm).2 rfl)]
          exact (H.out.grow ((Kept.refl (fun _ => True) _).alloc _)).fz 1
        clear ho hk' hv
        go_wp2
        go_roundw
        case rel => exact ⟨j + 1, _, by go_num, by omega, HX.out⟩
        case measure => simp [intOf]; omega
      · obtain rfl : j = K := by omega
        have hdj : decide (j < j) = false := decide_eq_false (by omega)
        have HC := hide hC
        clear hC
        go_wp2
        exact bodyPost_end (by simp [results, Facg.results136, go_sem]) rfl ⟨rfl, v', HC.out⟩
end Go.Proofs.Ygcfac
