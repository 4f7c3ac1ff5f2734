/-
  (*canon).structs.
-/
import Derived.Test.YgcfacCLaw
namespace Go.Proofs.Ygcfac
open Go.RowKit
set_option linter.unusedVariables false

theorem TrQ.lift {w : World} {q : Nat → Prop} {g : Nat} {t : Tr} (h : TrQ w q g t) : ∃ a c, q g ∧ w.cell? ⟨g, 0, none⟩ = some (.slice a t.ns.length c) ∧ w.cell? ⟨g, 1, none⟩ = some (.int .i16 t.root) ∧ t.ns.length ≤ 9223372036854775807 ∧ (0 < t.ns.length → ∃ b o, a = some ⟨b, o, none⟩ ∧ ∀ j, j < t.ns.length → NodeQ w q b (o + j * 4) (t.nd j)) := by
  obtain ⟨r, hq, ⟨a, c, h1, hc, hm, hr⟩, h3⟩ := h
  unfold maxLen at hm
  refine ⟨a, c, hq, h1, h3, by omega, fun h0 => ?_⟩
  obtain ⟨b, o, e, hx⟩ := hr (by intro e; rw [e] at h0; simp at h0)
  refine ⟨b, o, e, fun j hj => hx j _ ?_⟩
  unfold Tr.nd
  rw [List.getD_eq_getElem?_getD, List.getElem?_eq_getElem hj]
  rfl

theorem elL_mono (el : Nat → Nd) (K : Nat) : ∀ a b, a ≤ b → (elL el K a).length ≤ (elL el K b).length
  | a, 0, hab => by
    obtain rfl : a = 0 := by omega
    exact Nat.le_refl _
  | a, b + 1, hab => by
    by_cases e : a = b + 1
    · subst e; exact Nat.le_refl _
    · have := elL_mono el K a b (by omega)
      show _ ≤ (elL el K b ++ _).length
      rw [List.length_append]
      omega

/-- A call of a Go function of three operands, in a region that draws its order, where a law is tried first. -/
theorem step_call3 {P : Program} (w : World) {ops : Array Oper} {o : Oper} {a : Act} {K : Act → World → Prop} {Q : Exit → Act → World → Prop} {E : Prop} (hgd : o.guard = none) (f : FuncId) (x1 x2 x3 : Operand) (ts : Array TypeId)
    (ho : o.op = .call { callee := .value (.func f), args := #[x1, x2, x3], argTypes := ts }) (fn : Func) (hf : P.funcs[f]? = some fn) (hn : (fn.name == "runtime.NumGoroutine") = false) (hb : fn.body.isSome = true)
    (v1 v2 v3 : Value) (h1 : a.eval x1 = v1) (h2 : a.eval x2 = v2) (h3 : a.eval x3 = v3) (Post : Ending → World → Prop) (hc : Calls P f #[v1, v2, v3] w Post)
    (h : ∀ e w', Post e w' → ∃ v, e = .returned v ∧ K (a.put o.dst v) w') :
    if Region.wanted o (yielded ops a.tmps) = true then Oper.wp P o a w K Q else E := by
  rw [if_pos (by simp [Region.wanted, hgd])]
  have hn' : ¬ fn.name = "runtime.NumGoroutine" := by simpa using hn
  have hb' : ¬ fn.body = none := by intro e; rw [e] at hb; cases hb
  unfold Oper.wp execOp
  simp only [ho, resolve, invoke, Sem.run_bind, List.map_toArray, List.map_cons, List.map_nil, h1, h2, h3]
  have he : a.eval (Operand.func f) = .func (.func f) #[] #[] := rfl
  rw [he]
  simp [Deferred.ofValue, callFunc, Oper.upon, hf, hn', hb']
  refine hc.mono ?_
  intro e w' hp
  obtain ⟨v, rfl, hk⟩ := h e w' hp
  exact hk

theorem n152 : (Facg.f152.name == "runtime.NumGoroutine") = false := by kernel_rfl
theorem b152 : Facg.f152.body.isSome = true := by kernel_rfl
theorem ints_one (w : World) (y : Int) (hy : (Lit.int .u64 y).wf = true) (t : TypeId) : Ints (w.alloc (.cells #[.int .u64 y] t)) .u64 (.slice (some ⟨w.heap.size, 0, none⟩) 1 1) [y] := by
  refine ⟨some ⟨w.heap.size, 0, none⟩, 1, rfl, Nat.le_refl _, by decide, by simpa using hy, fun _ => ⟨w.heap.size, 0, rfl, fun j hj => ?_⟩⟩
  obtain rfl : j = 0 := by simpa using hj
  rw [World.cell?_alloc_at _ _ _ _ rfl]
  rfl
theorem ints_one_d (w : World) (y : Int) (hy : (Lit.int .u64 y).wf = true) (t : TypeId) : Ints (w.alloc (.cells #[.int .u64 y] t)).drew .u64 (.slice (some ⟨w.heap.size, 0, none⟩) 1 1) [y] :=
  (ints_one w y hy t).grows ((Kept.refl (fun _ => True) _).drew)

set_option maxHeartbeats 8000000 in
set_option maxRecDepth 10000 in
theorem cstructs_any (Q : Nat → Prop) (w wr : World) (gC gU L b o at_ d p : Nat) (u : Tr) (x : Nd) (v : Value) (st : List Nat) (h : CM Q w wr gC gU v L st) (hU : TrQ w Q gU u) (hx : NodeQ w Q b o x) (hk : x.kids.length ≤ 128) (ha : at_ < L) (ha' : at_ < 65536)
    (hin : u.In x) (hev : ∀ j, j < x.kids.length → (u.nd (x.k j).toNat).data.length = d ∧ (u.nd (x.k j).toNat).kids.length = p) (hd : d ≤ 8) (hp : p ≤ 8) (hkr : ∀ j q, j < x.kids.length → q < p → -1 ≤ (u.nd (x.k j).toNat).k q)
    (hL : L ≤ 900000000) (hlen : st.length + (elL (fun j => u.nd (x.k j).toNat) x.kids.length x.kids.length).length ≤ 512) :
    Calls Facg.prog 139 #[.pointer (some ⟨gC, 0, none⟩), .int .u16 at_, .int .u16 ((L % 65536 : Nat) : Int), .pointer (some ⟨b, o, none⟩)] wr (CanonQ Q w gC gU L 3000 (st ++ elL (fun j => u.nd (x.k j).toNat) x.kids.length x.kids.length)) := by
  obtain ⟨aU, cU, hqU, t0, t1, hN, hns⟩ := hU.lift
  have HNs := hide hns
  have HT0 := hide t0
  obtain ⟨_, hcr, hqb, d0, d1, _, vk, d3, hkI⟩ := hx
  obtain ⟨ak, ck, rfl, _, hrow, hwf⟩ := hkI.rowQ
  have HRow := hide hrow
  have HKb := hide (fun j (hj : j < x.kids.length) => show x.k j < 32768 by
    have := hwf (x.kids.getD j 0) (by rw [List.getD_eq_getElem?_getD, List.getElem?_eq_getElem hj]; exact List.getElem_mem hj)
    have := bounds_i16 this
    unfold Nd.k
    omega)
  have HIn := hide hin
  have HEv := hide hev
  have HKr := hide hkr
  have HD1 := hide d1
  have HD3 := hide d3
  have H := hide h
  clear hns t0 t1 hU hkI hrow hwf hin hev hkr d0 d1 d3
  obtain ⟨K, hK⟩ : ∃ K, x.kids.length = K := ⟨_, rfl⟩
  rw [hK] at hk HD3 HRow HEv HKr hlen ⊢
  have HKe := hide hK
  clear hK
  obtain ⟨el, hel⟩ : ∃ el : Nat → Nd, el = fun j => u.nd (x.k j).toNat := ⟨_, rfl⟩
  rw [← hel] at hlen ⊢
  have HEl := hide hel
  clear hel
  obtain ⟨N, hNe⟩ : ∃ N, u.ns.length = N := ⟨_, rfl⟩
  have HNe := hide hNe
  rw [hNe] at hN HT0 HNs
  clear hNe
  obtain ⟨to_, hto⟩ : ∃ to_, L % 65536 = to_ := ⟨_, rfl⟩
  have hto' : to_ < 65536 := by omega
  rw [hto]
  have HTo := hide hto
  clear hto
  -- the first element's sections
  have HSec := hide (show ∀ (wq : World), True from fun _ => trivial)
  have z3 := h.gr.cell HD3.out hqb
  have z1 := h.gr.cell HD1.out hqb
  have y0 := h.c0
  have y1 := h.c1
  have hlt := h.lt
  have zt := h.gr.cell HT0.out hqU
  clear h
  go_enter Facg.func139, Facg.ntmps139
  go_upto_if 21 with fail
  go_cut [8, 9] (fun s8 s9 wd => ∃ d' p' : Nat, s8 = .int .u8 d' ∧ s9 = .int .u8 p' ∧ d' ≤ 8 ∧ p' ≤ 8 ∧ (0 < K → d' = d ∧ p' = p) ∧ Grows wr wd)
  case first =>
    by_cases h0 : 0 < K
    · have hd0 : decide ((0 : Int) < (K : Int)) = true := decide_eq_true (by omega)
      obtain ⟨bk, ok, rfl, hqk, hrc⟩ := HRow.out h0
      have cx : wr.cell? ⟨bk, ok + 0, none⟩ = some (.int .i16 (x.k 0)) := H.out.gr.cell (hrc 0 h0) hqk
      rw [Nat.add_zero] at cx
      have hi0 := HIn.out 0 (by rw [HKe.out]; exact h0)
      obtain ⟨k, hk'⟩ := Int.eq_ofNat_of_zero_le hi0.1
      have hkN : k < N := by have := HNe.out; omega
      obtain ⟨bn, on, rfl, hnode⟩ := HNs.out (by omega)
      obtain ⟨_, _, hqn, _, _, ⟨vd1, e2, i2⟩, vk1, e3, i3⟩ := hnode k hkN
      obtain ⟨ad1, cd1, rfl, _, _, _⟩ := i2.ints.row
      obtain ⟨ak1, ck1, rfl, _, _, _⟩ := i3.ints.row
      have hs := HEv.out 0 h0
      rw [hk'] at hs cx
      simp only [Int.toNat_natCast] at hs
      rw [hs.1] at e2
      rw [hs.2] at e3
      have e2' := H.out.gr.cell e2 hqn
      have e3' := H.out.gr.cell e3 hqn
      clear hrc hnode i2 i3 hi0 hk' hs e2 e3
      go_wp2
      go_quiet (fail)
      go_wp2
      go_quiet (fail)
      go_wp2
      go_meet
      exact ⟨d, p, rfl, rfl, hd, hp, fun _ => ⟨rfl, rfl⟩, ((Kept.refl (fun _ => True) wr).drewN _).drewN _⟩
    · have hd0 : decide ((0 : Int) < (K : Int)) = false := decide_eq_false (by omega)
      go_wp2
      go_meet
      exact ⟨0, 0, rfl, rfl, by omega, by omega, fun h => absurd h h0, Kept.refl _ _⟩
  case rest =>
    obtain ⟨d', p', rfl, rfl, hd', hp', hdp, hgr⟩ := hcut
    have HDp := hide hdp
    have H1 := hide (H.out.grow hgr)
    clear hdp hgr y0 y1 z1 z3 zt H
    obtain ⟨g, c, rfl, hg1, hg2, hLb, hcell, hfz⟩ := H1.out.slice
    obtain ⟨x0, cx⟩ := hcell at_ ha
    have fx := hfz at_
    have z3 := H1.out.gr.cell HD3.out hqb
    have z1 := H1.out.gr.cell HD1.out hqb
    have y1 := H1.out.c1
    have hlt := H1.out.lt
    clear hcell hfz
    have HML := hide (fun (y : Int) w => makeList_some at_ to_ x.code (IntKind.u32.wrap y) w ha' hto' hcr (wrap32_bd y))
    go_wp2
    go_cut [59] (fun _ wd => CM Q w wd gC gU (.slice (some ⟨g, 0, none⟩) L c) L st)
    case first =>
      go_region_with (first
        | (go_at_call 158; (with_reducible refine (HML.out _ _).mono ?_); rintro e w3 ⟨y, rfl, rfl, hy⟩; clear hy))
      all_goals
        go_wp2_with (fail)
        go_meet
        first | exact (H1.out.setA at_ y).grow ((Kept.refl (fun _ => True) _).drew) | exact (H1.out.grow ((Kept.refl (fun _ => True) _).drew)).setA at_ y
    case rest =>
      have H2 := hide hcut
      clear hcut H1 cx fx z1 z3 y1
      obtain ⟨xs, ho⟩ := H2.out.own
      have HO := hide ho
      have y1 := H2.out.c1
      have hlt2 := H2.out.lt
      clear ho
      have hKb : (K : Int) < 65536 := by omega
      have HMT := hide (fun (w : World) => makeTag_some K d' p' w (by omega) ⟨by omega, by omega⟩ ⟨by omega, by omega⟩)
      go_wp2
      go_cut [76] (fun _ wd => ∃ v', CM Q w wd gC gU v' (L + 1) st)
      case first =>
        go_region_law (first
          | (refine step_call3 _ rfl 152 (.tmp 81) (.tmp 82) (.tmp 83) #[24, 5, 5] rfl Facg.f152 Facg.func152 n152 b152 (.int .u16 K) (.int .u8 d') (.int .u8 p') (by go_simp) (by go_simp) (by go_simp) _ (HMT.out _) ?_; rintro e w3 ⟨y, rfl, rfl, hy⟩; have HYw := hide hy; clear hy; refine ⟨_, rfl, ?_⟩)
          | (refine step_appI _ rfl (.tmp 80) (.tmp 85) 22 rfl 38 (.int .u64 0) 8 Facg.underlying22 info38 rfl .u64 (.slice (some ⟨g, 0, none⟩) L c) L xs rfl (by exact owns_kept HO.out (p := fun _ => True) (by repeat (first | exact Kept.refl _ _ | refine Kept.drew ?_ | refine Kept.alloc ?_ _)) (fun _ _ => trivial)) _ [y] rfl (by first | exact ints_one_d _ y HYw.out _ | exact ints_one _ y HYw.out _) (by unfold maxLen; simp; omega) (by simp; omega) ?_; intro a' c' w' ho hk' hb'; have HX := hide (CM.app (L' := L + 1) (ys := xs ++ [y]) (H2.out.grow (by repeat (first | exact Kept.refl _ _ | refine Kept.drew ?_ | refine Kept.alloc ?_ _))) (by omega) ho hk' hb'); have q1 := hk'.cell (Kept.cell (p := fun _ => True) (w' := (wc.alloc (.cells #[.int .u64 y] 38)).drew) (by repeat (first | exact Kept.refl _ _ | refine Kept.drew ?_ | refine Kept.alloc ?_ _)) y1 trivial) (fun e => (H2.out.vb gC e.symm).2 rfl); have q2 : w'.frozen? ⟨gC, 1, none⟩ = false := (by rw [hk'.frozen (q := ⟨gC, 1, none⟩) (by simp; omega) (fun e => (H2.out.vb gC e.symm).2 rfl)]; exact (H2.out.grow (w' := (wc.alloc (.cells #[.int .u64 y] 38)).drew) (by repeat (first | exact Kept.refl _ _ | refine Kept.drew ?_ | refine Kept.alloc ?_ _))).fz 1); clear ho hk' hb'))
        all_goals go_wp2_with (fail)
        all_goals go_meet
        all_goals exact ⟨_, HX.out⟩
      case rest =>
        obtain ⟨v1, hC⟩ := hcut
        have H3 := hide hC
        clear hC H2 HO y1 HMT HML
        have z3 := H3.out.gr.cell HD3.out hqb
        have HLt := hide (show ∀ m, m ≤ K → L + 1 + m * (d + p) ≤ L + 1 + K * (d + p) from fun m hm => Nat.add_le_add_left (Nat.mul_le_mul_right _ hm) _)
        have hKS : K * (d + p) ≤ 128 * 16 := Nat.mul_le_mul hk (by omega)
        go_wp2
        go_loopw [94] (fun tj wr => ∃ (j : Nat) (v' : Value), tj = .int .i64 j ∧ j ≤ K ∧ CM Q w wr gC gU v' (L + 1 + j * (d + p)) st) (fun tj _ => K - (intOf tj).toNat)
        case atStart => exact ⟨0, v1, rfl, Nat.zero_le _, by simpa using H3.out⟩
        case round =>
          clear H3 z3
          obtain ⟨j, v', rfl, hj, hC⟩ := hrel
          by_cases hjK : j < K
          · have hdj : decide (j < K) = true := decide_eq_true hjK
            obtain ⟨bk, ok, rfl, hqk, hrc⟩ := HRow.out (by omega)
            have cx : wr.cell? ⟨bk, ok + j, none⟩ = some (.int .i16 (x.k j)) := hC.gr.cell (hrc j hjK) hqk
            have hi0 := HIn.out j (by rw [HKe.out]; exact hjK)
            obtain ⟨k, hk'⟩ := Int.eq_ofNat_of_zero_le hi0.1
            have hkN : k < N := by have := HNe.out; omega
            obtain ⟨bn, on, rfl, hnode⟩ := HNs.out (by omega)
            have hs := HEv.out j hjK
            rw [hk'] at hs cx
            simp only [Int.toNat_natCast] at hs
            have HSe := hide (csections_any Q w wr gC gU (L + 1 + j * (d + p)) bn (on + k * 4) (u.nd k) v' st hC (hnode k hkN) (by rw [hs.1]; omega) (by rw [hs.2]; omega) (by have := HLt.out j (by omega); omega))
            rw [hs.1, hs.2] at HSe
            have HEq := hide (show L + 1 + j * (d + p) + d + p = L + 1 + (j + 1) * (d + p) by rw [Nat.add_mul, Nat.one_mul]; omega)
            have y0 := hC.c0
            have zt := hC.gr.cell HT0.out hqU
            have hk16 : k < 32768 := by
              have := HKb.out j (by rw [HKe.out]; exact hjK)
              omega
            clear hC hrc hnode hi0 hk' hs
            go_wp2_with (first
              | (go_at_call 136; (with_reducible refine HSe.out.mono ?_); rintro e w2 ⟨rfl, v2, hc2⟩; have HC2 := hide hc2; clear hc2))
            go_roundw
            case rel => exact ⟨j + 1, v2, by go_num, by omega, by rw [← HEq.out]; exact HC2.out⟩
            case measure => simp [intOf]; omega
          · obtain rfl : j = K := by omega
            have hdj : decide (j < j) = false := decide_eq_false (by omega)
            have H4 := hide hC
            have z3 := hC.gr.cell HD3.out hqb
            clear hC
            go_wp2
            go_loopw [15] (fun t wr => ∃ (m : Nat) (v' : Value), t = .int .i64 ((j : Int) - 1 - (m : Int)) ∧ m ≤ j ∧ CM Q w wr gC gU v' (L + 1 + j * (d + p)) (st ++ elL el j m)) (fun t _ => (intOf t + 1).toNat)
            case atStart => exact ⟨0, v', by go_num, Nat.zero_le _, by simpa [elL] using H4.out⟩
            case round =>
              clear H4 z3
              obtain ⟨m, v', rfl, hm, hC⟩ := hrel
              by_cases hmK : m < j
              · obtain ⟨q, hq⟩ : ∃ q, j = q + m + 1 := ⟨j - m - 1, by omega⟩
                have hqe : j - 1 - m = q := by omega
                have e : ((j : Int) - 1 - (m : Int)) = (q : Int) := by omega
                rw [e]
                have hqK : q < j := by omega
                have hd0 : decide ((0 : Int) ≤ (q : Int)) = true := decide_eq_true (by omega)
                obtain ⟨bk, ok, rfl, hqk, hrc⟩ := HRow.out (by omega)
                have cx : wr.cell? ⟨bk, ok + q, none⟩ = some (.int .i16 (x.k q)) := hC.gr.cell (hrc q hqK) hqk
                have z3 := hC.gr.cell HD3.out hqb
                have hi0 := HIn.out q (by rw [HKe.out]; exact hqK)
                obtain ⟨k, hk'⟩ := Int.eq_ofNat_of_zero_le hi0.1
                have hkN : k < N := by have := HNe.out; omega
                obtain ⟨bn, on, rfl, hnode⟩ := HNs.out (by omega)
                have hs := HEv.out q hqK
                have hkr := HKr.out q
                rw [hk'] at hs cx hkr
                simp only [Int.toNat_natCast] at hs hkr
                have heq : el q = u.nd k := by rw [HEl.out]; show u.nd (x.k q).toNat = _; rw [hk']; rfl
                have hmono := elL_mono el j (m + 1) j (by omega)
                have hsucc : elL el j (m + 1) = elL el j m ++ pushL (u.nd k).k (u.nd k).kids.length (u.nd k).kids.length := by rw [← heq, ← hqe]; rfl
                have y0 := hC.c0
                have zt := hC.gr.cell HT0.out hqU
                have hdpe : d' = d ∧ p' = p := HDp.out (by omega)
                have hmul : q * (d + p) + (d + p) ≤ j * (d + p) := by rw [← Nat.succ_mul]; exact Nat.mul_le_mul_right _ (by omega)
                have HQ := hide hq
                have HS := hide hsucc
                have hk16 : k < 32768 := by
                  have := HKb.out q (by rw [HKe.out]; exact hqK)
                  omega
                obtain ⟨rfl, rfl⟩ := hdpe
                have HKd := hide (fun (wx : World) (a0 : Nat) (hgx : Grows wr wx) (h1 : a0 < 65536) (h2 : ∀ r, r < p' → (a0 + d' + r) % 65536 < L + 1 + j * (d' + p')) => ckids_any Q w wx gC gU (L + 1 + j * (d' + p')) bn (on + k * 4) a0 (u.nd k) v' (st ++ elL el j m) (hC.grow hgx) (hnode k hkN) (by rw [hs.1]; omega) (by rw [hs.2]; omega) h1 (by rw [List.length_append]; rw [hsucc, List.length_append] at hmono; omega) (by rw [hs.1, hs.2]; exact h2) (by rw [hs.2]; exact fun r hr => hkr r hqK hr))
                have hq128 : q < 128 := by omega
                obtain ⟨a0, ha0, ha1, ha2⟩ : ∃ a0 : Nat, IntKind.u16.wrap (IntKind.u16.wrap ((to_ : Int) + 1) + IntKind.u16.wrap (IntKind.u16.wrap (q : Int) * ((d' : Int) + (p' : Int)))) = (a0 : Int) ∧ a0 < 65536 ∧ a0 = (L + 1 + q * (d' + p')) % 65536 := by
                  have h1 := HTo.out
                  have h2 : IntKind.u16.wrap (q : Int) = (q : Int) := by rw [IntKind.wrap_u16]; omega
                  have h3 : (q : Int) * ((d' : Int) + (p' : Int)) = ((q * (d' + p') : Nat) : Int) := by simp
                  rw [h2, h3]
                  generalize q * (d' + p') = Z at *
                  refine ⟨(L + 1 + Z) % 65536, ?_, by omega, rfl⟩
                  rw [IntKind.wrap_u16, IntKind.wrap_u16, IntKind.wrap_u16]
                  omega
                have HA2 : Hid (∀ r, r < p' → (a0 + d' + r) % 65536 < L + 1 + j * (d' + p')) := fun r hr => by
                  rw [ha2]
                  generalize q * (d' + p') = Z at *
                  generalize j * (d' + p') = Y at *
                  omega
                clear hC hrc hnode hi0 hk' hs hkr heq hmono hsucc hq hqe e ha2
                go_wp2
                go_region_with (first
                  | (go_at_call 137; (with_reducible refine (HKd.out _ a0 (Kept.refl (fun _ => True) _).drew ha1 HA2.out).mono ?_); rintro e w2 ⟨rfl, v2, hc2⟩; have HC2 := hide hc2; clear hc2))
                all_goals
                  go_wp2
                  go_roundw
                  case rel => exact ⟨m + 1, v2, by congr 1; have := HQ.out; omega, by omega, by rw [HS.out, ← List.append_assoc]; exact HC2.out⟩
                  case measure => simp [intOf]
              · obtain rfl : m = j := by omega
                have e : ((m : Int) - 1 - (m : Int)) = -1 := by omega
                rw [e]
                have HC := hide hC
                clear hC
                go_wp2
                refine bodyPost_end (by simp [results, Facg.results139, go_sem]) rfl ⟨rfl, _, v', ?_, ?_, HC.out⟩
                · omega
                · omega
end Go.Proofs.Ygcfac
