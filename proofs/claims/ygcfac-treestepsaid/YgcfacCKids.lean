/-
  (*canon).kids, .scalars.
-/
import Derived.Test.YgcfacCPush
namespace Go.Proofs.Ygcfac
open Go.RowKit
set_option linter.unusedVariables false

/-- A row of integers in a block of which q holds. -/
def RowQ (w : World) (q : Nat → Prop) (k : IntKind) (a : Option Addr) (n : Nat) (f : Nat → Int) : Prop :=
  0 < n → ∃ b o, a = some ⟨b, o, none⟩ ∧ q b ∧ ∀ j, j < n → w.cell? ⟨b, o + j, none⟩ = some (.int k (f j))

theorem IntsO.rowQ {w : World} {q : Nat → Prop} {k : IntKind} {v : Value} {xs : List Int} (h : IntsO w q k v xs) : ∃ a c, v = .slice a xs.length c ∧ xs.length ≤ 9223372036854775807 ∧ RowQ w q k a xs.length (fun j => xs.getD j 0) ∧ ∀ x ∈ xs, (Lit.int k x).wf = true := by
  obtain ⟨a, c, rfl, hc, hm, hw, hr⟩ := h
  unfold maxLen at hm
  exact ⟨a, c, rfl, by omega, fun h0 => hr (by intro e; rw [e] at h0; simp at h0), hw⟩

/-- What kids pushes, the last kid first: after m of them. -/
def pushL (h : Nat → Int) (K : Nat) : Nat → List Nat
  | 0 => []
  | m + 1 => pushL h K m ++ (if h (K - 1 - m) = -1 then [] else [(h (K - 1 - m)).toNat])

theorem pushL_mono (h : Nat → Int) (K : Nat) : ∀ a b, a ≤ b → (pushL h K a).length ≤ (pushL h K b).length
  | a, 0, hab => by
    obtain rfl : a = 0 := by omega
    exact Nat.le_refl _
  | a, b + 1, hab => by
    by_cases e : a = b + 1
    · subst e; exact Nat.le_refl _
    · have := pushL_mono h K a b (by omega)
      show _ ≤ (pushL h K b ++ _).length
      rw [List.length_append]
      omega

set_option maxHeartbeats 1000000 in
theorem ckids_any (Q : Nat → Prop) (w wr : World) (gC gU L b o to_ : Nat) (x : Nd) (v : Value) (st : List Nat) (h : CM Q w wr gC gU v L st) (hx : NodeQ w Q b o x) (hd : x.data.length ≤ 128) (hk : x.kids.length ≤ 128) (hto : to_ < 65536)
    (hlen : st.length + (pushL x.k x.kids.length x.kids.length).length ≤ 512) (hat : ∀ q, q < x.kids.length → (to_ + x.data.length + q) % 65536 < L) (hkr : ∀ q, q < x.kids.length → -1 ≤ x.k q) :
    Calls Facg.prog 137 #[.pointer (some ⟨gC, 0, none⟩), .int .u16 to_, .pointer (some ⟨b, o, none⟩)] wr (CanonP Q w gC gU L (st ++ pushL x.k x.kids.length x.kids.length)) := by
  obtain ⟨_, _, hqb, _, _, ⟨vd, d2, hdI⟩, vk, d3, hkI⟩ := hx
  obtain ⟨ad, cd, rfl, _, _, _⟩ := hdI.ints.row
  obtain ⟨ak, ck, rfl, _, hrow, hwf⟩ := hkI.rowQ
  have HRow := hide hrow
  have HKb := hide (fun j (hj : j < x.kids.length) => show x.k j < 32768 by
    have := hwf (x.kids.getD j 0) (by rw [List.getD_eq_getElem?_getD, List.getElem?_eq_getElem hj]; exact List.getElem_mem hj)
    have := bounds_i16 this
    unfold Nd.k
    omega)
  have HAt := hide hat
  have HKr := hide hkr
  have HD3 := hide d3
  have z2 := h.gr.cell d2 hqb
  have z3 := h.gr.cell d3 hqb
  have H := hide h
  clear h hdI hkI d2 d3 hrow hwf hat hkr
  obtain ⟨K, hK⟩ : ∃ K, x.kids.length = K := ⟨_, rfl⟩
  obtain ⟨D, hD⟩ : ∃ D, x.data.length = D := ⟨_, rfl⟩
  rw [hK] at hk z3 HD3 HRow HKb HAt HKr hlen ⊢
  rw [hD] at hd z2 HAt
  clear hK hD
  obtain ⟨b0, hb0, hb1, hb2⟩ : ∃ b0 : Nat, IntKind.u16.wrap ((to_ : Int) + (D : Int)) = (b0 : Int) ∧ b0 < 65536 ∧ b0 = (to_ + D) % 65536 := by
    rw [IntKind.wrap_u16]
    exact ⟨(to_ + D) % 65536, by omega, by omega, rfl⟩
  have HB2 := hide hb2
  clear hb2
  go_enter Facg.func137, Facg.ntmps137
  go_wp2
  go_loopw [7] (fun t wr => ∃ (m : Nat) (v' : Value), t = .int .i64 ((K : Int) - 1 - (m : Int)) ∧ m ≤ K ∧ CM Q w wr gC gU v' L (st ++ pushL x.k K m)) (fun t _ => (intOf t + 1).toNat)
  case atStart => exact ⟨0, v, by go_num, Nat.zero_le _, by simpa [pushL] using H.out⟩
  case round =>
    clear H z2 z3
    obtain ⟨m, v', rfl, hm, hC⟩ := hrel
    by_cases hmK : m < K
    · obtain ⟨q, hq⟩ : ∃ q, K = q + m + 1 := ⟨K - m - 1, by omega⟩
      have hqe : K - 1 - m = q := by omega
      have e : ((K : Int) - 1 - (m : Int)) = (q : Int) := by omega
      rw [e]
      have hqK : q < K := by omega
      have hd0 : decide ((0 : Int) ≤ (q : Int)) = true := decide_eq_true (by omega)
      obtain ⟨bk, ok, rfl, hqk, hrc⟩ := HRow.out (by omega)
      have cx : wr.cell? ⟨bk, ok + q, none⟩ = some (.int .i16 (x.k q)) := hC.gr.cell (hrc q hqK) hqk
      have z3 := hC.gr.cell HD3.out hqb
      obtain ⟨a0, ha0, ha1, ha2⟩ : ∃ a0 : Nat, IntKind.u16.wrap ((b0 : Int) + (q : Int)) = (a0 : Int) ∧ a0 < 65536 ∧ a0 < L := by
        rw [IntKind.wrap_u16]
        have h1 := HAt.out q hqK
        have h2 := HB2.out
        exact ⟨(b0 + q) % 65536, by omega, by omega, by omega⟩
      have hmono := pushL_mono x.k K (m + 1) K (by omega)
      have hsucc : pushL x.k K (m + 1) = pushL x.k K m ++ (if x.k q = -1 then [] else [(x.k q).toNat]) := by rw [← hqe]; rfl
      have hkb := HKb.out q hqK
      have hkr := HKr.out q hqK
      have HQ := hide hq
      have hq512 : q < 512 := by omega
      clear hrc e hq hqe
      by_cases hy : x.k q = -1
      · rw [hy] at cx hsucc
        rw [if_pos rfl, List.append_nil] at hsucc
        have HS := hide hsucc
        have HP := hide (cpush_null Q w wr gC gU L a0 v' _ hC)
        clear hy hC hsucc hmono hkb hkr
        go_wp2_with (first
          | (go_at_call 82; (with_reducible refine HP.out.mono ?_); rintro e w2 ⟨rfl, v2, hc2⟩; have HC2 := hide hc2; clear hc2))
        go_roundw
        case rel => exact ⟨m + 1, v2, by congr 1; have := HQ.out; omega, by omega, by rw [HS.out]; exact HC2.out⟩
        case measure => simp [intOf]
      · obtain ⟨k, hk'⟩ := Int.eq_ofNat_of_zero_le (show 0 ≤ x.k q by omega)
        rw [hk'] at cx hsucc hkb
        rw [if_neg (by omega)] at hsucc
        have HS := hide hsucc
        have HP := hide (cpush_kid Q w wr gC gU L a0 k v' _ hC (by rw [List.length_append]; rw [hsucc, List.length_append] at hmono; simp at hmono; omega) ha2 ha1 (by omega))
        clear hy hC hsucc hmono hkb hkr hk'
        go_wp2_with (first
          | (go_at_call 82; (with_reducible refine HP.out.mono ?_); rintro e w2 ⟨rfl, v2, hc2⟩; have HC2 := hide hc2; clear hc2))
        go_roundw
        case rel => exact ⟨m + 1, v2, by congr 1; have := HQ.out; omega, by omega, by rw [HS.out]; simpa using HC2.out⟩
        case measure => simp [intOf]
    · obtain rfl : m = K := by omega
      have e : ((m : Int) - 1 - (m : Int)) = -1 := by omega
      rw [e]
      have HC := hide hC
      clear hC
      go_wp2
      exact bodyPost_end (by simp [results, Facg.results137, go_sem]) rfl ⟨rfl, v', HC.out⟩

def CanonQ (Q : Nat → Prop) (w : World) (gC gU L B : Nat) (st : List Nat) (e : Ending) (w' : World) : Prop := e = .returned (.tuple #[]) ∧ ∃ L' v', L ≤ L' ∧ L' ≤ L + B ∧ CM Q w w' gC gU v' L' st

set_option maxHeartbeats 2000000 in
theorem cscalars_any (Q : Nat → Prop) (w wr : World) (gC gU L b o : Nat) (x : Nd) (v : Value) (st : List Nat) (h : CM Q w wr gC gU v L st) (hx : NodeQ w Q b o x) (hd : x.data.length ≤ 128) (hc : 2 ≤ x.code ∧ x.code ≤ 5) (hL : L ≤ 1000000000) :
    Calls Facg.prog 140 #[.pointer (some ⟨gC, 0, none⟩), .pointer (some ⟨b, o, none⟩)] wr (CanonQ Q w gC gU L 128 st) := by
  obtain ⟨_, _, hqb, _, d1, ⟨vd, d2, hdI⟩, _⟩ := hx
  obtain ⟨ad, cd, rfl, _, hrow, hwf⟩ := hdI.rowQ
  have HRow := hide hrow
  have HDb := hide (fun j (hj : j < x.data.length) => show 0 ≤ x.d j ∧ x.d j < 18446744073709551616 by
    have := hwf (x.data.getD j 0) (by rw [List.getD_eq_getElem?_getD, List.getElem?_eq_getElem hj]; exact List.getElem_mem hj)
    have := bounds_u64 this
    unfold Nd.d
    omega)
  have z1 := h.gr.cell d1 hqb
  have z2 := h.gr.cell d2 hqb
  have H := hide h
  clear h hdI d1 d2 hrow hwf
  obtain ⟨D, hD⟩ : ∃ D, x.data.length = D := ⟨_, rfl⟩
  rw [hD] at hd z2 HRow HDb
  clear hD
  have hcs : x.code = 2 ∨ x.code = 3 ∨ x.code = 4 ∨ x.code = 5 := by omega
  clear hc
  rcases hcs with hcs | hcs | hcs | hcs
  all_goals (rw [hcs] at z1; clear hcs)
  · go_enter Facg.func140, Facg.ntmps140
    go_wp2
    go_loopw [19] (fun t wr => ∃ (j Lj : Nat) (v' : Value), t = .int .i64 j ∧ j ≤ D ∧ L ≤ Lj ∧ Lj ≤ L + j ∧ CM Q w wr gC gU v' Lj st) (fun t _ => D - (intOf t).toNat)
    case atStart => exact ⟨0, L, v, rfl, Nat.zero_le _, Nat.le_refl _, Nat.le_refl _, H.out⟩
    case round =>
      clear H z1 z2
      obtain ⟨j, Lj, v', rfl, hj, hL1, hL2, hC⟩ := hrel
      by_cases hjD : j < D
      · have hdj : decide (j < D) = true := decide_eq_true hjD
        obtain ⟨bd, od, rfl, hqd, hrc⟩ := HRow.out (by omega)
        have cx : wr.cell? ⟨bd, od + j, none⟩ = some (.int .u64 (x.d j)) := hC.gr.cell (hrc j hjD) hqd
        have HC := hide hC
        have hxb := HDb.out j hjD
        have hj128 : j < 128 := by omega
        clear hC hrc
        go_upto_if 30 with fail
        go_cut [31] (fun _ wd => ∃ (v' : Value) (L' : Nat), L ≤ L' ∧ L' ≤ L + j + 1 ∧ CM Q w wd gC gU v' L' st)
        case first =>
          cases hz : ((j : Int) * 8 % 64 == 0)
          · go_wp2
            go_meet
            exact ⟨v', Lj, hL1, by omega, HC.out⟩
          · obtain ⟨xs, ho⟩ := HC.out.own
            obtain ⟨av, cv, rfl⟩ := owns_slice ho
            have HO := hide ho
            have c1 := HC.out.c1
            have hlt := HC.out.lt
            clear ho
            go_wp2_with (first
              | (at_builtin; refine wpList_app1 _ rfl _ _ 22 rfl 38 (.int .u64 0) 8 Facg.underlying22 info38 rfl (.slice av Lj cv) Lj (xs.map (Value.int .u64)) rfl ?o1 wr.heap.size (.int .u64 0) rfl ?o2 rfl ?o3 ?o4 ?_))
            case o1 => exact owns_kept HO.out ((Kept.refl (fun _ => True) _).alloc _) (fun _ _ => trivial)
            case o2 => simp
            case o3 => unfold maxLen; omega
            case o4 => omega
            intro a' c' w5 ho hk' hv
            have HX := hide (CM.app (L' := Lj + 1) (ys := xs ++ [0]) (HC.out.grow ((Kept.refl (fun _ => True) _).alloc _)) (by omega) (by rw [List.map_append]; exact ho) hk' (by rw [World.size_alloc]; exact hv))
            have q1 := hk'.cell (((Kept.refl (fun _ => True) wr).alloc _).cell c1 trivial) (fun e => (HC.out.vb gC e.symm).2 rfl)
            have q2 : w5.frozen? ⟨gC, 1, none⟩ = false := by
              rw [hk'.frozen (q := ⟨gC, 1, none⟩) (by show gC < _; rw [World.size_alloc]; have := HC.out.lt; omega) (fun e => (HC.out.vb gC e.symm).2 rfl)]
              exact (HC.out.grow ((Kept.refl (fun _ => True) _).alloc _)).fz 1
            clear ho hk' hv
            go_wp2
            go_meet
            exact ⟨_, Lj + 1, by omega, by omega, HX.out⟩
        case rest =>
          obtain ⟨v2, L2, hl1, hl2, hC2⟩ := hcut
          obtain ⟨g, c, rfl, hg1, hg2, hLb, hcell, hfz⟩ := hC2.slice
          have hpos := hC2.pos
          obtain ⟨q, rfl⟩ : ∃ q, L2 = q + 1 := ⟨L2 - 1, by omega⟩
          obtain ⟨y0, cy⟩ := hcell q (by omega)
          have fy := hfz q
          have c1 := hC2.c1
          have HC2 := hide hC2
          have hm64 : decide ((j : Int) * 8 % 64 < 64) = true := decide_eq_true (by omega)
          clear hC2 hcell hfz cx HC
          go_wp2
          go_region
          all_goals
            go_wp2
            go_roundw
            case rel => exact ⟨j + 1, q + 1, .slice (some ⟨g, 0, none⟩) (q + 1) c, by go_num, by omega, hl1, by omega, by first | exact (HC2.out.setA q _).grow ((Kept.refl (fun _ => True) _).drew) | exact (HC2.out.grow ((Kept.refl (fun _ => True) _).drew)).setA q _⟩
            case measure => simp [intOf]; omega
      · have hdj : decide (j < D) = false := decide_eq_false hjD
        have HC := hide hC
        clear hC
        go_wp2
        exact bodyPost_end (by simp [results, Facg.results140, go_sem]) rfl ⟨rfl, Lj, v', hL1, by omega, HC.out⟩
  · go_enter Facg.func140, Facg.ntmps140
    go_wp2
    go_loopw [19] (fun t wr => ∃ (j Lj : Nat) (v' : Value), t = .int .i64 j ∧ j ≤ D ∧ L ≤ Lj ∧ Lj ≤ L + j ∧ CM Q w wr gC gU v' Lj st) (fun t _ => D - (intOf t).toNat)
    case atStart => exact ⟨0, L, v, rfl, Nat.zero_le _, Nat.le_refl _, Nat.le_refl _, H.out⟩
    case round =>
      clear H z1 z2
      obtain ⟨j, Lj, v', rfl, hj, hL1, hL2, hC⟩ := hrel
      by_cases hjD : j < D
      · have hdj : decide (j < D) = true := decide_eq_true hjD
        obtain ⟨bd, od, rfl, hqd, hrc⟩ := HRow.out (by omega)
        have cx : wr.cell? ⟨bd, od + j, none⟩ = some (.int .u64 (x.d j)) := hC.gr.cell (hrc j hjD) hqd
        have HC := hide hC
        have hxb := HDb.out j hjD
        have hj128 : j < 128 := by omega
        clear hC hrc
        go_upto_if 30 with fail
        go_cut [31] (fun _ wd => ∃ (v' : Value) (L' : Nat), L ≤ L' ∧ L' ≤ L + j + 1 ∧ CM Q w wd gC gU v' L' st)
        case first =>
          cases hz : ((j : Int) * 16 % 64 == 0)
          · go_wp2
            go_meet
            exact ⟨v', Lj, hL1, by omega, HC.out⟩
          · obtain ⟨xs, ho⟩ := HC.out.own
            obtain ⟨av, cv, rfl⟩ := owns_slice ho
            have HO := hide ho
            have c1 := HC.out.c1
            have hlt := HC.out.lt
            clear ho
            go_wp2_with (first
              | (at_builtin; refine wpList_app1 _ rfl _ _ 22 rfl 38 (.int .u64 0) 8 Facg.underlying22 info38 rfl (.slice av Lj cv) Lj (xs.map (Value.int .u64)) rfl ?o1 wr.heap.size (.int .u64 0) rfl ?o2 rfl ?o3 ?o4 ?_))
            case o1 => exact owns_kept HO.out ((Kept.refl (fun _ => True) _).alloc _) (fun _ _ => trivial)
            case o2 => simp
            case o3 => unfold maxLen; omega
            case o4 => omega
            intro a' c' w5 ho hk' hv
            have HX := hide (CM.app (L' := Lj + 1) (ys := xs ++ [0]) (HC.out.grow ((Kept.refl (fun _ => True) _).alloc _)) (by omega) (by rw [List.map_append]; exact ho) hk' (by rw [World.size_alloc]; exact hv))
            have q1 := hk'.cell (((Kept.refl (fun _ => True) wr).alloc _).cell c1 trivial) (fun e => (HC.out.vb gC e.symm).2 rfl)
            have q2 : w5.frozen? ⟨gC, 1, none⟩ = false := by
              rw [hk'.frozen (q := ⟨gC, 1, none⟩) (by show gC < _; rw [World.size_alloc]; have := HC.out.lt; omega) (fun e => (HC.out.vb gC e.symm).2 rfl)]
              exact (HC.out.grow ((Kept.refl (fun _ => True) _).alloc _)).fz 1
            clear ho hk' hv
            go_wp2
            go_meet
            exact ⟨_, Lj + 1, by omega, by omega, HX.out⟩
        case rest =>
          obtain ⟨v2, L2, hl1, hl2, hC2⟩ := hcut
          obtain ⟨g, c, rfl, hg1, hg2, hLb, hcell, hfz⟩ := hC2.slice
          have hpos := hC2.pos
          obtain ⟨q, rfl⟩ : ∃ q, L2 = q + 1 := ⟨L2 - 1, by omega⟩
          obtain ⟨y0, cy⟩ := hcell q (by omega)
          have fy := hfz q
          have c1 := hC2.c1
          have HC2 := hide hC2
          have hm64 : decide ((j : Int) * 16 % 64 < 64) = true := decide_eq_true (by omega)
          clear hC2 hcell hfz cx HC
          go_wp2
          go_region
          all_goals
            go_wp2
            go_roundw
            case rel => exact ⟨j + 1, q + 1, .slice (some ⟨g, 0, none⟩) (q + 1) c, by go_num, by omega, hl1, by omega, by first | exact (HC2.out.setA q _).grow ((Kept.refl (fun _ => True) _).drew) | exact (HC2.out.grow ((Kept.refl (fun _ => True) _).drew)).setA q _⟩
            case measure => simp [intOf]; omega
      · have hdj : decide (j < D) = false := decide_eq_false hjD
        have HC := hide hC
        clear hC
        go_wp2
        exact bodyPost_end (by simp [results, Facg.results140, go_sem]) rfl ⟨rfl, Lj, v', hL1, by omega, HC.out⟩
  · go_enter Facg.func140, Facg.ntmps140
    go_wp2
    go_loopw [19] (fun t wr => ∃ (j Lj : Nat) (v' : Value), t = .int .i64 j ∧ j ≤ D ∧ L ≤ Lj ∧ Lj ≤ L + j ∧ CM Q w wr gC gU v' Lj st) (fun t _ => D - (intOf t).toNat)
    case atStart => exact ⟨0, L, v, rfl, Nat.zero_le _, Nat.le_refl _, Nat.le_refl _, H.out⟩
    case round =>
      clear H z1 z2
      obtain ⟨j, Lj, v', rfl, hj, hL1, hL2, hC⟩ := hrel
      by_cases hjD : j < D
      · have hdj : decide (j < D) = true := decide_eq_true hjD
        obtain ⟨bd, od, rfl, hqd, hrc⟩ := HRow.out (by omega)
        have cx : wr.cell? ⟨bd, od + j, none⟩ = some (.int .u64 (x.d j)) := hC.gr.cell (hrc j hjD) hqd
        have HC := hide hC
        have hxb := HDb.out j hjD
        have hj128 : j < 128 := by omega
        clear hC hrc
        go_upto_if 30 with fail
        go_cut [31] (fun _ wd => ∃ (v' : Value) (L' : Nat), L ≤ L' ∧ L' ≤ L + j + 1 ∧ CM Q w wd gC gU v' L' st)
        case first =>
          cases hz : ((j : Int) * 32 % 64 == 0)
          · go_wp2
            go_meet
            exact ⟨v', Lj, hL1, by omega, HC.out⟩
          · obtain ⟨xs, ho⟩ := HC.out.own
            obtain ⟨av, cv, rfl⟩ := owns_slice ho
            have HO := hide ho
            have c1 := HC.out.c1
            have hlt := HC.out.lt
            clear ho
            go_wp2_with (first
              | (at_builtin; refine wpList_app1 _ rfl _ _ 22 rfl 38 (.int .u64 0) 8 Facg.underlying22 info38 rfl (.slice av Lj cv) Lj (xs.map (Value.int .u64)) rfl ?o1 wr.heap.size (.int .u64 0) rfl ?o2 rfl ?o3 ?o4 ?_))
            case o1 => exact owns_kept HO.out ((Kept.refl (fun _ => True) _).alloc _) (fun _ _ => trivial)
            case o2 => simp
            case o3 => unfold maxLen; omega
            case o4 => omega
            intro a' c' w5 ho hk' hv
            have HX := hide (CM.app (L' := Lj + 1) (ys := xs ++ [0]) (HC.out.grow ((Kept.refl (fun _ => True) _).alloc _)) (by omega) (by rw [List.map_append]; exact ho) hk' (by rw [World.size_alloc]; exact hv))
            have q1 := hk'.cell (((Kept.refl (fun _ => True) wr).alloc _).cell c1 trivial) (fun e => (HC.out.vb gC e.symm).2 rfl)
            have q2 : w5.frozen? ⟨gC, 1, none⟩ = false := by
              rw [hk'.frozen (q := ⟨gC, 1, none⟩) (by show gC < _; rw [World.size_alloc]; have := HC.out.lt; omega) (fun e => (HC.out.vb gC e.symm).2 rfl)]
              exact (HC.out.grow ((Kept.refl (fun _ => True) _).alloc _)).fz 1
            clear ho hk' hv
            go_wp2
            go_meet
            exact ⟨_, Lj + 1, by omega, by omega, HX.out⟩
        case rest =>
          obtain ⟨v2, L2, hl1, hl2, hC2⟩ := hcut
          obtain ⟨g, c, rfl, hg1, hg2, hLb, hcell, hfz⟩ := hC2.slice
          have hpos := hC2.pos
          obtain ⟨q, rfl⟩ : ∃ q, L2 = q + 1 := ⟨L2 - 1, by omega⟩
          obtain ⟨y0, cy⟩ := hcell q (by omega)
          have fy := hfz q
          have c1 := hC2.c1
          have HC2 := hide hC2
          have hm64 : decide ((j : Int) * 32 % 64 < 64) = true := decide_eq_true (by omega)
          clear hC2 hcell hfz cx HC
          go_wp2
          go_region
          all_goals
            go_wp2
            go_roundw
            case rel => exact ⟨j + 1, q + 1, .slice (some ⟨g, 0, none⟩) (q + 1) c, by go_num, by omega, hl1, by omega, by first | exact (HC2.out.setA q _).grow ((Kept.refl (fun _ => True) _).drew) | exact (HC2.out.grow ((Kept.refl (fun _ => True) _).drew)).setA q _⟩
            case measure => simp [intOf]; omega
      · have hdj : decide (j < D) = false := decide_eq_false hjD
        have HC := hide hC
        clear hC
        go_wp2
        exact bodyPost_end (by simp [results, Facg.results140, go_sem]) rfl ⟨rfl, Lj, v', hL1, by omega, HC.out⟩
  · go_enter Facg.func140, Facg.ntmps140
    go_wp2
    go_loopw [19] (fun t wr => ∃ (j Lj : Nat) (v' : Value), t = .int .i64 j ∧ j ≤ D ∧ L ≤ Lj ∧ Lj ≤ L + j ∧ CM Q w wr gC gU v' Lj st) (fun t _ => D - (intOf t).toNat)
    case atStart => exact ⟨0, L, v, rfl, Nat.zero_le _, Nat.le_refl _, Nat.le_refl _, H.out⟩
    case round =>
      clear H z1 z2
      obtain ⟨j, Lj, v', rfl, hj, hL1, hL2, hC⟩ := hrel
      by_cases hjD : j < D
      · have hdj : decide (j < D) = true := decide_eq_true hjD
        obtain ⟨bd, od, rfl, hqd, hrc⟩ := HRow.out (by omega)
        have cx : wr.cell? ⟨bd, od + j, none⟩ = some (.int .u64 (x.d j)) := hC.gr.cell (hrc j hjD) hqd
        have HC := hide hC
        have hxb := HDb.out j hjD
        have hj128 : j < 128 := by omega
        clear hC hrc
        go_upto_if 30 with fail
        go_cut [31] (fun _ wd => ∃ (v' : Value) (L' : Nat), L ≤ L' ∧ L' ≤ L + j + 1 ∧ CM Q w wd gC gU v' L' st)
        case first =>
          cases hz : ((j : Int) * 64 % 64 == 0)
          · exfalso
            rw [show ((j : Int) * 64 % 64) = 0 by omega] at hz
            cases hz
          · obtain ⟨xs, ho⟩ := HC.out.own
            obtain ⟨av, cv, rfl⟩ := owns_slice ho
            have HO := hide ho
            have c1 := HC.out.c1
            have hlt := HC.out.lt
            clear ho
            go_wp2_with (first
              | (at_builtin; refine wpList_app1 _ rfl _ _ 22 rfl 38 (.int .u64 0) 8 Facg.underlying22 info38 rfl (.slice av Lj cv) Lj (xs.map (Value.int .u64)) rfl ?o1 wr.heap.size (.int .u64 0) rfl ?o2 rfl ?o3 ?o4 ?_))
            case o1 => exact owns_kept HO.out ((Kept.refl (fun _ => True) _).alloc _) (fun _ _ => trivial)
            case o2 => simp
            case o3 => unfold maxLen; omega
            case o4 => omega
            intro a' c' w5 ho hk' hv
            have HX := hide (CM.app (L' := Lj + 1) (ys := xs ++ [0]) (HC.out.grow ((Kept.refl (fun _ => True) _).alloc _)) (by omega) (by rw [List.map_append]; exact ho) hk' (by rw [World.size_alloc]; exact hv))
            have q1 := hk'.cell (((Kept.refl (fun _ => True) wr).alloc _).cell c1 trivial) (fun e => (HC.out.vb gC e.symm).2 rfl)
            have q2 : w5.frozen? ⟨gC, 1, none⟩ = false := by
              rw [hk'.frozen (q := ⟨gC, 1, none⟩) (by show gC < _; rw [World.size_alloc]; have := HC.out.lt; omega) (fun e => (HC.out.vb gC e.symm).2 rfl)]
              exact (HC.out.grow ((Kept.refl (fun _ => True) _).alloc _)).fz 1
            clear ho hk' hv
            go_wp2
            go_meet
            exact ⟨_, Lj + 1, by omega, by omega, HX.out⟩
        case rest =>
          obtain ⟨v2, L2, hl1, hl2, hC2⟩ := hcut
          obtain ⟨g, c, rfl, hg1, hg2, hLb, hcell, hfz⟩ := hC2.slice
          have hpos := hC2.pos
          obtain ⟨q, rfl⟩ : ∃ q, L2 = q + 1 := ⟨L2 - 1, by omega⟩
          obtain ⟨y0, cy⟩ := hcell q (by omega)
          have fy := hfz q
          have c1 := hC2.c1
          have HC2 := hide hC2
          have hm64 : decide ((j : Int) * 64 % 64 < 64) = true := decide_eq_true (by omega)
          clear hC2 hcell hfz cx HC
          go_wp2
          go_region
          all_goals
            go_wp2
            go_roundw
            case rel => exact ⟨j + 1, q + 1, .slice (some ⟨g, 0, none⟩) (q + 1) c, by go_num, by omega, hl1, by omega, by first | exact (HC2.out.setA q _).grow ((Kept.refl (fun _ => True) _).drew) | exact (HC2.out.grow ((Kept.refl (fun _ => True) _).drew)).setA q _⟩
            case measure => simp [intOf]; omega
      · have hdj : decide (j < D) = false := decide_eq_false hjD
        have HC := hide hC
        clear hC
        go_wp2
        exact bodyPost_end (by simp [results, Facg.results140, go_sem]) rfl ⟨rfl, Lj, v', hL1, by omega, HC.out⟩
end Go.Proofs.Ygcfac
