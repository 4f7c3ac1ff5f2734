import Derived.Test.YgcfacInLaw
import Derived.Test.YgcfacOwnIn
namespace Go.Proofs.Ygcfac
open Go.RowKit
set_option linter.unusedVariables false

theorem ArenaAt.of_ints {w : World} {a : Option Addr} {n c : Nat} {xs : List Int} (h : Ints w .u64 (.slice a n c) xs) : ArenaAt w a n (fun j => xs.getD j 0) := by
  obtain ⟨a', c', e, hc, hm, hw, hr⟩ := h
  injection e with e1 e2 e3
  subst e1 e2 e3
  refine ⟨fun j => ?_, fun hn => ?_⟩
  · simp only
    by_cases hj : j < xs.length
    · have := hw (xs.getD j 0) (by rw [List.getD_eq_getElem?_getD, List.getElem?_eq_getElem hj]; exact List.getElem_mem hj)
      have := bounds_u64 this
      omega
    · rw [List.getD_eq_getElem?_getD, List.getElem?_eq_none (by omega)]; simp
  · obtain ⟨b, o, e, hcell⟩ := hr (by intro h; rw [h] at hn; simp at hn)
    exact ⟨b, o, e, fun j hj => hcell j hj⟩

theorem ne_zero (k a d q c n : Int) (hk : ¬ k = 0) (w : World) : (binOp .eql 31 (.agg #[.int .u8 k, .int .u16 a, .int .u8 d, .int .u8 q, .int .u8 c, .int .u16 n]) (.agg #[.int .u8 0, .int .u16 0, .int .u8 0, .int .u8 0, .int .u8 0, .int .u16 0])).run Facg.prog w = .ok (.bool false) w := by
  rw [run_eql_struct]
  have hS : Facg.prog.underlying 31 = some (.struct (Facg.prog.fieldsOf 31)) := by kernel_rfl
  have hp : Facg.prog.stoodInHeld 31 = false := by kernel_rfl
  rw [show (10000 : Nat) = 9999 + 1 from rfl, run_equalIn_agg w 9999 31 _ _ hS hp]
  simp only [Program.fieldsOf, Facg.underlying31]
  have u5 := Facg.underlying5
  have u24 := Facg.underlying24
  go_simp

set_option maxHeartbeats 8000000 in
set_option maxRecDepth 10000 in
theorem insideMeans_walk (v : Value) (xs : List Int) (p : P) (i j : Nat) (w : World) (hv : Ints w .u64 v xs) (hp : p.Ok) (hi : i < 256) (hj : j < 65536) :
    Calls Facg.prog 9 #[v, p.val, .int .u8 i, .int .u16 j] w fun e w' => e = .returned (.bool true) ∧ Grows w w' := by
  obtain ⟨a, c, rfl, hc, hm, hw, hr⟩ := id hv
  unfold maxLen at hm
  obtain ⟨m, hmin0, hm1, hm2, _⟩ := min_of xs.length 257
  have hmin : (if (257 : Int) < (xs.length : Int) then (257 : Int) else (xs.length : Int)) = (m : Int) := hmin0
  clear hmin0
  have hI := hv.front m hm1
  have HI := hide (fun w' hg => hI.grows (w' := w') hg)
  have hlen : (xs.take m).length = m := by rw [List.length_take]; omega
  have hwt : ∀ x ∈ xs.take m, (Lit.int .u64 x).wf = true := fun x hx => hw x (List.mem_of_mem_take hx)
  have hmc : (m : Int) ≤ (c : Int) := by omega
  have HWT := hide hwt
  clear hwt hw hr hI hv
  generalize hxs : xs.take m = ys at *
  clear hxs
  unfold P.val
  have HBX := hide (BoxP.box w p 31)
  go_enter Facg.func9, Facg.ntmps9
  go_wp2_with (at_builtin; refine wpList_copyapp _ rfl (.tmp 19) 22 rfl 38 (.int .u64 0) 8 Facg.underlying22 info38 rfl .u64 _ ys rfl (by exact HI.out _ ((Kept.refl _ _).alloc _)) (by omega) ?_)
  intro a1 c1 w1 ho hg _
  have iA : Ints w1 .u64 (.slice a1 m c1) ys := Ints.of_owns ho HWT.out
  have hA := ArenaAt.of_ints iA
  generalize (fun j => ys.getD j 0) = f at hA
  have HA := hide (fun w' hg => hA.grows (w' := w') hg)
  have hf := hA.1
  have HB1 := hide (HBX.out.kept hg trivial)
  have HG1 := hide (((Kept.refl _ _).alloc _).trans hg)
  clear ho iA hA HWT HI hg HBX hmin hmc hlen hm1 hm hc
  have hmm : m ≤ 9223372036854775807 := by omega
  have HIn := hide (fun w => inside_any a1 m c1 p w hp hmm)
  have HOwn := hide (fun w => ownInside_any m p w hp hmm)
  have HRes := hide (fun w' hg => resolve_any a1 m c1 j f w' hmm hj (HA.out w' hg))
  have HCh := hide (fun w' hg => child_any a1 m c1 i f p w' hp hmm hi (HA.out w' hg))
  have HEl := hide (fun w' hg => elem_any a1 m c1 j f p w' hp hmm hj (HA.out w' hg))
  have HFC := hide (fun q => child_fine (f := f) (n := m) (i := i) (p := p) (q := q) hf)
  have HFE := hide (fun q => elem_fine (f := f) (n := m) (i := j) (p := p) (q := q) hp hf)
  have HFR := hide (fun q => resolve_fine (f := f) (n := m) (i := j) (q := q) hf)
  have HIQ := hide (fun q w (hq : P.Ok q) => inside_any a1 m c1 q w hq hmm)
  clear hf hp HA
  generalize insideI m p = r at *
  generalize resolveI f m j = rr at *
  generalize childI f m p i = rc at *
  generalize elemI f m p j = re at *
  obtain ⟨pk, pa, pd, pq, pc, pn⟩ := p
  unfold P.val at HIn HOwn HCh HEl
  unfold BoxP at HB1
  simp only at *
  go_wp2
  go_cut [28] (fun s28 wc => s28 = .bool false ∧ Grows w1 wc)
  case first =>
    go_region_held (fun w' => Grows w1 w' ∧ w'.cell? ⟨w.heap.size, 0, none⟩ = some (.int .u8 pk) ∧ w'.cell? ⟨w.heap.size, 1, none⟩ = some (.int .u16 pa) ∧ w'.cell? ⟨w.heap.size, 2, none⟩ = some (.int .u8 pd) ∧ w'.cell? ⟨w.heap.size, 3, none⟩ = some (.int .u8 pq) ∧ w'.cell? ⟨w.heap.size, 4, none⟩ = some (.int .u8 pc) ∧ w'.cell? ⟨w.heap.size, 5, none⟩ = some (.int .u16 pn))
      ((first | assumption | exact held6 (Kept.refl _ _).drew HB1.out | exact held6 (Kept.trans (And.left (by assumption)) hg) HB1.out))
      (first | (go_at_call 30; refine (HIn.out _).mono ?_; rintro e wA ⟨rfl, hg⟩) | (go_at_call 31; refine (HOwn.out _).mono ?_; rintro e wB ⟨rfl, hg⟩))
    all_goals go_wp2
    all_goals go_meet
    all_goals exact ⟨by simp, And.left (by assumption)⟩
  case rest =>
    obtain ⟨rfl, hg⟩ := hcut
    have hz0 : ∀ w : World, (binOp .eql 31 (.agg #[.int .u8 0, .int .u16 0, .int .u8 0, .int .u8 0, .int .u8 0, .int .u16 0]) (.agg #[.int .u8 0, .int .u16 0, .int .u8 0, .int .u8 0, .int .u8 0, .int .u16 0])).run Facg.prog w = .ok (.bool true) w := fun w => by kernel_rfl
    obtain ⟨c0, c1', c2, c3, c4, c5⟩ := held6 hg HB1.out |>.2
    have HGc := hide hg
    clear hg HB1 HOwn
    rcases rr with _ | q
    · unfold resV at HRes
      simp only at HRes
      cases r
      · go_wp2_with (first
          | (go_at_call 18; (with_reducible refine (HRes.out _ HGc.out).mono ?_); rintro e w2 ⟨rfl, hg⟩; have hgr := hg; obtain ⟨d0w2, d1w2, d2w2, d3w2, d4w2, d5w2⟩ := BoxP.kept (B := w.heap.size) (p := ⟨pk, pa, pd, pq, pc, pn⟩) ⟨c0, c1', c2, c3, c4, c5⟩ hgr trivial; have hsw2 : w.heap.size < w2.heap.size := World.block_lt_of_cell? w2 ⟨w.heap.size, 0, none⟩ d0w2; have HTw2 := hide (HGc.out.trans hgr); clear hgr hg)
          | (go_at_call 30; (with_reducible refine (HIn.out _).mono ?_); rintro e w3 ⟨rfl, hg⟩; have hgr := ((Kept.refl _ _).alloc _).trans hg; obtain ⟨d0w3, d1w3, d2w3, d3w3, d4w3, d5w3⟩ := BoxP.kept (B := w.heap.size) (p := ⟨pk, pa, pd, pq, pc, pn⟩) ⟨d0w2, d1w2, d2w2, d3w2, d4w2, d5w2⟩ hgr trivial; have hsw3 : w.heap.size < w3.heap.size := World.block_lt_of_cell? w3 ⟨w.heap.size, 0, none⟩ d0w3; have HTw3 := hide (HTw2.out.trans hgr); clear hgr hg))
        go_ret
        exact ⟨rfl, HG1.out.trans HTw3.out⟩
      · rcases rc with _ | q2
        · unfold resV at HCh
          simp only at HCh
          rcases re with _ | q3
          · unfold resV at HEl
            simp only at HEl
            go_wp2_with (first
              | (go_at_call 18; (with_reducible refine (HRes.out _ HGc.out).mono ?_); rintro e w2 ⟨rfl, hg⟩; have hgr := hg; obtain ⟨d0w2, d1w2, d2w2, d3w2, d4w2, d5w2⟩ := BoxP.kept (B := w.heap.size) (p := ⟨pk, pa, pd, pq, pc, pn⟩) ⟨c0, c1', c2, c3, c4, c5⟩ hgr trivial; have hsw2 : w.heap.size < w2.heap.size := World.block_lt_of_cell? w2 ⟨w.heap.size, 0, none⟩ d0w2; have HTw2 := hide (HGc.out.trans hgr); clear hgr hg)
              | (go_at_call 30; (with_reducible refine (HIn.out _).mono ?_); rintro e w3 ⟨rfl, hg⟩; have hgr := ((Kept.refl _ _).alloc _).trans hg; obtain ⟨d0w3, d1w3, d2w3, d3w3, d4w3, d5w3⟩ := BoxP.kept (B := w.heap.size) (p := ⟨pk, pa, pd, pq, pc, pn⟩) ⟨d0w2, d1w2, d2w2, d3w2, d4w2, d5w2⟩ hgr trivial; have hsw3 : w.heap.size < w3.heap.size := World.block_lt_of_cell? w3 ⟨w.heap.size, 0, none⟩ d0w3; have HTw3 := hide (HTw2.out.trans hgr); clear hgr hg)
              | (go_at_call 32; (with_reducible refine (HCh.out _ HTw3.out).mono ?_); rintro e w4 ⟨rfl, hg⟩; have hgr := hg; obtain ⟨d0w4, d1w4, d2w4, d3w4, d4w4, d5w4⟩ := BoxP.kept (B := w.heap.size) (p := ⟨pk, pa, pd, pq, pc, pn⟩) ⟨d0w3, d1w3, d2w3, d3w3, d4w3, d5w3⟩ hgr trivial; have hsw4 : w.heap.size < w4.heap.size := World.block_lt_of_cell? w4 ⟨w.heap.size, 0, none⟩ d0w4; have HTw4 := hide (HTw3.out.trans hgr); clear hgr hg)
              | (go_at_call 33; (with_reducible refine (HEl.out _ (HTw4.out.alloc _)).mono ?_); rintro e w5 ⟨rfl, hg⟩; have hgr := ((Kept.refl _ _).alloc _).trans hg; obtain ⟨d0w5, d1w5, d2w5, d3w5, d4w5, d5w5⟩ := BoxP.kept (B := w.heap.size) (p := ⟨pk, pa, pd, pq, pc, pn⟩) ⟨d0w4, d1w4, d2w4, d3w4, d4w4, d5w4⟩ hgr trivial; have hsw5 : w.heap.size < w5.heap.size := World.block_lt_of_cell? w5 ⟨w.heap.size, 0, none⟩ d0w5; have HTw5 := hide (HTw4.out.trans hgr); obtain ⟨⟨x0, x1, x2, x3, x4, x5⟩, _⟩ := Cell6.first hg; have hsx : w4.heap.size < w5.heap.size := World.block_lt_of_cell? w5 ⟨w4.heap.size, 0, none⟩ x0; clear hgr hg))
            go_ret
            exact ⟨rfl, HG1.out.trans (HTw5.out.alloc _)⟩
          · rcases HFE.out q3 rfl with rfl | ⟨ok3, hk3, hin3⟩
            · unfold resV at HEl
              simp only at HEl
              go_wp2_with (first
                | (go_at_call 18; (with_reducible refine (HRes.out _ HGc.out).mono ?_); rintro e w2 ⟨rfl, hg⟩; have hgr := hg; obtain ⟨d0w2, d1w2, d2w2, d3w2, d4w2, d5w2⟩ := BoxP.kept (B := w.heap.size) (p := ⟨pk, pa, pd, pq, pc, pn⟩) ⟨c0, c1', c2, c3, c4, c5⟩ hgr trivial; have hsw2 : w.heap.size < w2.heap.size := World.block_lt_of_cell? w2 ⟨w.heap.size, 0, none⟩ d0w2; have HTw2 := hide (HGc.out.trans hgr); clear hgr hg)
                | (go_at_call 30; (with_reducible refine (HIn.out _).mono ?_); rintro e w3 ⟨rfl, hg⟩; have hgr := ((Kept.refl _ _).alloc _).trans hg; obtain ⟨d0w3, d1w3, d2w3, d3w3, d4w3, d5w3⟩ := BoxP.kept (B := w.heap.size) (p := ⟨pk, pa, pd, pq, pc, pn⟩) ⟨d0w2, d1w2, d2w2, d3w2, d4w2, d5w2⟩ hgr trivial; have hsw3 : w.heap.size < w3.heap.size := World.block_lt_of_cell? w3 ⟨w.heap.size, 0, none⟩ d0w3; have HTw3 := hide (HTw2.out.trans hgr); clear hgr hg)
                | (go_at_call 32; (with_reducible refine (HCh.out _ HTw3.out).mono ?_); rintro e w4 ⟨rfl, hg⟩; have hgr := hg; obtain ⟨d0w4, d1w4, d2w4, d3w4, d4w4, d5w4⟩ := BoxP.kept (B := w.heap.size) (p := ⟨pk, pa, pd, pq, pc, pn⟩) ⟨d0w3, d1w3, d2w3, d3w3, d4w3, d5w3⟩ hgr trivial; have hsw4 : w.heap.size < w4.heap.size := World.block_lt_of_cell? w4 ⟨w.heap.size, 0, none⟩ d0w4; have HTw4 := hide (HTw3.out.trans hgr); clear hgr hg)
                | (go_at_call 33; (with_reducible refine (HEl.out _ (HTw4.out.alloc _)).mono ?_); rintro e w5 ⟨rfl, hg⟩; have hgr := ((Kept.refl _ _).alloc _).trans hg; obtain ⟨d0w5, d1w5, d2w5, d3w5, d4w5, d5w5⟩ := BoxP.kept (B := w.heap.size) (p := ⟨pk, pa, pd, pq, pc, pn⟩) ⟨d0w4, d1w4, d2w4, d3w4, d4w4, d5w4⟩ hgr trivial; have hsw5 : w.heap.size < w5.heap.size := World.block_lt_of_cell? w5 ⟨w.heap.size, 0, none⟩ d0w5; have HTw5 := hide (HTw4.out.trans hgr); obtain ⟨⟨x0, x1, x2, x3, x4, x5⟩, _⟩ := Cell6.first hg; have hsx : w4.heap.size < w5.heap.size := World.block_lt_of_cell? w5 ⟨w4.heap.size, 0, none⟩ x0; clear hgr hg))
              go_ret
              exact ⟨rfl, HG1.out.trans (HTw5.out.alloc _)⟩
            · have HE := hide (fun w => HIQ.out q3 w ok3)
              rw [hin3] at HE
              have hne3 := ne_zero q3.kind q3.at_ q3.data q3.ptrs q3.code q3.count hk3
              clear hk3 ok3 hin3
              obtain ⟨sk, sa, sd, sq, sc, sn⟩ := q3
              unfold P.val at HE
              simp only at hne3
              unfold resV at HEl
              simp only at HEl
              go_wp2_with (first
                | (go_at_call 18; (with_reducible refine (HRes.out _ HGc.out).mono ?_); rintro e w2 ⟨rfl, hg⟩; have hgr := hg; obtain ⟨d0w2, d1w2, d2w2, d3w2, d4w2, d5w2⟩ := BoxP.kept (B := w.heap.size) (p := ⟨pk, pa, pd, pq, pc, pn⟩) ⟨c0, c1', c2, c3, c4, c5⟩ hgr trivial; have hsw2 : w.heap.size < w2.heap.size := World.block_lt_of_cell? w2 ⟨w.heap.size, 0, none⟩ d0w2; have HTw2 := hide (HGc.out.trans hgr); clear hgr hg)
                | (go_at_call 30; (with_reducible refine (HIn.out _).mono ?_); rintro e w3 ⟨rfl, hg⟩; have hgr := ((Kept.refl _ _).alloc _).trans hg; obtain ⟨d0w3, d1w3, d2w3, d3w3, d4w3, d5w3⟩ := BoxP.kept (B := w.heap.size) (p := ⟨pk, pa, pd, pq, pc, pn⟩) ⟨d0w2, d1w2, d2w2, d3w2, d4w2, d5w2⟩ hgr trivial; have hsw3 : w.heap.size < w3.heap.size := World.block_lt_of_cell? w3 ⟨w.heap.size, 0, none⟩ d0w3; have HTw3 := hide (HTw2.out.trans hgr); clear hgr hg)
                | (go_at_call 32; (with_reducible refine (HCh.out _ HTw3.out).mono ?_); rintro e w4 ⟨rfl, hg⟩; have hgr := hg; obtain ⟨d0w4, d1w4, d2w4, d3w4, d4w4, d5w4⟩ := BoxP.kept (B := w.heap.size) (p := ⟨pk, pa, pd, pq, pc, pn⟩) ⟨d0w3, d1w3, d2w3, d3w3, d4w3, d5w3⟩ hgr trivial; have hsw4 : w.heap.size < w4.heap.size := World.block_lt_of_cell? w4 ⟨w.heap.size, 0, none⟩ d0w4; have HTw4 := hide (HTw3.out.trans hgr); clear hgr hg)
                | (go_at_call 33; (with_reducible refine (HEl.out _ (HTw4.out.alloc _)).mono ?_); rintro e w5 ⟨rfl, hg⟩; have hgr := ((Kept.refl _ _).alloc _).trans hg; obtain ⟨d0w5, d1w5, d2w5, d3w5, d4w5, d5w5⟩ := BoxP.kept (B := w.heap.size) (p := ⟨pk, pa, pd, pq, pc, pn⟩) ⟨d0w4, d1w4, d2w4, d3w4, d4w4, d5w4⟩ hgr trivial; have hsw5 : w.heap.size < w5.heap.size := World.block_lt_of_cell? w5 ⟨w.heap.size, 0, none⟩ d0w5; have HTw5 := hide (HTw4.out.trans hgr); obtain ⟨⟨x0, x1, x2, x3, x4, x5⟩, _⟩ := Cell6.first hg; have hsx : w4.heap.size < w5.heap.size := World.block_lt_of_cell? w5 ⟨w4.heap.size, 0, none⟩ x0; clear hgr hg)
                | (go_at_call 30; (with_reducible refine (HE.out _).mono ?_); rintro e w7 ⟨rfl, hg⟩; have hgr := ((Kept.refl _ _).alloc _).trans hg; obtain ⟨d0w7, d1w7, d2w7, d3w7, d4w7, d5w7⟩ := BoxP.kept (B := w.heap.size) (p := ⟨pk, pa, pd, pq, pc, pn⟩) ⟨d0w5, d1w5, d2w5, d3w5, d4w5, d5w5⟩ hgr trivial; have hsw7 : w.heap.size < w7.heap.size := World.block_lt_of_cell? w7 ⟨w.heap.size, 0, none⟩ d0w7; have HTw7 := hide (HTw5.out.trans hgr); clear hgr hg))
              go_ret
              exact ⟨rfl, HG1.out.trans HTw7.out⟩
        · rcases HFC.out q2 rfl with rfl | ⟨ok2, hk2, hin2⟩
          · unfold resV at HCh
            simp only at HCh
            rcases re with _ | q3
            · unfold resV at HEl
              simp only at HEl
              go_wp2_with (first
                | (go_at_call 18; (with_reducible refine (HRes.out _ HGc.out).mono ?_); rintro e w2 ⟨rfl, hg⟩; have hgr := hg; obtain ⟨d0w2, d1w2, d2w2, d3w2, d4w2, d5w2⟩ := BoxP.kept (B := w.heap.size) (p := ⟨pk, pa, pd, pq, pc, pn⟩) ⟨c0, c1', c2, c3, c4, c5⟩ hgr trivial; have hsw2 : w.heap.size < w2.heap.size := World.block_lt_of_cell? w2 ⟨w.heap.size, 0, none⟩ d0w2; have HTw2 := hide (HGc.out.trans hgr); clear hgr hg)
                | (go_at_call 30; (with_reducible refine (HIn.out _).mono ?_); rintro e w3 ⟨rfl, hg⟩; have hgr := ((Kept.refl _ _).alloc _).trans hg; obtain ⟨d0w3, d1w3, d2w3, d3w3, d4w3, d5w3⟩ := BoxP.kept (B := w.heap.size) (p := ⟨pk, pa, pd, pq, pc, pn⟩) ⟨d0w2, d1w2, d2w2, d3w2, d4w2, d5w2⟩ hgr trivial; have hsw3 : w.heap.size < w3.heap.size := World.block_lt_of_cell? w3 ⟨w.heap.size, 0, none⟩ d0w3; have HTw3 := hide (HTw2.out.trans hgr); clear hgr hg)
                | (go_at_call 32; (with_reducible refine (HCh.out _ HTw3.out).mono ?_); rintro e w4 ⟨rfl, hg⟩; have hgr := hg; obtain ⟨d0w4, d1w4, d2w4, d3w4, d4w4, d5w4⟩ := BoxP.kept (B := w.heap.size) (p := ⟨pk, pa, pd, pq, pc, pn⟩) ⟨d0w3, d1w3, d2w3, d3w3, d4w3, d5w3⟩ hgr trivial; have hsw4 : w.heap.size < w4.heap.size := World.block_lt_of_cell? w4 ⟨w.heap.size, 0, none⟩ d0w4; have HTw4 := hide (HTw3.out.trans hgr); clear hgr hg)
                | (go_at_call 33; (with_reducible refine (HEl.out _ (HTw4.out.alloc _)).mono ?_); rintro e w5 ⟨rfl, hg⟩; have hgr := ((Kept.refl _ _).alloc _).trans hg; obtain ⟨d0w5, d1w5, d2w5, d3w5, d4w5, d5w5⟩ := BoxP.kept (B := w.heap.size) (p := ⟨pk, pa, pd, pq, pc, pn⟩) ⟨d0w4, d1w4, d2w4, d3w4, d4w4, d5w4⟩ hgr trivial; have hsw5 : w.heap.size < w5.heap.size := World.block_lt_of_cell? w5 ⟨w.heap.size, 0, none⟩ d0w5; have HTw5 := hide (HTw4.out.trans hgr); obtain ⟨⟨x0, x1, x2, x3, x4, x5⟩, _⟩ := Cell6.first hg; have hsx : w4.heap.size < w5.heap.size := World.block_lt_of_cell? w5 ⟨w4.heap.size, 0, none⟩ x0; clear hgr hg))
              go_ret
              exact ⟨rfl, HG1.out.trans (HTw5.out.alloc _)⟩
            · rcases HFE.out q3 rfl with rfl | ⟨ok3, hk3, hin3⟩
              · unfold resV at HEl
                simp only at HEl
                go_wp2_with (first
                  | (go_at_call 18; (with_reducible refine (HRes.out _ HGc.out).mono ?_); rintro e w2 ⟨rfl, hg⟩; have hgr := hg; obtain ⟨d0w2, d1w2, d2w2, d3w2, d4w2, d5w2⟩ := BoxP.kept (B := w.heap.size) (p := ⟨pk, pa, pd, pq, pc, pn⟩) ⟨c0, c1', c2, c3, c4, c5⟩ hgr trivial; have hsw2 : w.heap.size < w2.heap.size := World.block_lt_of_cell? w2 ⟨w.heap.size, 0, none⟩ d0w2; have HTw2 := hide (HGc.out.trans hgr); clear hgr hg)
                  | (go_at_call 30; (with_reducible refine (HIn.out _).mono ?_); rintro e w3 ⟨rfl, hg⟩; have hgr := ((Kept.refl _ _).alloc _).trans hg; obtain ⟨d0w3, d1w3, d2w3, d3w3, d4w3, d5w3⟩ := BoxP.kept (B := w.heap.size) (p := ⟨pk, pa, pd, pq, pc, pn⟩) ⟨d0w2, d1w2, d2w2, d3w2, d4w2, d5w2⟩ hgr trivial; have hsw3 : w.heap.size < w3.heap.size := World.block_lt_of_cell? w3 ⟨w.heap.size, 0, none⟩ d0w3; have HTw3 := hide (HTw2.out.trans hgr); clear hgr hg)
                  | (go_at_call 32; (with_reducible refine (HCh.out _ HTw3.out).mono ?_); rintro e w4 ⟨rfl, hg⟩; have hgr := hg; obtain ⟨d0w4, d1w4, d2w4, d3w4, d4w4, d5w4⟩ := BoxP.kept (B := w.heap.size) (p := ⟨pk, pa, pd, pq, pc, pn⟩) ⟨d0w3, d1w3, d2w3, d3w3, d4w3, d5w3⟩ hgr trivial; have hsw4 : w.heap.size < w4.heap.size := World.block_lt_of_cell? w4 ⟨w.heap.size, 0, none⟩ d0w4; have HTw4 := hide (HTw3.out.trans hgr); clear hgr hg)
                  | (go_at_call 33; (with_reducible refine (HEl.out _ (HTw4.out.alloc _)).mono ?_); rintro e w5 ⟨rfl, hg⟩; have hgr := ((Kept.refl _ _).alloc _).trans hg; obtain ⟨d0w5, d1w5, d2w5, d3w5, d4w5, d5w5⟩ := BoxP.kept (B := w.heap.size) (p := ⟨pk, pa, pd, pq, pc, pn⟩) ⟨d0w4, d1w4, d2w4, d3w4, d4w4, d5w4⟩ hgr trivial; have hsw5 : w.heap.size < w5.heap.size := World.block_lt_of_cell? w5 ⟨w.heap.size, 0, none⟩ d0w5; have HTw5 := hide (HTw4.out.trans hgr); obtain ⟨⟨x0, x1, x2, x3, x4, x5⟩, _⟩ := Cell6.first hg; have hsx : w4.heap.size < w5.heap.size := World.block_lt_of_cell? w5 ⟨w4.heap.size, 0, none⟩ x0; clear hgr hg))
                go_ret
                exact ⟨rfl, HG1.out.trans (HTw5.out.alloc _)⟩
              · have HE := hide (fun w => HIQ.out q3 w ok3)
                rw [hin3] at HE
                have hne3 := ne_zero q3.kind q3.at_ q3.data q3.ptrs q3.code q3.count hk3
                clear hk3 ok3 hin3
                obtain ⟨sk, sa, sd, sq, sc, sn⟩ := q3
                unfold P.val at HE
                simp only at hne3
                unfold resV at HEl
                simp only at HEl
                go_wp2_with (first
                  | (go_at_call 18; (with_reducible refine (HRes.out _ HGc.out).mono ?_); rintro e w2 ⟨rfl, hg⟩; have hgr := hg; obtain ⟨d0w2, d1w2, d2w2, d3w2, d4w2, d5w2⟩ := BoxP.kept (B := w.heap.size) (p := ⟨pk, pa, pd, pq, pc, pn⟩) ⟨c0, c1', c2, c3, c4, c5⟩ hgr trivial; have hsw2 : w.heap.size < w2.heap.size := World.block_lt_of_cell? w2 ⟨w.heap.size, 0, none⟩ d0w2; have HTw2 := hide (HGc.out.trans hgr); clear hgr hg)
                  | (go_at_call 30; (with_reducible refine (HIn.out _).mono ?_); rintro e w3 ⟨rfl, hg⟩; have hgr := ((Kept.refl _ _).alloc _).trans hg; obtain ⟨d0w3, d1w3, d2w3, d3w3, d4w3, d5w3⟩ := BoxP.kept (B := w.heap.size) (p := ⟨pk, pa, pd, pq, pc, pn⟩) ⟨d0w2, d1w2, d2w2, d3w2, d4w2, d5w2⟩ hgr trivial; have hsw3 : w.heap.size < w3.heap.size := World.block_lt_of_cell? w3 ⟨w.heap.size, 0, none⟩ d0w3; have HTw3 := hide (HTw2.out.trans hgr); clear hgr hg)
                  | (go_at_call 32; (with_reducible refine (HCh.out _ HTw3.out).mono ?_); rintro e w4 ⟨rfl, hg⟩; have hgr := hg; obtain ⟨d0w4, d1w4, d2w4, d3w4, d4w4, d5w4⟩ := BoxP.kept (B := w.heap.size) (p := ⟨pk, pa, pd, pq, pc, pn⟩) ⟨d0w3, d1w3, d2w3, d3w3, d4w3, d5w3⟩ hgr trivial; have hsw4 : w.heap.size < w4.heap.size := World.block_lt_of_cell? w4 ⟨w.heap.size, 0, none⟩ d0w4; have HTw4 := hide (HTw3.out.trans hgr); clear hgr hg)
                  | (go_at_call 33; (with_reducible refine (HEl.out _ (HTw4.out.alloc _)).mono ?_); rintro e w5 ⟨rfl, hg⟩; have hgr := ((Kept.refl _ _).alloc _).trans hg; obtain ⟨d0w5, d1w5, d2w5, d3w5, d4w5, d5w5⟩ := BoxP.kept (B := w.heap.size) (p := ⟨pk, pa, pd, pq, pc, pn⟩) ⟨d0w4, d1w4, d2w4, d3w4, d4w4, d5w4⟩ hgr trivial; have hsw5 : w.heap.size < w5.heap.size := World.block_lt_of_cell? w5 ⟨w.heap.size, 0, none⟩ d0w5; have HTw5 := hide (HTw4.out.trans hgr); obtain ⟨⟨x0, x1, x2, x3, x4, x5⟩, _⟩ := Cell6.first hg; have hsx : w4.heap.size < w5.heap.size := World.block_lt_of_cell? w5 ⟨w4.heap.size, 0, none⟩ x0; clear hgr hg)
                  | (go_at_call 30; (with_reducible refine (HE.out _).mono ?_); rintro e w7 ⟨rfl, hg⟩; have hgr := ((Kept.refl _ _).alloc _).trans hg; obtain ⟨d0w7, d1w7, d2w7, d3w7, d4w7, d5w7⟩ := BoxP.kept (B := w.heap.size) (p := ⟨pk, pa, pd, pq, pc, pn⟩) ⟨d0w5, d1w5, d2w5, d3w5, d4w5, d5w5⟩ hgr trivial; have hsw7 : w.heap.size < w7.heap.size := World.block_lt_of_cell? w7 ⟨w.heap.size, 0, none⟩ d0w7; have HTw7 := hide (HTw5.out.trans hgr); clear hgr hg))
                go_ret
                exact ⟨rfl, HG1.out.trans HTw7.out⟩
          · have HC := hide (fun w => HIQ.out q2 w ok2)
            rw [hin2] at HC
            have hne2 := ne_zero q2.kind q2.at_ q2.data q2.ptrs q2.code q2.count hk2
            clear hk2 ok2 hin2
            obtain ⟨tk, ta, td, tq, tc, tn⟩ := q2
            unfold P.val at HC
            simp only at hne2
            unfold resV at HCh
            simp only at HCh
            rcases re with _ | q3
            · unfold resV at HEl
              simp only at HEl
              go_wp2_with (first
                | (go_at_call 18; (with_reducible refine (HRes.out _ HGc.out).mono ?_); rintro e w2 ⟨rfl, hg⟩; have hgr := hg; obtain ⟨d0w2, d1w2, d2w2, d3w2, d4w2, d5w2⟩ := BoxP.kept (B := w.heap.size) (p := ⟨pk, pa, pd, pq, pc, pn⟩) ⟨c0, c1', c2, c3, c4, c5⟩ hgr trivial; have hsw2 : w.heap.size < w2.heap.size := World.block_lt_of_cell? w2 ⟨w.heap.size, 0, none⟩ d0w2; have HTw2 := hide (HGc.out.trans hgr); clear hgr hg)
                | (go_at_call 30; (with_reducible refine (HIn.out _).mono ?_); rintro e w3 ⟨rfl, hg⟩; have hgr := ((Kept.refl _ _).alloc _).trans hg; obtain ⟨d0w3, d1w3, d2w3, d3w3, d4w3, d5w3⟩ := BoxP.kept (B := w.heap.size) (p := ⟨pk, pa, pd, pq, pc, pn⟩) ⟨d0w2, d1w2, d2w2, d3w2, d4w2, d5w2⟩ hgr trivial; have hsw3 : w.heap.size < w3.heap.size := World.block_lt_of_cell? w3 ⟨w.heap.size, 0, none⟩ d0w3; have HTw3 := hide (HTw2.out.trans hgr); clear hgr hg)
                | (go_at_call 32; (with_reducible refine (HCh.out _ HTw3.out).mono ?_); rintro e w4 ⟨rfl, hg⟩; have hgr := hg; obtain ⟨d0w4, d1w4, d2w4, d3w4, d4w4, d5w4⟩ := BoxP.kept (B := w.heap.size) (p := ⟨pk, pa, pd, pq, pc, pn⟩) ⟨d0w3, d1w3, d2w3, d3w3, d4w3, d5w3⟩ hgr trivial; have hsw4 : w.heap.size < w4.heap.size := World.block_lt_of_cell? w4 ⟨w.heap.size, 0, none⟩ d0w4; have HTw4 := hide (HTw3.out.trans hgr); clear hgr hg)
                | (go_at_call 33; (with_reducible refine (HEl.out _ (HTw4.out.alloc _)).mono ?_); rintro e w5 ⟨rfl, hg⟩; have hgr := ((Kept.refl _ _).alloc _).trans hg; obtain ⟨d0w5, d1w5, d2w5, d3w5, d4w5, d5w5⟩ := BoxP.kept (B := w.heap.size) (p := ⟨pk, pa, pd, pq, pc, pn⟩) ⟨d0w4, d1w4, d2w4, d3w4, d4w4, d5w4⟩ hgr trivial; have hsw5 : w.heap.size < w5.heap.size := World.block_lt_of_cell? w5 ⟨w.heap.size, 0, none⟩ d0w5; have HTw5 := hide (HTw4.out.trans hgr); obtain ⟨⟨x0, x1, x2, x3, x4, x5⟩, _⟩ := Cell6.first hg; have hsx : w4.heap.size < w5.heap.size := World.block_lt_of_cell? w5 ⟨w4.heap.size, 0, none⟩ x0; clear hgr hg)
                | (go_at_call 30; (with_reducible refine (HC.out _).mono ?_); rintro e w6 ⟨rfl, hg⟩; have hgr := ((Kept.refl _ _).alloc _).trans hg; obtain ⟨d0w6, d1w6, d2w6, d3w6, d4w6, d5w6⟩ := BoxP.kept (B := w.heap.size) (p := ⟨pk, pa, pd, pq, pc, pn⟩) ⟨d0w5, d1w5, d2w5, d3w5, d4w5, d5w5⟩ hgr trivial; have hsw6 : w.heap.size < w6.heap.size := World.block_lt_of_cell? w6 ⟨w.heap.size, 0, none⟩ d0w6; have HTw6 := hide (HTw5.out.trans hgr); obtain ⟨⟨y0, y1, y2, y3, y4, y5⟩, _⟩ := Cell6.first hg; clear hgr hg))
              go_ret
              exact ⟨rfl, HG1.out.trans HTw6.out⟩
            · rcases HFE.out q3 rfl with rfl | ⟨ok3, hk3, hin3⟩
              · unfold resV at HEl
                simp only at HEl
                go_wp2_with (first
                  | (go_at_call 18; (with_reducible refine (HRes.out _ HGc.out).mono ?_); rintro e w2 ⟨rfl, hg⟩; have hgr := hg; obtain ⟨d0w2, d1w2, d2w2, d3w2, d4w2, d5w2⟩ := BoxP.kept (B := w.heap.size) (p := ⟨pk, pa, pd, pq, pc, pn⟩) ⟨c0, c1', c2, c3, c4, c5⟩ hgr trivial; have hsw2 : w.heap.size < w2.heap.size := World.block_lt_of_cell? w2 ⟨w.heap.size, 0, none⟩ d0w2; have HTw2 := hide (HGc.out.trans hgr); clear hgr hg)
                  | (go_at_call 30; (with_reducible refine (HIn.out _).mono ?_); rintro e w3 ⟨rfl, hg⟩; have hgr := ((Kept.refl _ _).alloc _).trans hg; obtain ⟨d0w3, d1w3, d2w3, d3w3, d4w3, d5w3⟩ := BoxP.kept (B := w.heap.size) (p := ⟨pk, pa, pd, pq, pc, pn⟩) ⟨d0w2, d1w2, d2w2, d3w2, d4w2, d5w2⟩ hgr trivial; have hsw3 : w.heap.size < w3.heap.size := World.block_lt_of_cell? w3 ⟨w.heap.size, 0, none⟩ d0w3; have HTw3 := hide (HTw2.out.trans hgr); clear hgr hg)
                  | (go_at_call 32; (with_reducible refine (HCh.out _ HTw3.out).mono ?_); rintro e w4 ⟨rfl, hg⟩; have hgr := hg; obtain ⟨d0w4, d1w4, d2w4, d3w4, d4w4, d5w4⟩ := BoxP.kept (B := w.heap.size) (p := ⟨pk, pa, pd, pq, pc, pn⟩) ⟨d0w3, d1w3, d2w3, d3w3, d4w3, d5w3⟩ hgr trivial; have hsw4 : w.heap.size < w4.heap.size := World.block_lt_of_cell? w4 ⟨w.heap.size, 0, none⟩ d0w4; have HTw4 := hide (HTw3.out.trans hgr); clear hgr hg)
                  | (go_at_call 33; (with_reducible refine (HEl.out _ (HTw4.out.alloc _)).mono ?_); rintro e w5 ⟨rfl, hg⟩; have hgr := ((Kept.refl _ _).alloc _).trans hg; obtain ⟨d0w5, d1w5, d2w5, d3w5, d4w5, d5w5⟩ := BoxP.kept (B := w.heap.size) (p := ⟨pk, pa, pd, pq, pc, pn⟩) ⟨d0w4, d1w4, d2w4, d3w4, d4w4, d5w4⟩ hgr trivial; have hsw5 : w.heap.size < w5.heap.size := World.block_lt_of_cell? w5 ⟨w.heap.size, 0, none⟩ d0w5; have HTw5 := hide (HTw4.out.trans hgr); obtain ⟨⟨x0, x1, x2, x3, x4, x5⟩, _⟩ := Cell6.first hg; have hsx : w4.heap.size < w5.heap.size := World.block_lt_of_cell? w5 ⟨w4.heap.size, 0, none⟩ x0; clear hgr hg)
                  | (go_at_call 30; (with_reducible refine (HC.out _).mono ?_); rintro e w6 ⟨rfl, hg⟩; have hgr := ((Kept.refl _ _).alloc _).trans hg; obtain ⟨d0w6, d1w6, d2w6, d3w6, d4w6, d5w6⟩ := BoxP.kept (B := w.heap.size) (p := ⟨pk, pa, pd, pq, pc, pn⟩) ⟨d0w5, d1w5, d2w5, d3w5, d4w5, d5w5⟩ hgr trivial; have hsw6 : w.heap.size < w6.heap.size := World.block_lt_of_cell? w6 ⟨w.heap.size, 0, none⟩ d0w6; have HTw6 := hide (HTw5.out.trans hgr); obtain ⟨⟨y0, y1, y2, y3, y4, y5⟩, _⟩ := Cell6.first hg; clear hgr hg))
                go_ret
                exact ⟨rfl, HG1.out.trans HTw6.out⟩
              · have HE := hide (fun w => HIQ.out q3 w ok3)
                rw [hin3] at HE
                have hne3 := ne_zero q3.kind q3.at_ q3.data q3.ptrs q3.code q3.count hk3
                clear hk3 ok3 hin3
                obtain ⟨sk, sa, sd, sq, sc, sn⟩ := q3
                unfold P.val at HE
                simp only at hne3
                unfold resV at HEl
                simp only at HEl
                go_wp2_with (first
                  | (go_at_call 18; (with_reducible refine (HRes.out _ HGc.out).mono ?_); rintro e w2 ⟨rfl, hg⟩; have hgr := hg; obtain ⟨d0w2, d1w2, d2w2, d3w2, d4w2, d5w2⟩ := BoxP.kept (B := w.heap.size) (p := ⟨pk, pa, pd, pq, pc, pn⟩) ⟨c0, c1', c2, c3, c4, c5⟩ hgr trivial; have hsw2 : w.heap.size < w2.heap.size := World.block_lt_of_cell? w2 ⟨w.heap.size, 0, none⟩ d0w2; have HTw2 := hide (HGc.out.trans hgr); clear hgr hg)
                  | (go_at_call 30; (with_reducible refine (HIn.out _).mono ?_); rintro e w3 ⟨rfl, hg⟩; have hgr := ((Kept.refl _ _).alloc _).trans hg; obtain ⟨d0w3, d1w3, d2w3, d3w3, d4w3, d5w3⟩ := BoxP.kept (B := w.heap.size) (p := ⟨pk, pa, pd, pq, pc, pn⟩) ⟨d0w2, d1w2, d2w2, d3w2, d4w2, d5w2⟩ hgr trivial; have hsw3 : w.heap.size < w3.heap.size := World.block_lt_of_cell? w3 ⟨w.heap.size, 0, none⟩ d0w3; have HTw3 := hide (HTw2.out.trans hgr); clear hgr hg)
                  | (go_at_call 32; (with_reducible refine (HCh.out _ HTw3.out).mono ?_); rintro e w4 ⟨rfl, hg⟩; have hgr := hg; obtain ⟨d0w4, d1w4, d2w4, d3w4, d4w4, d5w4⟩ := BoxP.kept (B := w.heap.size) (p := ⟨pk, pa, pd, pq, pc, pn⟩) ⟨d0w3, d1w3, d2w3, d3w3, d4w3, d5w3⟩ hgr trivial; have hsw4 : w.heap.size < w4.heap.size := World.block_lt_of_cell? w4 ⟨w.heap.size, 0, none⟩ d0w4; have HTw4 := hide (HTw3.out.trans hgr); clear hgr hg)
                  | (go_at_call 33; (with_reducible refine (HEl.out _ (HTw4.out.alloc _)).mono ?_); rintro e w5 ⟨rfl, hg⟩; have hgr := ((Kept.refl _ _).alloc _).trans hg; obtain ⟨d0w5, d1w5, d2w5, d3w5, d4w5, d5w5⟩ := BoxP.kept (B := w.heap.size) (p := ⟨pk, pa, pd, pq, pc, pn⟩) ⟨d0w4, d1w4, d2w4, d3w4, d4w4, d5w4⟩ hgr trivial; have hsw5 : w.heap.size < w5.heap.size := World.block_lt_of_cell? w5 ⟨w.heap.size, 0, none⟩ d0w5; have HTw5 := hide (HTw4.out.trans hgr); obtain ⟨⟨x0, x1, x2, x3, x4, x5⟩, _⟩ := Cell6.first hg; have hsx : w4.heap.size < w5.heap.size := World.block_lt_of_cell? w5 ⟨w4.heap.size, 0, none⟩ x0; clear hgr hg)
                  | (go_at_call 30; (with_reducible refine (HC.out _).mono ?_); rintro e w6 ⟨rfl, hg⟩; have hgr := ((Kept.refl _ _).alloc _).trans hg; obtain ⟨d0w6, d1w6, d2w6, d3w6, d4w6, d5w6⟩ := BoxP.kept (B := w.heap.size) (p := ⟨pk, pa, pd, pq, pc, pn⟩) ⟨d0w5, d1w5, d2w5, d3w5, d4w5, d5w5⟩ hgr trivial; have hsw6 : w.heap.size < w6.heap.size := World.block_lt_of_cell? w6 ⟨w.heap.size, 0, none⟩ d0w6; have HTw6 := hide (HTw5.out.trans hgr); obtain ⟨⟨y0, y1, y2, y3, y4, y5⟩, _⟩ := Cell6.first hg; clear hgr hg)
                  | (go_at_call 30; (with_reducible refine (HE.out _).mono ?_); rintro e w7 ⟨rfl, hg⟩; have hgr := hg; obtain ⟨d0w7, d1w7, d2w7, d3w7, d4w7, d5w7⟩ := BoxP.kept (B := w.heap.size) (p := ⟨pk, pa, pd, pq, pc, pn⟩) ⟨d0w6, d1w6, d2w6, d3w6, d4w6, d5w6⟩ hgr trivial; have hsw7 : w.heap.size < w7.heap.size := World.block_lt_of_cell? w7 ⟨w.heap.size, 0, none⟩ d0w7; have HTw7 := hide (HTw6.out.trans hgr); clear hgr hg))
                go_ret
                exact ⟨rfl, HG1.out.trans HTw7.out⟩
    · rcases HFR.out q rfl with rfl | ⟨ok1, hk1, hin1⟩
      · unfold resV at HRes
        simp only at HRes
        cases r
        · go_wp2_with (first
            | (go_at_call 18; (with_reducible refine (HRes.out _ HGc.out).mono ?_); rintro e w2 ⟨rfl, hg⟩; have hgr := hg; obtain ⟨d0w2, d1w2, d2w2, d3w2, d4w2, d5w2⟩ := BoxP.kept (B := w.heap.size) (p := ⟨pk, pa, pd, pq, pc, pn⟩) ⟨c0, c1', c2, c3, c4, c5⟩ hgr trivial; have hsw2 : w.heap.size < w2.heap.size := World.block_lt_of_cell? w2 ⟨w.heap.size, 0, none⟩ d0w2; have HTw2 := hide (HGc.out.trans hgr); clear hgr hg)
            | (go_at_call 30; (with_reducible refine (HIn.out _).mono ?_); rintro e w3 ⟨rfl, hg⟩; have hgr := ((Kept.refl _ _).alloc _).trans hg; obtain ⟨d0w3, d1w3, d2w3, d3w3, d4w3, d5w3⟩ := BoxP.kept (B := w.heap.size) (p := ⟨pk, pa, pd, pq, pc, pn⟩) ⟨d0w2, d1w2, d2w2, d3w2, d4w2, d5w2⟩ hgr trivial; have hsw3 : w.heap.size < w3.heap.size := World.block_lt_of_cell? w3 ⟨w.heap.size, 0, none⟩ d0w3; have HTw3 := hide (HTw2.out.trans hgr); clear hgr hg))
          go_ret
          exact ⟨rfl, HG1.out.trans HTw3.out⟩
        · rcases rc with _ | q2
          · unfold resV at HCh
            simp only at HCh
            rcases re with _ | q3
            · unfold resV at HEl
              simp only at HEl
              go_wp2_with (first
                | (go_at_call 18; (with_reducible refine (HRes.out _ HGc.out).mono ?_); rintro e w2 ⟨rfl, hg⟩; have hgr := hg; obtain ⟨d0w2, d1w2, d2w2, d3w2, d4w2, d5w2⟩ := BoxP.kept (B := w.heap.size) (p := ⟨pk, pa, pd, pq, pc, pn⟩) ⟨c0, c1', c2, c3, c4, c5⟩ hgr trivial; have hsw2 : w.heap.size < w2.heap.size := World.block_lt_of_cell? w2 ⟨w.heap.size, 0, none⟩ d0w2; have HTw2 := hide (HGc.out.trans hgr); clear hgr hg)
                | (go_at_call 30; (with_reducible refine (HIn.out _).mono ?_); rintro e w3 ⟨rfl, hg⟩; have hgr := ((Kept.refl _ _).alloc _).trans hg; obtain ⟨d0w3, d1w3, d2w3, d3w3, d4w3, d5w3⟩ := BoxP.kept (B := w.heap.size) (p := ⟨pk, pa, pd, pq, pc, pn⟩) ⟨d0w2, d1w2, d2w2, d3w2, d4w2, d5w2⟩ hgr trivial; have hsw3 : w.heap.size < w3.heap.size := World.block_lt_of_cell? w3 ⟨w.heap.size, 0, none⟩ d0w3; have HTw3 := hide (HTw2.out.trans hgr); clear hgr hg)
                | (go_at_call 32; (with_reducible refine (HCh.out _ HTw3.out).mono ?_); rintro e w4 ⟨rfl, hg⟩; have hgr := hg; obtain ⟨d0w4, d1w4, d2w4, d3w4, d4w4, d5w4⟩ := BoxP.kept (B := w.heap.size) (p := ⟨pk, pa, pd, pq, pc, pn⟩) ⟨d0w3, d1w3, d2w3, d3w3, d4w3, d5w3⟩ hgr trivial; have hsw4 : w.heap.size < w4.heap.size := World.block_lt_of_cell? w4 ⟨w.heap.size, 0, none⟩ d0w4; have HTw4 := hide (HTw3.out.trans hgr); clear hgr hg)
                | (go_at_call 33; (with_reducible refine (HEl.out _ (HTw4.out.alloc _)).mono ?_); rintro e w5 ⟨rfl, hg⟩; have hgr := ((Kept.refl _ _).alloc _).trans hg; obtain ⟨d0w5, d1w5, d2w5, d3w5, d4w5, d5w5⟩ := BoxP.kept (B := w.heap.size) (p := ⟨pk, pa, pd, pq, pc, pn⟩) ⟨d0w4, d1w4, d2w4, d3w4, d4w4, d5w4⟩ hgr trivial; have hsw5 : w.heap.size < w5.heap.size := World.block_lt_of_cell? w5 ⟨w.heap.size, 0, none⟩ d0w5; have HTw5 := hide (HTw4.out.trans hgr); obtain ⟨⟨x0, x1, x2, x3, x4, x5⟩, _⟩ := Cell6.first hg; have hsx : w4.heap.size < w5.heap.size := World.block_lt_of_cell? w5 ⟨w4.heap.size, 0, none⟩ x0; clear hgr hg))
              go_ret
              exact ⟨rfl, HG1.out.trans (HTw5.out.alloc _)⟩
            · rcases HFE.out q3 rfl with rfl | ⟨ok3, hk3, hin3⟩
              · unfold resV at HEl
                simp only at HEl
                go_wp2_with (first
                  | (go_at_call 18; (with_reducible refine (HRes.out _ HGc.out).mono ?_); rintro e w2 ⟨rfl, hg⟩; have hgr := hg; obtain ⟨d0w2, d1w2, d2w2, d3w2, d4w2, d5w2⟩ := BoxP.kept (B := w.heap.size) (p := ⟨pk, pa, pd, pq, pc, pn⟩) ⟨c0, c1', c2, c3, c4, c5⟩ hgr trivial; have hsw2 : w.heap.size < w2.heap.size := World.block_lt_of_cell? w2 ⟨w.heap.size, 0, none⟩ d0w2; have HTw2 := hide (HGc.out.trans hgr); clear hgr hg)
                  | (go_at_call 30; (with_reducible refine (HIn.out _).mono ?_); rintro e w3 ⟨rfl, hg⟩; have hgr := ((Kept.refl _ _).alloc _).trans hg; obtain ⟨d0w3, d1w3, d2w3, d3w3, d4w3, d5w3⟩ := BoxP.kept (B := w.heap.size) (p := ⟨pk, pa, pd, pq, pc, pn⟩) ⟨d0w2, d1w2, d2w2, d3w2, d4w2, d5w2⟩ hgr trivial; have hsw3 : w.heap.size < w3.heap.size := World.block_lt_of_cell? w3 ⟨w.heap.size, 0, none⟩ d0w3; have HTw3 := hide (HTw2.out.trans hgr); clear hgr hg)
                  | (go_at_call 32; (with_reducible refine (HCh.out _ HTw3.out).mono ?_); rintro e w4 ⟨rfl, hg⟩; have hgr := hg; obtain ⟨d0w4, d1w4, d2w4, d3w4, d4w4, d5w4⟩ := BoxP.kept (B := w.heap.size) (p := ⟨pk, pa, pd, pq, pc, pn⟩) ⟨d0w3, d1w3, d2w3, d3w3, d4w3, d5w3⟩ hgr trivial; have hsw4 : w.heap.size < w4.heap.size := World.block_lt_of_cell? w4 ⟨w.heap.size, 0, none⟩ d0w4; have HTw4 := hide (HTw3.out.trans hgr); clear hgr hg)
                  | (go_at_call 33; (with_reducible refine (HEl.out _ (HTw4.out.alloc _)).mono ?_); rintro e w5 ⟨rfl, hg⟩; have hgr := ((Kept.refl _ _).alloc _).trans hg; obtain ⟨d0w5, d1w5, d2w5, d3w5, d4w5, d5w5⟩ := BoxP.kept (B := w.heap.size) (p := ⟨pk, pa, pd, pq, pc, pn⟩) ⟨d0w4, d1w4, d2w4, d3w4, d4w4, d5w4⟩ hgr trivial; have hsw5 : w.heap.size < w5.heap.size := World.block_lt_of_cell? w5 ⟨w.heap.size, 0, none⟩ d0w5; have HTw5 := hide (HTw4.out.trans hgr); obtain ⟨⟨x0, x1, x2, x3, x4, x5⟩, _⟩ := Cell6.first hg; have hsx : w4.heap.size < w5.heap.size := World.block_lt_of_cell? w5 ⟨w4.heap.size, 0, none⟩ x0; clear hgr hg))
                go_ret
                exact ⟨rfl, HG1.out.trans (HTw5.out.alloc _)⟩
              · have HE := hide (fun w => HIQ.out q3 w ok3)
                rw [hin3] at HE
                have hne3 := ne_zero q3.kind q3.at_ q3.data q3.ptrs q3.code q3.count hk3
                clear hk3 ok3 hin3
                obtain ⟨sk, sa, sd, sq, sc, sn⟩ := q3
                unfold P.val at HE
                simp only at hne3
                unfold resV at HEl
                simp only at HEl
                go_wp2_with (first
                  | (go_at_call 18; (with_reducible refine (HRes.out _ HGc.out).mono ?_); rintro e w2 ⟨rfl, hg⟩; have hgr := hg; obtain ⟨d0w2, d1w2, d2w2, d3w2, d4w2, d5w2⟩ := BoxP.kept (B := w.heap.size) (p := ⟨pk, pa, pd, pq, pc, pn⟩) ⟨c0, c1', c2, c3, c4, c5⟩ hgr trivial; have hsw2 : w.heap.size < w2.heap.size := World.block_lt_of_cell? w2 ⟨w.heap.size, 0, none⟩ d0w2; have HTw2 := hide (HGc.out.trans hgr); clear hgr hg)
                  | (go_at_call 30; (with_reducible refine (HIn.out _).mono ?_); rintro e w3 ⟨rfl, hg⟩; have hgr := ((Kept.refl _ _).alloc _).trans hg; obtain ⟨d0w3, d1w3, d2w3, d3w3, d4w3, d5w3⟩ := BoxP.kept (B := w.heap.size) (p := ⟨pk, pa, pd, pq, pc, pn⟩) ⟨d0w2, d1w2, d2w2, d3w2, d4w2, d5w2⟩ hgr trivial; have hsw3 : w.heap.size < w3.heap.size := World.block_lt_of_cell? w3 ⟨w.heap.size, 0, none⟩ d0w3; have HTw3 := hide (HTw2.out.trans hgr); clear hgr hg)
                  | (go_at_call 32; (with_reducible refine (HCh.out _ HTw3.out).mono ?_); rintro e w4 ⟨rfl, hg⟩; have hgr := hg; obtain ⟨d0w4, d1w4, d2w4, d3w4, d4w4, d5w4⟩ := BoxP.kept (B := w.heap.size) (p := ⟨pk, pa, pd, pq, pc, pn⟩) ⟨d0w3, d1w3, d2w3, d3w3, d4w3, d5w3⟩ hgr trivial; have hsw4 : w.heap.size < w4.heap.size := World.block_lt_of_cell? w4 ⟨w.heap.size, 0, none⟩ d0w4; have HTw4 := hide (HTw3.out.trans hgr); clear hgr hg)
                  | (go_at_call 33; (with_reducible refine (HEl.out _ (HTw4.out.alloc _)).mono ?_); rintro e w5 ⟨rfl, hg⟩; have hgr := ((Kept.refl _ _).alloc _).trans hg; obtain ⟨d0w5, d1w5, d2w5, d3w5, d4w5, d5w5⟩ := BoxP.kept (B := w.heap.size) (p := ⟨pk, pa, pd, pq, pc, pn⟩) ⟨d0w4, d1w4, d2w4, d3w4, d4w4, d5w4⟩ hgr trivial; have hsw5 : w.heap.size < w5.heap.size := World.block_lt_of_cell? w5 ⟨w.heap.size, 0, none⟩ d0w5; have HTw5 := hide (HTw4.out.trans hgr); obtain ⟨⟨x0, x1, x2, x3, x4, x5⟩, _⟩ := Cell6.first hg; have hsx : w4.heap.size < w5.heap.size := World.block_lt_of_cell? w5 ⟨w4.heap.size, 0, none⟩ x0; clear hgr hg)
                  | (go_at_call 30; (with_reducible refine (HE.out _).mono ?_); rintro e w7 ⟨rfl, hg⟩; have hgr := ((Kept.refl _ _).alloc _).trans hg; obtain ⟨d0w7, d1w7, d2w7, d3w7, d4w7, d5w7⟩ := BoxP.kept (B := w.heap.size) (p := ⟨pk, pa, pd, pq, pc, pn⟩) ⟨d0w5, d1w5, d2w5, d3w5, d4w5, d5w5⟩ hgr trivial; have hsw7 : w.heap.size < w7.heap.size := World.block_lt_of_cell? w7 ⟨w.heap.size, 0, none⟩ d0w7; have HTw7 := hide (HTw5.out.trans hgr); clear hgr hg))
                go_ret
                exact ⟨rfl, HG1.out.trans HTw7.out⟩
          · rcases HFC.out q2 rfl with rfl | ⟨ok2, hk2, hin2⟩
            · unfold resV at HCh
              simp only at HCh
              rcases re with _ | q3
              · unfold resV at HEl
                simp only at HEl
                go_wp2_with (first
                  | (go_at_call 18; (with_reducible refine (HRes.out _ HGc.out).mono ?_); rintro e w2 ⟨rfl, hg⟩; have hgr := hg; obtain ⟨d0w2, d1w2, d2w2, d3w2, d4w2, d5w2⟩ := BoxP.kept (B := w.heap.size) (p := ⟨pk, pa, pd, pq, pc, pn⟩) ⟨c0, c1', c2, c3, c4, c5⟩ hgr trivial; have hsw2 : w.heap.size < w2.heap.size := World.block_lt_of_cell? w2 ⟨w.heap.size, 0, none⟩ d0w2; have HTw2 := hide (HGc.out.trans hgr); clear hgr hg)
                  | (go_at_call 30; (with_reducible refine (HIn.out _).mono ?_); rintro e w3 ⟨rfl, hg⟩; have hgr := ((Kept.refl _ _).alloc _).trans hg; obtain ⟨d0w3, d1w3, d2w3, d3w3, d4w3, d5w3⟩ := BoxP.kept (B := w.heap.size) (p := ⟨pk, pa, pd, pq, pc, pn⟩) ⟨d0w2, d1w2, d2w2, d3w2, d4w2, d5w2⟩ hgr trivial; have hsw3 : w.heap.size < w3.heap.size := World.block_lt_of_cell? w3 ⟨w.heap.size, 0, none⟩ d0w3; have HTw3 := hide (HTw2.out.trans hgr); clear hgr hg)
                  | (go_at_call 32; (with_reducible refine (HCh.out _ HTw3.out).mono ?_); rintro e w4 ⟨rfl, hg⟩; have hgr := hg; obtain ⟨d0w4, d1w4, d2w4, d3w4, d4w4, d5w4⟩ := BoxP.kept (B := w.heap.size) (p := ⟨pk, pa, pd, pq, pc, pn⟩) ⟨d0w3, d1w3, d2w3, d3w3, d4w3, d5w3⟩ hgr trivial; have hsw4 : w.heap.size < w4.heap.size := World.block_lt_of_cell? w4 ⟨w.heap.size, 0, none⟩ d0w4; have HTw4 := hide (HTw3.out.trans hgr); clear hgr hg)
                  | (go_at_call 33; (with_reducible refine (HEl.out _ (HTw4.out.alloc _)).mono ?_); rintro e w5 ⟨rfl, hg⟩; have hgr := ((Kept.refl _ _).alloc _).trans hg; obtain ⟨d0w5, d1w5, d2w5, d3w5, d4w5, d5w5⟩ := BoxP.kept (B := w.heap.size) (p := ⟨pk, pa, pd, pq, pc, pn⟩) ⟨d0w4, d1w4, d2w4, d3w4, d4w4, d5w4⟩ hgr trivial; have hsw5 : w.heap.size < w5.heap.size := World.block_lt_of_cell? w5 ⟨w.heap.size, 0, none⟩ d0w5; have HTw5 := hide (HTw4.out.trans hgr); obtain ⟨⟨x0, x1, x2, x3, x4, x5⟩, _⟩ := Cell6.first hg; have hsx : w4.heap.size < w5.heap.size := World.block_lt_of_cell? w5 ⟨w4.heap.size, 0, none⟩ x0; clear hgr hg))
                go_ret
                exact ⟨rfl, HG1.out.trans (HTw5.out.alloc _)⟩
              · rcases HFE.out q3 rfl with rfl | ⟨ok3, hk3, hin3⟩
                · unfold resV at HEl
                  simp only at HEl
                  go_wp2_with (first
                    | (go_at_call 18; (with_reducible refine (HRes.out _ HGc.out).mono ?_); rintro e w2 ⟨rfl, hg⟩; have hgr := hg; obtain ⟨d0w2, d1w2, d2w2, d3w2, d4w2, d5w2⟩ := BoxP.kept (B := w.heap.size) (p := ⟨pk, pa, pd, pq, pc, pn⟩) ⟨c0, c1', c2, c3, c4, c5⟩ hgr trivial; have hsw2 : w.heap.size < w2.heap.size := World.block_lt_of_cell? w2 ⟨w.heap.size, 0, none⟩ d0w2; have HTw2 := hide (HGc.out.trans hgr); clear hgr hg)
                    | (go_at_call 30; (with_reducible refine (HIn.out _).mono ?_); rintro e w3 ⟨rfl, hg⟩; have hgr := ((Kept.refl _ _).alloc _).trans hg; obtain ⟨d0w3, d1w3, d2w3, d3w3, d4w3, d5w3⟩ := BoxP.kept (B := w.heap.size) (p := ⟨pk, pa, pd, pq, pc, pn⟩) ⟨d0w2, d1w2, d2w2, d3w2, d4w2, d5w2⟩ hgr trivial; have hsw3 : w.heap.size < w3.heap.size := World.block_lt_of_cell? w3 ⟨w.heap.size, 0, none⟩ d0w3; have HTw3 := hide (HTw2.out.trans hgr); clear hgr hg)
                    | (go_at_call 32; (with_reducible refine (HCh.out _ HTw3.out).mono ?_); rintro e w4 ⟨rfl, hg⟩; have hgr := hg; obtain ⟨d0w4, d1w4, d2w4, d3w4, d4w4, d5w4⟩ := BoxP.kept (B := w.heap.size) (p := ⟨pk, pa, pd, pq, pc, pn⟩) ⟨d0w3, d1w3, d2w3, d3w3, d4w3, d5w3⟩ hgr trivial; have hsw4 : w.heap.size < w4.heap.size := World.block_lt_of_cell? w4 ⟨w.heap.size, 0, none⟩ d0w4; have HTw4 := hide (HTw3.out.trans hgr); clear hgr hg)
                    | (go_at_call 33; (with_reducible refine (HEl.out _ (HTw4.out.alloc _)).mono ?_); rintro e w5 ⟨rfl, hg⟩; have hgr := ((Kept.refl _ _).alloc _).trans hg; obtain ⟨d0w5, d1w5, d2w5, d3w5, d4w5, d5w5⟩ := BoxP.kept (B := w.heap.size) (p := ⟨pk, pa, pd, pq, pc, pn⟩) ⟨d0w4, d1w4, d2w4, d3w4, d4w4, d5w4⟩ hgr trivial; have hsw5 : w.heap.size < w5.heap.size := World.block_lt_of_cell? w5 ⟨w.heap.size, 0, none⟩ d0w5; have HTw5 := hide (HTw4.out.trans hgr); obtain ⟨⟨x0, x1, x2, x3, x4, x5⟩, _⟩ := Cell6.first hg; have hsx : w4.heap.size < w5.heap.size := World.block_lt_of_cell? w5 ⟨w4.heap.size, 0, none⟩ x0; clear hgr hg))
                  go_ret
                  exact ⟨rfl, HG1.out.trans (HTw5.out.alloc _)⟩
                · have HE := hide (fun w => HIQ.out q3 w ok3)
                  rw [hin3] at HE
                  have hne3 := ne_zero q3.kind q3.at_ q3.data q3.ptrs q3.code q3.count hk3
                  clear hk3 ok3 hin3
                  obtain ⟨sk, sa, sd, sq, sc, sn⟩ := q3
                  unfold P.val at HE
                  simp only at hne3
                  unfold resV at HEl
                  simp only at HEl
                  go_wp2_with (first
                    | (go_at_call 18; (with_reducible refine (HRes.out _ HGc.out).mono ?_); rintro e w2 ⟨rfl, hg⟩; have hgr := hg; obtain ⟨d0w2, d1w2, d2w2, d3w2, d4w2, d5w2⟩ := BoxP.kept (B := w.heap.size) (p := ⟨pk, pa, pd, pq, pc, pn⟩) ⟨c0, c1', c2, c3, c4, c5⟩ hgr trivial; have hsw2 : w.heap.size < w2.heap.size := World.block_lt_of_cell? w2 ⟨w.heap.size, 0, none⟩ d0w2; have HTw2 := hide (HGc.out.trans hgr); clear hgr hg)
                    | (go_at_call 30; (with_reducible refine (HIn.out _).mono ?_); rintro e w3 ⟨rfl, hg⟩; have hgr := ((Kept.refl _ _).alloc _).trans hg; obtain ⟨d0w3, d1w3, d2w3, d3w3, d4w3, d5w3⟩ := BoxP.kept (B := w.heap.size) (p := ⟨pk, pa, pd, pq, pc, pn⟩) ⟨d0w2, d1w2, d2w2, d3w2, d4w2, d5w2⟩ hgr trivial; have hsw3 : w.heap.size < w3.heap.size := World.block_lt_of_cell? w3 ⟨w.heap.size, 0, none⟩ d0w3; have HTw3 := hide (HTw2.out.trans hgr); clear hgr hg)
                    | (go_at_call 32; (with_reducible refine (HCh.out _ HTw3.out).mono ?_); rintro e w4 ⟨rfl, hg⟩; have hgr := hg; obtain ⟨d0w4, d1w4, d2w4, d3w4, d4w4, d5w4⟩ := BoxP.kept (B := w.heap.size) (p := ⟨pk, pa, pd, pq, pc, pn⟩) ⟨d0w3, d1w3, d2w3, d3w3, d4w3, d5w3⟩ hgr trivial; have hsw4 : w.heap.size < w4.heap.size := World.block_lt_of_cell? w4 ⟨w.heap.size, 0, none⟩ d0w4; have HTw4 := hide (HTw3.out.trans hgr); clear hgr hg)
                    | (go_at_call 33; (with_reducible refine (HEl.out _ (HTw4.out.alloc _)).mono ?_); rintro e w5 ⟨rfl, hg⟩; have hgr := ((Kept.refl _ _).alloc _).trans hg; obtain ⟨d0w5, d1w5, d2w5, d3w5, d4w5, d5w5⟩ := BoxP.kept (B := w.heap.size) (p := ⟨pk, pa, pd, pq, pc, pn⟩) ⟨d0w4, d1w4, d2w4, d3w4, d4w4, d5w4⟩ hgr trivial; have hsw5 : w.heap.size < w5.heap.size := World.block_lt_of_cell? w5 ⟨w.heap.size, 0, none⟩ d0w5; have HTw5 := hide (HTw4.out.trans hgr); obtain ⟨⟨x0, x1, x2, x3, x4, x5⟩, _⟩ := Cell6.first hg; have hsx : w4.heap.size < w5.heap.size := World.block_lt_of_cell? w5 ⟨w4.heap.size, 0, none⟩ x0; clear hgr hg)
                    | (go_at_call 30; (with_reducible refine (HE.out _).mono ?_); rintro e w7 ⟨rfl, hg⟩; have hgr := ((Kept.refl _ _).alloc _).trans hg; obtain ⟨d0w7, d1w7, d2w7, d3w7, d4w7, d5w7⟩ := BoxP.kept (B := w.heap.size) (p := ⟨pk, pa, pd, pq, pc, pn⟩) ⟨d0w5, d1w5, d2w5, d3w5, d4w5, d5w5⟩ hgr trivial; have hsw7 : w.heap.size < w7.heap.size := World.block_lt_of_cell? w7 ⟨w.heap.size, 0, none⟩ d0w7; have HTw7 := hide (HTw5.out.trans hgr); clear hgr hg))
                  go_ret
                  exact ⟨rfl, HG1.out.trans HTw7.out⟩
            · have HC := hide (fun w => HIQ.out q2 w ok2)
              rw [hin2] at HC
              have hne2 := ne_zero q2.kind q2.at_ q2.data q2.ptrs q2.code q2.count hk2
              clear hk2 ok2 hin2
              obtain ⟨tk, ta, td, tq, tc, tn⟩ := q2
              unfold P.val at HC
              simp only at hne2
              unfold resV at HCh
              simp only at HCh
              rcases re with _ | q3
              · unfold resV at HEl
                simp only at HEl
                go_wp2_with (first
                  | (go_at_call 18; (with_reducible refine (HRes.out _ HGc.out).mono ?_); rintro e w2 ⟨rfl, hg⟩; have hgr := hg; obtain ⟨d0w2, d1w2, d2w2, d3w2, d4w2, d5w2⟩ := BoxP.kept (B := w.heap.size) (p := ⟨pk, pa, pd, pq, pc, pn⟩) ⟨c0, c1', c2, c3, c4, c5⟩ hgr trivial; have hsw2 : w.heap.size < w2.heap.size := World.block_lt_of_cell? w2 ⟨w.heap.size, 0, none⟩ d0w2; have HTw2 := hide (HGc.out.trans hgr); clear hgr hg)
                  | (go_at_call 30; (with_reducible refine (HIn.out _).mono ?_); rintro e w3 ⟨rfl, hg⟩; have hgr := ((Kept.refl _ _).alloc _).trans hg; obtain ⟨d0w3, d1w3, d2w3, d3w3, d4w3, d5w3⟩ := BoxP.kept (B := w.heap.size) (p := ⟨pk, pa, pd, pq, pc, pn⟩) ⟨d0w2, d1w2, d2w2, d3w2, d4w2, d5w2⟩ hgr trivial; have hsw3 : w.heap.size < w3.heap.size := World.block_lt_of_cell? w3 ⟨w.heap.size, 0, none⟩ d0w3; have HTw3 := hide (HTw2.out.trans hgr); clear hgr hg)
                  | (go_at_call 32; (with_reducible refine (HCh.out _ HTw3.out).mono ?_); rintro e w4 ⟨rfl, hg⟩; have hgr := hg; obtain ⟨d0w4, d1w4, d2w4, d3w4, d4w4, d5w4⟩ := BoxP.kept (B := w.heap.size) (p := ⟨pk, pa, pd, pq, pc, pn⟩) ⟨d0w3, d1w3, d2w3, d3w3, d4w3, d5w3⟩ hgr trivial; have hsw4 : w.heap.size < w4.heap.size := World.block_lt_of_cell? w4 ⟨w.heap.size, 0, none⟩ d0w4; have HTw4 := hide (HTw3.out.trans hgr); clear hgr hg)
                  | (go_at_call 33; (with_reducible refine (HEl.out _ (HTw4.out.alloc _)).mono ?_); rintro e w5 ⟨rfl, hg⟩; have hgr := ((Kept.refl _ _).alloc _).trans hg; obtain ⟨d0w5, d1w5, d2w5, d3w5, d4w5, d5w5⟩ := BoxP.kept (B := w.heap.size) (p := ⟨pk, pa, pd, pq, pc, pn⟩) ⟨d0w4, d1w4, d2w4, d3w4, d4w4, d5w4⟩ hgr trivial; have hsw5 : w.heap.size < w5.heap.size := World.block_lt_of_cell? w5 ⟨w.heap.size, 0, none⟩ d0w5; have HTw5 := hide (HTw4.out.trans hgr); obtain ⟨⟨x0, x1, x2, x3, x4, x5⟩, _⟩ := Cell6.first hg; have hsx : w4.heap.size < w5.heap.size := World.block_lt_of_cell? w5 ⟨w4.heap.size, 0, none⟩ x0; clear hgr hg)
                  | (go_at_call 30; (with_reducible refine (HC.out _).mono ?_); rintro e w6 ⟨rfl, hg⟩; have hgr := ((Kept.refl _ _).alloc _).trans hg; obtain ⟨d0w6, d1w6, d2w6, d3w6, d4w6, d5w6⟩ := BoxP.kept (B := w.heap.size) (p := ⟨pk, pa, pd, pq, pc, pn⟩) ⟨d0w5, d1w5, d2w5, d3w5, d4w5, d5w5⟩ hgr trivial; have hsw6 : w.heap.size < w6.heap.size := World.block_lt_of_cell? w6 ⟨w.heap.size, 0, none⟩ d0w6; have HTw6 := hide (HTw5.out.trans hgr); obtain ⟨⟨y0, y1, y2, y3, y4, y5⟩, _⟩ := Cell6.first hg; clear hgr hg))
                go_ret
                exact ⟨rfl, HG1.out.trans HTw6.out⟩
              · rcases HFE.out q3 rfl with rfl | ⟨ok3, hk3, hin3⟩
                · unfold resV at HEl
                  simp only at HEl
                  go_wp2_with (first
                    | (go_at_call 18; (with_reducible refine (HRes.out _ HGc.out).mono ?_); rintro e w2 ⟨rfl, hg⟩; have hgr := hg; obtain ⟨d0w2, d1w2, d2w2, d3w2, d4w2, d5w2⟩ := BoxP.kept (B := w.heap.size) (p := ⟨pk, pa, pd, pq, pc, pn⟩) ⟨c0, c1', c2, c3, c4, c5⟩ hgr trivial; have hsw2 : w.heap.size < w2.heap.size := World.block_lt_of_cell? w2 ⟨w.heap.size, 0, none⟩ d0w2; have HTw2 := hide (HGc.out.trans hgr); clear hgr hg)
                    | (go_at_call 30; (with_reducible refine (HIn.out _).mono ?_); rintro e w3 ⟨rfl, hg⟩; have hgr := ((Kept.refl _ _).alloc _).trans hg; obtain ⟨d0w3, d1w3, d2w3, d3w3, d4w3, d5w3⟩ := BoxP.kept (B := w.heap.size) (p := ⟨pk, pa, pd, pq, pc, pn⟩) ⟨d0w2, d1w2, d2w2, d3w2, d4w2, d5w2⟩ hgr trivial; have hsw3 : w.heap.size < w3.heap.size := World.block_lt_of_cell? w3 ⟨w.heap.size, 0, none⟩ d0w3; have HTw3 := hide (HTw2.out.trans hgr); clear hgr hg)
                    | (go_at_call 32; (with_reducible refine (HCh.out _ HTw3.out).mono ?_); rintro e w4 ⟨rfl, hg⟩; have hgr := hg; obtain ⟨d0w4, d1w4, d2w4, d3w4, d4w4, d5w4⟩ := BoxP.kept (B := w.heap.size) (p := ⟨pk, pa, pd, pq, pc, pn⟩) ⟨d0w3, d1w3, d2w3, d3w3, d4w3, d5w3⟩ hgr trivial; have hsw4 : w.heap.size < w4.heap.size := World.block_lt_of_cell? w4 ⟨w.heap.size, 0, none⟩ d0w4; have HTw4 := hide (HTw3.out.trans hgr); clear hgr hg)
                    | (go_at_call 33; (with_reducible refine (HEl.out _ (HTw4.out.alloc _)).mono ?_); rintro e w5 ⟨rfl, hg⟩; have hgr := ((Kept.refl _ _).alloc _).trans hg; obtain ⟨d0w5, d1w5, d2w5, d3w5, d4w5, d5w5⟩ := BoxP.kept (B := w.heap.size) (p := ⟨pk, pa, pd, pq, pc, pn⟩) ⟨d0w4, d1w4, d2w4, d3w4, d4w4, d5w4⟩ hgr trivial; have hsw5 : w.heap.size < w5.heap.size := World.block_lt_of_cell? w5 ⟨w.heap.size, 0, none⟩ d0w5; have HTw5 := hide (HTw4.out.trans hgr); obtain ⟨⟨x0, x1, x2, x3, x4, x5⟩, _⟩ := Cell6.first hg; have hsx : w4.heap.size < w5.heap.size := World.block_lt_of_cell? w5 ⟨w4.heap.size, 0, none⟩ x0; clear hgr hg)
                    | (go_at_call 30; (with_reducible refine (HC.out _).mono ?_); rintro e w6 ⟨rfl, hg⟩; have hgr := ((Kept.refl _ _).alloc _).trans hg; obtain ⟨d0w6, d1w6, d2w6, d3w6, d4w6, d5w6⟩ := BoxP.kept (B := w.heap.size) (p := ⟨pk, pa, pd, pq, pc, pn⟩) ⟨d0w5, d1w5, d2w5, d3w5, d4w5, d5w5⟩ hgr trivial; have hsw6 : w.heap.size < w6.heap.size := World.block_lt_of_cell? w6 ⟨w.heap.size, 0, none⟩ d0w6; have HTw6 := hide (HTw5.out.trans hgr); obtain ⟨⟨y0, y1, y2, y3, y4, y5⟩, _⟩ := Cell6.first hg; clear hgr hg))
                  go_ret
                  exact ⟨rfl, HG1.out.trans HTw6.out⟩
                · have HE := hide (fun w => HIQ.out q3 w ok3)
                  rw [hin3] at HE
                  have hne3 := ne_zero q3.kind q3.at_ q3.data q3.ptrs q3.code q3.count hk3
                  clear hk3 ok3 hin3
                  obtain ⟨sk, sa, sd, sq, sc, sn⟩ := q3
                  unfold P.val at HE
                  simp only at hne3
                  unfold resV at HEl
                  simp only at HEl
                  go_wp2_with (first
                    | (go_at_call 18; (with_reducible refine (HRes.out _ HGc.out).mono ?_); rintro e w2 ⟨rfl, hg⟩; have hgr := hg; obtain ⟨d0w2, d1w2, d2w2, d3w2, d4w2, d5w2⟩ := BoxP.kept (B := w.heap.size) (p := ⟨pk, pa, pd, pq, pc, pn⟩) ⟨c0, c1', c2, c3, c4, c5⟩ hgr trivial; have hsw2 : w.heap.size < w2.heap.size := World.block_lt_of_cell? w2 ⟨w.heap.size, 0, none⟩ d0w2; have HTw2 := hide (HGc.out.trans hgr); clear hgr hg)
                    | (go_at_call 30; (with_reducible refine (HIn.out _).mono ?_); rintro e w3 ⟨rfl, hg⟩; have hgr := ((Kept.refl _ _).alloc _).trans hg; obtain ⟨d0w3, d1w3, d2w3, d3w3, d4w3, d5w3⟩ := BoxP.kept (B := w.heap.size) (p := ⟨pk, pa, pd, pq, pc, pn⟩) ⟨d0w2, d1w2, d2w2, d3w2, d4w2, d5w2⟩ hgr trivial; have hsw3 : w.heap.size < w3.heap.size := World.block_lt_of_cell? w3 ⟨w.heap.size, 0, none⟩ d0w3; have HTw3 := hide (HTw2.out.trans hgr); clear hgr hg)
                    | (go_at_call 32; (with_reducible refine (HCh.out _ HTw3.out).mono ?_); rintro e w4 ⟨rfl, hg⟩; have hgr := hg; obtain ⟨d0w4, d1w4, d2w4, d3w4, d4w4, d5w4⟩ := BoxP.kept (B := w.heap.size) (p := ⟨pk, pa, pd, pq, pc, pn⟩) ⟨d0w3, d1w3, d2w3, d3w3, d4w3, d5w3⟩ hgr trivial; have hsw4 : w.heap.size < w4.heap.size := World.block_lt_of_cell? w4 ⟨w.heap.size, 0, none⟩ d0w4; have HTw4 := hide (HTw3.out.trans hgr); clear hgr hg)
                    | (go_at_call 33; (with_reducible refine (HEl.out _ (HTw4.out.alloc _)).mono ?_); rintro e w5 ⟨rfl, hg⟩; have hgr := ((Kept.refl _ _).alloc _).trans hg; obtain ⟨d0w5, d1w5, d2w5, d3w5, d4w5, d5w5⟩ := BoxP.kept (B := w.heap.size) (p := ⟨pk, pa, pd, pq, pc, pn⟩) ⟨d0w4, d1w4, d2w4, d3w4, d4w4, d5w4⟩ hgr trivial; have hsw5 : w.heap.size < w5.heap.size := World.block_lt_of_cell? w5 ⟨w.heap.size, 0, none⟩ d0w5; have HTw5 := hide (HTw4.out.trans hgr); obtain ⟨⟨x0, x1, x2, x3, x4, x5⟩, _⟩ := Cell6.first hg; have hsx : w4.heap.size < w5.heap.size := World.block_lt_of_cell? w5 ⟨w4.heap.size, 0, none⟩ x0; clear hgr hg)
                    | (go_at_call 30; (with_reducible refine (HC.out _).mono ?_); rintro e w6 ⟨rfl, hg⟩; have hgr := ((Kept.refl _ _).alloc _).trans hg; obtain ⟨d0w6, d1w6, d2w6, d3w6, d4w6, d5w6⟩ := BoxP.kept (B := w.heap.size) (p := ⟨pk, pa, pd, pq, pc, pn⟩) ⟨d0w5, d1w5, d2w5, d3w5, d4w5, d5w5⟩ hgr trivial; have hsw6 : w.heap.size < w6.heap.size := World.block_lt_of_cell? w6 ⟨w.heap.size, 0, none⟩ d0w6; have HTw6 := hide (HTw5.out.trans hgr); obtain ⟨⟨y0, y1, y2, y3, y4, y5⟩, _⟩ := Cell6.first hg; clear hgr hg)
                    | (go_at_call 30; (with_reducible refine (HE.out _).mono ?_); rintro e w7 ⟨rfl, hg⟩; have hgr := hg; obtain ⟨d0w7, d1w7, d2w7, d3w7, d4w7, d5w7⟩ := BoxP.kept (B := w.heap.size) (p := ⟨pk, pa, pd, pq, pc, pn⟩) ⟨d0w6, d1w6, d2w6, d3w6, d4w6, d5w6⟩ hgr trivial; have hsw7 : w.heap.size < w7.heap.size := World.block_lt_of_cell? w7 ⟨w.heap.size, 0, none⟩ d0w7; have HTw7 := hide (HTw6.out.trans hgr); clear hgr hg))
                  go_ret
                  exact ⟨rfl, HG1.out.trans HTw7.out⟩
      · have HQ := hide (fun w => HIQ.out q w ok1)
        rw [hin1] at HQ
        obtain ⟨qk, qa, qd, qq, qc, qn⟩ := q
        simp only at hk1
        have hb1 : (qk != 0) = true := by rw [bne_iff_ne]; exact hk1
        clear hk1 ok1 hin1
        unfold P.val at HQ
        unfold resV at HRes
        simp only at HRes
        cases r
        · go_wp2_with (first
            | (go_at_call 18; (with_reducible refine (HRes.out _ HGc.out).mono ?_); rintro e w2 ⟨rfl, hg⟩; have hgr := hg; obtain ⟨d0w2, d1w2, d2w2, d3w2, d4w2, d5w2⟩ := BoxP.kept (B := w.heap.size) (p := ⟨pk, pa, pd, pq, pc, pn⟩) ⟨c0, c1', c2, c3, c4, c5⟩ hgr trivial; have hsw2 : w.heap.size < w2.heap.size := World.block_lt_of_cell? w2 ⟨w.heap.size, 0, none⟩ d0w2; have HTw2 := hide (HGc.out.trans hgr); clear hgr hg)
            | (go_at_call 30; (with_reducible refine (HQ.out _).mono ?_); rintro e w2b ⟨rfl, hg⟩; have hgr := ((Kept.refl _ _).alloc _).trans hg; obtain ⟨d0w2b, d1w2b, d2w2b, d3w2b, d4w2b, d5w2b⟩ := BoxP.kept (B := w.heap.size) (p := ⟨pk, pa, pd, pq, pc, pn⟩) ⟨d0w2, d1w2, d2w2, d3w2, d4w2, d5w2⟩ hgr trivial; have hsw2b : w.heap.size < w2b.heap.size := World.block_lt_of_cell? w2b ⟨w.heap.size, 0, none⟩ d0w2b; have HTw2b := hide (HTw2.out.trans hgr); clear hgr hg)
            | (go_at_call 30; (with_reducible refine (HIn.out _).mono ?_); rintro e w3 ⟨rfl, hg⟩; have hgr := hg; obtain ⟨d0w3, d1w3, d2w3, d3w3, d4w3, d5w3⟩ := BoxP.kept (B := w.heap.size) (p := ⟨pk, pa, pd, pq, pc, pn⟩) ⟨d0w2b, d1w2b, d2w2b, d3w2b, d4w2b, d5w2b⟩ hgr trivial; have hsw3 : w.heap.size < w3.heap.size := World.block_lt_of_cell? w3 ⟨w.heap.size, 0, none⟩ d0w3; have HTw3 := hide (HTw2b.out.trans hgr); clear hgr hg))
          go_ret
          exact ⟨rfl, HG1.out.trans HTw3.out⟩
        · rcases rc with _ | q2
          · unfold resV at HCh
            simp only at HCh
            rcases re with _ | q3
            · unfold resV at HEl
              simp only at HEl
              go_wp2_with (first
                | (go_at_call 18; (with_reducible refine (HRes.out _ HGc.out).mono ?_); rintro e w2 ⟨rfl, hg⟩; have hgr := hg; obtain ⟨d0w2, d1w2, d2w2, d3w2, d4w2, d5w2⟩ := BoxP.kept (B := w.heap.size) (p := ⟨pk, pa, pd, pq, pc, pn⟩) ⟨c0, c1', c2, c3, c4, c5⟩ hgr trivial; have hsw2 : w.heap.size < w2.heap.size := World.block_lt_of_cell? w2 ⟨w.heap.size, 0, none⟩ d0w2; have HTw2 := hide (HGc.out.trans hgr); clear hgr hg)
                | (go_at_call 30; (with_reducible refine (HQ.out _).mono ?_); rintro e w2b ⟨rfl, hg⟩; have hgr := ((Kept.refl _ _).alloc _).trans hg; obtain ⟨d0w2b, d1w2b, d2w2b, d3w2b, d4w2b, d5w2b⟩ := BoxP.kept (B := w.heap.size) (p := ⟨pk, pa, pd, pq, pc, pn⟩) ⟨d0w2, d1w2, d2w2, d3w2, d4w2, d5w2⟩ hgr trivial; have hsw2b : w.heap.size < w2b.heap.size := World.block_lt_of_cell? w2b ⟨w.heap.size, 0, none⟩ d0w2b; have HTw2b := hide (HTw2.out.trans hgr); clear hgr hg)
                | (go_at_call 30; (with_reducible refine (HIn.out _).mono ?_); rintro e w3 ⟨rfl, hg⟩; have hgr := hg; obtain ⟨d0w3, d1w3, d2w3, d3w3, d4w3, d5w3⟩ := BoxP.kept (B := w.heap.size) (p := ⟨pk, pa, pd, pq, pc, pn⟩) ⟨d0w2b, d1w2b, d2w2b, d3w2b, d4w2b, d5w2b⟩ hgr trivial; have hsw3 : w.heap.size < w3.heap.size := World.block_lt_of_cell? w3 ⟨w.heap.size, 0, none⟩ d0w3; have HTw3 := hide (HTw2b.out.trans hgr); clear hgr hg)
                | (go_at_call 32; (with_reducible refine (HCh.out _ HTw3.out).mono ?_); rintro e w4 ⟨rfl, hg⟩; have hgr := hg; obtain ⟨d0w4, d1w4, d2w4, d3w4, d4w4, d5w4⟩ := BoxP.kept (B := w.heap.size) (p := ⟨pk, pa, pd, pq, pc, pn⟩) ⟨d0w3, d1w3, d2w3, d3w3, d4w3, d5w3⟩ hgr trivial; have hsw4 : w.heap.size < w4.heap.size := World.block_lt_of_cell? w4 ⟨w.heap.size, 0, none⟩ d0w4; have HTw4 := hide (HTw3.out.trans hgr); clear hgr hg)
                | (go_at_call 33; (with_reducible refine (HEl.out _ (HTw4.out.alloc _)).mono ?_); rintro e w5 ⟨rfl, hg⟩; have hgr := ((Kept.refl _ _).alloc _).trans hg; obtain ⟨d0w5, d1w5, d2w5, d3w5, d4w5, d5w5⟩ := BoxP.kept (B := w.heap.size) (p := ⟨pk, pa, pd, pq, pc, pn⟩) ⟨d0w4, d1w4, d2w4, d3w4, d4w4, d5w4⟩ hgr trivial; have hsw5 : w.heap.size < w5.heap.size := World.block_lt_of_cell? w5 ⟨w.heap.size, 0, none⟩ d0w5; have HTw5 := hide (HTw4.out.trans hgr); obtain ⟨⟨x0, x1, x2, x3, x4, x5⟩, _⟩ := Cell6.first hg; have hsx : w4.heap.size < w5.heap.size := World.block_lt_of_cell? w5 ⟨w4.heap.size, 0, none⟩ x0; clear hgr hg))
              go_ret
              exact ⟨rfl, HG1.out.trans (HTw5.out.alloc _)⟩
            · rcases HFE.out q3 rfl with rfl | ⟨ok3, hk3, hin3⟩
              · unfold resV at HEl
                simp only at HEl
                go_wp2_with (first
                  | (go_at_call 18; (with_reducible refine (HRes.out _ HGc.out).mono ?_); rintro e w2 ⟨rfl, hg⟩; have hgr := hg; obtain ⟨d0w2, d1w2, d2w2, d3w2, d4w2, d5w2⟩ := BoxP.kept (B := w.heap.size) (p := ⟨pk, pa, pd, pq, pc, pn⟩) ⟨c0, c1', c2, c3, c4, c5⟩ hgr trivial; have hsw2 : w.heap.size < w2.heap.size := World.block_lt_of_cell? w2 ⟨w.heap.size, 0, none⟩ d0w2; have HTw2 := hide (HGc.out.trans hgr); clear hgr hg)
                  | (go_at_call 30; (with_reducible refine (HQ.out _).mono ?_); rintro e w2b ⟨rfl, hg⟩; have hgr := ((Kept.refl _ _).alloc _).trans hg; obtain ⟨d0w2b, d1w2b, d2w2b, d3w2b, d4w2b, d5w2b⟩ := BoxP.kept (B := w.heap.size) (p := ⟨pk, pa, pd, pq, pc, pn⟩) ⟨d0w2, d1w2, d2w2, d3w2, d4w2, d5w2⟩ hgr trivial; have hsw2b : w.heap.size < w2b.heap.size := World.block_lt_of_cell? w2b ⟨w.heap.size, 0, none⟩ d0w2b; have HTw2b := hide (HTw2.out.trans hgr); clear hgr hg)
                  | (go_at_call 30; (with_reducible refine (HIn.out _).mono ?_); rintro e w3 ⟨rfl, hg⟩; have hgr := hg; obtain ⟨d0w3, d1w3, d2w3, d3w3, d4w3, d5w3⟩ := BoxP.kept (B := w.heap.size) (p := ⟨pk, pa, pd, pq, pc, pn⟩) ⟨d0w2b, d1w2b, d2w2b, d3w2b, d4w2b, d5w2b⟩ hgr trivial; have hsw3 : w.heap.size < w3.heap.size := World.block_lt_of_cell? w3 ⟨w.heap.size, 0, none⟩ d0w3; have HTw3 := hide (HTw2b.out.trans hgr); clear hgr hg)
                  | (go_at_call 32; (with_reducible refine (HCh.out _ HTw3.out).mono ?_); rintro e w4 ⟨rfl, hg⟩; have hgr := hg; obtain ⟨d0w4, d1w4, d2w4, d3w4, d4w4, d5w4⟩ := BoxP.kept (B := w.heap.size) (p := ⟨pk, pa, pd, pq, pc, pn⟩) ⟨d0w3, d1w3, d2w3, d3w3, d4w3, d5w3⟩ hgr trivial; have hsw4 : w.heap.size < w4.heap.size := World.block_lt_of_cell? w4 ⟨w.heap.size, 0, none⟩ d0w4; have HTw4 := hide (HTw3.out.trans hgr); clear hgr hg)
                  | (go_at_call 33; (with_reducible refine (HEl.out _ (HTw4.out.alloc _)).mono ?_); rintro e w5 ⟨rfl, hg⟩; have hgr := ((Kept.refl _ _).alloc _).trans hg; obtain ⟨d0w5, d1w5, d2w5, d3w5, d4w5, d5w5⟩ := BoxP.kept (B := w.heap.size) (p := ⟨pk, pa, pd, pq, pc, pn⟩) ⟨d0w4, d1w4, d2w4, d3w4, d4w4, d5w4⟩ hgr trivial; have hsw5 : w.heap.size < w5.heap.size := World.block_lt_of_cell? w5 ⟨w.heap.size, 0, none⟩ d0w5; have HTw5 := hide (HTw4.out.trans hgr); obtain ⟨⟨x0, x1, x2, x3, x4, x5⟩, _⟩ := Cell6.first hg; have hsx : w4.heap.size < w5.heap.size := World.block_lt_of_cell? w5 ⟨w4.heap.size, 0, none⟩ x0; clear hgr hg))
                go_ret
                exact ⟨rfl, HG1.out.trans (HTw5.out.alloc _)⟩
              · have HE := hide (fun w => HIQ.out q3 w ok3)
                rw [hin3] at HE
                have hne3 := ne_zero q3.kind q3.at_ q3.data q3.ptrs q3.code q3.count hk3
                clear hk3 ok3 hin3
                obtain ⟨sk, sa, sd, sq, sc, sn⟩ := q3
                unfold P.val at HE
                simp only at hne3
                unfold resV at HEl
                simp only at HEl
                go_wp2_with (first
                  | (go_at_call 18; (with_reducible refine (HRes.out _ HGc.out).mono ?_); rintro e w2 ⟨rfl, hg⟩; have hgr := hg; obtain ⟨d0w2, d1w2, d2w2, d3w2, d4w2, d5w2⟩ := BoxP.kept (B := w.heap.size) (p := ⟨pk, pa, pd, pq, pc, pn⟩) ⟨c0, c1', c2, c3, c4, c5⟩ hgr trivial; have hsw2 : w.heap.size < w2.heap.size := World.block_lt_of_cell? w2 ⟨w.heap.size, 0, none⟩ d0w2; have HTw2 := hide (HGc.out.trans hgr); clear hgr hg)
                  | (go_at_call 30; (with_reducible refine (HQ.out _).mono ?_); rintro e w2b ⟨rfl, hg⟩; have hgr := ((Kept.refl _ _).alloc _).trans hg; obtain ⟨d0w2b, d1w2b, d2w2b, d3w2b, d4w2b, d5w2b⟩ := BoxP.kept (B := w.heap.size) (p := ⟨pk, pa, pd, pq, pc, pn⟩) ⟨d0w2, d1w2, d2w2, d3w2, d4w2, d5w2⟩ hgr trivial; have hsw2b : w.heap.size < w2b.heap.size := World.block_lt_of_cell? w2b ⟨w.heap.size, 0, none⟩ d0w2b; have HTw2b := hide (HTw2.out.trans hgr); clear hgr hg)
                  | (go_at_call 30; (with_reducible refine (HIn.out _).mono ?_); rintro e w3 ⟨rfl, hg⟩; have hgr := hg; obtain ⟨d0w3, d1w3, d2w3, d3w3, d4w3, d5w3⟩ := BoxP.kept (B := w.heap.size) (p := ⟨pk, pa, pd, pq, pc, pn⟩) ⟨d0w2b, d1w2b, d2w2b, d3w2b, d4w2b, d5w2b⟩ hgr trivial; have hsw3 : w.heap.size < w3.heap.size := World.block_lt_of_cell? w3 ⟨w.heap.size, 0, none⟩ d0w3; have HTw3 := hide (HTw2b.out.trans hgr); clear hgr hg)
                  | (go_at_call 32; (with_reducible refine (HCh.out _ HTw3.out).mono ?_); rintro e w4 ⟨rfl, hg⟩; have hgr := hg; obtain ⟨d0w4, d1w4, d2w4, d3w4, d4w4, d5w4⟩ := BoxP.kept (B := w.heap.size) (p := ⟨pk, pa, pd, pq, pc, pn⟩) ⟨d0w3, d1w3, d2w3, d3w3, d4w3, d5w3⟩ hgr trivial; have hsw4 : w.heap.size < w4.heap.size := World.block_lt_of_cell? w4 ⟨w.heap.size, 0, none⟩ d0w4; have HTw4 := hide (HTw3.out.trans hgr); clear hgr hg)
                  | (go_at_call 33; (with_reducible refine (HEl.out _ (HTw4.out.alloc _)).mono ?_); rintro e w5 ⟨rfl, hg⟩; have hgr := ((Kept.refl _ _).alloc _).trans hg; obtain ⟨d0w5, d1w5, d2w5, d3w5, d4w5, d5w5⟩ := BoxP.kept (B := w.heap.size) (p := ⟨pk, pa, pd, pq, pc, pn⟩) ⟨d0w4, d1w4, d2w4, d3w4, d4w4, d5w4⟩ hgr trivial; have hsw5 : w.heap.size < w5.heap.size := World.block_lt_of_cell? w5 ⟨w.heap.size, 0, none⟩ d0w5; have HTw5 := hide (HTw4.out.trans hgr); obtain ⟨⟨x0, x1, x2, x3, x4, x5⟩, _⟩ := Cell6.first hg; have hsx : w4.heap.size < w5.heap.size := World.block_lt_of_cell? w5 ⟨w4.heap.size, 0, none⟩ x0; clear hgr hg)
                  | (go_at_call 30; (with_reducible refine (HE.out _).mono ?_); rintro e w7 ⟨rfl, hg⟩; have hgr := ((Kept.refl _ _).alloc _).trans hg; obtain ⟨d0w7, d1w7, d2w7, d3w7, d4w7, d5w7⟩ := BoxP.kept (B := w.heap.size) (p := ⟨pk, pa, pd, pq, pc, pn⟩) ⟨d0w5, d1w5, d2w5, d3w5, d4w5, d5w5⟩ hgr trivial; have hsw7 : w.heap.size < w7.heap.size := World.block_lt_of_cell? w7 ⟨w.heap.size, 0, none⟩ d0w7; have HTw7 := hide (HTw5.out.trans hgr); clear hgr hg))
                go_ret
                exact ⟨rfl, HG1.out.trans HTw7.out⟩
          · rcases HFC.out q2 rfl with rfl | ⟨ok2, hk2, hin2⟩
            · unfold resV at HCh
              simp only at HCh
              rcases re with _ | q3
              · unfold resV at HEl
                simp only at HEl
                go_wp2_with (first
                  | (go_at_call 18; (with_reducible refine (HRes.out _ HGc.out).mono ?_); rintro e w2 ⟨rfl, hg⟩; have hgr := hg; obtain ⟨d0w2, d1w2, d2w2, d3w2, d4w2, d5w2⟩ := BoxP.kept (B := w.heap.size) (p := ⟨pk, pa, pd, pq, pc, pn⟩) ⟨c0, c1', c2, c3, c4, c5⟩ hgr trivial; have hsw2 : w.heap.size < w2.heap.size := World.block_lt_of_cell? w2 ⟨w.heap.size, 0, none⟩ d0w2; have HTw2 := hide (HGc.out.trans hgr); clear hgr hg)
                  | (go_at_call 30; (with_reducible refine (HQ.out _).mono ?_); rintro e w2b ⟨rfl, hg⟩; have hgr := ((Kept.refl _ _).alloc _).trans hg; obtain ⟨d0w2b, d1w2b, d2w2b, d3w2b, d4w2b, d5w2b⟩ := BoxP.kept (B := w.heap.size) (p := ⟨pk, pa, pd, pq, pc, pn⟩) ⟨d0w2, d1w2, d2w2, d3w2, d4w2, d5w2⟩ hgr trivial; have hsw2b : w.heap.size < w2b.heap.size := World.block_lt_of_cell? w2b ⟨w.heap.size, 0, none⟩ d0w2b; have HTw2b := hide (HTw2.out.trans hgr); clear hgr hg)
                  | (go_at_call 30; (with_reducible refine (HIn.out _).mono ?_); rintro e w3 ⟨rfl, hg⟩; have hgr := hg; obtain ⟨d0w3, d1w3, d2w3, d3w3, d4w3, d5w3⟩ := BoxP.kept (B := w.heap.size) (p := ⟨pk, pa, pd, pq, pc, pn⟩) ⟨d0w2b, d1w2b, d2w2b, d3w2b, d4w2b, d5w2b⟩ hgr trivial; have hsw3 : w.heap.size < w3.heap.size := World.block_lt_of_cell? w3 ⟨w.heap.size, 0, none⟩ d0w3; have HTw3 := hide (HTw2b.out.trans hgr); clear hgr hg)
                  | (go_at_call 32; (with_reducible refine (HCh.out _ HTw3.out).mono ?_); rintro e w4 ⟨rfl, hg⟩; have hgr := hg; obtain ⟨d0w4, d1w4, d2w4, d3w4, d4w4, d5w4⟩ := BoxP.kept (B := w.heap.size) (p := ⟨pk, pa, pd, pq, pc, pn⟩) ⟨d0w3, d1w3, d2w3, d3w3, d4w3, d5w3⟩ hgr trivial; have hsw4 : w.heap.size < w4.heap.size := World.block_lt_of_cell? w4 ⟨w.heap.size, 0, none⟩ d0w4; have HTw4 := hide (HTw3.out.trans hgr); clear hgr hg)
                  | (go_at_call 33; (with_reducible refine (HEl.out _ (HTw4.out.alloc _)).mono ?_); rintro e w5 ⟨rfl, hg⟩; have hgr := ((Kept.refl _ _).alloc _).trans hg; obtain ⟨d0w5, d1w5, d2w5, d3w5, d4w5, d5w5⟩ := BoxP.kept (B := w.heap.size) (p := ⟨pk, pa, pd, pq, pc, pn⟩) ⟨d0w4, d1w4, d2w4, d3w4, d4w4, d5w4⟩ hgr trivial; have hsw5 : w.heap.size < w5.heap.size := World.block_lt_of_cell? w5 ⟨w.heap.size, 0, none⟩ d0w5; have HTw5 := hide (HTw4.out.trans hgr); obtain ⟨⟨x0, x1, x2, x3, x4, x5⟩, _⟩ := Cell6.first hg; have hsx : w4.heap.size < w5.heap.size := World.block_lt_of_cell? w5 ⟨w4.heap.size, 0, none⟩ x0; clear hgr hg))
                go_ret
                exact ⟨rfl, HG1.out.trans (HTw5.out.alloc _)⟩
              · rcases HFE.out q3 rfl with rfl | ⟨ok3, hk3, hin3⟩
                · unfold resV at HEl
                  simp only at HEl
                  go_wp2_with (first
                    | (go_at_call 18; (with_reducible refine (HRes.out _ HGc.out).mono ?_); rintro e w2 ⟨rfl, hg⟩; have hgr := hg; obtain ⟨d0w2, d1w2, d2w2, d3w2, d4w2, d5w2⟩ := BoxP.kept (B := w.heap.size) (p := ⟨pk, pa, pd, pq, pc, pn⟩) ⟨c0, c1', c2, c3, c4, c5⟩ hgr trivial; have hsw2 : w.heap.size < w2.heap.size := World.block_lt_of_cell? w2 ⟨w.heap.size, 0, none⟩ d0w2; have HTw2 := hide (HGc.out.trans hgr); clear hgr hg)
                    | (go_at_call 30; (with_reducible refine (HQ.out _).mono ?_); rintro e w2b ⟨rfl, hg⟩; have hgr := ((Kept.refl _ _).alloc _).trans hg; obtain ⟨d0w2b, d1w2b, d2w2b, d3w2b, d4w2b, d5w2b⟩ := BoxP.kept (B := w.heap.size) (p := ⟨pk, pa, pd, pq, pc, pn⟩) ⟨d0w2, d1w2, d2w2, d3w2, d4w2, d5w2⟩ hgr trivial; have hsw2b : w.heap.size < w2b.heap.size := World.block_lt_of_cell? w2b ⟨w.heap.size, 0, none⟩ d0w2b; have HTw2b := hide (HTw2.out.trans hgr); clear hgr hg)
                    | (go_at_call 30; (with_reducible refine (HIn.out _).mono ?_); rintro e w3 ⟨rfl, hg⟩; have hgr := hg; obtain ⟨d0w3, d1w3, d2w3, d3w3, d4w3, d5w3⟩ := BoxP.kept (B := w.heap.size) (p := ⟨pk, pa, pd, pq, pc, pn⟩) ⟨d0w2b, d1w2b, d2w2b, d3w2b, d4w2b, d5w2b⟩ hgr trivial; have hsw3 : w.heap.size < w3.heap.size := World.block_lt_of_cell? w3 ⟨w.heap.size, 0, none⟩ d0w3; have HTw3 := hide (HTw2b.out.trans hgr); clear hgr hg)
                    | (go_at_call 32; (with_reducible refine (HCh.out _ HTw3.out).mono ?_); rintro e w4 ⟨rfl, hg⟩; have hgr := hg; obtain ⟨d0w4, d1w4, d2w4, d3w4, d4w4, d5w4⟩ := BoxP.kept (B := w.heap.size) (p := ⟨pk, pa, pd, pq, pc, pn⟩) ⟨d0w3, d1w3, d2w3, d3w3, d4w3, d5w3⟩ hgr trivial; have hsw4 : w.heap.size < w4.heap.size := World.block_lt_of_cell? w4 ⟨w.heap.size, 0, none⟩ d0w4; have HTw4 := hide (HTw3.out.trans hgr); clear hgr hg)
                    | (go_at_call 33; (with_reducible refine (HEl.out _ (HTw4.out.alloc _)).mono ?_); rintro e w5 ⟨rfl, hg⟩; have hgr := ((Kept.refl _ _).alloc _).trans hg; obtain ⟨d0w5, d1w5, d2w5, d3w5, d4w5, d5w5⟩ := BoxP.kept (B := w.heap.size) (p := ⟨pk, pa, pd, pq, pc, pn⟩) ⟨d0w4, d1w4, d2w4, d3w4, d4w4, d5w4⟩ hgr trivial; have hsw5 : w.heap.size < w5.heap.size := World.block_lt_of_cell? w5 ⟨w.heap.size, 0, none⟩ d0w5; have HTw5 := hide (HTw4.out.trans hgr); obtain ⟨⟨x0, x1, x2, x3, x4, x5⟩, _⟩ := Cell6.first hg; have hsx : w4.heap.size < w5.heap.size := World.block_lt_of_cell? w5 ⟨w4.heap.size, 0, none⟩ x0; clear hgr hg))
                  go_ret
                  exact ⟨rfl, HG1.out.trans (HTw5.out.alloc _)⟩
                · have HE := hide (fun w => HIQ.out q3 w ok3)
                  rw [hin3] at HE
                  have hne3 := ne_zero q3.kind q3.at_ q3.data q3.ptrs q3.code q3.count hk3
                  clear hk3 ok3 hin3
                  obtain ⟨sk, sa, sd, sq, sc, sn⟩ := q3
                  unfold P.val at HE
                  simp only at hne3
                  unfold resV at HEl
                  simp only at HEl
                  go_wp2_with (first
                    | (go_at_call 18; (with_reducible refine (HRes.out _ HGc.out).mono ?_); rintro e w2 ⟨rfl, hg⟩; have hgr := hg; obtain ⟨d0w2, d1w2, d2w2, d3w2, d4w2, d5w2⟩ := BoxP.kept (B := w.heap.size) (p := ⟨pk, pa, pd, pq, pc, pn⟩) ⟨c0, c1', c2, c3, c4, c5⟩ hgr trivial; have hsw2 : w.heap.size < w2.heap.size := World.block_lt_of_cell? w2 ⟨w.heap.size, 0, none⟩ d0w2; have HTw2 := hide (HGc.out.trans hgr); clear hgr hg)
                    | (go_at_call 30; (with_reducible refine (HQ.out _).mono ?_); rintro e w2b ⟨rfl, hg⟩; have hgr := ((Kept.refl _ _).alloc _).trans hg; obtain ⟨d0w2b, d1w2b, d2w2b, d3w2b, d4w2b, d5w2b⟩ := BoxP.kept (B := w.heap.size) (p := ⟨pk, pa, pd, pq, pc, pn⟩) ⟨d0w2, d1w2, d2w2, d3w2, d4w2, d5w2⟩ hgr trivial; have hsw2b : w.heap.size < w2b.heap.size := World.block_lt_of_cell? w2b ⟨w.heap.size, 0, none⟩ d0w2b; have HTw2b := hide (HTw2.out.trans hgr); clear hgr hg)
                    | (go_at_call 30; (with_reducible refine (HIn.out _).mono ?_); rintro e w3 ⟨rfl, hg⟩; have hgr := hg; obtain ⟨d0w3, d1w3, d2w3, d3w3, d4w3, d5w3⟩ := BoxP.kept (B := w.heap.size) (p := ⟨pk, pa, pd, pq, pc, pn⟩) ⟨d0w2b, d1w2b, d2w2b, d3w2b, d4w2b, d5w2b⟩ hgr trivial; have hsw3 : w.heap.size < w3.heap.size := World.block_lt_of_cell? w3 ⟨w.heap.size, 0, none⟩ d0w3; have HTw3 := hide (HTw2b.out.trans hgr); clear hgr hg)
                    | (go_at_call 32; (with_reducible refine (HCh.out _ HTw3.out).mono ?_); rintro e w4 ⟨rfl, hg⟩; have hgr := hg; obtain ⟨d0w4, d1w4, d2w4, d3w4, d4w4, d5w4⟩ := BoxP.kept (B := w.heap.size) (p := ⟨pk, pa, pd, pq, pc, pn⟩) ⟨d0w3, d1w3, d2w3, d3w3, d4w3, d5w3⟩ hgr trivial; have hsw4 : w.heap.size < w4.heap.size := World.block_lt_of_cell? w4 ⟨w.heap.size, 0, none⟩ d0w4; have HTw4 := hide (HTw3.out.trans hgr); clear hgr hg)
                    | (go_at_call 33; (with_reducible refine (HEl.out _ (HTw4.out.alloc _)).mono ?_); rintro e w5 ⟨rfl, hg⟩; have hgr := ((Kept.refl _ _).alloc _).trans hg; obtain ⟨d0w5, d1w5, d2w5, d3w5, d4w5, d5w5⟩ := BoxP.kept (B := w.heap.size) (p := ⟨pk, pa, pd, pq, pc, pn⟩) ⟨d0w4, d1w4, d2w4, d3w4, d4w4, d5w4⟩ hgr trivial; have hsw5 : w.heap.size < w5.heap.size := World.block_lt_of_cell? w5 ⟨w.heap.size, 0, none⟩ d0w5; have HTw5 := hide (HTw4.out.trans hgr); obtain ⟨⟨x0, x1, x2, x3, x4, x5⟩, _⟩ := Cell6.first hg; have hsx : w4.heap.size < w5.heap.size := World.block_lt_of_cell? w5 ⟨w4.heap.size, 0, none⟩ x0; clear hgr hg)
                    | (go_at_call 30; (with_reducible refine (HE.out _).mono ?_); rintro e w7 ⟨rfl, hg⟩; have hgr := ((Kept.refl _ _).alloc _).trans hg; obtain ⟨d0w7, d1w7, d2w7, d3w7, d4w7, d5w7⟩ := BoxP.kept (B := w.heap.size) (p := ⟨pk, pa, pd, pq, pc, pn⟩) ⟨d0w5, d1w5, d2w5, d3w5, d4w5, d5w5⟩ hgr trivial; have hsw7 : w.heap.size < w7.heap.size := World.block_lt_of_cell? w7 ⟨w.heap.size, 0, none⟩ d0w7; have HTw7 := hide (HTw5.out.trans hgr); clear hgr hg))
                  go_ret
                  exact ⟨rfl, HG1.out.trans HTw7.out⟩
            · have HC := hide (fun w => HIQ.out q2 w ok2)
              rw [hin2] at HC
              have hne2 := ne_zero q2.kind q2.at_ q2.data q2.ptrs q2.code q2.count hk2
              clear hk2 ok2 hin2
              obtain ⟨tk, ta, td, tq, tc, tn⟩ := q2
              unfold P.val at HC
              simp only at hne2
              unfold resV at HCh
              simp only at HCh
              rcases re with _ | q3
              · unfold resV at HEl
                simp only at HEl
                go_wp2_with (first
                  | (go_at_call 18; (with_reducible refine (HRes.out _ HGc.out).mono ?_); rintro e w2 ⟨rfl, hg⟩; have hgr := hg; obtain ⟨d0w2, d1w2, d2w2, d3w2, d4w2, d5w2⟩ := BoxP.kept (B := w.heap.size) (p := ⟨pk, pa, pd, pq, pc, pn⟩) ⟨c0, c1', c2, c3, c4, c5⟩ hgr trivial; have hsw2 : w.heap.size < w2.heap.size := World.block_lt_of_cell? w2 ⟨w.heap.size, 0, none⟩ d0w2; have HTw2 := hide (HGc.out.trans hgr); clear hgr hg)
                  | (go_at_call 30; (with_reducible refine (HQ.out _).mono ?_); rintro e w2b ⟨rfl, hg⟩; have hgr := ((Kept.refl _ _).alloc _).trans hg; obtain ⟨d0w2b, d1w2b, d2w2b, d3w2b, d4w2b, d5w2b⟩ := BoxP.kept (B := w.heap.size) (p := ⟨pk, pa, pd, pq, pc, pn⟩) ⟨d0w2, d1w2, d2w2, d3w2, d4w2, d5w2⟩ hgr trivial; have hsw2b : w.heap.size < w2b.heap.size := World.block_lt_of_cell? w2b ⟨w.heap.size, 0, none⟩ d0w2b; have HTw2b := hide (HTw2.out.trans hgr); clear hgr hg)
                  | (go_at_call 30; (with_reducible refine (HIn.out _).mono ?_); rintro e w3 ⟨rfl, hg⟩; have hgr := hg; obtain ⟨d0w3, d1w3, d2w3, d3w3, d4w3, d5w3⟩ := BoxP.kept (B := w.heap.size) (p := ⟨pk, pa, pd, pq, pc, pn⟩) ⟨d0w2b, d1w2b, d2w2b, d3w2b, d4w2b, d5w2b⟩ hgr trivial; have hsw3 : w.heap.size < w3.heap.size := World.block_lt_of_cell? w3 ⟨w.heap.size, 0, none⟩ d0w3; have HTw3 := hide (HTw2b.out.trans hgr); clear hgr hg)
                  | (go_at_call 32; (with_reducible refine (HCh.out _ HTw3.out).mono ?_); rintro e w4 ⟨rfl, hg⟩; have hgr := hg; obtain ⟨d0w4, d1w4, d2w4, d3w4, d4w4, d5w4⟩ := BoxP.kept (B := w.heap.size) (p := ⟨pk, pa, pd, pq, pc, pn⟩) ⟨d0w3, d1w3, d2w3, d3w3, d4w3, d5w3⟩ hgr trivial; have hsw4 : w.heap.size < w4.heap.size := World.block_lt_of_cell? w4 ⟨w.heap.size, 0, none⟩ d0w4; have HTw4 := hide (HTw3.out.trans hgr); clear hgr hg)
                  | (go_at_call 33; (with_reducible refine (HEl.out _ (HTw4.out.alloc _)).mono ?_); rintro e w5 ⟨rfl, hg⟩; have hgr := ((Kept.refl _ _).alloc _).trans hg; obtain ⟨d0w5, d1w5, d2w5, d3w5, d4w5, d5w5⟩ := BoxP.kept (B := w.heap.size) (p := ⟨pk, pa, pd, pq, pc, pn⟩) ⟨d0w4, d1w4, d2w4, d3w4, d4w4, d5w4⟩ hgr trivial; have hsw5 : w.heap.size < w5.heap.size := World.block_lt_of_cell? w5 ⟨w.heap.size, 0, none⟩ d0w5; have HTw5 := hide (HTw4.out.trans hgr); obtain ⟨⟨x0, x1, x2, x3, x4, x5⟩, _⟩ := Cell6.first hg; have hsx : w4.heap.size < w5.heap.size := World.block_lt_of_cell? w5 ⟨w4.heap.size, 0, none⟩ x0; clear hgr hg)
                  | (go_at_call 30; (with_reducible refine (HC.out _).mono ?_); rintro e w6 ⟨rfl, hg⟩; have hgr := ((Kept.refl _ _).alloc _).trans hg; obtain ⟨d0w6, d1w6, d2w6, d3w6, d4w6, d5w6⟩ := BoxP.kept (B := w.heap.size) (p := ⟨pk, pa, pd, pq, pc, pn⟩) ⟨d0w5, d1w5, d2w5, d3w5, d4w5, d5w5⟩ hgr trivial; have hsw6 : w.heap.size < w6.heap.size := World.block_lt_of_cell? w6 ⟨w.heap.size, 0, none⟩ d0w6; have HTw6 := hide (HTw5.out.trans hgr); obtain ⟨⟨y0, y1, y2, y3, y4, y5⟩, _⟩ := Cell6.first hg; clear hgr hg))
                go_ret
                exact ⟨rfl, HG1.out.trans HTw6.out⟩
              · rcases HFE.out q3 rfl with rfl | ⟨ok3, hk3, hin3⟩
                · unfold resV at HEl
                  simp only at HEl
                  go_wp2_with (first
                    | (go_at_call 18; (with_reducible refine (HRes.out _ HGc.out).mono ?_); rintro e w2 ⟨rfl, hg⟩; have hgr := hg; obtain ⟨d0w2, d1w2, d2w2, d3w2, d4w2, d5w2⟩ := BoxP.kept (B := w.heap.size) (p := ⟨pk, pa, pd, pq, pc, pn⟩) ⟨c0, c1', c2, c3, c4, c5⟩ hgr trivial; have hsw2 : w.heap.size < w2.heap.size := World.block_lt_of_cell? w2 ⟨w.heap.size, 0, none⟩ d0w2; have HTw2 := hide (HGc.out.trans hgr); clear hgr hg)
                    | (go_at_call 30; (with_reducible refine (HQ.out _).mono ?_); rintro e w2b ⟨rfl, hg⟩; have hgr := ((Kept.refl _ _).alloc _).trans hg; obtain ⟨d0w2b, d1w2b, d2w2b, d3w2b, d4w2b, d5w2b⟩ := BoxP.kept (B := w.heap.size) (p := ⟨pk, pa, pd, pq, pc, pn⟩) ⟨d0w2, d1w2, d2w2, d3w2, d4w2, d5w2⟩ hgr trivial; have hsw2b : w.heap.size < w2b.heap.size := World.block_lt_of_cell? w2b ⟨w.heap.size, 0, none⟩ d0w2b; have HTw2b := hide (HTw2.out.trans hgr); clear hgr hg)
                    | (go_at_call 30; (with_reducible refine (HIn.out _).mono ?_); rintro e w3 ⟨rfl, hg⟩; have hgr := hg; obtain ⟨d0w3, d1w3, d2w3, d3w3, d4w3, d5w3⟩ := BoxP.kept (B := w.heap.size) (p := ⟨pk, pa, pd, pq, pc, pn⟩) ⟨d0w2b, d1w2b, d2w2b, d3w2b, d4w2b, d5w2b⟩ hgr trivial; have hsw3 : w.heap.size < w3.heap.size := World.block_lt_of_cell? w3 ⟨w.heap.size, 0, none⟩ d0w3; have HTw3 := hide (HTw2b.out.trans hgr); clear hgr hg)
                    | (go_at_call 32; (with_reducible refine (HCh.out _ HTw3.out).mono ?_); rintro e w4 ⟨rfl, hg⟩; have hgr := hg; obtain ⟨d0w4, d1w4, d2w4, d3w4, d4w4, d5w4⟩ := BoxP.kept (B := w.heap.size) (p := ⟨pk, pa, pd, pq, pc, pn⟩) ⟨d0w3, d1w3, d2w3, d3w3, d4w3, d5w3⟩ hgr trivial; have hsw4 : w.heap.size < w4.heap.size := World.block_lt_of_cell? w4 ⟨w.heap.size, 0, none⟩ d0w4; have HTw4 := hide (HTw3.out.trans hgr); clear hgr hg)
                    | (go_at_call 33; (with_reducible refine (HEl.out _ (HTw4.out.alloc _)).mono ?_); rintro e w5 ⟨rfl, hg⟩; have hgr := ((Kept.refl _ _).alloc _).trans hg; obtain ⟨d0w5, d1w5, d2w5, d3w5, d4w5, d5w5⟩ := BoxP.kept (B := w.heap.size) (p := ⟨pk, pa, pd, pq, pc, pn⟩) ⟨d0w4, d1w4, d2w4, d3w4, d4w4, d5w4⟩ hgr trivial; have hsw5 : w.heap.size < w5.heap.size := World.block_lt_of_cell? w5 ⟨w.heap.size, 0, none⟩ d0w5; have HTw5 := hide (HTw4.out.trans hgr); obtain ⟨⟨x0, x1, x2, x3, x4, x5⟩, _⟩ := Cell6.first hg; have hsx : w4.heap.size < w5.heap.size := World.block_lt_of_cell? w5 ⟨w4.heap.size, 0, none⟩ x0; clear hgr hg)
                    | (go_at_call 30; (with_reducible refine (HC.out _).mono ?_); rintro e w6 ⟨rfl, hg⟩; have hgr := ((Kept.refl _ _).alloc _).trans hg; obtain ⟨d0w6, d1w6, d2w6, d3w6, d4w6, d5w6⟩ := BoxP.kept (B := w.heap.size) (p := ⟨pk, pa, pd, pq, pc, pn⟩) ⟨d0w5, d1w5, d2w5, d3w5, d4w5, d5w5⟩ hgr trivial; have hsw6 : w.heap.size < w6.heap.size := World.block_lt_of_cell? w6 ⟨w.heap.size, 0, none⟩ d0w6; have HTw6 := hide (HTw5.out.trans hgr); obtain ⟨⟨y0, y1, y2, y3, y4, y5⟩, _⟩ := Cell6.first hg; clear hgr hg))
                  go_ret
                  exact ⟨rfl, HG1.out.trans HTw6.out⟩
                · have HE := hide (fun w => HIQ.out q3 w ok3)
                  rw [hin3] at HE
                  have hne3 := ne_zero q3.kind q3.at_ q3.data q3.ptrs q3.code q3.count hk3
                  clear hk3 ok3 hin3
                  obtain ⟨sk, sa, sd, sq, sc, sn⟩ := q3
                  unfold P.val at HE
                  simp only at hne3
                  unfold resV at HEl
                  simp only at HEl
                  go_wp2_with (first
                    | (go_at_call 18; (with_reducible refine (HRes.out _ HGc.out).mono ?_); rintro e w2 ⟨rfl, hg⟩; have hgr := hg; obtain ⟨d0w2, d1w2, d2w2, d3w2, d4w2, d5w2⟩ := BoxP.kept (B := w.heap.size) (p := ⟨pk, pa, pd, pq, pc, pn⟩) ⟨c0, c1', c2, c3, c4, c5⟩ hgr trivial; have hsw2 : w.heap.size < w2.heap.size := World.block_lt_of_cell? w2 ⟨w.heap.size, 0, none⟩ d0w2; have HTw2 := hide (HGc.out.trans hgr); clear hgr hg)
                    | (go_at_call 30; (with_reducible refine (HQ.out _).mono ?_); rintro e w2b ⟨rfl, hg⟩; have hgr := ((Kept.refl _ _).alloc _).trans hg; obtain ⟨d0w2b, d1w2b, d2w2b, d3w2b, d4w2b, d5w2b⟩ := BoxP.kept (B := w.heap.size) (p := ⟨pk, pa, pd, pq, pc, pn⟩) ⟨d0w2, d1w2, d2w2, d3w2, d4w2, d5w2⟩ hgr trivial; have hsw2b : w.heap.size < w2b.heap.size := World.block_lt_of_cell? w2b ⟨w.heap.size, 0, none⟩ d0w2b; have HTw2b := hide (HTw2.out.trans hgr); clear hgr hg)
                    | (go_at_call 30; (with_reducible refine (HIn.out _).mono ?_); rintro e w3 ⟨rfl, hg⟩; have hgr := hg; obtain ⟨d0w3, d1w3, d2w3, d3w3, d4w3, d5w3⟩ := BoxP.kept (B := w.heap.size) (p := ⟨pk, pa, pd, pq, pc, pn⟩) ⟨d0w2b, d1w2b, d2w2b, d3w2b, d4w2b, d5w2b⟩ hgr trivial; have hsw3 : w.heap.size < w3.heap.size := World.block_lt_of_cell? w3 ⟨w.heap.size, 0, none⟩ d0w3; have HTw3 := hide (HTw2b.out.trans hgr); clear hgr hg)
                    | (go_at_call 32; (with_reducible refine (HCh.out _ HTw3.out).mono ?_); rintro e w4 ⟨rfl, hg⟩; have hgr := hg; obtain ⟨d0w4, d1w4, d2w4, d3w4, d4w4, d5w4⟩ := BoxP.kept (B := w.heap.size) (p := ⟨pk, pa, pd, pq, pc, pn⟩) ⟨d0w3, d1w3, d2w3, d3w3, d4w3, d5w3⟩ hgr trivial; have hsw4 : w.heap.size < w4.heap.size := World.block_lt_of_cell? w4 ⟨w.heap.size, 0, none⟩ d0w4; have HTw4 := hide (HTw3.out.trans hgr); clear hgr hg)
                    | (go_at_call 33; (with_reducible refine (HEl.out _ (HTw4.out.alloc _)).mono ?_); rintro e w5 ⟨rfl, hg⟩; have hgr := ((Kept.refl _ _).alloc _).trans hg; obtain ⟨d0w5, d1w5, d2w5, d3w5, d4w5, d5w5⟩ := BoxP.kept (B := w.heap.size) (p := ⟨pk, pa, pd, pq, pc, pn⟩) ⟨d0w4, d1w4, d2w4, d3w4, d4w4, d5w4⟩ hgr trivial; have hsw5 : w.heap.size < w5.heap.size := World.block_lt_of_cell? w5 ⟨w.heap.size, 0, none⟩ d0w5; have HTw5 := hide (HTw4.out.trans hgr); obtain ⟨⟨x0, x1, x2, x3, x4, x5⟩, _⟩ := Cell6.first hg; have hsx : w4.heap.size < w5.heap.size := World.block_lt_of_cell? w5 ⟨w4.heap.size, 0, none⟩ x0; clear hgr hg)
                    | (go_at_call 30; (with_reducible refine (HC.out _).mono ?_); rintro e w6 ⟨rfl, hg⟩; have hgr := ((Kept.refl _ _).alloc _).trans hg; obtain ⟨d0w6, d1w6, d2w6, d3w6, d4w6, d5w6⟩ := BoxP.kept (B := w.heap.size) (p := ⟨pk, pa, pd, pq, pc, pn⟩) ⟨d0w5, d1w5, d2w5, d3w5, d4w5, d5w5⟩ hgr trivial; have hsw6 : w.heap.size < w6.heap.size := World.block_lt_of_cell? w6 ⟨w.heap.size, 0, none⟩ d0w6; have HTw6 := hide (HTw5.out.trans hgr); obtain ⟨⟨y0, y1, y2, y3, y4, y5⟩, _⟩ := Cell6.first hg; clear hgr hg)
                    | (go_at_call 30; (with_reducible refine (HE.out _).mono ?_); rintro e w7 ⟨rfl, hg⟩; have hgr := hg; obtain ⟨d0w7, d1w7, d2w7, d3w7, d4w7, d5w7⟩ := BoxP.kept (B := w.heap.size) (p := ⟨pk, pa, pd, pq, pc, pn⟩) ⟨d0w6, d1w6, d2w6, d3w6, d4w6, d5w6⟩ hgr trivial; have hsw7 : w.heap.size < w7.heap.size := World.block_lt_of_cell? w7 ⟨w.heap.size, 0, none⟩ d0w7; have HTw7 := hide (HTw6.out.trans hgr); clear hgr hg))
                  go_ret
                  exact ⟨rfl, HG1.out.trans HTw7.out⟩
end Go.Proofs.Ygcfac
