/-
  tree.Equal: it returns.
-/
import Derived.Test.YgcfacEqLaw
import Derived.Test.YgcfacCheck
import Derived.Test.YgcfacKids
import Derived.Deep.DeepCutAuto
namespace Go.Proofs.Ygcfac
open Go.RowKit
set_option linter.unusedVariables false

def SomeB (w : World) (e : Ending) (w' : World) : Prop := ∃ b, e = .returned (.bool b) ∧ Grows w w'
theorem SomeB.of {w w' : World} {b : Bool} (h : Grows w w') : SomeB w (.returned (.bool b)) w' := ⟨b, rfl, h⟩

def updI (F : Nat → Int) (k : Nat) (x : Int) : Nat → Int := fun q => if q = k then x else F q
theorem updI_same (F : Nat → Int) (k : Nat) (x : Int) : updI F k x k = x := by simp [updI]
theorem updI_ne {F : Nat → Int} {k q : Nat} {x : Int} (h : q ≠ k) : updI F k x q = F q := by simp [updI, h]

structure EA (w wr : World) (B : Nat) (LF RF : Nat → Int) : Prop where
  gr : Grows w wr
  wB : w.heap.size ≤ B
  l : Arr wr B 513 (fun k => .int .i16 (LF k))
  r : Arr wr (B + 1) 513 (fun k => .int .i16 (RF k))

theorem EA.kept {w wr w' : World} {B : Nat} {LF RF : Nat → Int} (h : EA w wr B LF RF) (hg : Grows wr w') : EA w w' B LF RF :=
  ⟨h.gr.trans hg, h.wB, h.l.kept (by decide) hg trivial, h.r.kept (by decide) hg trivial⟩

theorem EA.set {w wr : World} {B : Nat} {LF RF : Nat → Int} (h : EA w wr B LF RF) {k : Nat} (hk : k < 513) (x y : Int) :
    EA w ((wr.setCell ⟨B, k, none⟩ (.int .i16 x)).setCell ⟨B + 1, k, none⟩ (.int .i16 y)) B (updI LF k x) (updI RF k y) := by
  have hw := h.wB
  refine ⟨(h.gr.setCell (.inl hw) _).setCell (.inl (by show w.heap.size ≤ B + 1; omega)) _, h.wB, ((h.l.set hk _).other (by omega) _).congr (fun q _ => ?_), ((h.r.other (by omega) _).set hk _).congr (fun q _ => ?_)⟩
  · show (if q = k then Value.int .i16 x else .int .i16 (LF q)) = .int .i16 (updI LF k x q)
    unfold updI
    split <;> rfl
  · show (if q = k then Value.int .i16 y else .int .i16 (RF q)) = .int .i16 (updI RF k y q)
    unfold updI
    split <;> rfl

theorem zero145 : Facg.zeroCells145 = Array.replicate 513 (Value.int .i16 0) := by kernel_rfl
theorem EA.start {w w2 : World} (hg : Grows w w2) : EA w ((w2.alloc (.cells Facg.zeroCells145 145)).alloc (.cells Facg.zeroCells145 145)) w2.heap.size (fun _ => 0) (fun _ => 0) := by
  refine ⟨(hg.alloc _).alloc _, hg.size, (Arr.alloc w2 513 Facg.zeroCells145 145 (.int .i16 0) zero145).kept (q := fun _ => True) (by decide) ((Kept.refl _ _).alloc _) trivial, ?_⟩
  have := Arr.alloc (w2.alloc (.cells Facg.zeroCells145 145)) 513 Facg.zeroCells145 145 (.int .i16 0) zero145
  rw [World.size_alloc] at this
  exact this

set_option maxHeartbeats 8000000 in
set_option maxRecDepth 100000 in
theorem equal_ok (ga gb : Nat) (t s : Tr) (ra rb : Nat) (w : World) (ha : TrAt w ga t) (hb : TrAt w gb s) (hca : CheckOk t) (hcb : CheckOk s) (hra : t.root = (ra : Int)) (hrb : s.root = (rb : Int)) :
    Calls Facg.prog 37 #[.pointer (some ⟨ga, 0, none⟩), .pointer (some ⟨gb, 0, none⟩)] w (SomeB w) := by
  have HCa := hide (fun w' hg => check_any ga t w' (ha.grows hg))
  have HCb := hide (fun w' hg => check_any gb s w' (hb.grows hg))
  obtain ⟨a1, c1, p0, p1, _, hn1⟩ := ha.lift
  obtain ⟨a2, c2, q0, q1, _, hn2⟩ := hb.lift
  have hraN : ra < t.ns.length := by have := hca.hi; omega
  have hrbN : rb < s.ns.length := by have := hcb.hi; omega
  obtain ⟨b1, o1, rfl, hnode1⟩ := hn1 (by omega)
  obtain ⟨b2, o2, rfl, hnode2⟩ := hn2 (by omega)
  rw [hra] at p1
  rw [hrb] at q1
  have HN1 := hide hnode1
  have HN2 := hide hnode2
  have HP0 := hide p0
  have HP1 := hide p1
  have HQ0 := hide q0
  have HQ1 := hide q1
  have HK1 := hide hca
  have HK2 := hide hcb
  have hl1 := hca.len
  have hl2 := hcb.len
  have HRA := hide hra
  clear ha hb hn1 hn2 hnode1 hnode2 hca hcb hra hrb p0 p1 q0 q1
  have hra16 : ra < 32768 := by omega
  have hrb16 : rb < 32768 := by omega
  go_enter Facg.func37, Facg.ntmps37
  go_wp2_with (first
    | (go_at_call 35; (with_reducible refine (HCa.out _ (Kept.refl _ _)).mono ?_); rintro e w2 ⟨b, rfl, hg, hb⟩; have hb' : b = true := hb.2 HK1.out; subst hb'; have HG1 := hide hg; clear hg hb)
    | (go_at_call 35; (with_reducible refine (HCb.out _ HG1.out).mono ?_); rintro e w3 ⟨b, rfl, hg, hb⟩; have hb' : b = true := hb.2 HK2.out; subst hb'; have HG2 := hide (HG1.out.trans hg); have d1 := HG2.out.cell HP1.out trivial; have d2 := HG2.out.cell HQ1.out trivial; have l1 : ga < w3.heap.size := World.block_lt_of_cell? w3 ⟨ga, 1, none⟩ d1; have l2 : gb < w3.heap.size := World.block_lt_of_cell? w3 ⟨gb, 1, none⟩ d2; have l3 : ga < w3.heap.size + 1 := (by omega); have l4 : gb < w3.heap.size + 1 := (by omega); clear hg hb))
  have HE0 := hide (EA.start HG2.out)
  have HTs : Hid (w3.heap.size + 1 = w3.heap.size + 1) := rfl
  obtain ⟨W0, hW0⟩ : ∃ x, x = (w3.alloc (.cells Facg.zeroCells145 145)).alloc (.cells Facg.zeroCells145 145) := ⟨_, rfl⟩
  rw [← hW0] at HE0 ⊢
  clear hW0 d1 d2 HTs
  generalize w3.heap.size = B at *
  have d1 := HE0.out.gr.cell HP1.out trivial
  have d2 := HE0.out.gr.cell HQ1.out trivial
  have x1 := HE0.out.l.1 0 (by decide)
  have x2 := HE0.out.l.2 0
  have x3 := HE0.out.r.1 0 (by decide)
  have x4 := HE0.out.r.2 0
  have hgaB : ga ≠ B := by omega
  have hgbB : gb ≠ B := by omega
  have hBga : B ≠ ga := by omega
  have hBgb : B ≠ gb := by omega
  go_cut [22] (fun _ wc => EA w wc B (updI (fun _ => 0) 0 ra) (updI (fun _ => 0) 0 rb))
  case first =>
    go_region
    all_goals
      go_wp2_with (fail)
      go_meet
      exact (HE0.out.set (by decide) _ _).kept ((Kept.refl (fun _ => True) _).drew)
  case rest =>
    have HE1 := hide hcut
    clear hcut HE0 d1 d2 x1 x2 x3 x4
    have HQ := hide (QI.start HRA.out hraN)
    go_wp2
    go_loopw [7, 8] (fun ti tn wr => ∃ (i M : Nat) (F : Nat → Nat) (LF RF : Nat → Int), ti = .int .i64 i ∧ tn = .int .i64 M ∧ i ≤ M ∧ EA w wr B LF RF ∧ QI t i 0 M F ∧ (∀ c, c < M → LF c = (F c : Int)) ∧ (∀ c, c < M → 0 ≤ RF c ∧ RF c < s.ns.length)) (fun ti _ _ => 512 - (intOf ti).toNat)
    case atStart => exact ⟨0, 1, _, _, _, rfl, rfl, by decide, HE1.out, HQ.out, fun c hc => by obtain rfl : c = 0 := (by omega); rfl, fun c hc => by obtain rfl : c = 0 := (by omega); rw [updI_same]; omega⟩
    case round =>
      clear HE1 HQ
      obtain ⟨i, M, F, LF, RF, rfl, rfl, hiM, hE, hQ, hLF, hRF⟩ := hrel
      have HE := hide hE
      have HQ := hide hQ
      have HLF := hide hLF
      have HRF := hide hRF
      have hM512 : M ≤ 512 := Nat.le_trans hQ.le hl1
      clear hE hQ hLF hRF
      by_cases hi : i < M
      · have hdi : decide (i < M) = true := decide_eq_true hi
        have x1 := HE.out.l.1 i (by omega)
        have x3 := HE.out.r.1 i (by omega)
        simp only at x1 x3
        have hfN := HQ.out.at_ i hi
        rw [HLF.out i hi] at x1
        obtain ⟨f, hf⟩ : ∃ f, F i = f := ⟨_, rfl⟩
        rw [hf] at x1 hfN
        have Hf := hide hf
        have hr0 := HRF.out i hi
        obtain ⟨q, hq⟩ := Int.eq_ofNat_of_zero_le hr0.1
        rw [hq] at x3 hr0
        have hqN : q < s.ns.length := by omega
        have hfm : ((f : Int) == -1) = false := by rw [beq_eq_false_iff_ne]; omega
        have hqm : ((q : Int) == -1) = false := by rw [beq_eq_false_iff_ne]; omega
        have hf16 : f < 32768 := by omega
        have hq16 : q < 32768 := by omega
        have d0 := HE.out.gr.cell HP0.out trivial
        have d2 := HE.out.gr.cell HQ0.out trivial
        have HAl := hide (fun w' (hg : Grows w w') => alike_any b1 (o1 + f * 4) b2 (o2 + q * 4) (t.nd f) (s.nd q) w' ((HN1.out f hfN).grows hg) ((HN2.out q hqN).grows hg))
        obtain ⟨_, _, _, _, _, vk1, k3, kI1⟩ := HN1.out f hfN
        obtain ⟨_, _, _, _, _, vk2, m3, kI2⟩ := HN2.out q hqN
        obtain ⟨ak1, ck1, rfl, hm1, hrow1, hwf1⟩ := kI1.row
        obtain ⟨ak2, ck2, rfl, hm2, hrow2, hwf2⟩ := kI2.row
        have HRow1 := hide hrow1
        have HRow2 := hide hrow2
        have HK3 := hide k3
        have HM3 := hide m3
        have HB1 := hide (fun j (hj : j < (t.nd f).kids.length) => show (t.nd f).k j < 32768 by
          have := hwf1 ((t.nd f).kids.getD j 0) (by rw [List.getD_eq_getElem?_getD, List.getElem?_eq_getElem hj]; exact List.getElem_mem hj)
          have := bounds_i16 this
          unfold Nd.k
          omega)
        have HL1 := hide (fun j (hj : j < (t.nd f).kids.length) => (HK1.out.link.shp f hfN).1 j hj)
        have HL2 := hide (fun j (hj : j < (s.nd q).kids.length) => (HK2.out.link.shp q hqN).1 j hj)
        have hsh1 := HK1.out.link.short f
        clear hf hq hr0 k3 m3 kI1 kI2 hrow1 hrow2 hwf1 hwf2
        go_wp2
        go_quiet (fail)
        have HE2 := hide (HE.out.kept ((Kept.refl (fun _ => True) wr).drewN nq))
        clear x1 x3 d0 d2
        generalize wr.drewN nq = w4 at *
        have d0 := HE2.out.gr.cell HP0.out trivial
        have d2 := HE2.out.gr.cell HQ0.out trivial
        go_wp2
        go_quiet (fail)
        have HE3 := hide (HE2.out.kept ((Kept.refl (fun _ => True) w4).drewN nq))
        clear d0 d2 HE2 HE
        generalize w4.drewN nq = w5 at *
        go_wp2_with (first
          | (go_at_call 81; (with_reducible refine (HAl.out _ HE3.out.gr).mono ?_); rintro e w6 ⟨b, rfl, hg, hb⟩; have HE4 := hide (HE3.out.kept hg); have HLen := hide hb; have k3 := HE4.out.gr.cell HK3.out trivial; clear hg hb; cases b))
        · go_ret
          exact SomeB.of HE4.out.gr
        · have hlen := HLen.out (by first | rfl | trivial)
          obtain ⟨K, hK⟩ : ∃ K, (t.nd f).kids.length = K := ⟨_, rfl⟩
          rw [hK] at hlen HRow1 HB1 HL1 hsh1 hm1 k3 HK3 ⊢
          rw [← hlen] at HRow2 HL2 HM3
          have HKe := hide hK
          clear hlen hK HLen HE3
          go_loopw [73, 8] (fun tj tn wr => ∃ (j M : Nat) (F : Nat → Nat) (LF RF : Nat → Int), tj = .int .i64 j ∧ tn = .int .i64 M ∧ j ≤ K ∧ i < M ∧ EA w wr B LF RF ∧ QI t i j M F ∧ F i = f ∧ (∀ c, c < M → LF c = (F c : Int)) ∧ (∀ c, c < M → 0 ≤ RF c ∧ RF c < s.ns.length)) (fun tj _ _ => K - (intOf tj).toNat)
          case atStart => exact ⟨0, M, F, LF, RF, rfl, rfl, Nat.zero_le _, hi, HE4.out, HQ.out, Hf.out, HLF.out, HRF.out⟩
          case round =>
            clear HE4 HQ HLF HRF Hf hi hdi hiM hM512 k3
            obtain ⟨j, M, F, LF, RF, rfl, rfl, hj, hi, hE, hQ, hf, hLF, hRF⟩ := hrel
            have HE := hide hE
            have HQ := hide hQ
            have HLF := hide hLF
            have HRF := hide hRF
            have Hf := hide hf
            have hM512 : M ≤ 512 := Nat.le_trans hQ.le hl1
            clear hE hQ hLF hRF hf
            by_cases hjK : j < K
            · have hdj : decide (j < K) = true := decide_eq_true hjK
              obtain ⟨bk1, ok1, rfl, hrc1⟩ := HRow1.out (by omega)
              obtain ⟨bk2, ok2, rfl, hrc2⟩ := HRow2.out (by omega)
              have cx : wr.cell? ⟨bk1, ok1 + j, none⟩ = some (.int .i16 ((t.nd f).k j)) := HE.out.gr.cell (hrc1 j hjK) trivial
              have cy : wr.cell? ⟨bk2, ok2 + j, none⟩ = some (.int .i16 ((s.nd q).k j)) := HE.out.gr.cell (hrc2 j hjK) trivial
              have k3 := HE.out.gr.cell HK3.out trivial
              have m3 := HE.out.gr.cell HM3.out trivial
              have hlk1 := HL1.out j hjK
              have hlk2 := HL2.out j hjK
              have hb16 := HB1.out j hjK
              clear hrc1 hrc2
              by_cases h1 : (t.nd f).k j = -1
              · rw [h1] at cx
                by_cases h2 : (s.nd q).k j = -1
                · rw [h2] at cy
                  clear h1 h2 hlk1 hlk2 hb16
                  go_wp2
                  go_roundw
                  case rel => exact ⟨j + 1, M, F, LF, RF, by go_num, rfl, by omega, hi, HE.out, HQ.out.mono (fun p q h => bef_up h), Hf.out, HLF.out, HRF.out⟩
                  case measure => simp [intOf]; omega
                · have e2 : ((s.nd q).k j == -1) = false := by rw [beq_eq_false_iff_ne]; exact h2
                  clear h1 h2 hlk1 hlk2 hb16
                  go_wp2
                  go_ret
                  exact SomeB.of HE.out.gr
              · have e1 : ((t.nd f).k j == -1) = false := by rw [beq_eq_false_iff_ne]; exact h1
                by_cases h2 : (s.nd q).k j = -1
                · rw [h2] at cy
                  clear h1 h2 hlk1 hlk2 hb16
                  go_wp2
                  go_ret
                  exact SomeB.of HE.out.gr
                · have e2 : ((s.nd q).k j == -1) = false := by rw [beq_eq_false_iff_ne]; exact h2
                  obtain ⟨k, hk⟩ := Int.eq_ofNat_of_zero_le (show 0 ≤ (t.nd f).k j by omega)
                  have hPush := HQ.out.push HK1.out.link hi (k := k) (by rw [Hf.out]; exact ⟨hfN, by rw [HKe.out]; exact hjK, hk⟩)
                  have hM5 : M < 512 := by have := hPush.le; omega
                  have HPush := hide hPush
                  have HY := hide (show 0 ≤ (s.nd q).k j ∧ (s.nd q).k j < s.ns.length by omega)
                  have HX := hide hk
                  have x1 := HE.out.l.1 M (by omega)
                  have x2 := HE.out.l.2 M
                  have x3 := HE.out.r.1 M (by omega)
                  have x4 := HE.out.r.2 M
                  simp only at x1 x3
                  have HSet := hide (HE.out.set (k := M) (by omega) ((t.nd f).k j) ((s.nd q).k j))
                  have hBw := HE.out.wB
                  have hb1w : bk1 < wr.heap.size := World.block_lt_of_cell? wr ⟨bk1, ok1 + j, none⟩ cx
                  have o1w : bk2 < w.heap.size ∧ b2 < w.heap.size := ⟨World.block_lt_of_cell? w ⟨bk2, ok2 + j, none⟩ (by obtain ⟨bb, oo, e, hrc⟩ := HRow2.out (by omega); injection e with e; injection e with e3 e4 _; subst e3 e4; exact hrc j hjK), World.block_lt_of_cell? w ⟨b2, o2 + q * 4 + 3, none⟩ HM3.out⟩
                  have n1 : bk2 ≠ B := by omega
                  have n2 : b2 ≠ B := by omega
                  have n3 : B ≠ bk2 := by omega
                  have n4 : B ≠ b2 := by omega
                  clear h1 h2 hlk1 hlk2 hb16 hPush hk
                  go_wp2
                  go_region
                  all_goals
                    go_wp2
                    go_roundw
                    case rel => exact ⟨j + 1, M + 1, _, _, _, by go_num, by go_num, by omega, by omega, HSet.out.kept ((Kept.refl (fun _ => True) _).drew), HPush.out, by rw [upd_ne (by omega)]; exact Hf.out, fun c hc => by
                      by_cases e : c = M
                      · subst e; rw [updI_same, upd_same]; exact HX.out
                      · rw [updI_ne e, upd_ne e]; exact HLF.out c (by omega), fun c hc => by
                      by_cases e : c = M
                      · subst e; rw [updI_same]; exact HY.out
                      · rw [updI_ne e]; exact HRF.out c (by omega)⟩
                    case measure => simp [intOf]; omega
            · have hdj : decide (j < K) = false := decide_eq_false hjK
              go_wp2
              go_roundw
              case rel => exact ⟨i + 1, M, F, LF, RF, by go_num, rfl, by omega, HE.out, HQ.out.mono (fun p q h => by unfold Bef at *; omega), HLF.out, HRF.out⟩
              case measure => simp [intOf]; omega
      · have hdi : decide (i < M) = false := decide_eq_false hi
        go_wp2
        go_ret
        exact SomeB.of HE.out.gr
set_option maxHeartbeats 8000000 in
set_option maxRecDepth 100000 in
theorem equal_null (ga gb : Nat) (t s : Tr) (ra rb : Int) (w : World) (ha : TrAt w ga t) (hb : TrAt w gb s) (hca : CheckOk t) (hcb : CheckOk s) (hra : t.root = ra) (hrb : s.root = rb) (hn : ra = -1 ∨ rb = -1) :
    Calls Facg.prog 37 #[.pointer (some ⟨ga, 0, none⟩), .pointer (some ⟨gb, 0, none⟩)] w (SomeB w) := by
  have HCa := hide (fun w' hg => check_any ga t w' (ha.grows hg))
  have HCb := hide (fun w' hg => check_any gb s w' (hb.grows hg))
  obtain ⟨a1, c1, p0, p1, _, hn1⟩ := ha.lift
  obtain ⟨a2, c2, q0, q1, _, hn2⟩ := hb.lift
  have hrA := ha.1
  have hrB := hb.1
  rw [hra] at hrA
  rw [hrb] at hrB
  rw [hra] at p1
  rw [hrb] at q1
  have HP0 := hide p0
  have HP1 := hide p1
  have HQ0 := hide q0
  have HQ1 := hide q1
  have HK1 := hide hca
  have HK2 := hide hcb
  clear ha hb hn1 hn2 hca hcb hra hrb p0 p1 q0 q1
  go_enter Facg.func37, Facg.ntmps37
  go_wp2_with (first
    | (go_at_call 35; (with_reducible refine (HCa.out _ (Kept.refl _ _)).mono ?_); rintro e w2 ⟨b, rfl, hg, hb⟩; have hb' : b = true := hb.2 HK1.out; subst hb'; have HG1 := hide hg; clear hg hb)
    | (go_at_call 35; (with_reducible refine (HCb.out _ HG1.out).mono ?_); rintro e w3 ⟨b, rfl, hg, hb⟩; have hb' : b = true := hb.2 HK2.out; subst hb'; have HG2 := hide (HG1.out.trans hg); have d1 := HG2.out.cell HP1.out trivial; have d2 := HG2.out.cell HQ1.out trivial; have l1 : ga < w3.heap.size := World.block_lt_of_cell? w3 ⟨ga, 1, none⟩ d1; have l2 : gb < w3.heap.size := World.block_lt_of_cell? w3 ⟨gb, 1, none⟩ d2; have l3 : ga < w3.heap.size + 1 := (by omega); have l4 : gb < w3.heap.size + 1 := (by omega); clear hg hb))
  have HE0 := hide (EA.start HG2.out)
  have HTs : Hid (w3.heap.size + 1 = w3.heap.size + 1) := rfl
  obtain ⟨W0, hW0⟩ : ∃ x, x = (w3.alloc (.cells Facg.zeroCells145 145)).alloc (.cells Facg.zeroCells145 145) := ⟨_, rfl⟩
  rw [← hW0] at HE0 ⊢
  clear hW0 d1 d2 HTs
  generalize w3.heap.size = B at *
  have d1 := HE0.out.gr.cell HP1.out trivial
  have d2 := HE0.out.gr.cell HQ1.out trivial
  have x1 := HE0.out.l.1 0 (by decide)
  have x2 := HE0.out.l.2 0
  have x3 := HE0.out.r.1 0 (by decide)
  have x4 := HE0.out.r.2 0
  have hgaB : ga ≠ B := by omega
  have hgbB : gb ≠ B := by omega
  have hBga : B ≠ ga := by omega
  have hBgb : B ≠ gb := by omega
  go_cut [22] (fun _ wc => EA w wc B (updI (fun _ => 0) 0 ra) (updI (fun _ => 0) 0 rb))
  case first =>
    go_region
    all_goals
      go_wp2_with (fail)
      go_meet
      exact (HE0.out.set (by decide) _ _).kept ((Kept.refl (fun _ => True) _).drew)
  case rest =>
    have HE1 := hide hcut
    clear hcut HE0 d1 d2 x1 x2 x3 x4
    go_wp2
    go_loopw [7, 8] (fun ti tn wr => tn = .int .i64 1 ∧ ((ti = .int .i64 0 ∧ EA w wr B (updI (fun _ => 0) 0 ra) (updI (fun _ => 0) 0 rb)) ∨ (ti = .int .i64 1 ∧ Grows w wr))) (fun ti _ _ => 1 - (intOf ti).toNat)
    case atStart => exact ⟨rfl, .inl ⟨rfl, HE1.out⟩⟩
    case round =>
      clear HE1
      obtain ⟨rfl, ⟨rfl, hE⟩ | ⟨rfl, hg⟩⟩ := hrel
      · have x1 := hE.l.1 0 (by decide)
        have x3 := hE.r.1 0 (by decide)
        simp only [updI_same] at x1 x3
        have HE := hide hE
        clear hE
        go_wp2
        go_quiet (fail)
        have HE2 := hide (HE.out.kept ((Kept.refl (fun _ => True) wr).drewN nq))
        clear x1 x3
        generalize wr.drewN nq = w4 at *
        by_cases h1 : ra = -1
        · subst h1
          by_cases h2 : rb = -1
          · subst h2
            go_wp2
            go_roundw
            case rel => exact ⟨rfl, .inr ⟨by go_num, HE2.out.gr⟩⟩
            case measure => simp [intOf]
          · have e2 : ((-1 : Int) != rb) = true := by rw [bne_iff_ne]; omega
            go_wp2
            go_ret
            exact SomeB.of HE2.out.gr
        · have h2 : rb = -1 := hn.resolve_left h1
          subst h2
          have e1 : (ra == -1) = false := by rw [beq_eq_false_iff_ne]; exact h1
          have e2 : (ra != (-1 : Int)) = true := by rw [bne_iff_ne]; exact h1
          go_wp2
          go_ret
          exact SomeB.of HE2.out.gr
      · have HG := hide hg
        clear hg
        go_wp2
        go_ret
        exact SomeB.of HG.out

set_option maxRecDepth 100000 in
theorem equal_no (ga gb : Nat) (t s : Tr) (w : World) (ha : TrAt w ga t) (hb : TrAt w gb s) (hn : ¬ (CheckOk t ∧ CheckOk s)) :
    Calls Facg.prog 37 #[.pointer (some ⟨ga, 0, none⟩), .pointer (some ⟨gb, 0, none⟩)] w (SomeB w) := by
  have HCa := hide (fun w' hg => check_any ga t w' (ha.grows hg))
  have HCb := hide (fun w' hg => check_any gb s w' (hb.grows hg))
  have HN := hide hn
  clear ha hb hn
  by_cases hc : CheckOk t
  · have HK := hide hc
    clear hc
    go_enter Facg.func37, Facg.ntmps37
    go_wp2_with (first
      | (go_at_call 35; (with_reducible refine (HCa.out _ (Kept.refl _ _)).mono ?_); rintro e w2 ⟨b, rfl, hg, hb⟩; have hb' : b = true := hb.2 HK.out; subst hb'; have HG1 := hide hg; clear hg hb)
      | (go_at_call 35; (with_reducible refine (HCb.out _ HG1.out).mono ?_); rintro e w3 ⟨b, rfl, hg, hb⟩; have hb' : b = false := (by cases b with | false => rfl | true => exact absurd ⟨HK.out, hb.1 rfl⟩ HN.out); subst hb'; have HG2 := hide (HG1.out.trans hg); clear hg hb))
    go_ret
    exact SomeB.of HG2.out
  · have HK := hide hc
    clear hc
    go_enter Facg.func37, Facg.ntmps37
    go_wp2_with (first
      | (go_at_call 35; (with_reducible refine (HCa.out _ (Kept.refl _ _)).mono ?_); rintro e w2 ⟨b, rfl, hg, hb⟩; have hb' : b = false := (by cases b with | false => rfl | true => exact absurd (hb.1 rfl) HK.out); subst hb'; have HG1 := hide hg; clear hg hb))
    go_ret
    exact SomeB.of HG1.out

theorem equal_any (ga gb : Nat) (t s : Tr) (w : World) (ha : TrAt w ga t) (hb : TrAt w gb s) :
    Calls Facg.prog 37 #[.pointer (some ⟨ga, 0, none⟩), .pointer (some ⟨gb, 0, none⟩)] w (SomeB w) := by
  by_cases hc : CheckOk t ∧ CheckOk s
  · by_cases hn : t.root = -1 ∨ s.root = -1
    · exact equal_null ga gb t s _ _ w ha hb hc.1 hc.2 rfl rfl hn
    · have h1 := hc.1.lo
      have h2 := hc.2.lo
      obtain ⟨ra, hra⟩ := Int.eq_ofNat_of_zero_le (show 0 ≤ t.root by omega)
      obtain ⟨rb, hrb⟩ := Int.eq_ofNat_of_zero_le (show 0 ≤ s.root by omega)
      exact equal_ok ga gb t s ra rb w ha hb hc.1 hc.2 hra hrb
  · exact equal_no ga gb t s w ha hb hc
end Go.Proofs.Ygcfac
