/-
  tree.Norm of a tree that passes Check, its root not null: walked whole.
-/
import Derived.Test.YgcfacCheck
import Derived.Test.YgcfacNMem
import Derived.Deep.DeepCutAuto
import Derived.Test.YgcfacNCheck
namespace Go.Proofs.Ygcfac
open Go.RowKit
set_option linter.unusedVariables false

def NormP (w : World) (t : Tr) (e : Ending) (w' : World) : Prop := ∃ g u, e = .returned (.pointer (some ⟨g, 0, none⟩)) ∧ Grows w w' ∧ TrQ w' (fun b => w.heap.size ≤ b) g u ∧ NormOf t u

theorem info63 : (Facg.prog.info? 63).map (fun i => (i.zero, i.size, i.bytes)) = some (some (.int .i16 0), 1, 2) := by kernel_rfl
theorem info128 : (Facg.prog.info? 128).map (fun i => (i.zero, i.size, i.bytes)) = some (some (.agg #[.int .u8 0, .int .u8 0, .slice none 0 0, .slice none 0 0]), 4, 56) := by kernel_rfl
theorem wf_i16 (M : Nat) (h : M < 32768) : (Lit.int .i16 (M : Int)).wf = true := by
  have h1 : IntKind.i16.min = -32768 := rfl
  have h2 : IntKind.i16.max = 32767 := rfl
  simp only [Lit.wf, h1, h2, Bool.and_eq_true, decide_eq_true_eq]
  omega
theorem z4_one : ∀ y ∈ z4, y.oneCell' = true := by
  intro y hy
  simp [z4] at hy
  rcases hy with rfl | rfl <;> rfl
theorem box_at {w : World} {n : Nat} (h : w.heap.size = n) (xs : Array Value) (t : TypeId) (v : Value) (hv : xs[0]? = some v) : (w.alloc (.cells xs t)).cell? ⟨n, 0, none⟩ = some v := by
  rw [← h, World.cell?_alloc_at _ _ _ _ rfl]
  exact hv
theorem upd_upd (F : Nat → Nat) (k x y : Nat) : upd (upd F k x) k y = upd F k y := by
  funext q
  unfold upd
  split <;> rfl

set_option maxHeartbeats 100000000 in
set_option maxRecDepth 100000 in
theorem norm_ok (g : Nat) (t : Tr) (r : Nat) (w : World) (ht : TrAt w g t) (hc : CheckOk t) (hr : t.root = (r : Int)) :
    Calls Facg.prog 36 #[.pointer (some ⟨g, 0, none⟩)] w (NormP w t) := by
  obtain ⟨a, cN, t0, t1, hN, hns⟩ := ht.lift
  have HCk := hide (check_any g t w ht)
  have HC := hide hc
  have hrN : r < t.ns.length := by have := hc.hi; omega
  have hr512 : r < 512 := by have := hc.len; omega
  obtain ⟨bn, on, rfl, hnode⟩ := hns (by omega)
  have HTr := hide (fun w' hg => ht.grows (w' := w') hg)
  have HNode := hide (fun j w' (hj : j < t.ns.length) hg => (hnode j hj).grows (w' := w') hg)
  have HT0 := hide t0
  rw [hr] at t1
  have HT1 := hide t1
  have HR := hide hr
  have HTm := hide (fun q w' (hq : q < t.ns.length) hg => trimmed_any bn (on + q * 4) (t.nd q) w' (HNode.out q w' hq hg))
  have HTr0 := hide (fun w' hg => HTm.out r w' hrN hg)
  have hgl : g < w.heap.size := World.block_lt_of_cell? w ⟨g, 0, none⟩ t0
  have hN512 : t.ns.length ≤ 512 := hc.len
  have h78a := td_le (t.nd r)
  have h78b := tk_le (t.nd r)
  have hsh := hc.link.short r
  clear ht hc hnode hns hr t0 t1
  obtain ⟨N, hNe⟩ : ∃ N, t.ns.length = N := ⟨_, rfl⟩
  rw [hNe] at hN hrN HT0 hN512
  have HNe := hide hNe
  clear hNe
  have hrm : ((r : Int) == -1) = false := by rw [beq_eq_false_iff_ne]; omega
  go_enter Facg.func36, Facg.ntmps36
  go_wp2_with (first
    | (go_at_call 35; (with_reducible refine HCk.out.mono ?_); rintro e w2 ⟨b, rfl, hg, hb⟩; have hb' : b = true := hb.2 HC.out; subst hb'; have HG2 := hide hg; have d0 := hg.cell HT0.out trivial; have d1 := hg.cell HT1.out trivial; have hgl2 : g < w2.heap.size := World.block_lt_of_cell? w2 ⟨g, 0, none⟩ d0; have hg3 : g < w2.heap.size + 1 := (by omega); have hg4 : g < w2.heap.size + 1 + 1 := (by omega); have hg5 : g < w2.heap.size + 1 + 1 + 1 := (by omega); have hg6 : g < w2.heap.size + 1 + 1 + 1 + 1 := (by omega); clear hg hb HCk))
  have HNM := hide (NM.start HG2.out r)
  obtain ⟨W5, hW5⟩ : ∃ x, x = ((((w2.alloc (.cells #[.int .u8 0, .int .u8 0, .slice none 0 0, .slice none 0 0] 128)).alloc (.cells #[.slice (some ⟨w2.heap.size, 0, none⟩) 1 1, .int .i16 0] 65)).alloc (.cells (Facg.zeroCells139.setIfInBounds 0 (.int .i16 r)) 139)).alloc (.cells Facg.zeroCells140 140)).alloc (.cells Facg.zeroCells140 140) := ⟨_, rfl⟩
  rw [← hW5] at HNM ⊢
  clear hW5 hg3 hg4 hg5 hg6 d0 d1 HG2
  generalize w2.heap.size = B at *
  have hgB : g < B := hgl2
  clear hgl2
  rw [show B + 1 + 1 = B + 2 from rfl, show B + 2 + 1 = B + 3 from rfl, show B + 3 + 1 = B + 4 from rfl]
  have s0 := HNM.out.gr.cell HT0.out trivial
  have s1 := HNM.out.gr.cell HT1.out trivial
  have x3 := HNM.out.fD.1 0 (by decide)
  have x4 := HNM.out.fP.1 0 (by decide)
  have y3 := HNM.out.fD.2 0
  have y4 := HNM.out.fP.2 0
  simp only at x3 x4
  go_cut [36] (fun _ wc => NM w wc B (B + 5) (.slice (some ⟨B, 0, none⟩) 1 1) 1 z4 (fun k => if k = 0 then r else 0) (fun k => if k = 0 then (t.nd r).td else 0) (fun k => if k = 0 then (t.nd r).tk else 0) [])
  case first =>
    go_region_with (first
      | (go_at_call 78; (with_reducible refine (HTr0.out _ HNM.out.gr.drew).mono ?_); rintro e w3 ⟨rfl, hg0⟩; have hg := (Kept.refl (fun _ => True) W5).drew.trans hg0; clear hg0; have HM3 := hide (HNM.out.kept hg (fun _ _ => trivial) (fun _ _ => trivial)); have x3' := hg.cell x3 trivial; have x4' := hg.cell x4 trivial; have y3' := HM3.out.fD.2 0; have y4' := HM3.out.fP.2 0; clear hg))
    all_goals as_aux_lemma =>
      go_wp2_with (fail)
      go_meet
      exact (HM3.out.setD (by decide) _).setP (by decide) _
  case rest =>
    clear s0 s1 x3 x4 y3 y4 HNM
    have HN0 := hide hcut
    have HI0 := hide (NI.start HC.out HR.out)
    clear hcut
    generalize (fun k => if k = 0 then r else 0 : Nat → Nat) = F0 at HN0 HI0
    generalize (fun k => if k = 0 then (t.nd r).td else 0 : Nat → Nat) = D0 at HN0 HI0
    generalize (fun k => if k = 0 then (t.nd r).tk else 0 : Nat → Nat) = P0 at HN0 HI0
    go_wp2
    go_loopw [7] (fun ti wr => ∃ (i M H : Nat) (v : Value) (cs : List Value) (F D P : Nat → Nat) (ns : List Nd), ti = .int .i64 i ∧ i ≤ M ∧ NM w wr B H v M cs F D P ns ∧ NI t i 0 i M F D P ∧ NodesR t F D P M i ns) (fun ti _ => 512 - (intOf ti).toNat)
    case atStart => exact ⟨0, 1, _, _, _, F0, D0, P0, [], rfl, by decide, HN0.out, HI0.out, ⟨rfl, fun p hp => absurd hp (Nat.not_lt_zero _)⟩⟩
    case round =>
      clear HN0 HI0
      obtain ⟨i, M, H, v, cs, F, D, P, ns, rfl, hiM, hNM, hNI, hNR⟩ := hrel
      have hM512 : M ≤ 512 := Nat.le_trans hNI.le (by rw [HNe.out]; exact hN512)
      have HM := hide hNM
      have HI := hide hNI
      have HN := hide hNR
      have T0 := hNM.t0
      have hgT : B + 1 < wr.heap.size := World.block_lt_of_cell? wr ⟨B + 1, 0, none⟩ hNM.t0
      obtain ⟨av, cv, rfl⟩ := owns_slice hNM.own
      clear hNM hNI hNR
      by_cases hi : i < M
      · have hdi : decide (i < M) = true := decide_eq_true hi
        have fF := HM.out.fF.1 i (by omega)
        simp only at fF
        have hfN := HI.out.at_ i hi
        rw [HNe.out] at hfN
        obtain ⟨f, hf⟩ : ∃ f, F i = f := ⟨_, rfl⟩
        rw [hf] at fF hfN
        have hfN' : f < t.ns.length := by rw [HNe.out]; exact hfN
        have hf16 : f < 32768 := by omega
        have s0 := HM.out.gr.cell HT0.out trivial
        have Hf := hide hf
        clear hf
        obtain ⟨hkr, hcr, c0w, c1w, ⟨vd, c2w, hdI⟩, vk, c3w, hkI⟩ := HNode.out f w hfN' (Kept.refl _ _)
        have HDI := hide hdI
        obtain ⟨ad, cd, rfl, hdn, _, _⟩ := hdI.row
        obtain ⟨ak, ck, rfl, hm, hrow, hwf⟩ := hkI.row
        have hsh := HC.out.link.short f
        have HRow := hide hrow
        have HKb := hide (fun j (hj : j < (t.nd f).kids.length) => show -32768 ≤ (t.nd f).k j ∧ (t.nd f).k j < 32768 by
          have := hwf ((t.nd f).kids.getD j 0) (by rw [List.getD_eq_getElem?_getD, List.getElem?_eq_getElem hj]; exact List.getElem_mem hj)
          have := bounds_i16 this
          unfold Nd.k
          omega)
        have HLk := hide (fun j (hj : j < (t.nd f).kids.length) => (HC.out.link.shp f hfN').1 j hj)
        have hkd := HC.out.link.kinds hfN'
        have HC0 := hide c0w
        have HC1 := hide c1w
        have HC2 := hide c2w
        have HC3 := hide c3w
        clear hrow hwf hdI hkI c0w c1w c2w c3w
        go_wp2
        go_quiet (fail)
        have HM1 := hide (HM.out.kept ((Kept.refl (fun _ => True) wr).drewN nq) (fun _ _ => trivial) (fun _ _ => trivial))
        clear fF s0 HM T0
        generalize wr.drewN nq = w1 at *
        have c0 := HM1.out.gr.cell HC0.out trivial
        have c1 := HM1.out.gr.cell HC1.out trivial
        have hbn : bn < w1.heap.size := World.block_lt_of_cell? w1 ⟨bn, on + f * 4, none⟩ c0
        go_wp2
        go_cut [9] (fun s9 wc => ∃ gM, s9 = .pointer (some ⟨gM, 0, none⟩) ∧ NM w wc B H (.slice av M cv) M cs F D P ns ∧ MM wc H gM (.slice av M cv) (t.nd f).kind (t.nd f).code (.slice none 0 0) (.slice none 0 0) [] [])
        case first =>
          go_region
          as_aux_lemma =>
            go_wp2_with (fail)
            go_meet
            exact ⟨_, rfl, (HM1.out.kept ((Kept.refl (fun _ => True) w1).alloc _) (fun _ _ => trivial) (fun _ _ => trivial)).kept ((Kept.refl (fun _ => True) _).drew) (fun _ _ => trivial) (fun _ _ => trivial), (MM.start HM1.out _ _).kept ((Kept.refl (fun _ => True) _).drew) (fun _ _ _ => trivial)⟩
        case rest =>
          obtain ⟨gM, rfl, hNM2, hMM2⟩ := hcut
          clear HM1 c0 c1 hbn
          have HM2 := hide hNM2
          have HMM2 := hide hMM2
          have g0 := hMM2.gm
          clear hNM2 hMM2
          have hinl0 : (t.nd f).inl = (decide ((t.nd f).kind = 2) && decide ((t.nd f).code = 7)) := rfl
          have HEv := hide (fun (h1 : (t.nd f).kind = 2) (h2 : (t.nd f).code = 7) w' (hg : Grows w w') => evened_any g bn (on + f * 4) t (t.nd f) w' (HTr.out w' hg) (HNode.out f w' hfN' hg) HC.out.link.short (HC.out.link.inl_in hfN' h1 h2))
          have HKd := hide hkd
          obtain ⟨D2, P2, hI2, hN2, hy2, hn2⟩ : ∃ D2 P2, NI t i 0 (i + 1) M F D2 P2 ∧ NodesR t F D2 P2 M i ns ∧ ((t.nd f).kind = 2 → D2 = upd D i (t.nd f).data.length ∧ P2 = upd P i (t.nd f).kids.length) ∧ (¬ (t.nd f).kind = 2 → D2 = D ∧ P2 = P) := by
            by_cases h2 : (t.nd f).kind = 2
            · have h5 := HI.out.settle hi (by rw [Hf.out]; exact h2) HC.out.link.short
              rw [Hf.out] at h5
              exact ⟨_, _, h5, HN.out.settle, fun _ => ⟨rfl, rfl⟩, fun h => absurd h2 h⟩
            · exact ⟨D, P, HI.out.struct (by rw [Hf.out]; exact h2), HN.out, fun h => absurd h h2, fun _ => ⟨rfl, rfl⟩⟩
          clear HI HN hkd
          have HI := hide hI2
          have HN := hide hN2
          have HY2 := hide hy2
          have HN2 := hide hn2
          have HInl0 := hide hinl0
          clear hI2 hN2 hy2 hn2 hinl0
          have c0 := HM2.out.gr.cell HC0.out trivial
          go_upto_if 81 with fail
          go_cut [82] (fun _ wd => NM w wd B H (.slice av M cv) M cs F D2 P2 ns ∧ MM wd H gM (.slice av M cv) (t.nd f).kind (t.nd f).code (.slice none 0 0) (.slice none 0 0) [] [])
          case first =>
            as_aux_lemma =>
              by_cases h2 : (t.nd f).kind = 2
              · have hb2 : ((t.nd f).kind == 2) = true := by rw [beq_iff_eq]; exact h2
                obtain ⟨eD, eP⟩ := HY2.out h2
                have HED := hide eD
                have HEP := hide eP
                clear h2 eD eP
                have z0 := HM2.out.gr.cell HC2.out trivial
                have z1 := HM2.out.gr.cell HC3.out trivial
                have z2 := HM2.out.fD.1 i (by omega)
                have z3 := HM2.out.fD.2 i
                have z4 := HM2.out.fP.1 i (by omega)
                have z5 := HM2.out.fP.2 i
                simp only at z2 z4
                have hbh2 := HM2.out.bh
                have hbw : bn < w.heap.size := World.block_lt_of_cell? w ⟨bn, on + f * 4, none⟩ HC0.out
                have hbB := HM2.out.wB
                have hbn3 : bn ≠ B + 3 := by omega
                have hbn3' : B + 3 ≠ bn := by omega
                have hbn4 : bn ≠ B + 4 := by omega
                have hb34 : B + 3 ≠ B + 4 := by omega
                go_wp2
                go_region
                all_goals
                  go_wp2_with (fail)
                  go_meet
                  rw [HED.out, HEP.out]
                  exact ⟨((HM2.out.setD (show i < 512 by omega) (t.nd f).data.length).setP (show i < 512 by omega) (t.nd f).kids.length).grow ((Kept.refl (fun _ => True) _).drew), ((HMM2.out.arr (show B + 3 < H by omega) _).arr (show B + 4 < H by omega) _).grow ((Kept.refl (fun _ => True) _).drew)⟩
              · have hb2 : ((t.nd f).kind == 2) = false := by rw [beq_eq_false_iff_ne]; exact h2
                obtain ⟨eD, eP⟩ := HN2.out h2
                have HED := hide eD
                have HEP := hide eP
                clear h2 eD eP
                go_wp2
                go_meet
                rw [HED.out, HEP.out]
                exact ⟨HM2.out, HMM2.out⟩
          case rest =>
            obtain ⟨hNM3, hMM3⟩ := hcut
            have HM3 := hide hNM3
            have HMM3 := hide hMM3
            clear hNM3 hMM3 HM2 HMM2 c0 HY2 HN2
            have hDb := (HI.out.bd i hi)
            have z2 := HM3.out.gr.cell HC2.out trivial
            have z3 := HM3.out.fD.1 i (by omega)
            simp only at z3
            have z4 := HMM3.out.c2
            have z5 := HMM3.out.cf 2
            have hgMl := HMM3.out.lt
            obtain ⟨Di, hDi⟩ : ∃ x, D2 i = x := ⟨_, rfl⟩
            rw [hDi] at z3 hDb
            have HDi := hide hDi
            clear hDi
            go_wp2
            go_cut [96] (fun _ wd => ∃ dv, NM w wd B H (.slice av M cv) M cs F D2 P2 ns ∧ MM wd H gM (.slice av M cv) (t.nd f).kind (t.nd f).code dv (.slice none 0 0) (sizeL (t.nd f).data Di) [])
            case first =>
              as_aux_lemma =>
                go_region_with (first
                  | (go_at_call 79; (with_reducible refine (sized_any _ (t.nd f).data Di _ (HDI.out.grows (HM3.out.gr.drew)) (by omega) (by omega)).mono ?_); rintro e w3 ⟨v', rfl, hg0, hIn, hbk⟩; have hg := (Kept.refl (fun _ => True) _).drew.trans hg0; have HNx := hide (HM3.out.kept hg (fun _ _ => trivial) (fun _ _ => trivial)); have HMy := hide (HMM3.out.kept hg (fun _ _ _ => trivial)); have HIn := hide hIn; have HBk := hide hbk; obtain ⟨a', c', rfl, _⟩ := id hIn; have q4 := hg.cell z4 trivial; have q5 := HMy.out.cf 2; clear hg hg0 hIn hbk))
                all_goals
                  go_wp2_with (fail)
                  go_meet
                  refine ⟨_, MM.setData HNx.out HMy.out HIn.out (fun g hg => ?_)⟩
                  have h1 : wc.heap.size ≤ g := HBk.out g hg
                  exact ⟨by omega, fun e => by have := owns_lt HM3.out.own e.symm; omega⟩
            case rest =>
              obtain ⟨dv, hNM4, hMM4⟩ := hcut
              have HM4 := hide hNM4
              have HMM4 := hide hMM4
              clear hNM4 hMM4 HM3 HMM3 z2 z3 z4 z5
              obtain ⟨da, dc, rfl⟩ : ∃ a c, dv = .slice a Di c := by
                obtain ⟨a, c, e, _⟩ := HMM4.out.dat
                rw [sizeL_length] at e
                exact ⟨a, c, e⟩
              have c0 := HM4.out.gr.cell HC0.out trivial
              have c1 := HM4.out.gr.cell HC1.out trivial
              obtain ⟨ib, hib⟩ : ∃ ib, (t.nd f).inl = ib := ⟨_, rfl⟩
              have HIb := hide hib
              clear hib
              go_upto_region 17 with fail
              go_cut [12] (fun s12 wd => s12 = .bool ib ∧ NM w wd B H (.slice av M cv) M cs F D2 P2 ns ∧ MM wd H gM (.slice av M cv) (t.nd f).kind (t.nd f).code (.slice da Di dc) (.slice none 0 0) (sizeL (t.nd f).data Di) [])
              case first =>
                as_aux_lemma =>
                  rcases HKd.out with ⟨hk, hc⟩ | ⟨hk, hc⟩ | ⟨hk, hc, hc2, hc6⟩
                  · have HI1 : Hid ((t.nd f).inl = false) := by unfold Hid; rw [HInl0.out, hk]; rfl
                    have hb2 : ((t.nd f).kind == 2) = false := by rw [beq_eq_false_iff_ne]; omega
                    clear hk hc
                    go_wp2
                    go_meet
                    exact ⟨by rw [← HIb.out, HI1.out], HM4.out, HMM4.out⟩
                  · have HI1 : Hid ((t.nd f).inl = true) := by unfold Hid; rw [HInl0.out, hk, hc]; rfl
                    have hb2 : ((t.nd f).kind == 2) = true := by rw [beq_iff_eq]; omega
                    have hb7 : ((t.nd f).code == 7) = true := by rw [beq_iff_eq]; omega
                    clear hk hc
                    go_wp2
                    go_meet
                    exact ⟨by rw [← HIb.out, HI1.out], HM4.out, HMM4.out⟩
                  · have HI1 : Hid ((t.nd f).inl = false) := by unfold Hid; rw [HInl0.out, hk]; simp [hc]
                    have hb2 : ((t.nd f).kind == 2) = true := by rw [beq_iff_eq]; omega
                    have hb7 : ((t.nd f).code == 7) = false := by rw [beq_eq_false_iff_ne]; omega
                    clear hk hc hc2 hc6
                    go_wp2
                    go_meet
                    exact ⟨by rw [← HIb.out, HI1.out], HM4.out, HMM4.out⟩
              case rest =>
                obtain ⟨rfl, hNM5, hMM5⟩ := hcut
                have HM5 := hide hNM5
                have HMM5 := hide hMM5
                clear hNM5 hMM5 HM4 HMM4 c0 c1
                obtain ⟨d0, p0, hd1, hd2⟩ : ∃ d0 p0 : Nat, ((t.nd f).inl = true → d0 = t.evd (t.nd f) ∧ p0 = t.mk_ (t.nd f)) ∧ ((t.nd f).inl = false → d0 = 0 ∧ p0 = 0) := by
                  cases h : (t.nd f).inl
                  · exact ⟨0, 0, fun e => (by cases e), fun _ => ⟨rfl, rfl⟩⟩
                  · exact ⟨_, _, fun _ => ⟨rfl, rfl⟩, fun e => (by cases e)⟩
                have HDY := hide hd1
                have HDN := hide hd2
                clear hd1 hd2
                go_upto_if 117 with fail
                go_cut [10, 11] (fun s10 s11 wd => s10 = .int .i64 d0 ∧ s11 = .int .i64 p0 ∧ NM w wd B H (.slice av M cv) M cs F D2 P2 ns ∧ MM wd H gM (.slice av M cv) (t.nd f).kind (t.nd f).code (.slice da Di dc) (.slice none 0 0) (sizeL (t.nd f).data Di) [])
                case first =>
                  as_aux_lemma =>
                    cases ib
                    · obtain ⟨rfl, rfl⟩ := HDN.out HIb.out
                      go_wp2
                      go_meet
                      exact ⟨rfl, rfl, HM5.out, HMM5.out⟩
                    · obtain ⟨rfl, rfl⟩ := HDY.out HIb.out
                      have hk : (t.nd f).kind = 2 ∧ (t.nd f).code = 7 := by have := HInl0.out; rw [HIb.out] at this; simpa using this.symm
                      have HE2 := hide (HEv.out hk.1 hk.2)
                      have hevb := evd_le (x := t.nd f) HC.out.link.short
                      clear hk
                      go_wp2_with (first
                        | (go_at_call 80; (with_reducible refine (HE2.out _ HM5.out.gr).mono ?_); rintro e w5 ⟨rfl, hg⟩; have HM7 := hide (HM5.out.grow hg); have HMM7 := hide (HMM5.out.grow hg); clear hg))
                      go_meet
                      exact ⟨rfl, rfl, HM7.out, HMM7.out⟩
                case rest =>
                  obtain ⟨rfl, rfl, hNM6, hMM6⟩ := hcut
                  have HM6 := hide hNM6
                  have HMM6 := hide hMM6
                  clear hNM6 hMM6 HM5 HMM5
                  go_wp2
                  obtain ⟨Pi, hPi⟩ : ∃ x, P2 i = x := ⟨_, rfl⟩
                  have HPi := hide hPi
                  have hPb : Pi ≤ 128 := by rw [← hPi]; exact (HI.out.bd i hi).2
                  clear hPi
                  go_loopw [13] (fun tj wr => ∃ (j M : Nat) (v : Value) (cs : List Value) (F D P : Nat → Nat) (kv : Value) (ks : List Int), tj = .int .i64 j ∧ j ≤ Pi ∧ i < M ∧ NM w wr B H v M cs F D P ns ∧ MM wr H gM v (t.nd f).kind (t.nd f).code (.slice da Di dc) kv (sizeL (t.nd f).data Di) ks ∧ NI t i j (i + 1) M F D P ∧ NodesR t F D P M i ns ∧ KidsR t F i M ks j ∧ F i = f ∧ D i = Di ∧ P i = Pi) (fun tj _ => Pi - (intOf tj).toNat)
                  case atStart => exact ⟨0, M, _, cs, F, D2, P2, _, [], rfl, Nat.zero_le _, hi, HM6.out, HMM6.out, HI.out, HN.out, ⟨rfl, fun q hq => absurd hq (Nat.not_lt_zero _)⟩, Hf.out, HDi.out, HPi.out⟩
                  case round =>
                    clear HM6 HMM6 HI HN HDi HPi Hf
                    clear hdi hi hiM hM512
                    obtain ⟨j, M, v, cs, F, D, P, kv, ks, rfl, hj, hi, hNM, hMM, hNI, hNR, hKR, hf, hDi, hPi⟩ := hrel
                    have hM512 : M ≤ 512 := Nat.le_trans hNI.le (by rw [HNe.out]; exact hN512)
                    have T0 := hNM.t0
                    have hpi := hNM.fP.1 i (by omega)
                    simp only at hpi
                    rw [hPi] at hpi
                    obtain ⟨av, cv, rfl⟩ := owns_slice hNM.own
                    obtain ⟨ka, kc, rfl⟩ := owns_slice hMM.kown
                    have k3 := hMM.c3
                    have hgT : B + 1 < wr.heap.size := World.block_lt_of_cell? wr ⟨B + 1, 0, none⟩ hNM.t0
                    have hgMl := hMM.lt
                    have n3 := hNM.gr.cell HC3.out trivial
                    have HM := hide hNM
                    have HMM := hide hMM
                    have HI := hide hNI
                    have HN := hide hNR
                    have HK := hide hKR
                    have Hf := hide hf
                    have HDi := hide hDi
                    have HPi := hide hPi
                    clear hNM hMM hNI hNR hKR hf hDi hPi
                    by_cases hjP : j < Pi
                    · have hdj : decide (j < Pi) = true := decide_eq_true hjP
                      by_cases hjK : j < (t.nd f).kids.length
                      · have hdK : decide ((t.nd f).kids.length ≤ j) = false := decide_eq_false (by omega)
                        obtain ⟨bk, ok, rfl, hrc⟩ := HRow.out (by omega)
                        have cx : wr.cell? ⟨bk, ok + j, none⟩ = some (.int .i16 ((t.nd f).k j)) := HM.out.gr.cell (hrc j hjK) trivial
                        have hyb := HKb.out j hjK
                        have hlk := HLk.out j hjK
                        clear hrc
                        by_cases hy : (t.nd f).k j = -1
                        · rw [hy] at cx
                          have HNul := hide (show ¬ (j < (t.nd (F i)).kids.length ∧ (t.nd (F i)).k j ≠ -1) by rw [Hf.out]; exact fun h => h.2 hy)
                          clear hy hyb hlk
                          as_aux_lemma =>
                            go_wp2_with (first
                              | (at_builtin; refine wpList_app1 _ rfl _ _ 126 rfl 63 (.int .i16 0) 2 Facg.underlying126 info63 rfl (.slice ka ks.length kc) ks.length (ks.map (Value.int .i16)) rfl ?o1 wr.heap.size (.int .i16 (-1)) rfl ?o2 rfl ?o3 ?o4 ?_))
                            case o1 => exact (HMM.out.alloc _).kown
                            case o2 => simp
                            case o3 => unfold maxLen; have := HK.out.1; omega
                            case o4 => have := HK.out.1; omega
                            intro a' c' w5 ho hk hv
                            have HX := hide (MM.push (HM.out.alloc _) (HMM.out.alloc _) ho (by decide) hk (by rw [World.size_alloc]; exact hv))
                            obtain ⟨q3, q4⟩ := (HMM.out.alloc _).after hk
                            clear ho hk hv
                            go_wp2
                            go_roundw
                            case rel => exact ⟨j + 1, M, _, cs, F, D, P, _, _, by go_num, by omega, hi, HX.out.1, HX.out.2, HI.out.mono (fun p q h => bef_up h) (Nat.le_refl _), HN.out, HK.out.null HNul.out, Hf.out, HDi.out, HPi.out⟩
                            case measure => simp [intOf]; omega
                        · obtain ⟨k, hk⟩ := Int.eq_ofNat_of_zero_le (show 0 ≤ (t.nd f).k j by omega)
                          have hkN : k < N := by have := HNe.out; omega
                          have HTk : Hid (TKid t (F i) j k) := by unfold Hid; rw [Hf.out]; exact ⟨hfN', hjK, hk⟩
                          rw [hk] at cx
                          have hkm : ((k : Int) == -1) = false := by rw [beq_eq_false_iff_ne]; omega
                          clear hy hyb hlk hk
                          have HPush := hide (HI.out.push HC.out.link hi (by omega) HTk.out (d := dOf t f k) (p := pOf t f k) (by rw [Hf.out]) (by rw [Hf.out]))
                          have hM5 : M < 512 := by have := HPush.out.le; have := HNe.out; omega
                          have xu1 := HM.out.fF.1 M hM5
                          have xu2 := HM.out.fF.2 M
                          have xu3 := HM.out.fD.1 M hM5
                          have xu4 := HM.out.fD.2 M
                          have xu5 := HM.out.fP.1 M hM5
                          have xu6 := HM.out.fP.2 M
                          simp only at xu1 xu3 xu5
                          have hbh := HM.out.bh
                          go_upto_if 174 with fail
                          have HNa : Hid (NM w (((wr.setCell ⟨B + 2, M, none⟩ (.int .i16 k)).setCell ⟨B + 3, M, none⟩ (.int .i64 d0)).setCell ⟨B + 4, M, none⟩ (.int .i64 p0)) B H (.slice av M cv) M cs (upd F M k) (upd D M d0) (upd P M p0) ns) := ((HM.out.setF hM5 k).setD hM5 d0).setP hM5 p0
                          have HMa : Hid (MM (((wr.setCell ⟨B + 2, M, none⟩ (.int .i16 k)).setCell ⟨B + 3, M, none⟩ (.int .i64 d0)).setCell ⟨B + 4, M, none⟩ (.int .i64 p0)) H gM (.slice av M cv) (t.nd f).kind (t.nd f).code (.slice da Di dc) (.slice ka ks.length kc) (sizeL (t.nd f).data Di) ks) := ((HMM.out.arr (by omega) _).arr (by omega) _).arr (by omega) _
                          clear xu1 xu2 xu3 xu4 xu5 xu6 T0 hpi k3 cx n3 hgT hgMl HM HMM
                          generalize ((wr.setCell ⟨B + 2, M, none⟩ (.int .i16 k)).setCell ⟨B + 3, M, none⟩ (.int .i64 d0)).setCell ⟨B + 4, M, none⟩ (.int .i64 p0) = wq at *
                          go_cut [175] (fun _ wd => NM w wd B H (.slice av M cv) M cs (upd F M k) (upd D M (dOf t f k)) (upd P M (pOf t f k)) ns ∧ MM wd H gM (.slice av M cv) (t.nd f).kind (t.nd f).code (.slice da Di dc) (.slice ka ks.length kc) (sizeL (t.nd f).data Di) ks)
                          case first =>
                            cases ib
                            · have HE1 : Hid (dOf t f k = (t.nd k).td ∧ pOf t f k = (t.nd k).tk) := by unfold Hid dOf pOf; rw [HIb.out]; exact ⟨rfl, rfl⟩
                              have s0 := HNa.out.gr.cell HT0.out trivial
                              have xu1 := HNa.out.fF.1 M hM5
                              have xu3 := HNa.out.fD.1 M hM5
                              have xu4 := HNa.out.fD.2 M
                              have xu5 := HNa.out.fP.1 M hM5
                              have xu6 := HNa.out.fP.2 M
                              simp only [upd_same] at xu1 xu3 xu5
                              have hkb : k < 32768 := by omega
                              go_wp2
                              go_region_with (first
                                | (go_at_call 78; (with_reducible refine (HTm.out k _ (by rw [HNe.out]; exact hkN) HNa.out.gr.drew).mono ?_); rintro e w3 ⟨rfl, hg0⟩; have hg := (Kept.refl (fun _ => True) wq).drew.trans hg0; clear hg0; have HN3 := hide (HNa.out.grow hg); have HM3 := hide (HMa.out.grow hg); have x3' := hg.cell xu3 trivial; have x4' := hg.cell xu5 trivial; have y3' := HN3.out.fD.2 M; have y4' := HN3.out.fP.2 M; clear hg))
                              all_goals as_aux_lemma =>
                                go_wp2_with (fail)
                                go_meet
                                have h5 := (HN3.out.setD hM5 (t.nd k).td).setP hM5 (t.nd k).tk
                                rw [HE1.out.1, HE1.out.2]
                                exact ⟨by rw [← upd_upd D M d0 (t.nd k).td, ← upd_upd P M p0 (t.nd k).tk]; exact h5, (HM3.out.arr (by omega) _).arr (by omega) _⟩
                            · as_aux_lemma =>
                                obtain ⟨e1, e2⟩ := HDY.out HIb.out
                                have HE1 : Hid (dOf t f k = d0 ∧ pOf t f k = p0) := by unfold Hid dOf pOf; rw [HIb.out, e1, e2]; exact ⟨rfl, rfl⟩
                                clear e1 e2
                                go_wp2
                                go_meet
                                rw [HE1.out.1, HE1.out.2]
                                exact ⟨HNa.out, HMa.out⟩
                          case rest =>
                            obtain ⟨hNk, hMk⟩ := hcut
                            have HNk := hide hNk
                            have HMk := hide hMk
                            have k3 := hMk.c3
                            have hgMl := hMk.lt
                            have T0 := hNk.t0
                            have hgT : B + 1 < wc.heap.size := World.block_lt_of_cell? wc ⟨B + 1, 0, none⟩ hNk.t0
                            clear hNk hMk HNa HMa
                            as_aux_lemma =>
                              go_wp2_with (first
                                | (at_builtin; refine wpList_app1 _ rfl _ _ 126 rfl 63 (.int .i16 0) 2 Facg.underlying126 info63 rfl (.slice ka ks.length kc) ks.length (ks.map (Value.int .i16)) rfl ?o1 wc.heap.size (.int .i16 (M : Int)) rfl ?o2 rfl ?o3 ?o4 ?_))
                              case o1 => exact (HMk.out.alloc _).kown
                              case o2 => exact box_at (by simp) _ _ _ rfl
                              case o3 => unfold maxLen; have := HK.out.1; omega
                              case o4 => have := HK.out.1; omega
                              intro a' c' w5 ho hk hv
                              have HX := hide (MM.push (HNk.out.alloc _) (HMk.out.alloc _) ho (wf_i16 M (by omega)) hk (by rw [World.size_alloc]; exact hv))
                              obtain ⟨q3, q4⟩ := (HMk.out.alloc _).after hk
                              clear ho hk hv
                              have tx := HX.out.1.t0
                              go_wp2_with (first
                                | (at_builtin; refine wpList_app _ rfl _ _ 62 rfl 128 (.agg #[.int .u8 0, .int .u8 0, .slice none 0 0, .slice none 0 0]) 4 56 Facg.underlying62 info128 rfl (by decide) (.slice av M cv) M cs rfl ?n1 ⟨w5.heap.size, 0, none⟩ 1 1 z4 rfl rfl ?n2 ?n3 ?n4 ?n5 ?_))
                              case n1 => exact (HX.out.1.alloc _).own
                              case n2 =>
                                intro q y hq
                                rw [show ((⟨w5.heap.size, 0, none⟩ : Addr).add q) = ⟨w5.heap.size, q, none⟩ by unfold Addr.add; split <;> simp_all]
                                have hs : (w5.setCell ⟨gM, 3, none⟩ (.slice a' (ks.length + 1) c')).heap.size = w5.heap.size := by simp
                                rw [← hs, World.cell?_alloc_at _ _ _ _ rfl]
                                simpa [z4] using hq
                              case n3 => intro y hy; exact z4_one y hy
                              case n4 => unfold maxLen; omega
                              case n5 => omega
                              intro a2 c2 w6 ho hk hv
                              have HY := hide (NM.push (HX.out.1.alloc _) (HX.out.2.alloc _) ho hk (by rw [World.size_alloc]; simpa using hv))
                              obtain ⟨q5, q6⟩ := (HX.out.1.alloc _).after hk
                              clear ho hk hv
                              go_wp2
                              go_roundw
                              case rel => exact ⟨j + 1, M + 1, _, _, _, _, _, _, _, by go_num, by omega, by omega, HY.out.1, HY.out.2, HPush.out, HN.out.push (by omega), HK.out.kid hi HTk.out, by rw [upd_ne (by omega)]; exact Hf.out, by rw [upd_ne (by omega)]; exact HDi.out, by rw [upd_ne (by omega)]; exact HPi.out⟩
                              case measure => simp [intOf]; omega
                      · have hdK : decide ((t.nd f).kids.length ≤ j) = true := decide_eq_true (by omega)
                        have HNul := hide (show ¬ (j < (t.nd (F i)).kids.length ∧ (t.nd (F i)).k j ≠ -1) by rw [Hf.out]; exact fun h => hjK h.1)
                        as_aux_lemma =>
                          go_wp2_with (first
                            | (at_builtin; refine wpList_app1 _ rfl _ _ 126 rfl 63 (.int .i16 0) 2 Facg.underlying126 info63 rfl (.slice ka ks.length kc) ks.length (ks.map (Value.int .i16)) rfl ?o1 wr.heap.size (.int .i16 (-1)) rfl ?o2 rfl ?o3 ?o4 ?_))
                          case o1 => exact (HMM.out.alloc _).kown
                          case o2 => simp
                          case o3 => unfold maxLen; have := HK.out.1; omega
                          case o4 => have := HK.out.1; omega
                          intro a' c' w5 ho hk hv
                          have HX := hide (MM.push (HM.out.alloc _) (HMM.out.alloc _) ho (by decide) hk (by rw [World.size_alloc]; exact hv))
                          obtain ⟨q3, q4⟩ := (HMM.out.alloc _).after hk
                          clear ho hk hv
                          go_wp2
                          go_roundw
                          case rel => exact ⟨j + 1, M, _, cs, F, D, P, _, _, by go_num, by omega, hi, HX.out.1, HX.out.2, HI.out.mono (fun p q h => bef_up h) (Nat.le_refl _), HN.out, HK.out.null HNul.out, Hf.out, HDi.out, HPi.out⟩
                          case measure => simp [intOf]; omega
                    · obtain rfl : j = Pi := by omega
                      have hdj : decide (j < j) = false := decide_eq_false (by omega)
                      as_aux_lemma =>
                        have HFin : Hid (∀ g cap, av = some ⟨g, 0, none⟩ → cv = cap → NM w ((((wr.setCell ⟨g, i * 4, none⟩ (.int .u8 (t.nd f).kind)).setCell ⟨g, i * 4 + 1, none⟩ (.int .u8 (t.nd f).code)).setCell ⟨g, i * 4 + 2, none⟩ (.slice da Di dc)).setCell ⟨g, i * 4 + 3, none⟩ (.slice ka ks.length kc)) B wr.heap.size (.slice (some ⟨g, 0, none⟩) M cap) M
                            ((((cs.set (i * 4) (.int .u8 (t.nd f).kind)).set (i * 4 + 1) (.int .u8 (t.nd f).code)).set (i * 4 + 2) (.slice da Di dc)).set (i * 4 + 3) (.slice ka ks.length kc)) F D P (ns ++ [⟨(t.nd f).kind, (t.nd f).code, sizeL (t.nd f).data Di, ks⟩])) := by
                          intro g' cap e1 e2
                          subst e1 e2
                          have := NM.finish (hkr) (hcr) HM.out HMM.out (by rw [HN.out.1]; exact hi)
                          rw [HN.out.1] at this
                          exact this
                        have HRF : Hid (NodesR t F D P M (i + 1) (ns ++ [⟨(t.nd f).kind, (t.nd f).code, sizeL (t.nd f).data Di, ks⟩])) := by
                          have := HN.out.finish (ks := ks) (by rw [HPi.out]; exact HK.out)
                          rw [Hf.out, HDi.out] at this
                          exact this
                        have HNx := hide (HI.out.mono (i' := i + 1) (j' := 0) (fun p q h => by unfold Bef at *; omega) (Nat.le_refl _))
                        have hown := HM.out.own
                        rcases hown.2 with ⟨e1, e2⟩ | ⟨g', cap, cur, e1, _⟩
                        · omega
                        obtain ⟨rfl, rfl⟩ : av = some ⟨g', 0, none⟩ ∧ cv = cap := by simpa using e1
                        have hcl : cs.length = M * 4 := hown.1
                        have cellx : ∀ q, q < M * 4 → ∃ u, wr.cell? ⟨g', q, none⟩ = some u := fun q hq => ⟨_, by rw [hown.cellAt q hq]; exact List.getElem?_eq_getElem (by omega)⟩
                        obtain ⟨xu1, p1⟩ := cellx (i * 4) (by omega)
                        obtain ⟨xu2, p2⟩ := cellx (i * 4 + 1) (by omega)
                        obtain ⟨xu3, p3⟩ := cellx (i * 4 + 2) (by omega)
                        obtain ⟨xu4, p4⟩ := cellx (i * 4 + 3) (by omega)
                        have f1 := hown.frozenAt (i * 4)
                        have f2 := hown.frozenAt (i * 4 + 1)
                        have f3 := hown.frozenAt (i * 4 + 2)
                        have f4 := hown.frozenAt (i * 4 + 3)
                        have m0 := HMM.out.c0
                        have m1 := HMM.out.c1
                        have m2 := HMM.out.c2
                        have hgm : gM ≠ g' := fun e => HMM.out.vb (by rw [e]; rfl)
                        have hgT' : B + 1 ≠ g' := by
                          obtain ⟨gn, h1, h2⟩ := HM.out.gN
                          have : g' = gn := by simpa [Value.ownBlock] using h1
                          omega
                        have HFin2 := hide (HFin.out g' cv rfl rfl)
                        clear HFin hown cellx hcl e1 n3
                        go_wp2
                        go_region
                        all_goals
                          go_wp2
                          go_roundw
                          case rel => exact ⟨i + 1, M, wr.heap.size, _, _, F, D, P, _, by go_num, by omega, HFin2.out.grow ((Kept.refl (fun _ => True) _).drew), HNx.out, HRF.out⟩
                          case measure => simp [intOf]; omega
      · as_aux_lemma =>
          obtain rfl : i = M := by omega
          have hdi : decide (i < i) = false := decide_eq_false (by omega)
          go_wp2
          go_ret
          refine ⟨B + 1, ⟨ns, 0⟩, rfl, HM.out.gr, HM.out.treeQ HN.out.1, rfl, F, D, P, ?_, ?_⟩
          · show NI t ns.length 0 ns.length ns.length F D P
            rw [HN.out.1]
            exact HI.out
          · show NodesR t F D P ns.length ns.length ns
            rw [HN.out.1]
            exact HN.out
end Go.Proofs.Ygcfac
