/-
  codec.Canon.
-/
import Derived.Test.YgcfacCanS
import Derived.Test.YgcfacCPlace
import Derived.Test.YgcfacNormA
import Derived.Deep.LoopGhost
namespace Go.Proofs.Ygcfac
open Go.RowKit
set_option linter.unusedVariables false
def CanP (w : World) (e : Ending) (w' : World) : Prop := ∃ v, e = .returned (.tuple #[v, .bool true]) ∧ Grows w w'

set_option maxHeartbeats 4000000 in
set_option maxRecDepth 100000 in
theorem canon_ok (g : Nat) (t : Tr) (w : World) (ht : TrAt w g t) (hc : CheckOk t) :
    Calls Facg.prog 38 #[.pointer (some ⟨g, 0, none⟩)] w (CanP w) := by
  have HCk := hide (check_any g t w ht)
  have HNo := hide (fun w' hg => norm_any g t w' (ht.grows hg))
  have HC := hide hc
  clear ht hc
  have hmk := make16
  have hst := ZAt.store
  have hz1 := ZAt.d1
  have hz2 := ZAt.d2
  have hz3 := ZAt.d3
  have hz4 := ZAt.e1
  have hz5 := ZAt.e2
  have hz6 := ZAt.e3
  have hz9 := ZAt.f1
  have hz10 := ZAt.f2
  have hz11 := ZAt.f3
  go_enter Facg.func38, Facg.ntmps38
  go_wp2_with (first
    | (go_at_call 35; (with_reducible refine HCk.out.mono ?_); rintro e w2 ⟨b, rfl, hg, hb⟩; have hb' : b = true := hb.2 HC.out; subst hb'; have HG2 := hide hg; clear hg hb HCk))
  go_cut [4] (fun s4 wc => CanS w s4 wc)
  case first =>
    go_region_with (first
      | (go_at_call 36; (with_reducible refine (HNo.out _ (by repeat (first | exact HG2.out | refine Kept.drew ?_ | refine Kept.alloc ?_ _))).mono ?_); rintro e w3 ⟨gU, u, rfl, hg, hU, hcu, hev⟩; have HX := hide (And.intro hg (And.intro hU (And.intro hcu hev))); have hz7 := ZAt.grow hg; have hz8 := fun (k : Nat) (C : Array Value) (ty : TypeId) h => ZAt.old w3 k (.cells C ty) (ZAt.grow hg k h); clear hU hcu hev hg))
    all_goals
      clear hz1 hz2 hz3 hz4 hz5 hz6 hz7 hz8 hz9 hz10 hz11 hst hmk
      go_wp2_with (fail)
      go_meet
    · exact order1 HG2.out HX.out
    · exact order2 HG2.out HX.out
    · exact order3 HG2.out HX.out
    · exact order4 HG2.out HX.out
    · exact order5 HG2.out HX.out
    · exact order6 HG2.out HX.out
  case rest =>
    clear hz1 hz2 hz3 hz4 hz5 hz6 hz9 hz10 hz11 hst hmk HG2 HNo HC
    obtain ⟨Q, w0, gC, gU, u, v, rfl, hg0, hQ, hU, hcu, hev, hCM⟩ := hcut
    obtain ⟨aN, cN, hqU, t0, t1, hN, hns⟩ := hU.lift
    have HPu := hide (root_push hCM hcu)
    have HG0 := hide hg0
    have HQ := hide hQ
    have HU := hide hU
    have HC := hide hcu
    have HE := hide hev
    have HNs := hide hns
    have HqU := hide hqU
    have HT0 := hide t0
    have c0 := hCM.c0
    have r1 := hCM.gr.cell t1 hqU
    have hN512 := hcu.len
    obtain ⟨N, hNe⟩ : ∃ N, u.ns.length = N := ⟨_, rfl⟩
    rw [hNe] at hN HNs HT0 hN512
    have HNe := hide hNe
    clear hg0 hQ hU hcu hev hns hqU t0 t1 hCM hNe
    go_wp2_with (first
      | (go_at_call 82; (with_reducible refine HPu.out.mono ?_); rintro e w4 ⟨rfl, v1, st1, ps1, hcm1, hci1⟩; have HCM1 := hide hcm1; have HCI1 := hide hci1; clear hcm1 hci1))
    go_loopg [20] (2 * (N - ps1.length) + st1.length) (fun k _ wr => ∃ (st ps : List Nat) (L : Nat) (v : Value), CM Q w0 wr gC gU v L st ∧ CI u st ps ∧ L ≤ 1 + 3000 * (ps.length - st.length) ∧ k = 2 * (N - ps.length) + st.length)
    case atStart => exact ⟨st1, ps1, 1, v1, HCM1.out, HCI1.out, by omega, rfl⟩
    case round =>
      obtain ⟨st, ps, L, v, hcm, hci, hL, hk⟩ := hrel
      have HM := hide hcm
      have HI := hide hci
      have hle := hci.le
      rw [HNe.out] at hle
      clear HCM1 HCI1 hcm hci
      rcases List.eq_nil_or_concat st with hst | ⟨s, x, hst⟩
      · subst hst
        have cn := HM.out.cn
        have c1 := HM.out.c1
        have HGe := hide (HG0.out.then HM.out.gr (fun b hb _ => HQ.out b hb))
        simp only [List.length_nil] at cn
        clear c0 r1
        go_wp2
        refine bodyPost_ret (v := .tuple #[v, .bool true]) (by simp [results, Facg.results38, go_sem]) rfl ?_
        exact ⟨v, rfl, HGe.out⟩
      · rw [List.concat_eq_append] at hst
        subst hst
        have cn := HM.out.cn
        have fn := HM.out.fz 1026
        have hsl := HM.out.sl
        rw [List.length_append, List.length_singleton] at cn hsl hk hle hL
        have hxp : x ∈ ps := HI.out.sub x (by simp)
        have hxN : x < N := by have := HI.out.lt x hxp; rw [HNe.out] at this; exact this
        have HStep := hide (HI.out.step HC.out.link)
        have hle2 := (HI.out.step HC.out.link).le
        rw [HNe.out, List.length_append, List.length_append] at hle2
        have HP := hide HM.out.pop
        obtain ⟨a, b, s1, s2, s3⟩ := HM.out.stk s.length (by omega)
        obtain ⟨rfl, ha0, haL, ha'⟩ := s3 x (by simp)
        obtain ⟨at_, rfl⟩ := Int.eq_ofNat_of_zero_le ha0
        obtain ⟨m, hm⟩ : ∃ m, (newsOf u (u.nd x)).length = m := ⟨_, rfl⟩
        rw [hm] at hle2
        have HMn := hide hm
        obtain ⟨n, hn⟩ : ∃ n, s.length = n := ⟨_, rfl⟩
        rw [hn] at cn hsl hk hle hle2 HP s1 s2 hL
        have HSn := hide hn
        have d1 : (wr.setCell ⟨gC, 1026, none⟩ (.int .i64 n)).cell? ⟨gC, 2 + n * 2, none⟩ = some (.int .u16 at_) := by rw [cell_set_ne (by omega)]; exact s1
        have d2 : (wr.setCell ⟨gC, 1026, none⟩ (.int .i64 n)).cell? ⟨gC, 2 + n * 2 + 1, none⟩ = some (.int .i16 x) := by rw [cell_set_ne (by omega)]; exact s2
        have d3 := HP.out.cn
        rw [hn] at d3
        have cn' : wr.cell? ⟨gC, 1026, none⟩ = some (.int .i64 ((n : Int) + 1)) := by rw [cn]; simp
        have hgC := HM.out.lt
        clear cn hm hn s1 s2 s3 hxp HStep c0 r1
        have HStep := hide (HI.out.step HC.out.link)
        go_upto_region 7 with fail
        generalize wr.setCell ⟨gC, 1026, none⟩ (.int .i64 n) = w1 at *
        clear HM fn cn' hgC
        go_wp2
        obtain ⟨bn, on, rfl, hnode⟩ := HNs.out (by omega)
        have HP2 := hide (HP.out.grow ((Kept.refl (fun _ => True) w1).alloc (.cells #[.int .u16 at_, .int .i16 x] 148)))
        have y0 : (w1.alloc (.cells #[.int .u16 at_, .int .i16 x] 148)).cell? ⟨w1.heap.size, 0, none⟩ = some (.int .u16 at_) := by rw [World.cell?_alloc_at _ _ _ _ rfl]; rfl
        have y1 : (w1.alloc (.cells #[.int .u16 at_, .int .i16 x] 148)).cell? ⟨w1.heap.size, 1, none⟩ = some (.int .i16 x) := by rw [World.cell?_alloc_at _ _ _ _ rfl]; rfl
        have c0 := HP2.out.c0
        have t0 := HP2.out.gr.cell HT0.out HqU.out
        have HNd := hide (hnode x hxN)
        have HCa := hide (fun wx (hg : Grows (w1.alloc (.cells #[.int .u16 at_, .int .i16 x] 148)) wx) => cplace_any Q w0 wx gC gU L bn (on + x * 4) at_ x u v s (HP2.out.grow hg) HU.out HC.out.link HE.out (by rw [HNe.out]; exact hxN) HNd.out (by omega) (by omega) (by omega) (by rw [HSn.out, HMn.out]; omega))
        have hx16 : x < 32768 := by omega
        clear d1 d2 d3 HP hnode
        generalize w1.alloc (.cells #[.int .u16 at_, .int .i16 x] 148) = w5 at *
        generalize w1.heap.size = gS at *
        go_region_with (first
          | (go_at_call 83; (with_reducible refine (HCa.out _ (Kept.refl (fun _ => True) _).drew).mono ?_); rintro e w6 ⟨rfl, L2, v2, hl1, hl2, hc2⟩; have HC2 := hide hc2; clear hc2))
        all_goals
          go_wp2
          go_roundg (2 * (N - (ps.length + m)) + (n + m))
          case rel => exact ⟨_, _, L2, v2, HC2.out, HStep.out, by rw [List.length_append, List.length_append, HMn.out, HSn.out]; omega, by rw [List.length_append, List.length_append, HMn.out, HSn.out]⟩
          case measure => omega

def CanN (w : World) (e : Ending) (w' : World) : Prop := e = .returned (.tuple #[.slice none 0 0, .bool false]) ∧ Grows w w'
theorem canon_no (g : Nat) (t : Tr) (w : World) (ht : TrAt w g t) (hc : ¬ CheckOk t) :
    Calls Facg.prog 38 #[.pointer (some ⟨g, 0, none⟩)] w (CanN w) := by
  have HCk := hide (check_any g t w ht)
  have HC := hide hc
  clear ht hc
  go_enter Facg.func38, Facg.ntmps38
  go_wp2_with (first
    | (go_at_call 35; (with_reducible refine HCk.out.mono ?_); rintro e w2 ⟨b, rfl, hg, hb⟩; have hb' : b = false := (by cases b with | false => rfl | true => exact absurd (hb.1 rfl) HC.out); subst hb'; have HG2 := hide hg; clear hg hb HCk))
  refine bodyPost_ret (v := .tuple #[.slice none 0 0, .bool false]) (by simp [results, Facg.results38, go_sem]) rfl ?_
  exact ⟨rfl, HG2.out⟩

end Go.Proofs.Ygcfac
