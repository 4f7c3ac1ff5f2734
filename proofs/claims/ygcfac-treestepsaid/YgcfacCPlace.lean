/-
  (*canon).place.
-/
import Derived.Test.YgcfacCStr
import Derived.Test.YgcfacNNull
namespace Go.Proofs.Ygcfac
open Go.RowKit
set_option linter.unusedVariables false

set_option maxHeartbeats 4000000 in
set_option maxRecDepth 10000 in
theorem cplace_any (Q : Nat → Prop) (w wr : World) (gC gU L bn on at_ i : Nat) (u : Tr) (v : Value) (st : List Nat) (h : CM Q w wr gC gU v L st) (hU : TrQ w Q gU u) (hl : Linked u) (hev : EvenT u) (hi : i < u.ns.length) (hx : NodeQ w Q bn on (u.nd i)) (ha : at_ < L) (ha' : at_ < 65536)
    (hL : L ≤ 800000000) (hlen : st.length + (newsOf u (u.nd i)).length ≤ 512) :
    Calls Facg.prog 83 #[.pointer (some ⟨gC, 0, none⟩), .int .u16 at_, .pointer (some ⟨bn, on, none⟩)] wr (CanonQ Q w gC gU L 3000 (st ++ newsOf u (u.nd i))) := by
  have hsh := hl.short i
  have hkinds := hl.kinds hi
  have hinin := fun (h1 : (u.nd i).kind = 2) (h2 : (u.nd i).code = 7) => hl.inl_in hi h1 h2
  have hlk : ∀ j q, j < u.ns.length → q < (u.nd j).kids.length → -1 ≤ (u.nd j).k q := fun j q hj hq => by
    have := (hl.shp j hj).1 q hq
    omega
  have hinl0 : (u.nd i).inl = (decide ((u.nd i).kind = 2) && decide ((u.nd i).code = 7)) := rfl
  obtain ⟨hkr, hcr, hqb, d0, d1, ⟨vd, d2, hdI⟩, vk, d3, hkI⟩ := id hx
  obtain ⟨ad, cd, rfl, _, _, _⟩ := hdI.ints.row
  obtain ⟨ak, ck, rfl, _, _, _⟩ := hkI.ints.row
  obtain ⟨g, c, rfl, hg1, hg2, hLb, hcell, hfz⟩ := h.slice
  obtain ⟨x0, cx⟩ := hcell at_ ha
  have fx := hfz at_
  have z0 := h.gr.cell d0 hqb
  have z1 := h.gr.cell d1 hqb
  have z2 := h.gr.cell d2 hqb
  have z3 := h.gr.cell d3 hqb
  have y1 := h.c1
  have hlt := h.lt
  have H := hide h
  obtain ⟨to_, hto⟩ : ∃ to_, L % 65536 = to_ := ⟨_, rfl⟩
  have hto' : to_ < 65536 := by omega
  have hwr : IntKind.u16.wrap (L : Int) = (to_ : Int) := by rw [IntKind.wrap_u16]; omega
  have HTo := hide hto
  have HX := hide hx
  have HD0 := hide d0
  have HD1 := hide d1
  clear hcell hfz hdI hkI hx h hto d0 d1 d2 d3
  rcases hkinds with ⟨hk, hc⟩ | ⟨hk, hc⟩ | ⟨hk, hc, hc2, hc6⟩
  · have hnews : newsOf u (u.nd i) = pushL (u.nd i).k (u.nd i).kids.length (u.nd i).kids.length := by unfold newsOf; rw [hinl0, hk]; rfl
    rw [hnews] at hlen ⊢
    rw [hk] at z0
    have HMS := hide (fun (x y : Int) w => makeStruct_some at_ to_ (IntKind.u8.wrap x) (IntKind.u8.wrap y) w ha' hto' (wrap8_bd x) (wrap8_bd y))
    have HLk := hide (hlk i)
    clear hnews hk hc hinl0 hinin hlk
    go_enter Facg.func83, Facg.ntmps83
    go_wp2
    go_cut [35] (fun _ wd => CM Q w wd gC gU (.slice (some ⟨g, 0, none⟩) L c) L st)
    case first =>
      go_region_with (first
        | (go_at_call 135; (with_reducible refine (HMS.out _ _ _).mono ?_); rintro e w3 ⟨y, rfl, rfl, hy⟩; clear hy))
      all_goals
        go_wp2_with (fail)
        go_meet
        first | exact (H.out.setA at_ y).grow ((Kept.refl (fun _ => True) _).drew) | exact (H.out.grow ((Kept.refl (fun _ => True) _).drew)).setA at_ y
    case rest =>
      have HSe := hide (csections_any Q w wc gC gU L bn on (u.nd i) _ st hcut HX.out (by omega) (by omega) (by omega))
      clear hcut H cx fx z0 z1 z2 z3 y1
      go_wp2_with (first
        | (go_at_call 136; (with_reducible refine HSe.out.mono ?_); rintro e w2 ⟨rfl, v2, hc2⟩; have HKd := hide (ckids_any Q w w2 gC gU _ bn on to_ (u.nd i) v2 st hc2 HX.out (by omega) (by omega) hto' hlen (fun q hq => by have := HTo.out; omega) (fun q hq => HLk.out q hi hq)); clear hc2)
        | (go_at_call 137; (with_reducible refine HKd.out.mono ?_); rintro e w3 ⟨rfl, v3, hc3⟩; have HC3 := hide hc3; clear hc3))
      exact bodyPost_end (by simp [results, Facg.results83, go_sem]) rfl ⟨rfl, _, v3, by omega, by omega, HC3.out⟩
  · have hnews : newsOf u (u.nd i) = elL (fun j => u.nd ((u.nd i).k j).toNat) (u.nd i).kids.length (u.nd i).kids.length := by unfold newsOf; rw [hinl0, hk, hc]; rfl
    rw [hnews] at hlen ⊢
    obtain ⟨d, p, hd, hp, hdp⟩ := hev i hi (by rw [hinl0, hk, hc]; rfl)
    have HIn := hide (hinin hk hc)
    have hST := cstructs_any Q w wr gC gU L bn on at_ d p u (u.nd i) _ st H.out hU HX.out (by omega) ha ha' HIn.out hdp hd hp (fun j q hj hq => hlk _ q (by have := HIn.out j hj; omega) (by rw [(hdp j hj).2]; exact hq)) (by omega) hlen
    rw [HTo.out] at hST
    have HST := hide hST
    rw [hk] at z0
    rw [hc] at z1
    clear hnews hk hc hinl0 hinin hlk hST hdp
    go_enter Facg.func83, Facg.ntmps83
    go_wp2_with (first
      | (go_at_call 139; (with_reducible refine HST.out.mono ?_); rintro e w2 ⟨rfl, L2, v2, hl1, hl2, hc2⟩; have HC2 := hide hc2; clear hc2))
    exact bodyPost_end (by simp [results, Facg.results83, go_sem]) rfl ⟨rfl, L2, v2, hl1, hl2, HC2.out⟩
  · have hnews : newsOf u (u.nd i) = pushL (u.nd i).k (u.nd i).kids.length (u.nd i).kids.length := by unfold newsOf; rw [hinl0, hk]; simp [hc]
    rw [hnews] at hlen ⊢
    rw [hk] at z0
    have e7 : ((u.nd i).code == 7) = false := by rw [beq_eq_false_iff_ne]; exact hc
    have HLk := hide (hlk i)
    by_cases h6 : (u.nd i).code = 6
    · rw [h6] at z1
      have HLi := hide (fun wx (hg : Grows wr wx) => clist_any Q w wx gC gU L at_ to_ (u.nd i).kids.length 6 _ st (H.out.grow hg) ha ha' hto' (by decide) (by omega))
      clear hnews hk hc hinl0 hinin hlk h6
      go_enter Facg.func83, Facg.ntmps83
      go_wp2
      go_cut [69] (fun _ wd => ∃ v', CM Q w wd gC gU v' L st)
      case first =>
        go_region_with (first
          | (go_at_call 138; (with_reducible refine (HLi.out _ (Kept.refl (fun _ => True) _).drew).mono ?_); rintro e w3 ⟨rfl, v3, hc3⟩; have HC3 := hide hc3; clear hc3))
        all_goals
          go_wp2_with (fail)
          go_meet
          exact ⟨v3, HC3.out⟩
      case rest =>
        obtain ⟨v1, hcut⟩ := hcut
        have HSe := hide (csections_any Q w wc gC gU L bn on (u.nd i) _ st hcut HX.out (by omega) (by omega) (by omega))
        clear hcut H cx fx z0 z1 z2 z3 y1
        go_wp2_with (first
          | (go_at_call 136; (with_reducible refine HSe.out.mono ?_); rintro e w2 ⟨rfl, v2, hc2⟩; have HKd := hide (ckids_any Q w w2 gC gU _ bn on to_ (u.nd i) v2 st hc2 HX.out (by omega) (by omega) hto' hlen (fun q hq => by have := HTo.out; omega) (fun q hq => HLk.out q hi hq)); clear hc2)
          | (go_at_call 137; (with_reducible refine HKd.out.mono ?_); rintro e w3 ⟨rfl, v3, hc3⟩; have HC3 := hide hc3; clear hc3))
        exact bodyPost_end (by simp [results, Facg.results83, go_sem]) rfl ⟨rfl, _, v3, by omega, by omega, HC3.out⟩
    · have e6 : ((u.nd i).code == 6) = false := by rw [beq_eq_false_iff_ne]; exact h6
      have hk0 : (u.nd i).kids.length = 0 := by
        rcases (hl.shp i hi).2 with ⟨y, _⟩ | ⟨_, _, _, y | y | y⟩
        · omega
        · exact y.2.1
        · exact absurd y.1 h6
        · exact absurd y.1 hc
      have hp0 : pushL (u.nd i).k (u.nd i).kids.length (u.nd i).kids.length = [] := by rw [hk0]; rfl
      rw [hp0, List.append_nil]
      have HLi := hide (fun wx (hg : Grows wr wx) => clist_any Q w wx gC gU L at_ to_ (u.nd i).data.length (u.nd i).code _ st (H.out.grow hg) ha ha' hto' hcr (by omega))
      have hcs : 2 ≤ (u.nd i).code ∧ (u.nd i).code ≤ 5 := by omega
      have HCs := hide hcs
      clear hnews hk hc hinl0 hinin hlk h6 hp0 hk0 hcs hc2 hc6
      go_enter Facg.func83, Facg.ntmps83
      go_wp2
      go_cut [13] (fun _ wd => ∃ v', CM Q w wd gC gU v' L st)
      case first =>
        go_region_with (first
          | (go_at_call 138; (with_reducible refine (HLi.out _ (Kept.refl (fun _ => True) _).drew).mono ?_); rintro e w3 ⟨rfl, v3, hc3⟩; have HC3 := hide hc3; clear hc3))
        all_goals
          go_wp2_with (fail)
          go_meet
          exact ⟨v3, HC3.out⟩
      case rest =>
        obtain ⟨v1, hcut⟩ := hcut
        have HSc := hide (cscalars_any Q w wc gC gU L bn on (u.nd i) _ st hcut HX.out (by omega) HCs.out (by omega))
        clear hcut H cx fx z0 z1 z2 z3 y1
        go_wp2_with (first
          | (go_at_call 140; (with_reducible refine HSc.out.mono ?_); rintro e w2 ⟨rfl, L2, v2, hl1, hl2, hc2⟩; have HC2 := hide hc2; clear hc2))
        exact bodyPost_end (by simp [results, Facg.results83, go_sem]) rfl ⟨rfl, L2, v2, hl1, by omega, HC2.out⟩
end Go.Proofs.Ygcfac
