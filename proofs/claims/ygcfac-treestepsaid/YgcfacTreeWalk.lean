/-
  law.TreeStep: walked whole.
-/
import Derived.Test.YgcfacCanon
import Derived.Test.YgcfacCopied
import Derived.Test.YgcfacEqual
import Derived.Test.YgcfacSameT
namespace Go.Proofs.Ygcfac
open Go.RowKit
set_option linter.unusedVariables false

theorem tr_box {w : World} {v : Value} {t : Tr} (hr : -32768 ≤ t.root ∧ t.root < 32768) (hv : NsAt w v t.ns) : TrAt (w.alloc (.cells #[v, .int .i16 t.root] 65)) w.heap.size t := by
  refine ⟨hr, ⟨v, ?_, hv.grows ((Kept.refl _ _).alloc _)⟩, ?_⟩
  · rw [World.cell?_alloc_at _ _ _ _ rfl]; rfl
  · rw [World.cell?_alloc_at _ _ _ _ rfl]; rfl

set_option maxHeartbeats 4000000 in
set_option maxRecDepth 100000 in
theorem treeStep_walk (v1 v2 : Value) (t u : Tr) (w : World) (h1 : NsAt w v1 t.ns) (h2 : NsAt w v2 u.ns) (hr1 : -32768 ≤ t.root ∧ t.root < 32768) (hr2 : -32768 ≤ u.root ∧ u.root < 32768) (hs1 : Small t) (hs2 : Small u) :
    Calls Facg.prog 10 #[.agg #[v1, .int .i16 t.root], .agg #[v2, .int .i16 u.root]] w fun e w' => e = .returned (.bool true) ∧ Grows w w' := by
  have HT : Hid (TrAt ((w.alloc (.cells #[v1, .int .i16 t.root] 65)).alloc (.cells #[v2, .int .i16 u.root] 65)) w.heap.size t) := (tr_box hr1 h1).grows ((Kept.refl _ _).alloc _)
  have HU : Hid (TrAt ((w.alloc (.cells #[v1, .int .i16 t.root] 65)).alloc (.cells #[v2, .int .i16 u.root] 65)) (w.heap.size + 1) u) := by
    have := tr_box (w := w.alloc (.cells #[v1, .int .i16 t.root] 65)) hr2 (h2.grows ((Kept.refl _ _).alloc _))
    rw [World.size_alloc] at this
    exact this
  have HGw : Hid (Grows w ((w.alloc (.cells #[v1, .int .i16 t.root] 65)).alloc (.cells #[v2, .int .i16 u.root] 65))) := ((Kept.refl _ _).alloc _).alloc _
  have HS1 := hide hs1
  have HS2 := hide hs2
  have HR1 := hide hr1
  have HR2 := hide hr2
  clear h1 h2 hs1 hs2 hr1 hr2
  go_enter Facg.func10, Facg.ntmps10
  go_upto_region 1 with fail
  generalize (w.alloc (.cells #[v1, .int .i16 t.root] 65)).alloc (.cells #[v2, .int .i16 u.root] 65) = W at *
  generalize w.heap.size = B at *
  go_upto_region 2 with (first
    | (go_at_call 34; (with_reducible refine (copied_any B t _ HT.out HS1.out).mono ?_); rintro e w3 ⟨va, rfl, hg3, hn3⟩; have HG3 := hide hg3; have HN3 := hide hn3; obtain ⟨aa, ca, rfl, _⟩ := id hn3; clear hg3 hn3)
    | (go_at_call 34; (with_reducible refine (copied_any (B + 1) u _ (HU.out.grows HG3.out) HS2.out).mono ?_); rintro e w4 ⟨vb, rfl, hg4, hn4⟩; have HG4 := hide hg4; have HN4 := hide hn4; obtain ⟨ab, cb, rfl, _⟩ := id hn4; clear hg4 hn4))
  have HA : Hid (TrAt ((w4.alloc (.cells #[.slice aa t.ns.length ca, .int .i16 t.root] 65)).alloc (.cells #[.slice ab u.ns.length cb, .int .i16 u.root] 65)) w4.heap.size t) := (tr_box HR1.out (HN3.out.grows HG4.out)).grows ((Kept.refl _ _).alloc _)
  have HB : Hid (TrAt ((w4.alloc (.cells #[.slice aa t.ns.length ca, .int .i16 t.root] 65)).alloc (.cells #[.slice ab u.ns.length cb, .int .i16 u.root] 65)) (w4.heap.size + 1) u) := by
    have := tr_box (w := w4.alloc (.cells #[.slice aa t.ns.length ca, .int .i16 t.root] 65)) HR2.out (HN4.out.grows ((Kept.refl _ _).alloc _))
    rw [World.size_alloc] at this
    exact this
  have HX : Hid (Grows W ((w4.alloc (.cells #[.slice aa t.ns.length ca, .int .i16 t.root] 65)).alloc (.cells #[.slice ab u.ns.length cb, .int .i16 u.root] 65))) := ((HG3.out.trans HG4.out).alloc _).alloc _
  have HT2 := hide (HT.out.grows HX.out)
  have HU2 := hide (HU.out.grows HX.out)
  have HG := hide (HGw.out.trans HX.out)
  clear HT HU HX HG3 HG4 HN3 HN4 HGw HS1 HS2
  generalize (w4.alloc (.cells #[.slice aa t.ns.length ca, .int .i16 t.root] 65)).alloc (.cells #[.slice ab u.ns.length cb, .int .i16 u.root] 65) = X at *
  generalize w4.heap.size = A at *
  by_cases hc : CheckOk t
  · have HC := hide hc
    clear hc
    go_wp2_with (first
      | (go_at_call 35; (with_reducible refine (check_any A t _ HA.out).mono ?_); rintro e x1 ⟨b, rfl, hg, hb⟩; have hb' : b = true := hb.2 HC.out; subst hb'; have HG1 := hide hg; clear hg hb)
      | (go_at_call 36; (with_reducible refine (norm_any A t _ (HA.out.grows HG1.out)).mono ?_); rintro e x2 ⟨gn, n, rfl, hg, hq, hcn, _⟩; have HG2 := hide (HG1.out.trans hg); have HQ := hide hq.tr; have HCn := hide hcn; clear hg hq hcn)
      | (go_at_call 37; (with_reducible refine (equal_any A (A + 1) t u _ (HA.out.grows HG2.out) (HB.out.grows HG2.out)).mono ?_); rintro e x3 ⟨b3, rfl, hg⟩; have HG3 := hide (HG2.out.trans hg); have HQ3 := hide (HQ.out.grows hg); clear hg)
      | (go_at_call 37; (with_reducible refine (equal_any (A + 1) A u t _ (HB.out.grows HG3.out) (HA.out.grows HG3.out)).mono ?_); rintro e x4 ⟨b4, rfl, hg⟩; have HG4 := hide (HG3.out.trans hg); have HQ4 := hide (HQ3.out.grows hg); clear hg)
      | (go_at_call 38; (with_reducible refine (canon_ok A t _ (HA.out.grows HG4.out) HC.out).mono ?_); rintro e x5 ⟨v5, rfl, hg⟩; have HG5 := hide (HG4.out.trans hg); have HQ5 := hide (HQ4.out.grows hg); clear hg)
      | (go_at_call 39; (with_reducible refine (sameTree_any A B t _ (HA.out.grows HG5.out) (HT2.out.grows HG5.out)).mono ?_); rintro e x6 ⟨rfl, hg⟩; have HG6 := hide (HG5.out.trans hg); have HQ6 := hide (HQ5.out.grows hg); clear hg)
      | (go_at_call 39; (with_reducible refine (sameTree_any (A + 1) (B + 1) u _ (HB.out.grows HG6.out) (HU2.out.grows HG6.out)).mono ?_); rintro e x7 ⟨rfl, hg⟩; have HG7 := hide (HG6.out.trans hg); have HQ7 := hide (HQ6.out.grows hg); clear hg)
      | (go_at_call 35; (with_reducible refine (check_any gn n _ HQ7.out).mono ?_); rintro e x8 ⟨b, rfl, hg, hb⟩; have hb' : b = true := hb.2 HCn.out; subst hb'; have HG8 := hide (HG7.out.trans hg); clear hg hb))
    go_ret
    exact ⟨rfl, HG.out.trans HG8.out⟩
  · have HC := hide hc
    clear hc
    go_wp2_with (first
      | (go_at_call 35; (with_reducible refine (check_any A t _ HA.out).mono ?_); rintro e x1 ⟨b, rfl, hg, hb⟩; have hb' : b = false := (by cases b with | false => rfl | true => exact absurd (hb.1 rfl) HC.out); subst hb'; have HG1 := hide hg; clear hg hb)
      | (go_at_call 36; (with_reducible refine (norm_any A t _ (HA.out.grows HG1.out)).mono ?_); rintro e x2 ⟨gn, n, rfl, hg, hq, hcn, _⟩; have HG2 := hide (HG1.out.trans hg); clear hg hq hcn)
      | (go_at_call 37; (with_reducible refine (equal_any A (A + 1) t u _ (HA.out.grows HG2.out) (HB.out.grows HG2.out)).mono ?_); rintro e x3 ⟨b3, rfl, hg⟩; have HG3 := hide (HG2.out.trans hg); clear hg)
      | (go_at_call 37; (with_reducible refine (equal_any (A + 1) A u t _ (HB.out.grows HG3.out) (HA.out.grows HG3.out)).mono ?_); rintro e x4 ⟨b4, rfl, hg⟩; have HG4 := hide (HG3.out.trans hg); clear hg)
      | (go_at_call 38; (with_reducible refine (canon_no A t _ (HA.out.grows HG4.out) HC.out).mono ?_); rintro e x5 ⟨rfl, hg⟩; have HG5 := hide (HG4.out.trans hg); clear hg)
      | (go_at_call 39; (with_reducible refine (sameTree_any A B t _ (HA.out.grows HG5.out) (HT2.out.grows HG5.out)).mono ?_); rintro e x6 ⟨rfl, hg⟩; have HG6 := hide (HG5.out.trans hg); clear hg)
      | (go_at_call 39; (with_reducible refine (sameTree_any (A + 1) (B + 1) u _ (HB.out.grows HG6.out) (HU2.out.grows HG6.out)).mono ?_); rintro e x7 ⟨rfl, hg⟩; have HG7 := hide (HG6.out.trans hg); clear hg))
    go_ret
    exact ⟨rfl, HG.out.trans HG7.out⟩
end Go.Proofs.Ygcfac
