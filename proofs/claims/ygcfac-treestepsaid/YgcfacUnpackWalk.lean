/-
  law.UnpackStep: walked whole.
-/
import Derived.Test.YgcfacStep
import Derived.Test.YgcfacSame
import Derived.Deep.RegionHeldLaw
import Derived.OpenShut
import Derived.Deep.AppendLies
import Derived.Deep.DeepCutAuto
namespace Go.Proofs.Ygcfac
open Go.RowKit
set_option linter.unusedVariables false

theorem kept_grows {g : Nat} {a b : World} (h : Kept (fun k => k ≠ g) a b) (hg : a.heap.size ≤ g) : Grows a b := h.mono (fun k hk _ => by omega)

/-- Three cells of one block, written one after the other. -/
theorem three_cells {w : World} {g : Nat} {z0 z1 z2 : Value} (h0 : w.cell? ⟨g, 0, none⟩ = some z0) (h1 : w.cell? ⟨g, 1, none⟩ = some z1) (h2 : w.cell? ⟨g, 2, none⟩ = some z2) (v0 v1 v2 : Value) :
    (((w.setCell ⟨g, 0, none⟩ v0).setCell ⟨g, 1, none⟩ v1).setCell ⟨g, 2, none⟩ v2).cell? ⟨g, 0, none⟩ = some v0 ∧ (((w.setCell ⟨g, 0, none⟩ v0).setCell ⟨g, 1, none⟩ v1).setCell ⟨g, 2, none⟩ v2).cell? ⟨g, 1, none⟩ = some v1 ∧
    (((w.setCell ⟨g, 0, none⟩ v0).setCell ⟨g, 1, none⟩ v1).setCell ⟨g, 2, none⟩ v2).cell? ⟨g, 2, none⟩ = some v2 := by
  refine ⟨?_, ?_, ?_⟩
  · rw [World.cell?_setCell_other _ _ _ _ (by simp), World.cell?_setCell_other _ _ _ _ (by simp)]
    exact World.cell?_setCell_same _ _ _ h0
  · rw [World.cell?_setCell_other _ _ _ _ (by simp)]
    exact World.cell?_setCell_same _ _ _ (u := z1) (by rw [World.cell?_setCell_other _ _ _ _ (by simp)]; exact h1)
  · exact World.cell?_setCell_same _ _ _ (u := z2) (by rw [World.cell?_setCell_other _ _ _ _ (by simp), World.cell?_setCell_other _ _ _ _ (by simp)]; exact h2)

theorem held_of {W0 w' : World} {B : Nat} {x0 x1 x2 : Value} (hg : Grows W0 w') (c0 : W0.cell? ⟨B, 0, none⟩ = some x0) (c1 : W0.cell? ⟨B, 1, none⟩ = some x1) (c2 : W0.cell? ⟨B, 2, none⟩ = some x2) :
    Grows W0 w' ∧ w'.cell? ⟨B, 0, none⟩ = some x0 ∧ w'.cell? ⟨B, 1, none⟩ = some x1 ∧ w'.cell? ⟨B, 2, none⟩ = some x2 :=
  ⟨hg, hg.cell c0 trivial, hg.cell c1 trivial, hg.cell c2 trivial⟩

/-- The cursor that the law makes: a copy. -/
def CopyAt (W0 : World) (i : Int) (S out : List Int) (s3 : Value) (wc : World) : Prop :=
  ∃ (g : Nat) (a1 a2 : Option Addr) (c1 c2 : Nat), s3 = .pointer (some ⟨g, 0, none⟩) ∧ Grows W0 wc ∧ W0.heap.size ≤ g ∧ g < wc.heap.size ∧
     wc.cell? ⟨g, 0, none⟩ = some (.slice a1 S.length c1) ∧ wc.cell? ⟨g, 1, none⟩ = some (.int .u16 i) ∧ wc.cell? ⟨g, 2, none⟩ = some (.slice a2 out.length c2) ∧ (∀ o, wc.frozen? ⟨g, o, none⟩ = false) ∧
     wc.ownsRow 0 5 1 (.slice a1 S.length c1) S.length (S.map (Value.int .u8)) ∧ wc.ownsRow 0 38 1 (.slice a2 out.length c2) out.length (out.map (Value.int .u64)) ∧
     (∀ x, (Value.slice a1 S.length c1).ownBlock = some x → x ≠ g) ∧ (∀ x, (Value.slice a2 out.length c2).ownBlock = some x → x ≠ g) ∧ (∀ x, (Value.slice a1 S.length c1).ownBlock = some x → (Value.slice a2 out.length c2).ownBlock ≠ some x) ∧
     (∀ x, (Value.slice a1 S.length c1).ownBlock = some x → W0.heap.size ≤ x) ∧ (∀ x, (Value.slice a2 out.length c2).ownBlock = some x → W0.heap.size ≤ x)

theorem copyAt_alloc {W0 wS wO : World} {i : Int} {S out : List Int} {a1 a2 : Option Addr} {c1 c2 : Nat} (g0 : Grows W0 wS) (g1 : Grows wS wO)
    (oS : wS.ownsRow 0 5 1 (.slice a1 S.length c1) S.length (S.map (Value.int .u8))) (oO : wO.ownsRow 0 38 1 (.slice a2 out.length c2) out.length (out.map (Value.int .u64)))
    (fS : ∀ x, (Value.slice a1 S.length c1).ownBlock = some x → W0.heap.size ≤ x) (fO : ∀ x, (Value.slice a2 out.length c2).ownBlock = some x → wS.heap.size ≤ x) :
    CopyAt W0 i S out (.pointer (some ⟨wO.heap.size, 0, none⟩)) (wO.alloc (.cells #[.slice a1 S.length c1, .int .u16 i, .slice a2 out.length c2] 74)) := by
  have s0 := g0.size
  have s1 := g1.size
  have lS := fun x hx => (oS.lt x hx).2
  have lO := fun x hx => (oO.lt x hx).2
  refine ⟨wO.heap.size, a1, a2, c1, c2, rfl, (g0.trans g1).alloc _, by omega, by simp, by simp, by simp, by simp, fun o => World.frozen?_alloc_at _ _ _ _ rfl, (owns_kept oS g1 (fun _ _ => trivial)).alloc _, oO.alloc _, fun x hx => ?_, fun x hx => ?_, fun x hx hy => ?_, fS, fun x hx => ?_⟩
  · have := lS x hx; omega
  · have := lO x hx; omega
  · have := lS x hx; have := fO x hy; omega
  · have := fO x hx; omega

theorem copyAt_store {W0 wA wS wB wO : World} {i : Int} {S out : List Int} {g : Nat} {a1 a2 : Option Addr} {c1 c2 : Nat} {z0 z1 z2 : Value} (g0 : Grows W0 wA) (g1 : Grows wA wS) (g2 : Grows wS wB) (g3 : Grows wB wO)
    (oS : wS.ownsRow 0 5 1 (.slice a1 S.length c1) S.length (S.map (Value.int .u8))) (oO : wO.ownsRow 0 38 1 (.slice a2 out.length c2) out.length (out.map (Value.int .u64)))
    (fS : ∀ x, (Value.slice a1 S.length c1).ownBlock = some x → wA.heap.size ≤ x) (fO : ∀ x, (Value.slice a2 out.length c2).ownBlock = some x → wB.heap.size ≤ x)
    (hg : W0.heap.size ≤ g) (hgb : g < wB.heap.size) (hgw : g < wA.heap.size ∨ wS.heap.size ≤ g) (h0 : wB.cell? ⟨g, 0, none⟩ = some z0) (h1 : wB.cell? ⟨g, 1, none⟩ = some z1) (h2 : wB.cell? ⟨g, 2, none⟩ = some z2) (hf : ∀ o, wB.frozen? ⟨g, o, none⟩ = false) :
    CopyAt W0 i S out (.pointer (some ⟨g, 0, none⟩)) (((wO.setCell ⟨g, 0, none⟩ (.slice a1 S.length c1)).setCell ⟨g, 1, none⟩ (.int .u16 i)).setCell ⟨g, 2, none⟩ (.slice a2 out.length c2)) := by
  have s0 := g0.size
  have s1 := g1.size
  have s2 := g2.size
  have s3 := g3.size
  have lS := fun x hx => (oS.lt x hx).2
  have lO := fun x hx => (oO.lt x hx).2
  obtain ⟨t0, t1, t2⟩ := three_cells (g3.cell h0 trivial) (g3.cell h1 trivial) (g3.cell h2 trivial) (.slice a1 S.length c1) (.int .u16 i) (.slice a2 out.length c2)
  have k : ∀ (w : World), Grows w wO → Kept (fun k => k ≠ g) w (((wO.setCell ⟨g, 0, none⟩ (.slice a1 S.length c1)).setCell ⟨g, 1, none⟩ (.int .u16 i)).setCell ⟨g, 2, none⟩ (.slice a2 out.length c2)) := fun w hw =>
    (((hw.mono (fun _ _ _ => trivial)).setCell (.inr (by simp)) _).setCell (.inr (by simp)) _).setCell (.inr (by simp)) _
  have nS : ∀ x, (Value.slice a1 S.length c1).ownBlock = some x → x ≠ g := fun x hx => by have := lS x hx; have := fS x hx; omega
  have nO : ∀ x, (Value.slice a2 out.length c2).ownBlock = some x → x ≠ g := fun x hx => by have := lO x hx; have := fO x hx; omega
  refine ⟨g, a1, a2, c1, c2, rfl, kept_grows (k W0 (((g0.trans g1).trans g2).trans g3)) hg, hg, ?_, t0, t1, t2, fun o => ?_, owns_kept oS (k wS (g2.trans g3)) nS, owns_kept oO (k wO (Kept.refl _ _)) nO, nS, nO, fun x hx hy => ?_, fun x hx => ?_, fun x hx => ?_⟩
  · simp [World.setCell]; omega
  · rw [World.frozen?_setCell, World.frozen?_setCell, World.frozen?_setCell, g3.frozens g o hgb]; exact hf o
  · have := lS x hx; have := fO x hy; omega
  · have := fS x hx; omega
  · have := fO x hx; omega

theorem Ints.kept {w w' : World} {k : IntKind} {v : Value} {xs : List Int} {p : Nat → Prop} (h : Ints w k v xs) (hk : Kept p w w') (hp : ∀ k, k < w.heap.size → p k) : Ints w' k v xs :=
  h.grows (hk.mono (fun k hk _ => hp k hk))

theorem Ints.take {w : World} {k : IntKind} {a : Option Addr} {n c : Nat} {xs ys : List Int} (h : Ints w k (.slice a n c) (xs ++ ys)) : Ints w k (.slice a xs.length c) xs := by
  obtain ⟨a', c', e, hc, hm, hw, hr⟩ := h
  injection e with e1 e2 e3
  subst e1 e3
  refine ⟨a, c, rfl, by simp at hc; omega, hm, fun x hx => hw x (by simp [hx]), fun hne => ?_⟩
  obtain ⟨b, o, rfl, hcell⟩ := hr (by simp [hne])
  refine ⟨b, o, rfl, fun j hj => ?_⟩
  rw [hcell j (by simp; omega)]
  simp [List.getElem?_append_left hj]

theorem bytes_bd {S : List Int} (h : ∀ x ∈ S, (Lit.int .u8 x).wf = true) (i : Nat) : ∀ j, 0 ≤ S.getD (i + j) 0 ∧ S.getD (i + j) 0 < 256 := by
  intro j
  by_cases hj : i + j < S.length
  · have := h (S.getD (i + j) 0) (by simp [List.getElem?_eq_getElem hj])
    have := bounds_u8 this
    omega
  · simp [List.getElem?_eq_none (Nat.le_of_not_lt hj)]

set_option maxRecDepth 100000 in
set_option maxHeartbeats 1000000 in
theorem unpackStep_walk (vS vO : Value) (i : Nat) (S out : List Int) (w : World) (hS : Ints w .u8 vS S) (hO : Ints w .u64 vO out) (hi1 : i < 65536) 
    (bS : S.length * 1 ≤ 140737488355328) (bO : out.length * 8 ≤ 140737488355328) :
    Calls Facg.prog 11 #[.agg #[vS, .int .u16 i, vO]] w fun e w' => e = .returned (.bool true) ∧ Grows w w' := by
  obtain ⟨aS, cS, rfl, hcS, hmS, hwS, hrS⟩ := id hS
  obtain ⟨aO, cO, rfl, hcO, hmO, hwO, hrO⟩ := id hO
  have HS : Hid (Ints w .u8 (.slice aS S.length cS) S) := hS
  have HO : Hid (Ints w .u64 (.slice aO out.length cO) out) := hO
  clear hwS hrS hwO hrO hS hO
  go_enter Facg.func11, Facg.ntmps11
  go_wp2
  go_cut [3] (fun s3 wc => CopyAt (w.alloc (.cells #[.slice aS S.length cS, .int .u16 i, .slice aO out.length cO] 74)) i S out s3 wc)
  case first =>
    go_region_held_law (fun w' => Grows (w.alloc (.cells #[.slice aS S.length cS, .int .u16 i, .slice aO out.length cO] 74)) w' ∧ w'.cell? ⟨w.heap.size, 0, none⟩ = some (.slice aS S.length cS) ∧ w'.cell? ⟨w.heap.size, 1, none⟩ = some (.int .u16 i) ∧ w'.cell? ⟨w.heap.size, 2, none⟩ = some (.slice aO out.length cO))
      ((refine held_of ?_ (by simp) (by simp) (by simp); repeat (first | exact Kept.refl _ _ | refine Kept.setCell ?_ (.inl (by simp only [World.size_alloc]; omega)) _ | refine Kept.alloc ?_ _ | refine Kept.drew ?_ | refine Kept.trans ?_ gS1 | refine Kept.trans ?_ gO1)))
      (first
        | (refine step_copyapp _ rfl (.tmp 5) 40 rfl 5 (.int .u8 0) 1 Facg.underlying40 info5 rfl .u8 _ S rfl (by exact (HS.out.grows ((Kept.refl _ _).alloc _)).grows (And.left (by assumption))) bS ?_; intro aS1 cS1 wS1 hS1 gS1 fS1; have lS1 := fun x hx => (hS1.lt x hx).2; have sS1 := gS1.size; (try simp only [World.size_alloc, World.size_drew] at sS1); have e1 := gS1.cells; have e2 := gS1.frozens; have e3 := fun (b : Nat) (hb : b < _) => Nat.lt_of_lt_of_le hb gS1.size)
        | (refine step_copyapp _ rfl (.tmp 10) 22 rfl 38 (.int .u64 0) 8 Facg.underlying22 info38 rfl .u64 _ out rfl (by exact (HO.out.grows ((Kept.refl _ _).alloc _)).grows (And.left (by assumption))) bO ?_; intro aO1 cO1 wO1 hO1 gO1 fO1; have lO1 := fun x hx => (hO1.lt x hx).2; have sO1 := gO1.size; (try simp only [World.size_alloc] at sO1); have e1 := gO1.cells; have e2 := gO1.frozens; have e3 := fun (b : Nat) (hb : b < _) => Nat.lt_of_lt_of_le hb gO1.size))
    all_goals go_wp2
    all_goals go_meet
    · exact copyAt_alloc ((Kept.refl _ _).drew.trans gS1) gO1 hS1 hO1 fS1 fO1
    · exact copyAt_store (z0 := .slice none 0 0) (z1 := .int .u16 0) (z2 := .slice none 0 0) (Kept.refl _ _).drew gS1 ((Kept.refl _ _).alloc _) gO1 hS1 hO1 fS1 fO1 (by simp only [World.size_alloc]; omega) (by simp) (.inr (Nat.le_refl _)) (by simp) (by simp) (by simp) (fun o => World.frozen?_alloc_at _ _ _ _ rfl)
    · exact copyAt_store (z0 := .slice none 0 0) (z1 := .int .u16 0) (z2 := .slice none 0 0) ((Kept.refl _ _).alloc _).drew gS1 (Kept.refl _ _) gO1 hS1 hO1 fS1 fO1 (by simp) (by omega) (.inl (by simp)) (gS1.cell (by simp) trivial) (gS1.cell (by simp) trivial) (gS1.cell (by simp) trivial) (fun o => by rw [gS1.frozens _ o (by simp)]; exact World.frozen?_alloc_at _ _ _ _ (by simp))
  case rest =>
    obtain ⟨g, a1, a2, c1, c2, rfl, hg0, hg1, hg2, d0, d1, d2, df, oS, oO, nS, nO, nSO, fS, fO⟩ := hcut
    have b0 : wc.cell? ⟨w.heap.size, 0, none⟩ = some (.slice aS S.length cS) := hg0.cell (by simp) trivial
    have b1 : wc.cell? ⟨w.heap.size, 1, none⟩ = some (.int .u16 i) := hg0.cell (by simp) trivial
    have b2 : wc.cell? ⟨w.heap.size, 2, none⟩ = some (.slice aO out.length cO) := hg0.cell (by simp) trivial
    have hgw : Grows w wc := ((Kept.refl _ _).alloc _).trans hg0
    unfold maxLen at hmS hmO
    by_cases hok : S.length ≤ 4096 ∧ (i : Int) ≤ S.length ∧ out.length ≤ 256
    · obtain ⟨k1, k2, k3⟩ := hok
      obtain ⟨_, _, _, _, _, hwS, _⟩ := HS.out
      obtain ⟨_, _, _, _, _, hwO, _⟩ := HO.out
      have iS1 : Ints wc .u8 (.slice a1 S.length c1) S := Ints.of_owns oS hwS
      have iO1 : Ints wc .u64 (.slice a2 out.length c2) out := Ints.of_owns oO hwO
      have iS0 : Ints wc .u8 (.slice aS S.length cS) S := HS.out.grows hgw
      have iO0 : Ints wc .u64 (.slice aO out.length cO) out := HO.out.grows hgw
      have hc1 : S.length ≤ c1 := by obtain ⟨_, _, e, h, _⟩ := iS1; injection e with _ _ e; omega
      have hB : ∀ j, 0 ≤ S.getD (i + j) 0 ∧ S.getD (i + j) 0 < 256 := bytes_bd hwS i
      have hSt : i < S.length → ∃ bs os, a1 = some ⟨bs, os, none⟩ ∧ bs ≠ g ∧ (Value.slice a2 out.length c2).ownBlock ≠ some bs ∧ ∀ j, i + j < S.length → wc.cell? ⟨bs, os + i + j, none⟩ = some (.int .u8 (S.getD (i + j) 0)) := by
        intro h
        obtain ⟨_, _, e, _, _, _, h2⟩ := iS1
        injection e with e1 _ _
        subst e1
        obtain ⟨bs, os, rfl, hcell⟩ := h2 (fun h0 => by subst h0; simp at h)
        exact ⟨bs, os, rfl, nS bs rfl, nSO bs rfl, fun j hj => by rw [Nat.add_assoc]; exact hcell (i + j) hj⟩
      have hsep : (Value.slice a2 out.length c2).ownBlock ≠ some g := fun h => nO g h rfl
      have hST := fun n => step_all g S.length c1 out.length i a1 (fun j => S.getD (i + j) 0) (.slice a2 out.length c2) (out.map (Value.int .u64)) (wc.drewN n) d0 d1 d2 df (owns_kept (p := fun _ => True) oO ((Kept.refl _ _).drewN n) (fun _ _ => trivial)) hsep k1 (by omega) k3 hc1 hB hSt
      have HST : Hid (∀ n, Calls Facg.prog 41 #[.pointer (some ⟨g, 0, none⟩)] (wc.drewN n) (StepPost (wc.drewN n) g (.slice a1 S.length c1) (.slice a2 out.length c2) i out.length (out.map (Value.int .u64)) (stepF (fun j => S.getD (i + j) 0) (S.length - i) out.length))) := hST
      clear hST hSt
      cases hr : stepF (fun j => S.getD (i + j) 0) (S.length - i) out.length with
      | none =>
        rw [hr] at HST
        clear hr
        go_wp2_with (first
          | (go_at_call 40; refine (check_yes g a1 a2 S.length c1 out.length c2 i _ (by simpa using d0) (by simpa using d1) (by simpa using d2) (by omega) (by omega) (by omega) (by omega)).mono ?_; rintro e w' ⟨rfl, k, rfl⟩)
          | (go_at_call 41; refine (HST.out _).mono ?_; rintro e w' ⟨rfl, k', rfl⟩)
          | (go_at_call 42; refine (same_bytes _ _ S _ (by exact iS1.grows ((Kept.refl _ _).drewN _)) (by exact iS0.grows ((Kept.refl _ _).drewN _))).mono ?_; rintro e w' ⟨rfl, k', rfl⟩)
          | (go_at_call 25; refine (same_words _ _ out out _ (by exact iO1.grows ((Kept.refl _ _).drewN _)) (by exact iO0.grows ((Kept.refl _ _).drewN _))).mono ?_; rintro e w' ⟨rfl, k', rfl⟩))
        go_ret
        exact ⟨rfl, hgw.drewN _⟩
      | some r =>
        obtain ⟨c, ws⟩ := r
        obtain ⟨q1, q2, q3, q4, q5⟩ := stepF_some hB hr
        rw [hr] at HST
        clear hr
        go_wp2_with (first
          | (go_at_call 40; refine (check_yes g a1 a2 S.length c1 out.length c2 i _ (by simpa using d0) (by simpa using d1) (by simpa using d2) (by omega) (by omega) (by omega) (by omega)).mono ?_; rintro e w' ⟨rfl, k, rfl⟩)
          | (go_at_call 41; refine (HST.out _).mono ?_; rintro e wf ⟨rfl, v', hcur⟩))
        have ho2 : wf.ownsRow 0 38 1 v' (out ++ ws).length ((out ++ ws).map (Value.int .u64)) := by simpa using hcur.owns
        obtain ⟨g3, c3, hv3, _, _⟩ := ho2.form (by simp; omega)
        subst hv3
        have iOf : Ints wf .u64 (.slice (some ⟨g3, 0, none⟩) (out ++ ws).length c3) (out ++ ws) := Ints.of_owns ho2 (fun x hx => by
          rcases List.mem_append.1 hx with h | h
          · exact hwO x h
          · exact wf_u64 (q5 x h).1 (q5 x h).2)
        have iOt := iOf.take
        have hc3 : (out ++ ws).length ≤ c3 := by obtain ⟨_, _, e, h, _⟩ := iOf; injection e with _ _ e; omega
        have hkw : Kept (fun k => k < (w.alloc (.cells #[.slice aS S.length cS, .int .u16 i, .slice aO out.length cO] 74)).heap.size) (w.alloc (.cells #[.slice aS S.length cS, .int .u16 i, .slice aO out.length cO] 74)) wf :=
          ((hg0.drewN k).mono (fun _ _ _ => trivial)).then hcur.kept (fun j hj _ => ⟨by omega, fun e => by have := fO j e.symm; omega⟩)
        have hkw0 : Grows w wf := ((Kept.refl _ _).alloc _).trans (hkw.mono (fun k hk _ => hk))
        have f0 := hcur.c0
        have f1 := hcur.c1
        have f2 := hcur.c2
        have g0 : wf.cell? ⟨w.heap.size, 0, none⟩ = some (.slice aS S.length cS) := hkw.cell (by simp) (by simp)
        have g1 : wf.cell? ⟨w.heap.size, 1, none⟩ = some (.int .u16 i) := hkw.cell (by simp) (by simp)
        have g2 : wf.cell? ⟨w.heap.size, 2, none⟩ = some (.slice aO out.length cO) := hkw.cell (by simp) (by simp)
        have jS1 : Ints wf .u8 (.slice a1 S.length c1) S := Ints.of_owns (owns_kept (owns_kept (p := fun _ => True) oS ((Kept.refl _ _).drewN k) (fun _ _ => trivial)) hcur.kept (fun x hx => ⟨nS x hx, fun e => nSO x hx e.symm⟩)) hwS
        have jS0 : Ints wf .u8 (.slice aS S.length cS) S := HS.out.grows hkw0
        have jO0 : Ints wf .u64 (.slice aO out.length cO) out := HO.out.grows hkw0
        have hl : (out ++ ws).length = out.length + ws.length := by simp
        rw [hl] at f2 iOf hc3
        clear HST hcur ho2 hkw d0 d1 d2 b0 b1 b2 df iOf hl
        have hd1 : decide ((i : Int) < (i : Int) + (c : Int)) = true := by simp; omega
        have hd2 : decide ((out.length : Int) < (out.length : Int) + (ws.length : Int)) = true := by simp; omega
        have hd3 : (out.length : Int) ≤ (c3 : Int) := by omega
        go_wp2_with fail
        go_quiet ((first
          | (go_at_call 40; exact Calls.quiet_of (check_yes g a1 (some ⟨g3, 0, none⟩) S.length c1 (out.length + ws.length) c3 ((i + c : Nat) : Int) _ (by simpa using f0) (by simpa using f1) (by simpa using f2) (by omega) (by omega) (by omega) (by omega)))
          | (go_at_call 42; exact Calls.quiet_of (same_bytes _ _ S _ (by exact jS1.grows ((Kept.refl _ _).drewN _)) (by exact jS0.grows ((Kept.refl _ _).drewN _))))
          | (go_at_call 25; exact Calls.quiet_of (same_words _ _ out out _ (by exact iOt.grows ((Kept.refl _ _).drewN _)) (by exact jO0.grows ((Kept.refl _ _).drewN _))))))
        go_wp2
        go_ret
        exact ⟨rfl, hkw0.drewN _⟩
    · go_wp2_with (go_at_call 40; refine (check_no g a1 a2 S.length c1 out.length c2 i _ d0 d1 d2 (by omega) (by omega) (by omega) (by omega) hok).mono ?_; rintro e w' ⟨rfl, k, rfl⟩)
      go_ret
      exact ⟨rfl, hgw.drewN k⟩
end Go.Proofs.Ygcfac
