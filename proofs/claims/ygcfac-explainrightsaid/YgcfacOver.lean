import Derived.Test.YgcfacMeets
namespace Go.Proofs.Ygcfac
open Go.RowKit
set_option linter.unusedVariables false

def Hit (f : Nat → Int) (n i : Nat) (q : P) (j : Nat) : Prop := j ≠ i ∧ Met f n j ∧ ∃ q', resolveI f n j = some q' ∧ q.first < q'.first + wordsI q' ∧ q'.first < q.first + wordsI q ∧ 0 < wordsI q ∧ 0 < wordsI q'

theorem hit_of {f : Nat → Int} {n i : Nat} {q : P} (hf : ∀ j, 0 ≤ f j ∧ f j < 18446744073709551616) (hq : Fine n q) (h : ∃ j q', j < n ∧ j ≠ i ∧ Met f n j ∧ resolveI f n j = some q' ∧ ∃ p, inExt q p ∧ inExt q' p) : ∃ j, j < n ∧ Hit f n i q j := by
  obtain ⟨j, q', h1, h2, h3, h4, p, h5, h6⟩ := h
  refine ⟨j, h1, h2, h3, q', h4, ?_⟩
  have h7 := resolve_fine hf h4
  have fst : ∀ x : P, Fine n x → inExt x p → 0 ≤ x.first ∧ 0 ≤ wordsI x := fun x hx hp => by
    rcases hx with rfl | ⟨ho, _, hin⟩
    · unfold inExt at hp
      have : wordsI ⟨0, 0, 0, 0, 0, 0⟩ = 0 := rfl
      rw [this] at hp
      simp at hp
      omega
    · exact ⟨(inside_extent ho hin).2.1, (pwords_bd x ho).1⟩
  have g1 := fst q hq h5
  have g2 := fst q' h7 h6
  unfold inExt at h5 h6
  omega

/-- What the draw's region holds on to: the cells of two boxes. -/
theorem held12 {W0 w' : World} {B C : Nat} {p q : P} (hg : Grows W0 w') (h : BoxP W0 B p) (h' : BoxP W0 C q) :
    Grows W0 w' ∧ w'.cell? ⟨B, 0, none⟩ = some (.int .u8 p.kind) ∧ w'.cell? ⟨B, 1, none⟩ = some (.int .u16 p.at_) ∧ w'.cell? ⟨B, 2, none⟩ = some (.int .u8 p.data) ∧ w'.cell? ⟨B, 3, none⟩ = some (.int .u8 p.ptrs) ∧ w'.cell? ⟨B, 4, none⟩ = some (.int .u8 p.code) ∧ w'.cell? ⟨B, 5, none⟩ = some (.int .u16 p.count) ∧
      w'.cell? ⟨C, 0, none⟩ = some (.int .u8 q.kind) ∧ w'.cell? ⟨C, 1, none⟩ = some (.int .u16 q.at_) ∧ w'.cell? ⟨C, 2, none⟩ = some (.int .u8 q.data) ∧ w'.cell? ⟨C, 3, none⟩ = some (.int .u8 q.ptrs) ∧ w'.cell? ⟨C, 4, none⟩ = some (.int .u8 q.code) ∧ w'.cell? ⟨C, 5, none⟩ = some (.int .u16 q.count) := by
  obtain ⟨a0, a1, a2, a3, a4, a5⟩ := h.kept hg trivial
  obtain ⟨b0, b1, b2, b3, b4, b5⟩ := h'.kept hg trivial
  exact ⟨hg, a0, a1, a2, a3, a4, a5, b0, b1, b2, b3, b4, b5⟩

set_option maxHeartbeats 20000000 in
set_option maxRecDepth 10000 in
theorem overlaps_any (g : Nat) (a : Option Addr) (n c i : Nat) (f : Nat → Int) (q : P) (w : World) (hn : n ≤ 256) (hi : i < n) (hA : ArenaAt w a n f) (hR : RAt w g (fun p d => d ≤ 8 ∧ Rch f n d p)) (hq : resolveI f n i = some q) (hex : ∃ j, j < n ∧ Hit f n i q j) :
    Calls Facg.prog 20 #[.pointer (some ⟨g, 0, none⟩), .slice a n c, .int .i64 i] w fun e w' => e = .returned (.bool true) ∧ Grows w w' := by
  have HA := hide (fun w' hg => hA.grows (w' := w') hg)
  have HF := hide hA.1
  have HR := hide (fun w' (hg : Grows w w') => hR.kept hg trivial)
  have HEx := hide hex
  have HQ := hide hq
  have HFi := hide (resolve_fine hA.1 hq)
  have HRes := hide (fun w' hg => resolve_any a n c i f w' (by omega) (by omega) (HA.out w' hg))
  rw [hq] at HRes
  unfold resV at HRes
  simp only at HRes
  have HMt := hide (fun j w' (hj : j < 256) hg => meets_any g j w' hj (HR.out w' hg))
  clear hA hR hex hq
  have HFp := hide (fun w => firstWord_any q HFi.out.ok w)
  have HWp := hide (fun w => ownWords_any q HFi.out.ok w)
  have hwb := pwords_bd q HFi.out.ok
  go_enter Facg.func20, Facg.ntmps20
  go_wp2_with (first
    | (go_at_call 18; (with_reducible refine (HRes.out _ (Kept.refl _ _)).mono ?_); rintro e w2 ⟨rfl, hg⟩; have HG2 := hide hg; clear hg))
  have HBx := hide (BoxP.box w2 q 31)
  have HG3 := hide (HG2.out.alloc (.cells #[.int .u8 q.kind, .int .u16 q.at_, .int .u8 q.data, .int .u8 q.ptrs, .int .u8 q.code, .int .u16 q.count] 31))
  clear HRes HG2
  generalize hW3 : w2.alloc (.cells #[.int .u8 q.kind, .int .u16 q.at_, .int .u8 q.data, .int .u8 q.ptrs, .int .u8 q.code, .int .u16 q.count] 31) = W3 at *
  clear hW3
  go_loopw [21] (fun t wr => ∃ j : Nat, t = .int .i64 j ∧ j ≤ n ∧ Grows W3 wr ∧ ∀ j', j' < j → ¬ Hit f n i q j') (fun t _ => n - (intOf t).toNat)
  case atStart => exact ⟨0, rfl, by omega, Kept.refl _ _, fun j' h => by omega⟩
  case round =>
    obtain ⟨j, rfl, hj, hg, hno⟩ := hrel
    have HG := hide hg
    have HNo := hide hno
    clear hg hno
    by_cases hjn : j < n
    · have hdj : decide (j < n) = true := decide_eq_true hjn
      have HRj := hide (fun w' hg => resolve_any a n c j f w' (by omega) (by omega) (HA.out w' hg))
      by_cases hji : j = i
      · subst hji
        rw [HQ.out] at HRj
        unfold resV at HRj
        simp only at HRj
        go_wp2_with (first
          | (go_at_call 18; (with_reducible refine (HRj.out _ (HG3.out.trans HG.out)).mono ?_); rintro e w4 ⟨rfl, hg⟩; have HG4 := hide (HG.out.trans hg); clear hg))
        go_roundw
        case rel => exact ⟨j + 1, rfl, by omega, HG4.out.alloc _, fun j' h => by
          by_cases e : j' = j
          · subst e; exact fun h => h.1 rfl
          · exact HNo.out j' (by omega)⟩
        case measure => simp [intOf]; omega
      · have heq : (j == i) = false := by rw [beq_eq_false_iff_ne]; exact hji
        cases hq' : resolveI f n j with
        | none =>
          have HQ' := hide hq'
          rw [hq'] at HRj
          unfold resV at HRj
          simp only at HRj
          clear hq'
          go_wp2_with (first
            | (go_at_call 18; (with_reducible refine (HRj.out _ (HG3.out.trans HG.out)).mono ?_); rintro e w4 ⟨rfl, hg⟩; have HG4 := hide (HG.out.trans hg); clear hg))
          go_roundw
          case rel => exact ⟨j + 1, rfl, by omega, HG4.out.alloc _, fun j' h => by
            by_cases e : j' = j
            · subst e
              rintro ⟨_, _, q', h1, _⟩
              rw [HQ'.out] at h1
              cases h1
            · exact HNo.out j' (by omega)⟩
          case measure => simp [intOf]; omega
        | some q' =>
          have HQ' := hide hq'
          have HFi' := hide (resolve_fine HF.out hq')
          rw [hq'] at HRj
          unfold resV at HRj
          simp only at HRj
          clear hq'
          have HMj := hide (fun w' hg => HMt.out j w' (by omega) hg)
          have HFq := hide (fun w => firstWord_any q' HFi'.out.ok w)
          have HWq := hide (fun w => ownWords_any q' HFi'.out.ok w)
          have hwb' := pwords_bd q' HFi'.out.ok
          go_wp2_with (first
            | (go_at_call 18; (with_reducible refine (HRj.out _ (HG3.out.trans HG.out)).mono ?_); rintro e w4 ⟨rfl, hg⟩; have HG4 := hide (HG.out.trans hg); clear hg)
            | (go_at_call 19; (with_reducible refine (HMj.out _ ((HG3.out.trans HG4.out).alloc _)).mono ?_); rintro e w5 ⟨r, rfl, rfl, hr⟩; have HMr := hide hr; clear hr; cases r))
          · go_roundw
            case rel => exact ⟨j + 1, rfl, by omega, HG4.out.alloc _, fun j' h => by
              by_cases e : j' = j
              · subst e
                rintro ⟨_, ⟨d, d1, d2⟩, _⟩
                have := HMr.out.2 ⟨d, by omega, d1, d2⟩
                cases this
              · exact HNo.out j' (by omega)⟩
            case measure => simp [intOf]; omega
          · have HMet : Hid (Met f n j) := by
              obtain ⟨d, _, d1, d2⟩ := HMr.out.1 (by first | exact rfl | trivial)
              exact ⟨d, d1, d2⟩
            have HBp := hide ((HBx.out.kept HG4.out trivial).kept ((Kept.refl (fun _ => True) w4).alloc (.cells #[.int .u8 q'.kind, .int .u16 q'.at_, .int .u8 q'.data, .int .u8 q'.ptrs, .int .u8 q'.code, .int .u16 q'.count] 31)) trivial)
            have HBq := hide (BoxP.box w4 q' 31)
            have HG5 := hide (HG4.out.alloc (.cells #[.int .u8 q'.kind, .int .u16 q'.at_, .int .u8 q'.data, .int .u8 q'.ptrs, .int .u8 q'.code, .int .u16 q'.count] 31))
            unfold P.val at HFp HWp HFq HWq
            generalize hW5 : w4.alloc (.cells #[.int .u8 q'.kind, .int .u16 q'.at_, .int .u8 q'.data, .int .u8 q'.ptrs, .int .u8 q'.code, .int .u16 q'.count] 31) = W5 at *
            clear hW5
            obtain ⟨fp, hfp⟩ : ∃ x, x = q.first := ⟨_, rfl⟩
            obtain ⟨fq, hfq⟩ : ∃ x, x = q'.first := ⟨_, rfl⟩
            obtain ⟨wp, hwp⟩ : ∃ x, x = wordsI q := ⟨_, rfl⟩
            obtain ⟨wq, hwq⟩ : ∃ x, x = wordsI q' := ⟨_, rfl⟩
            rw [← hfp] at HFp
            rw [← hfq] at HFq
            rw [← hwp] at HWp hwb
            rw [← hwq] at HWq hwb'
            have HNm := hide (And.intro hfp (And.intro hfq (And.intro hwp hwq)))
            clear hfp hfq hwp hwq
            have bp : -1 ≤ fp ∧ fp < 65536 := by rw [HNm.out.1]; have := HFi.out.ok.at_; unfold P.first; split <;> omega
            have bq : -1 ≤ fq ∧ fq < 65536 := by rw [HNm.out.2.1]; have := HFi'.out.ok.at_; unfold P.first; split <;> omega
            obtain ⟨ep, hep⟩ : ∃ x, x = fp + wp := ⟨_, rfl⟩
            obtain ⟨eq, heq'⟩ : ∃ x, x = fq + wq := ⟨_, rfl⟩
            have s1 : wrap64 (fp + wp) = ep := by unfold wrap64; omega
            have s2 : wrap64 (fq + wq) = eq := by unfold wrap64; omega
            have s3 : IntKind.i64.wrap (fp + wp) = ep := by rw [IntKind.wrap_i64]; omega
            have s4 : IntKind.i64.wrap (fq + wq) = eq := by rw [IntKind.wrap_i64]; omega
            have HEp := hide hep
            have HEq := hide heq'
            clear hep heq'
            obtain ⟨mx, m1, hmx⟩ : ∃ x, (if fp < fq then fq else fp) = x ∧ (x = fp ∧ fq ≤ fp ∨ x = fq ∧ fp ≤ fq) := by
              by_cases h : fp < fq
              · exact ⟨fq, by rw [if_pos h], .inr ⟨rfl, by omega⟩⟩
              · exact ⟨fp, by rw [if_neg h], .inl ⟨rfl, by omega⟩⟩
            obtain ⟨mn, n2, hmn⟩ : ∃ x, (if eq < ep then eq else ep) = x ∧ (x = ep ∧ ep ≤ eq ∨ x = eq ∧ eq ≤ ep) := by
              by_cases h : eq < ep
              · exact ⟨eq, by rw [if_pos h], .inr ⟨rfl, by omega⟩⟩
              · exact ⟨ep, by rw [if_neg h], .inl ⟨rfl, by omega⟩⟩
            have HMx := hide hmx
            have HMn := hide hmn
            clear hmx hmn
            go_region_held (fun w' => Grows W5 w' ∧ w'.cell? ⟨w2.heap.size, 0, none⟩ = some (.int .u8 q.kind) ∧ w'.cell? ⟨w2.heap.size, 1, none⟩ = some (.int .u16 q.at_) ∧ w'.cell? ⟨w2.heap.size, 2, none⟩ = some (.int .u8 q.data) ∧ w'.cell? ⟨w2.heap.size, 3, none⟩ = some (.int .u8 q.ptrs) ∧ w'.cell? ⟨w2.heap.size, 4, none⟩ = some (.int .u8 q.code) ∧ w'.cell? ⟨w2.heap.size, 5, none⟩ = some (.int .u16 q.count) ∧
                w'.cell? ⟨w4.heap.size, 0, none⟩ = some (.int .u8 q'.kind) ∧ w'.cell? ⟨w4.heap.size, 1, none⟩ = some (.int .u16 q'.at_) ∧ w'.cell? ⟨w4.heap.size, 2, none⟩ = some (.int .u8 q'.data) ∧ w'.cell? ⟨w4.heap.size, 3, none⟩ = some (.int .u8 q'.ptrs) ∧ w'.cell? ⟨w4.heap.size, 4, none⟩ = some (.int .u8 q'.code) ∧ w'.cell? ⟨w4.heap.size, 5, none⟩ = some (.int .u16 q'.count))
              ((first | assumption | exact held12 (Kept.refl _ _).drew HBp.out HBq.out | exact held12 (Kept.trans (And.left (by assumption)) hg) HBp.out HBq.out))
              ((first
                | (go_at_call 57; first | ((with_reducible refine (HFp.out _).mono ?_); rintro e wA ⟨rfl, hg⟩) | ((with_reducible refine (HFq.out _).mono ?_); rintro e wA ⟨rfl, hg⟩))
                | (go_at_call 21; first | ((with_reducible refine (HWp.out _).mono ?_); rintro e wA ⟨rfl, hg⟩) | ((with_reducible refine (HWq.out _).mono ?_); rintro e wA ⟨rfl, hg⟩))))
            all_goals
              have HGW : Hid (Grows W5 wA) := And.left (by assumption)
              cases hb : decide (mx < mn)
              · go_wp2
                go_roundw
                case rel => exact ⟨j + 1, rfl, by omega, HG5.out.trans HGW.out, fun j' h => by
                  by_cases e : j' = j
                  · subst e
                    rintro ⟨_, _, q'', h1, h2⟩
                    rw [HQ'.out] at h1
                    cases h1
                    have hb' := of_decide_eq_false hb
                    obtain ⟨e1, e2, e3, e4⟩ := HNm.out
                    have := HMx.out
                    have := HMn.out
                    have := HEp.out
                    have := HEq.out
                    omega
                  · exact HNo.out j' (by omega)⟩
                case measure => simp [intOf]; omega
              · go_wp2
                go_ret
                exact ⟨rfl, (HG3.out.trans HG5.out).trans HGW.out⟩
    · have hdj : decide (j < n) = false := decide_eq_false hjn
      exfalso
      obtain ⟨x, x1, x2⟩ := HEx.out
      exact HNo.out x (by omega) x2
end Go.Proofs.Ygcfac
