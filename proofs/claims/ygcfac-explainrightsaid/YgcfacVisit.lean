import Derived.Test.YgcfacVModel
namespace Go.Proofs.Ygcfac
open Go.RowKit
set_option linter.unusedVariables false

theorem visitF_none {f : Nat → Int} {n left i : Nat} {L : List (Nat × Nat)} (h : resolveI f n i = none) : visitF f n left i L = none := by
  cases left <;> simp [visitF, h]
theorem visitF_null {f : Nat → Int} {n left i : Nat} {L : List (Nat × Nat)} {q : P} (h : resolveI f n i = some q) (hk : q.kind = 0) : visitF f n left i L = some L := by
  cases left <;> simp [visitF, h, hk]

theorem runs7_prefix (a d e q : Nat) {j m : Nat} (h : j ≤ m) : ∃ R, runs7 a d e q m = runs7 a d e q j ++ R := by
  induction m with
  | zero => exact ⟨[], by rw [show j = 0 by omega]; rfl⟩
  | succ m ih =>
    by_cases hj : j = m + 1
    · exact ⟨[], by rw [hj]; simp⟩
    · obtain ⟨R, hR⟩ := ih (by omega)
      exact ⟨R ++ runL (a + m * e + d) q, by rw [runs7_succ, hR, List.append_assoc]⟩
theorem fold_prefix_none {g : List (Nat × Nat) → Nat → Option (List (Nat × Nat))} {l R : List Nat} {L : List (Nat × Nat)} (h : l.foldlM g L = none) : (l ++ R).foldlM g L = none := by
  rw [List.foldlM_append, h]; rfl

/-- The first part of a visit, that all share: what does not resolve, null, and nothing left. -/
theorem visit_end (left : Nat) (hleft : left ≤ 8) (a : Option Addr) (n c : Nat) (f : Nat → Int) (i sg : Nat) (v : Value) (L : List (Nat × Nat)) (w : World) (hn : n ≤ 256) (hi : i < 65536) (hS : VS w a n f sg v L)
    (h : resolveI f n i = none ∨ (∃ q, resolveI f n i = some q ∧ (q.kind = 0 ∨ left = 0))) :
    Calls Facg.prog 91 #[.slice a n c, .int .i64 i, .int .i64 left, .pointer (some ⟨sg, 0, none⟩)] w (VPost w sg v (visitF f n left i L)) := by
  have HR := hide (resolve_any a n c i f w (by omega) hi hS.arena)
  have HS := hide hS
  clear hS
  rcases h with h | ⟨q, h, hq⟩
  · rw [h] at HR
    have HF := hide (visitF_none (left := left) (L := L) h)
    clear h
    unfold resV at HR
    simp only at HR
    go_enter Facg.func91, Facg.ntmps91
    go_wp2_with (first
      | (go_at_call 18; refine HR.out.mono ?_; rintro e w2 ⟨rfl, hg⟩; have HG := hide hg; clear hg))
    go_ret
    refine ⟨false, L, v, rfl, (HG.out.alloc _).mono (fun _ _ _ => trivial), HS.out.seen.grows (HG.out.alloc _), .inl rfl, HF.out, fun h => by cases h⟩
  · rw [h] at HR
    by_cases hk : q.kind = 0
    · have HF := hide (visitF_null (left := left) (L := L) h hk)
      have ek : (q.kind == 0) = true := by rw [hk]; rfl
      clear h hq hk
      unfold resV at HR
      simp only at HR
      go_enter Facg.func91, Facg.ntmps91
      go_wp2_with (first
        | (go_at_call 18; refine HR.out.mono ?_; rintro e w2 ⟨rfl, hg⟩; have HG := hide hg; clear hg))
      go_ret
      exact ⟨true, L, v, rfl, (HG.out.alloc _).mono (fun _ _ _ => trivial), HS.out.seen.grows (HG.out.alloc _), .inl rfl, HF.out, fun _ => HS.out.ok⟩
    · have hl := hq.resolve_left hk
      subst hl
      have HF : Hid (visitF f n 0 i L = none) := by unfold Hid; simp [visitF, h, hk]
      have ek : (q.kind == 0) = false := by rw [beq_eq_false_iff_ne]; exact hk
      clear h hq hk
      unfold resV at HR
      simp only at HR
      go_enter Facg.func91, Facg.ntmps91
      go_wp2_with (first
        | (go_at_call 18; refine HR.out.mono ?_; rintro e w2 ⟨rfl, hg⟩; have HG := hide hg; clear hg))
      go_ret
      exact ⟨false, L, v, rfl, (HG.out.alloc _).mono (fun _ _ _ => trivial), HS.out.seen.grows (HG.out.alloc _), .inl rfl, HF.out, fun h => by cases h⟩

set_option maxHeartbeats 2000000 in
set_option maxRecDepth 10000 in
theorem visit_go (left : Nat) (hleft : left < 8) (HV : VisitOk left) (a : Option Addr) (n c : Nat) (f : Nat → Int) (i sg : Nat) (v : Value) (L : List (Nat × Nat)) (w : World) (hn : n ≤ 256) (hi : i < 65536) (hS : VS w a n f sg v L)
    (k at_ d q cd m : Nat) (hr : resolveI f n i = some ⟨k, at_, d, q, cd, m⟩) (hk : ¬ k = 0) (hok : (P.mk k at_ d q cd m).Ok) (hin : insideI n ⟨k, at_, d, q, cd, m⟩ = true) :
    Calls Facg.prog 91 #[.slice a n c, .int .i64 i, .int .i64 ((left : Int) + 1), .pointer (some ⟨sg, 0, none⟩)] w (VPost w sg v (visitF f n (left + 1) i L)) := by
  have HR := hide (resolve_any a n c i f w (by omega) hi hS.arena)
  rw [hr] at HR
  have HF : Hid (visitF f n (left + 1) i L = if freeB ⟨k, at_, d, q, cd, m⟩ L = true ∧ paddedI f n ⟨k, at_, d, q, cd, m⟩ = true then (slotsL ⟨k, at_, d, q, cd, m⟩).foldlM (fun M s => visitF f n left s M) (gatherL ⟨k, at_, d, q, cd, m⟩ L) else none) := by
    unfold Hid
    rw [visitF, hr]
    simp only
    rw [if_neg (by omega)]
  have HS := hide hS
  have ek : ((k : Int) == 0) = false := by rw [beq_eq_false_iff_ne]; omega
  have HOK := hide hok
  have HIN := hide hin
  have HV := hide HV
  have hb := hok.at_
  have hb2 := hok.data
  have hb3 := hok.ptrs
  have hb4 := hok.count
  simp only at hb hb2 hb3 hb4
  clear hS hr hok hin
  unfold resV at HR
  simp only at HR
  have el : ((left : Int) + 1 == 0) = false := by rw [beq_eq_false_iff_ne]; omega
  go_enter Facg.func91, Facg.ntmps91
  go_wp2_with (first
    | (go_at_call 18; refine HR.out.mono ?_; rintro e w2 ⟨rfl, hg⟩; have HG := hide hg; clear hg))
  have HS2 := hide (HS.out.grows (HG.out.alloc (.cells #[.int .u8 k, .int .u16 at_, .int .u8 d, .int .u8 q, .int .u8 cd, .int .u16 m] 31)))
  refine (gather_any ⟨k, at_, d, q, cd, m⟩ n sg v L _ HOK.out HIN.out HS2.out.ok.pos (by have := HS2.out.ok.len; omega) (fun s hs => by have := HS2.out.ok.bd s hs; omega) HS2.out.seen).mono ?_
  rintro e w3 ⟨r, rfl, hfr, hk3, v3, hs3, hf3⟩
  have hsg2 : sg < w2.heap.size := (HS.out.seen.grows HG.out).lt
  have hv2 : some w2.heap.size ≠ v.ownBlock := by
    intro e
    obtain ⟨rb, cap, rfl⟩ := seen_form HS.out.seen HS.out.ok.pos
    have h1 := World.block_lt_of_cell? w ⟨rb, 0, none⟩ (seen_head HS.out.seen.own HS.out.ok.pos)
    have h2 : rb = w2.heap.size := by simpa [Value.ownBlock] using e.symm
    have := HG.out.size
    simp only at h1
    omega
  obtain ⟨b0, b1, b2, b3, b4, b5⟩ := (BoxP.box w2 ⟨k, at_, d, q, cd, m⟩ 31).kept hk3 ⟨by omega, hv2⟩
  simp only at b0 b1 b2 b3 b4 b5
  have HK3 := hide (((HG.out.alloc (.cells #[.int .u8 k, .int .u16 at_, .int .u8 d, .int .u8 q, .int .u8 cd, .int .u16 m] 31)).mono (q := fun k => k ≠ sg ∧ some k ≠ v.ownBlock) (fun _ _ _ => trivial)).trans hk3)
  have HF3 : Hid (Fresh w v v3) := by
    rcases hf3 with e | ⟨g, hg, e⟩
    · exact .inl e
    · exact .inr ⟨g, by have := HG.out.size; rw [World.size_alloc] at hg; omega, e⟩
  have hv3 : some w2.heap.size ≠ v3.ownBlock := Fresh.ne (w := w2.alloc (.cells #[.int .u8 k, .int .u16 at_, .int .u8 d, .int .u8 q, .int .u8 cd, .int .u16 m] 31)) hf3 (by rw [World.size_alloc]; omega) hv2
  have HV3 := hide hv3
  clear hv3
  cases r
  · have hs3' : SeenAt w3 sg v3 L := by simpa using hs3
    have hfb : ¬ freeB ⟨k, at_, d, q, cd, m⟩ L = true := fun h => by have := hfr.2 ((free_iff _ _).2 h); cases this
    have HS3 := hide hs3'
    have HFB := hide hfb
    clear hs3 hs3' hfb hfr hk3 hf3
    go_wp2
    go_ret
    refine ⟨false, L, v3, rfl, HK3.out, HS3.out, HF3.out, ?_, fun h => by cases h⟩
    rw [HF.out, if_neg (fun h => HFB.out h.1)]
    rfl
  · have hs3' : SeenAt w3 sg v3 (gatherL ⟨k, at_, d, q, cd, m⟩ L) := by simpa using hs3
    have hfree := hfr.1 rfl
    have HVS3 := hide (HS2.out.next hk3 hs3' hf3 (HS2.out.ok.gather HOK.out HIN.out hfree))
    have HFB := hide ((free_iff _ _).1 hfree)
    clear hs3 hs3' hfr hk3 hf3 hfree HR
    obtain ⟨x1, x2, x3, x4⟩ := inside_extent HOK.out HIN.out
    by_cases hk1 : k = 1
    · subst hk1
      obtain ⟨g1, g2, g3, g4, g5, g6⟩ := inside_kind1 HOK.out HIN.out rfl
      simp only at g1 g2 g3 g4 g5 g6
      have HSl : Hid (slotsL ⟨((1 : Nat) : Int), at_, d, q, cd, m⟩ = runL (at_ + d) q) := by
        unfold Hid slotsL
        rw [if_pos (by simp)]
        simp only [Int.toNat_natCast]
        congr 1
      have HPd : Hid (paddedI f n ⟨((1 : Nat) : Int), at_, d, q, cd, m⟩ = true) := by unfold Hid paddedI; rw [if_neg (by simp)]
      have HC := hide (fun w' (hvs : VS w' a n f sg v3 (gatherL ⟨((1 : Nat) : Int), at_, d, q, cd, m⟩ L)) => visitRun_any left (by omega) HV.out a n c f (at_ + d) q sg v3 _ w' hn (by omega) hvs)
      have hcast : ((at_ + d : Nat) : Int) = (at_ : Int) + (d : Int) := by omega
      rw [hcast] at HC
      clear hcast g2 g3 g4 g5 g6 x1 x2 x3 x4
      go_wp2
      go_quiet (fail)
      go_wp2_with (fail)
      refine (HC.out _ (HVS3.out.grows ((Kept.refl _ _).drewN _))).mono ?_
      intro e w4 hpost
      obtain ⟨r, M, v4, rfl, p1, p2, p3, p4, p5⟩ := VPost.from (HK3.out.drewN nq) HF3.out hpost
      have HP := hide (And.intro p1 (And.intro p2 (And.intro p3 (And.intro p4 p5))))
      clear hpost p1 p2 p3 p4 p5 HC
      go_wp2
      go_ret
      refine ⟨r, M, v4, rfl, HP.out.1, HP.out.2.1, HP.out.2.2.1, ?_, HP.out.2.2.2.2⟩
      rw [HF.out, if_pos ⟨HFB.out, HPd.out⟩, HSl.out]
      exact HP.out.2.2.2.1
    · have hk2 : k = 2 := by
        have := HIN.out
        unfold insideI at this
        simp at this
        omega
      subst hk2
      obtain ⟨g1, g2, g3, g4⟩ := inside_kind2 HOK.out HIN.out rfl
      simp only at g2
      by_cases h6 : cd = 6
      · subst h6
        have hw := words_code6 (p := ⟨((2 : Nat) : Int), at_, d, q, ((6 : Nat) : Int), m⟩) rfl g2 rfl
        have hf : (P.mk ((2 : Nat) : Int) at_ d q ((6 : Nat) : Int) m).first = at_ := by unfold P.first; rw [if_neg (by simp)]
        rw [hw, hf] at g3
        simp only at g3
        have HSl : Hid (slotsL ⟨((2 : Nat) : Int), at_, d, q, ((6 : Nat) : Int), m⟩ = runL at_ m) := by
          unfold Hid slotsL
          rw [if_neg (by simp), if_pos (by simp)]
          simp only [Int.toNat_natCast]
        have HPd : Hid (paddedI f n ⟨((2 : Nat) : Int), at_, d, q, ((6 : Nat) : Int), m⟩ = true) := by
          unfold Hid paddedI P.bytes widthI
          rw [if_neg (by simp)]
        have HC := hide (fun w' (hvs : VS w' a n f sg v3 (gatherL ⟨((2 : Nat) : Int), at_, d, q, ((6 : Nat) : Int), m⟩ L)) => visitRun_any left (by omega) HV.out a n c f at_ m sg v3 _ w' hn (by omega) hvs)
        clear hw hf g3 g4 x1 x2 x3 x4
        go_wp2
        go_quiet (fail)
        go_wp2_with (fail)
        refine (HC.out _ (HVS3.out.grows ((Kept.refl _ _).drewN _))).mono ?_
        intro e w4 hpost
        obtain ⟨r, M, v4, rfl, p1, p2, p3, p4, p5⟩ := VPost.from (HK3.out.drewN nq) HF3.out hpost
        have HP := hide (And.intro p1 (And.intro p2 (And.intro p3 (And.intro p4 p5))))
        clear hpost p1 p2 p3 p4 p5 HC
        go_wp2
        go_ret
        refine ⟨r, M, v4, rfl, HP.out.1, HP.out.2.1, HP.out.2.2.1, ?_, HP.out.2.2.2.2⟩
        rw [HF.out, if_pos ⟨HFB.out, HPd.out⟩, HSl.out]
        exact HP.out.2.2.2.1
      by_cases h7 : cd = 7
      · subst h7
        have hf : (P.mk ((2 : Nat) : Int) at_ d q ((7 : Nat) : Int) m).first = at_ - 1 := by unfold P.first; rw [if_pos ⟨by simp, by simp⟩]
        rw [hf] at g3 g4
        obtain ⟨k1, k2, k3⟩ := words_code7 (p := ⟨((2 : Nat) : Int), at_, d, q, ((7 : Nat) : Int), m⟩) rfl g2 rfl (by omega)
        rw [k3] at g3
        simp only at k1 k2 g3
        have hm : ((m * (d + q) : Nat) : Int) = (m : Int) * ((d : Int) + (q : Int)) := by simp
        have HSl : Hid (slotsL ⟨((2 : Nat) : Int), at_, d, q, ((7 : Nat) : Int), m⟩ = runs7 at_ d (d + q) q m) := by
          unfold Hid slotsL
          rw [if_neg (by simp), if_neg (by simp), if_pos (by simp)]
          simp only [Int.toNat_natCast]
          congr 1
        have HPd : Hid (paddedI f n ⟨((2 : Nat) : Int), at_, d, q, ((7 : Nat) : Int), m⟩ = true) := by
          unfold Hid paddedI P.bytes widthI
          rw [if_neg (by simp)]
        have hmx : at_ + m * (d + q) ≤ n + 1 := by omega
        have HVS4 := hide (fun nq => HVS3.out.grows ((Kept.refl _ _).drewN nq))
        generalize gatherL ⟨((2 : Nat) : Int), at_, d, q, ((7 : Nat) : Int), m⟩ L = L1 at *
        clear hf g3 g4 x1 x2 x3 x4 k3 hm
        go_wp2
        go_quiet (fail)
        go_wp2
        go_loopw [14] (fun t wr => ∃ j : Nat, t = .int .i64 j ∧ j ≤ m ∧ ∃ M v1, Kept (fun k => k ≠ sg ∧ some k ≠ v3.ownBlock) w3 wr ∧ Fresh w3 v3 v1 ∧ VS wr a n f sg v1 M ∧ (runs7 at_ d (d + q) q j).foldlM (fun M s => visitF f n left s M) L1 = some M) (fun t _ => m - (intOf t).toNat)
        case atStart => exact ⟨0, rfl, Nat.zero_le _, L1, v3, (Kept.refl _ _).drewN _, .inl rfl, HVS4.out nq, rfl⟩
        case round =>
          obtain ⟨j, rfl, hj, M, v1, hk', hf', hvs, hfold⟩ := hrel
          have c5 := hk'.cell b5 ⟨show w2.heap.size ≠ sg by omega, HV3.out⟩
          have HK := hide hk'
          have HFr := hide hf'
          have HVS := hide hvs
          have HFo := hide hfold
          clear hk' hf' hvs hfold b0 b1 b2 b3 b4 b5
          by_cases hlt : j < m
          · have hd : decide (j < m) = true := decide_eq_true hlt
            have m1 : j * (d + q) + (d + q) ≤ m * (d + q) := by rw [← Nat.succ_mul]; exact Nat.mul_le_mul_right _ hlt
            have HC := hide (visitRun_any left (by omega) HV.out a n c f (at_ + j * (d + q) + d) q sg v1 M wr hn (by omega) HVS.out)
            have hmul : (j : Int) * ((d : Int) + (q : Int)) = ((j * (d + q) : Nat) : Int) := by simp
            have p0 : 0 ≤ (j : Int) * ((d : Int) + (q : Int)) := by omega
            have p1 : (j : Int) * ((d : Int) + (q : Int)) ≤ 300 := by omega
            have hadd : ((at_ + j * (d + q) + d : Nat) : Int) = (at_ : Int) + (j : Int) * ((d : Int) + (q : Int)) + (d : Int) := by omega
            rw [hadd] at HC
            clear hmul hadd m1
            go_wp2_with (fail)
            refine HC.out.mono ?_
            rintro e w5 ⟨r, M', v5, rfl, hk5, hs5, hf5, hF5, hok5⟩
            have HK5 := hide (HK.out.then hk5 (fun i hi hp => ⟨hp.1, HFr.out.ne hi hp.2⟩))
            have HF5 := hide (HFr.out.trans hf5 HK.out.size)
            have HS5 := hide hs5
            have HN5 := hide (fun h => HVS.out.next hk5 hs5 hf5 (hok5 h))
            have HE5 : Hid ((runs7 at_ d (d + q) q (j + 1)).foldlM (fun M s => visitF f n left s M) L1 = if r then some M' else none) := by
              unfold Hid
              rw [runs7_succ, List.foldlM_append, HFo.out]
              exact hF5
            clear hk5 hs5 hf5 hF5 hok5 HC
            cases r
            · go_wp2
              go_ret
              refine ⟨false, M', v5, rfl, HK3.out.then HK5.out (fun i hi hp => ⟨hp.1, HF3.out.ne hi hp.2⟩), HS5.out, HF3.out.trans HF5.out HK3.out.size, ?_, fun h => by cases h⟩
              obtain ⟨R, hR⟩ := runs7_prefix at_ d (d + q) q (show j + 1 ≤ m by omega)
              rw [HF.out, if_pos ⟨HFB.out, HPd.out⟩, HSl.out, hR, fold_prefix_none HE5.out]
              rfl
            · go_wp2
              go_roundw
              case rel => exact ⟨j + 1, rfl, by omega, M', v5, HK5.out, HF5.out, HN5.out (by first | exact rfl | trivial), HE5.out⟩
              case measure => simp [intOf]; omega
          · have hd : decide (j < m) = false := decide_eq_false hlt
            go_wp2
            go_ret
            have hjm : j = m := by omega
            subst hjm
            refine ⟨true, M, v1, rfl, HK3.out.then HK.out (fun i hi hp => ⟨hp.1, HF3.out.ne hi hp.2⟩), HVS.out.seen, HF3.out.trans HFr.out HK3.out.size, ?_, fun _ => HVS.out.ok⟩
            rw [HF.out, if_pos ⟨HFB.out, HPd.out⟩, HSl.out, HFo.out]
            rfl
      · have HSl : Hid (slotsL ⟨((2 : Nat) : Int), at_, d, q, cd, m⟩ = []) := by
          unfold Hid slotsL
          rw [if_neg (by simp), if_neg (by simp; omega), if_neg (by simp; omega)]
        have hwle : wordsI ⟨((2 : Nat) : Int), at_, d, q, cd, m⟩ ≤ 256 := by omega
        have hcd : 2 ≤ (cd : Int) ∧ (cd : Int) ≤ 5 := by
          rcases Classical.em (2 ≤ (cd : Int) ∧ (cd : Int) ≤ 5) with h | h
          · exact h
          · exfalso
            have : wordsI ⟨((2 : Nat) : Int), at_, d, q, cd, m⟩ = 257 := by
              simp only [wordsI]
              rw [if_neg (by simp), if_neg (by simp), if_neg (by omega), if_neg h, if_neg (by omega), if_neg (by omega)]
            omega
        have HC := hide (fun w' hA => zt_any a n c f ⟨((2 : Nat) : Int), at_, d, q, cd, m⟩ w' HOK.out HIN.out rfl hcd.1 hcd.2 hA)
        unfold P.val at HC
        simp only at HC
        have e6 : ((cd : Int) == 6) = false := by rw [beq_eq_false_iff_ne]; omega
        have e7 : ((cd : Int) == 7) = false := by rw [beq_eq_false_iff_ne]; omega
        clear hwle x1 x2 x3 x4 g3 g4
        go_wp2
        go_quiet (fail)
        go_wp2_with (fail)
        refine (HC.out _ (HVS3.out.arena.grows ((Kept.refl _ _).drewN _))).mono ?_
        rintro e w4 ⟨rfl, hg4⟩
        have HG4 := hide (((Kept.refl (fun _ => True) _).drewN nq).trans hg4)
        clear hg4 HC
        go_wp2
        go_ret
        refine ⟨paddedI f n ⟨((2 : Nat) : Int), at_, d, q, cd, m⟩, gatherL ⟨((2 : Nat) : Int), at_, d, q, cd, m⟩ L, v3, rfl, HK3.out.trans (HG4.out.mono (fun _ _ _ => trivial)), HVS3.out.seen.grows HG4.out, HF3.out, ?_, fun _ => HVS3.out.ok⟩
        rw [HF.out, HSl.out]
        cases hpd : paddedI f n ⟨((2 : Nat) : Int), at_, d, q, cd, m⟩
        · rw [if_neg (by intro h; cases h.2)]; rfl
        · rw [if_pos ⟨HFB.out, rfl⟩]; rfl

theorem visit_all : ∀ left, left ≤ 8 → VisitOk left
  | 0, _ => fun a n c f i sg v L w hn hi hS => by
    refine visit_end 0 (by decide) a n c f i sg v L w hn hi hS ?_
    cases h : resolveI f n i with
    | none => exact .inl rfl
    | some q => exact .inr ⟨q, rfl, .inr rfl⟩
  | left + 1, hl => fun a n c f i sg v L w hn hi hS => by
    have IH := visit_all left (by omega)
    cases h : resolveI f n i with
    | none => exact visit_end (left + 1) hl a n c f i sg v L w hn hi hS (.inl h)
    | some q =>
      by_cases hk : q.kind = 0
      · exact visit_end (left + 1) hl a n c f i sg v L w hn hi hS (.inr ⟨q, h, .inl hk⟩)
      · obtain ⟨hok, _, hin⟩ := (resolve_fine hS.arena.1 h).resolve_left (by intro e; apply hk; rw [e])
        obtain ⟨k, at_, d, p, cd, m⟩ := q
        obtain ⟨k, rfl⟩ := Int.eq_ofNat_of_zero_le hok.kind.1
        obtain ⟨at_, rfl⟩ := Int.eq_ofNat_of_zero_le hok.at_.1
        obtain ⟨d, rfl⟩ := Int.eq_ofNat_of_zero_le hok.data.1
        obtain ⟨p, rfl⟩ := Int.eq_ofNat_of_zero_le hok.ptrs.1
        obtain ⟨cd, rfl⟩ := Int.eq_ofNat_of_zero_le hok.code.1
        obtain ⟨m, rfl⟩ := Int.eq_ofNat_of_zero_le hok.count.1
        exact visit_go left (by omega) IH a n c f i sg v L w hn hi hS k at_ d p cd m h (by simp only at hk; omega) hok hin
end Go.Proofs.Ygcfac
