import Derived.Test.YgcfacSeen
namespace Go.Proofs.Ygcfac
open Go.RowKit
set_option linter.unusedVariables false

/-! ### The plain model of vmodel.visit -/
def freeB (q : P) (L : List (Nat × Nat)) : Bool := decide (wordsI q = 0) || L.all fun o => !meets (spanOf q) o
theorem free_iff (q : P) (L : List (Nat × Nat)) : free q L ↔ freeB q L = true := by
  unfold free freeB
  simp [List.all_eq_true]

def visitF (f : Nat → Int) (n : Nat) : Nat → Nat → List (Nat × Nat) → Option (List (Nat × Nat))
  | 0, i, L => match resolveI f n i with
    | none => none
    | some q => if q.kind = 0 then some L else none
  | left + 1, i, L => match resolveI f n i with
    | none => none
    | some q => if q.kind = 0 then some L else if freeB q L = true ∧ paddedI f n q = true then (slotsL q).foldlM (fun M s => visitF f n left s M) (gatherL q L) else none

/-- The spans gathered do not meet, and none is empty. -/
structure SpanOk (L : List (Nat × Nat)) : Prop where
  pos : 0 < L.length
  bd : ∀ s ∈ L, s.1 < s.2 ∧ s.2 ≤ 256
  apart : L.Pairwise fun s o => meets s o = false

theorem SpanOk.len {L : List (Nat × Nat)} (h : SpanOk L) : L.length ≤ 256 := by
  have h1 : (L.map (·.1)).length ≤ (List.range 256).length := nodup_le (by
    rw [List.Nodup, List.pairwise_map]
    refine List.Pairwise.imp_of_mem ?_ h.apart
    intro a b ha hb hm e
    have h1 := h.bd a ha
    have h2 := h.bd b hb
    unfold meets at hm
    simp at hm
    omega) (fun x hx => by
      rw [List.mem_map] at hx
      obtain ⟨s, hs, rfl⟩ := hx
      have := h.bd s hs
      exact List.mem_range.2 (by omega))
  simpa using h1

theorem meets_comm (s o : Nat × Nat) : meets s o = meets o s := by unfold meets; exact Bool.and_comm _ _

theorem SpanOk.gather {L : List (Nat × Nat)} {n : Nat} {q : P} (h : SpanOk L) (hok : q.Ok) (hin : insideI n q = true) (hf : free q L) : SpanOk (gatherL q L) := by
  unfold gatherL
  by_cases h0 : wordsI q = 0
  · rw [if_pos h0]; exact h
  · rw [if_neg h0]
    obtain ⟨x1, x2, x3, x4⟩ := inside_extent hok hin
    have hb := pwords_bd q hok
    have hfr := hf.resolve_left h0
    refine ⟨by simp, fun s hs => ?_, ?_⟩
    · rcases List.mem_append.1 hs with hs | hs
      · exact h.bd s hs
      · simp at hs
        subst hs
        unfold spanOf
        simp only
        omega
    · rw [List.pairwise_append]
      refine ⟨h.apart, by simp, fun a ha b hb => ?_⟩
      simp at hb
      subst hb
      rw [meets_comm]
      exact hfr a ha

/-! ### The state of a visit -/
structure VS (w : World) (a : Option Addr) (n : Nat) (f : Nat → Int) (sg : Nat) (v : Value) (L : List (Nat × Nat)) : Prop where
  arena : ArenaAt w a n f
  apart : ∀ b o, a = some ⟨b, o, none⟩ → b < w.heap.size ∧ b ≠ sg ∧ some b ≠ v.ownBlock
  seen : SeenAt w sg v L
  ok : SpanOk L

def Fresh (w : World) (v v' : Value) : Prop := v'.ownBlock = v.ownBlock ∨ ∃ g, w.heap.size ≤ g ∧ v'.ownBlock = some g
theorem Fresh.trans {w w1 : World} {v v1 v2 : Value} (h : Fresh w v v1) (h1 : Fresh w1 v1 v2) (hs : w.heap.size ≤ w1.heap.size) : Fresh w v v2 := by
  rcases h1 with e | ⟨g, hg, e⟩
  · rcases h with e2 | ⟨g2, hg2, e2⟩
    · exact .inl (e.trans e2)
    · exact .inr ⟨g2, hg2, e.trans e2⟩
  · exact .inr ⟨g, Nat.le_trans hs hg, e⟩
theorem Fresh.ne {w : World} {v v' : Value} {b : Nat} (h : Fresh w v v') (hb : b < w.heap.size) (hv : some b ≠ v.ownBlock) : some b ≠ v'.ownBlock := by
  rcases h with e | ⟨g, hg, e⟩
  · rw [e]; exact hv
  · rw [e]
    intro e2
    injection e2 with e2
    omega

theorem ArenaAt.keptBy {q : Nat → Prop} {w w' : World} {a : Option Addr} {n : Nat} {f : Nat → Int} (h : ArenaAt w a n f) (hk : Kept q w w') (hne : ∀ b o, a = some ⟨b, o, none⟩ → q b) : ArenaAt w' a n f := by
  refine ⟨h.1, fun hn => ?_⟩
  obtain ⟨b, o, rfl, hc⟩ := h.2 hn
  exact ⟨b, o, rfl, fun j hj => hk.cell (hc j hj) (hne b o rfl)⟩

theorem VS.grows {w w' : World} {a : Option Addr} {n : Nat} {f : Nat → Int} {sg : Nat} {v : Value} {L : List (Nat × Nat)} (h : VS w a n f sg v L) (hg : Grows w w') : VS w' a n f sg v L :=
  ⟨h.arena.grows hg, fun b o e => ⟨Nat.lt_of_lt_of_le (h.apart b o e).1 hg.size, (h.apart b o e).2⟩, h.seen.grows hg, h.ok⟩

/-- From a visit's state to the next. -/
theorem VS.next {w w' : World} {a : Option Addr} {n : Nat} {f : Nat → Int} {sg : Nat} {v v' : Value} {L L' : List (Nat × Nat)} (h : VS w a n f sg v L) (hk : Kept (fun k => k ≠ sg ∧ some k ≠ v.ownBlock) w w') (hs : SeenAt w' sg v' L') (hf : Fresh w v v') (hok : SpanOk L') : VS w' a n f sg v' L' :=
  ⟨h.arena.keptBy hk (fun b o e => (h.apart b o e).2), fun b o e => ⟨Nat.lt_of_lt_of_le (h.apart b o e).1 hk.size, (h.apart b o e).2.1, hf.ne (h.apart b o e).1 (h.apart b o e).2.2⟩, hs, hok⟩

/-- What a visit answers. -/
def VPost (w : World) (sg : Nat) (v : Value) (F : Option (List (Nat × Nat))) (e : Ending) (w' : World) : Prop :=
  ∃ r L' v', e = .returned (.bool r) ∧ Kept (fun k => k ≠ sg ∧ some k ≠ v.ownBlock) w w' ∧ SeenAt w' sg v' L' ∧ Fresh w v v' ∧ F = (if r then some L' else none) ∧ (r = true → SpanOk L')

theorem VPost.from {w w1 : World} {sg : Nat} {v v1 : Value} {F : Option (List (Nat × Nat))} {e : Ending} {w' : World} (hk : Kept (fun k => k ≠ sg ∧ some k ≠ v.ownBlock) w w1) (hf : Fresh w v v1) (h : VPost w1 sg v1 F e w') : VPost w sg v F e w' := by
  obtain ⟨r, L', v', h1, h2, h3, h4, h5, h6⟩ := h
  exact ⟨r, L', v', h1, hk.then h2 (fun i hi hp => ⟨hp.1, hf.ne hi hp.2⟩), h3, hf.trans h4 hk.size, h5, h6⟩

/-- visit, of one level. -/
def VisitOk (left : Nat) : Prop := ∀ (a : Option Addr) (n c : Nat) (f : Nat → Int) (i sg : Nat) (v : Value) (L : List (Nat × Nat)) (w : World), n ≤ 256 → i < 65536 → VS w a n f sg v L →
  Calls Facg.prog 91 #[.slice a n c, .int .i64 i, .int .i64 left, .pointer (some ⟨sg, 0, none⟩)] w (VPost w sg v (visitF f n left i L))

theorem runL_cons (i m : Nat) : runL i (m + 1) = i :: runL (i + 1) m := by
  unfold runL
  rw [List.range_succ_eq_map, List.map_cons, List.map_map]
  simp
  intro a _
  omega

set_option maxRecDepth 10000 in
theorem visitRun_any (left : Nat) (hleft : left ≤ 8) (HV : VisitOk left) (a : Option Addr) (n c : Nat) (f : Nat → Int) (i m sg : Nat) (v : Value) (L : List (Nat × Nat)) (w : World) (hn : n ≤ 256) (him : i + m ≤ 65536) (hS : VS w a n f sg v L) :
    Calls Facg.prog 144 #[.slice a n c, .int .i64 i, .int .i64 m, .int .i64 left, .pointer (some ⟨sg, 0, none⟩)] w (VPost w sg v ((runL i m).foldlM (fun M s => visitF f n left s M) L)) := by
  have HV := hide HV
  have HS := hide hS
  clear hS
  go_enter Facg.func144, Facg.ntmps144
  go_wp2
  go_loopw [11] (fun t wr => ∃ j : Nat, t = .int .i64 j ∧ j ≤ m ∧ ∃ M v1, Kept (fun k => k ≠ sg ∧ some k ≠ v.ownBlock) w wr ∧ Fresh w v v1 ∧ VS wr a n f sg v1 M ∧ (runL i m).foldlM (fun M s => visitF f n left s M) L = (runL (i + j) (m - j)).foldlM (fun M s => visitF f n left s M) M) (fun t _ => m - (intOf t).toNat)
  case atStart => exact ⟨0, rfl, Nat.zero_le _, L, v, Kept.refl _ _, .inl rfl, HS.out, rfl⟩
  case round =>
    obtain ⟨j, rfl, hj, M, v1, hk, hf, hvs, hfold⟩ := hrel
    have HK := hide hk
    have HF := hide hf
    have HVS := hide hvs
    have HFo := hide hfold
    clear hk hf hvs hfold
    by_cases hlt : j < m
    · have hd : decide (j < m) = true := decide_eq_true hlt
      have HC := hide (HV.out a n c f (i + j) sg v1 M wr hn (by omega) HVS.out)
      have hcast : ((i + j : Nat) : Int) = (i : Int) + (j : Int) := by omega
      rw [hcast] at HC
      clear hcast
      have HHead : Hid ((runL (i + j) (m - j)).foldlM (fun M s => visitF f n left s M) M = (visitF f n left (i + j) M) >>= fun M' => (runL (i + (j + 1)) (m - (j + 1))).foldlM (fun M s => visitF f n left s M) M') := by
        unfold Hid
        rw [show m - j = (m - (j + 1)) + 1 by omega, runL_cons, List.foldlM_cons, Nat.add_assoc]
      go_wp2_with (fail)
      refine HC.out.mono ?_
      rintro e w2 ⟨r, M', v2, rfl, hk2, hs2, hf2, hF2, hok2⟩
      have HK2 := hide (HK.out.then hk2 (fun i hi hp => ⟨hp.1, HF.out.ne hi hp.2⟩))
      have HF2 := hide (HF.out.trans hf2 HK.out.size)
      have HS2 := hide hs2
      have HE2 := hide hF2
      have HN := hide (fun h => HVS.out.next hk2 hs2 hf2 (hok2 h))
      clear hk2 hs2 hf2 hF2 hok2 HC
      cases r
      · go_wp2
        go_ret
        refine ⟨false, M', v2, rfl, HK2.out, HS2.out, HF2.out, ?_, fun h => by cases h⟩
        rw [HFo.out, HHead.out, HE2.out]
        rfl
      · go_wp2
        go_roundw
        case rel =>
          refine ⟨j + 1, rfl, by omega, M', v2, HK2.out, HF2.out, HN.out (by first | exact rfl | trivial), ?_⟩
          rw [HFo.out, HHead.out, HE2.out]
          rfl
        case measure => simp [intOf]; omega
    · have hd : decide (j < m) = false := decide_eq_false hlt
      go_wp2
      go_ret
      have hjm : m - j = 0 := by omega
      refine ⟨true, M, v1, rfl, HK.out, HVS.out.seen, HF.out, ?_, fun _ => HVS.out.ok⟩
      rw [HFo.out, hjm]
      rfl
end Go.Proofs.Ygcfac
