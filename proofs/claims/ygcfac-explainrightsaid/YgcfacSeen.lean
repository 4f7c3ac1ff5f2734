import Derived.Test.YgcfacZero
import Derived.Deep.RegionHeldLaw
import Derived.Deep.AppendLies
import Derived.Deep.RegionLaw
namespace Go.Proofs.Ygcfac
open Go.RowKit
set_option linter.unusedVariables false

/-- The cells of a row of spans. -/
def spanC : List (Nat × Nat) → List Value
  | [] => []
  | s :: L => .int .i64 s.1 :: .int .i64 s.2 :: spanC L
theorem spanC_length : ∀ L, (spanC L).length = L.length * 2
  | [] => rfl
  | s :: L => by simp [spanC, spanC_length L]; omega
theorem spanC_append : ∀ (L M : List (Nat × Nat)), spanC (L ++ M) = spanC L ++ spanC M
  | [], M => rfl
  | s :: L, M => by simp [spanC, spanC_append L M]
theorem spanC_get : ∀ (L : List (Nat × Nat)) (i : Nat) (s : Nat × Nat), L[i]? = some s → (spanC L)[i * 2]? = some (.int .i64 s.1) ∧ (spanC L)[i * 2 + 1]? = some (.int .i64 s.2)
  | [], i, s, h => by simp at h
  | x :: L, 0, s, h => by simp at h; subst h; simp [spanC]
  | x :: L, i + 1, s, h => by
    have := spanC_get L i s (by simpa using h)
    rw [show (i + 1) * 2 = i * 2 + 2 by omega]
    simpa [spanC] using this

/-- The spans gathered so far: a variable at the head of block sg, and the row that it names. -/
structure SeenAt (w : World) (sg : Nat) (v : Value) (L : List (Nat × Nat)) : Prop where
  cell : w.cell? ⟨sg, 0, none⟩ = some v
  free : w.frozen? ⟨sg, 0, none⟩ = false
  own : w.ownsRow 0 164 2 v L.length (spanC L)
  ne : v.ownBlock ≠ some sg
theorem SeenAt.kept {q : Nat → Prop} {w w' : World} {sg : Nat} {v : Value} {L : List (Nat × Nat)} (h : SeenAt w sg v L) (hk : Kept q w w') (h1 : q sg) (h2 : ∀ g, v.ownBlock = some g → q g) : SeenAt w' sg v L :=
  ⟨hk.cell h.cell h1, by rw [hk.frozen (q := ⟨sg, 0, none⟩) (show sg < w.heap.size from World.block_lt_of_cell? w ⟨sg, 0, none⟩ h.cell) h1]; exact h.free, owns_kept h.own hk h2, h.ne⟩
theorem SeenAt.lt {w : World} {sg : Nat} {v : Value} {L : List (Nat × Nat)} (h : SeenAt w sg v L) : sg < w.heap.size := World.block_lt_of_cell? w ⟨sg, 0, none⟩ h.cell
theorem SeenAt.grows {w w' : World} {sg : Nat} {v : Value} {L : List (Nat × Nat)} (h : SeenAt w sg v L) (hk : Grows w w') : SeenAt w' sg v L := h.kept hk trivial (fun _ _ => trivial)

/-- What a visit leaves: nothing but the seen spans has turned, and those lie where they lay, or in new memory. -/
def SeenTo (w : World) (sg : Nat) (v : Value) (L' : List (Nat × Nat)) (w' : World) : Prop :=
  Kept (fun k => k ≠ sg ∧ some k ≠ v.ownBlock) w w' ∧ ∃ v', SeenAt w' sg v' L' ∧ (v'.ownBlock = v.ownBlock ∨ ∃ g, w.heap.size ≤ g ∧ v'.ownBlock = some g)

theorem SeenTo.refl {w : World} {sg : Nat} {v : Value} {L : List (Nat × Nat)} (h : SeenAt w sg v L) {w' : World} (hg : Grows w w') : SeenTo w sg v L w' :=
  ⟨hg.mono (fun _ _ _ => trivial), v, h.grows hg, .inl rfl⟩

theorem row_cells {w : World} {g n cap : Nat} {xs : List Value} (h : w.ownsRow 0 164 2 (.slice (some ⟨g, 0, none⟩) n cap) n xs) (j : Nat) (u : Value) (hu : xs[j]? = some u) : w.cell? ⟨g, j, none⟩ = some u := by
  have := h.cells (g := g) rfl j u hu
  have hadd : (⟨g, 0, none⟩ : Addr).add j = ⟨g, j, none⟩ := by unfold Addr.add; split <;> simp_all
  rwa [hadd] at this

theorem info164 : (Facg.prog.info? 164).map (fun i => (i.zero, i.size, i.bytes)) = some (some (.agg #[.int .i64 0, .int .i64 0]), 2, 16) := by kernel_rfl

/-- append, in a region that draws its order. -/
theorem step_app {P : Program} (w : World) {ops : Array Oper} {o : Oper} {a : Act} {K : Act → World → Prop} {Q : Exit → Act → World → Prop} {E : Prop} (hgd : o.guard = none) (s x : Operand) (t : TypeId)
    (ho : o.op = .call { callee := .builtin .append, args := #[s, x], argTypes := #[t, t] })
    (e : TypeId) (z : Value) (size bytes : Nat) (ht : P.underlying t = some (.slice e)) (hi : (P.info? e).map (fun i => (i.zero, i.size, i.bytes)) = some (some z, size, bytes)) (hzs : z.cells.size = size) (hsz : 0 < size)
    (v : Value) (n : Nat) (xs : List Value) (hs : a.eval s = v) (hown : w.ownsRow 0 e size v n xs)
    (ad : Addr) (m c : Nat) (news : List Value) (hx : a.eval x = .slice (some ad) m c) (hl : news.length = m * size) (hnews : ∀ j u, news[j]? = some u → w.cell? (ad.add j) = some u) (h1 : ∀ u ∈ news, u.oneCell' = true)
    (h63 : n + m ≤ maxLen) (hbytes : (n + m) * bytes ≤ 140737488355328)
    (h : ∀ a' c' w', w'.ownsRow 0 e size (.slice a' (n + m) c') (n + m) (xs ++ news) → Kept (fun k => some k ≠ v.ownBlock) w w' → ((Value.slice a' (n + m) c').ownBlock = v.ownBlock ∨ ∃ g, w.heap.size ≤ g ∧ (Value.slice a' (n + m) c').ownBlock = some g) → K (a.put o.dst (.slice a' (n + m) c')) w') :
    if Region.wanted o (yielded ops a.tmps) = true then Oper.wp P o a w K Q else E := by
  rw [if_pos (by simp [Region.wanted, hgd])]
  obtain ⟨i, hi, hz, hsize, hby⟩ := info_parts hi
  obtain ⟨v', w', hr, h2, h3, h4⟩ := run_app (P := P) w t o.type e i z size bytes ht hi hz hsize hby hzs hsz v n xs hown ad m c news hl hnews h1 h63 hbytes
  unfold Oper.wp execOp
  simp only [ho, resolve, invoke, builtin, Sem.run_bind, Sem.run_pure, Result.andThen_ok, List.map_toArray, List.map_cons, List.map_nil, hs, hx, hr]
  obtain ⟨a', c', rfl⟩ := owns_slice h2
  exact h a' c' w' h2 h3 h4

/-- Two spans share a word. -/
def meets (s o : Nat × Nat) : Bool := decide (s.1 < o.2) && decide (o.1 < s.2)

theorem gather_zero (p : P) (sg : Nat) (v : Value) (L : List (Nat × Nat)) (w : World) (hp : p.Ok) (h0 : wordsI p = 0) (hS : SeenAt w sg v L) :
    Calls Facg.prog 143 #[p.val, .pointer (some ⟨sg, 0, none⟩)] w fun e w' => e = .returned (.bool true) ∧ SeenTo w sg v L w' := by
  have HW := hide (fun w => pwords_any p hp w)
  rw [h0] at HW
  have HS := hide hS
  clear h0 hp hS
  unfold P.val at *
  go_enter Facg.func143, Facg.ntmps143
  go_wp2_with (first
    | (go_at_call 74; refine (HW.out _).mono ?_; rintro e w2 ⟨rfl, hg⟩; have HG := hide (((Kept.refl _ _).alloc _).trans hg); clear hg))
  go_ret
  exact ⟨rfl, .refl HS.out HG.out⟩

/-- The loop over the spans seen. -/
def GatL (L : List (Nat × Nat)) (w2 : World) (B lo hi i : Nat) (wr : World) : Prop :=
  i ≤ L.length ∧ Grows w2 wr ∧ wr.cell? ⟨B, 0, none⟩ = some (.int .i64 lo) ∧ wr.cell? ⟨B, 1, none⟩ = some (.int .i64 hi) ∧ ∀ j s, j < i → L[j]? = some s → meets (lo, hi) s = false

theorem gatL_next {L : List (Nat × Nat)} {w2 wr : World} {B lo hi i : Nat} {s : Nat × Nat} (h : GatL L w2 B lo hi i wr) (hlt : i < L.length) (hs : L[i]? = some s) (hm : meets (lo, hi) s = false) (o : Obj) : GatL L w2 B lo hi (i + 1) (wr.alloc o) := by
  obtain ⟨h1, h2, h3, h4, h5⟩ := h
  refine ⟨by omega, h2.alloc _, ((Kept.refl (fun _ => True) _).alloc _).cell h3 trivial, ((Kept.refl (fun _ => True) _).alloc _).cell h4 trivial, fun j x hj hx => ?_⟩
  by_cases e : j = i
  · subst e
    rw [hs] at hx
    injection hx with hx
    rw [← hx]; exact hm
  · exact h5 j x (by omega) hx

theorem two_news {w : World} {B : Nat} {x y : Value} (h0 : w.cell? ⟨B, 0, none⟩ = some x) (h1 : w.cell? ⟨B, 1, none⟩ = some y) : ∀ j u, [x, y][j]? = some u → w.cell? ((⟨B, 0, none⟩ : Addr).add j) = some u := by
  intro j u hu
  have hadd : (⟨B, 0, none⟩ : Addr).add j = ⟨B, j, none⟩ := by unfold Addr.add; split <;> simp_all
  rw [hadd]
  match j, hu with
  | 0, hu => simp at hu; subst hu; exact h0
  | 1, hu => simp at hu; subst hu; exact h1

theorem seen_head {w : World} {rb cap : Nat} {L : List (Nat × Nat)} (h : w.ownsRow 0 164 2 (.slice (some ⟨rb, 0, none⟩) L.length cap) L.length (spanC L)) (hL : 0 < L.length) : w.cell? ⟨rb, 0, none⟩ = some (.int .i64 (L[0]).1) := by
  have := (spanC_get L 0 _ (List.getElem?_eq_getElem hL)).1
  exact row_cells h 0 _ (by simpa using this)

theorem seen_after {wr wx w' : World} {sg rb cap : Nat} {L : List (Nat × Nat)} (h : SeenAt wr sg (.slice (some ⟨rb, 0, none⟩) L.length cap) L) (hg : Grows wr wx) (hk : Kept (fun k => some k ≠ (Value.slice (some ⟨rb, 0, none⟩) L.length cap).ownBlock) wx w') :
    w'.cell? ⟨sg, 0, none⟩ = some (.slice (some ⟨rb, 0, none⟩) L.length cap) ∧ w'.frozen? ⟨sg, 0, none⟩ = false := by
  have h2 := h.grows hg
  exact ⟨hk.cell h2.cell (fun e => h.ne e.symm), by rw [hk.frozen (q := ⟨sg, 0, none⟩) h2.lt (fun e => h.ne e.symm)]; exact h2.free⟩

theorem seen_done {w wr wx w' : World} {sg rb cap lo hi : Nat} {L : List (Nat × Nat)} {a' : Option Addr} {c' : Nat} (h : SeenAt w sg (.slice (some ⟨rb, 0, none⟩) L.length cap) L) (hg0 : Grows w wr) (hg : Grows wr wx)
    (ho : w'.ownsRow 0 164 2 (.slice a' (L.length + 1) c') (L.length + 1) (spanC L ++ [.int .i64 lo, .int .i64 hi])) (hk : Kept (fun k => some k ≠ (Value.slice (some ⟨rb, 0, none⟩) L.length cap).ownBlock) wx w')
    (hb : (Value.slice a' (L.length + 1) c').ownBlock = (Value.slice (some ⟨rb, 0, none⟩) L.length cap).ownBlock ∨ ∃ g, wx.heap.size ≤ g ∧ (Value.slice a' (L.length + 1) c').ownBlock = some g) :
    SeenTo w sg (.slice (some ⟨rb, 0, none⟩) L.length cap) (L ++ [(lo, hi)]) (w'.setCell ⟨sg, 0, none⟩ (.slice a' (L.length + 1) c')) := by
  have hgx := hg0.trans hg
  obtain ⟨q0, qf⟩ := seen_after (h.grows hg0) hg hk
  have hlt := (h.grows hgx).lt
  have hne : (Value.slice a' (L.length + 1) c').ownBlock ≠ some sg := by
    rcases hb with e | ⟨g, hg1, e⟩
    · rw [e]; exact h.ne
    · rw [e]
      intro e2
      injection e2 with e2
      omega
  refine ⟨((hgx.mono (fun _ _ _ => trivial)).trans (hk.mono (fun k _ hk' => hk'.2))).setCell (.inr (fun h => h.1 rfl)) _, .slice a' (L.length + 1) c', ⟨World.cell?_setCell_same _ _ _ q0, by rw [World.frozen?_setCell]; exact qf, ?_, hne⟩, ?_⟩
  · have e1 : spanC (L ++ [(lo, hi)]) = spanC L ++ [.int .i64 lo, .int .i64 hi] := by rw [spanC_append]; rfl
    rw [e1, List.length_append]
    exact owns_kept ho ((Kept.refl (fun k => k ≠ sg) w').setCell (.inr (fun h => h rfl)) _) (fun g hg e => hne (by rw [hg, e]))
  · rcases hb with e | ⟨g, hg1, e⟩
    · exact .inl e
    · exact .inr ⟨g, Nat.le_trans hgx.size hg1, e⟩

set_option maxHeartbeats 2000000 in
set_option maxRecDepth 10000 in
theorem gather_go (k at_ d q cd m : Int) (lo hi W : Nat) (sg rb cap : Nat) (L : List (Nat × Nat)) (w : World) (hp : (P.mk k at_ d q cd m).Ok) (hW : wordsI (P.mk k at_ d q cd m) = W) (h0 : ¬ W = 0) (hin : hi ≤ 256) (hhi : hi = lo + W) (k2 c7 : Bool) (hk2 : (k == 2) = k2) (hc7 : (cd == 7) = c7) (hlo : at_ = if k2 && c7 then (lo : Int) + 1 else lo)
    (hL : 0 < L.length) (hLm : L.length ≤ 1000000) (hB : ∀ s ∈ L, s.1 ≤ 256 ∧ s.2 ≤ 256) (hS : SeenAt w sg (.slice (some ⟨rb, 0, none⟩) L.length cap) L) :
    Calls Facg.prog 143 #[.agg #[.int .u8 k, .int .u16 at_, .int .u8 d, .int .u8 q, .int .u8 cd, .int .u16 m], .pointer (some ⟨sg, 0, none⟩)] w fun e w' => ∃ r, e = .returned (.bool r) ∧ (r = true ↔ ∀ o ∈ L, meets (lo, hi) o = false) ∧ SeenTo w sg (.slice (some ⟨rb, 0, none⟩) L.length cap) (if r then L ++ [(lo, hi)] else L) w' := by
  have HW := hide (fun w => pwords_any _ hp w)
  rw [hW] at HW
  have hat := hp.at_
  simp only at hat
  have HS := hide hS
  have HB := hide hB
  have hslt := hS.lt
  clear hp hS hW hB
  unfold P.val at *
  simp only at *
  have e0 : ((W : Int) == 0) = false := by rw [beq_eq_false_iff_ne]; omega
  have HBX := hide (BoxP.box w (P.mk k at_ d q cd m) 31)
  have hsum : (lo : Int) + (W : Int) = (hi : Int) := by omega
  have HHi := hide hhi
  clear hhi
  have hlo' : ∀ b : Bool, (k2 && c7) = b → at_ = if b then (lo : Int) + 1 else lo := fun b hb => by rw [← hb]; exact hlo
  clear hlo
  cases k2
  · have hlo := hlo' false rfl
    simp only [Bool.false_eq_true, if_false] at hlo
    clear hlo'
    subst hlo
    go_enter Facg.func143, Facg.ntmps143
    go_wp2_with (first
      | (go_at_call 74; refine (HW.out _).mono ?_; rintro e w2 ⟨rfl, hg⟩; obtain ⟨b0, b1, b2, b3, b4, b5⟩ := HBX.out.kept hg trivial; simp only at b0 b1 b2 b3 b4 b5; have hs2 : w.heap.size < w2.heap.size := World.block_lt_of_cell? w2 ⟨w.heap.size, 0, none⟩ b0; have HG := hide (((Kept.refl _ _).alloc _).trans hg); have hc2 := HG.out.cell HS.out.cell trivial; have hsl2 : sg < w2.heap.size := World.block_lt_of_cell? w2 ⟨sg, 0, none⟩ hc2; clear hg))
    clear b0 b1 b2 b3 b4 b5 hc2 HBX
    go_loopw [43] (fun t wr => ∃ i : Nat, t = .int .i64 i ∧ GatL L w2 w2.heap.size lo hi i wr) (fun t _ => L.length - (intOf t).toNat)
    case atStart => exact ⟨0, rfl, Nat.zero_le _, (Kept.refl _ _).alloc _, by simp, by simp, fun j s hj => by omega⟩
    case round =>
      obtain ⟨i, rfl, hi', hg, c0, c1, hno⟩ := hrel
      have hBlt : w2.heap.size < wr.heap.size := World.block_lt_of_cell? wr ⟨w2.heap.size, 0, none⟩ c0
      have HGr := hide (HG.out.trans hg)
      have HG2r := hide hg
      have HN := hide hno
      clear hg hno
      by_cases hlt : i < L.length
      · have hd : decide (i < L.length) = true := decide_eq_true hlt
        obtain ⟨⟨s1, s2⟩, hs⟩ : ∃ s, L[i]? = some s := ⟨L[i], List.getElem?_eq_getElem hlt⟩
        have hbd := HB.out _ (List.mem_of_getElem? hs)
        simp only at hbd
        have x0 := HGr.out.cell (row_cells HS.out.own _ _ (spanC_get L i _ hs).1) trivial
        have x1 := HGr.out.cell (row_cells HS.out.own _ _ (spanC_get L i _ hs).2) trivial
        simp only at x0 x1
        have HSs := hide hs
        clear hs
        cases t1 : decide (lo < s2) with
        | false =>
          have HM : Hid (meets (lo, hi) (s1, s2) = false) := by unfold Hid meets; simp only; rw [t1]; rfl
          go_wp2
          go_roundw
          case rel => exact ⟨i + 1, rfl, gatL_next ⟨hi', HG2r.out, c0, c1, HN.out⟩ hlt HSs.out HM.out _⟩
          case measure => simp [intOf]; omega
        | true =>
          cases t2 : decide (s1 < hi) with
          | false =>
            have HM : Hid (meets (lo, hi) (s1, s2) = false) := by unfold Hid meets; simp only; rw [t1, t2]; rfl
            go_wp2
            go_roundw
            case rel => exact ⟨i + 1, rfl, gatL_next ⟨hi', HG2r.out, c0, c1, HN.out⟩ hlt HSs.out HM.out _⟩
            case measure => simp [intOf]; omega
          | true =>
            have HM : Hid (meets (lo, hi) (s1, s2) = true) := by unfold Hid meets; simp only; rw [t1, t2]; rfl
            go_wp2
            go_ret
            refine ⟨false, rfl, ⟨fun h => (by cases h), fun h => ?_⟩, .refl HS.out (HGr.out.alloc _)⟩
            have := h _ (List.mem_of_getElem? HSs.out)
            rw [HM.out] at this
            cases this
      · have hd : decide (i < L.length) = false := decide_eq_false hlt
        have HNone : Hid (∀ o ∈ L, meets (lo, hi) o = false) := fun o ho => by
          obtain ⟨j, hj⟩ := List.getElem?_of_mem ho
          exact HN.out j o (by have := (List.getElem?_eq_some_iff.1 hj).1; omega) hj
        have HSr := hide (HS.out.grows HGr.out)
        have hrb : rb < w.heap.size := World.block_lt_of_cell? w ⟨rb, 0, none⟩ (seen_head HS.out.own hL)
        have hrs : rb ≠ sg := fun e => HS.out.ne (by rw [e]; rfl)
        have hwr : w.heap.size ≤ wr.heap.size := HGr.out.size
        have n0 := HSr.out.cell
        have hsl3 : sg < wr.heap.size := HSr.out.lt
        go_wp2
        go_cut [66] (fun _ wc => SeenTo w sg (.slice (some ⟨rb, 0, none⟩) L.length cap) (L ++ [(lo, hi)]) wc)
        case first =>
          go_region_law (refine step_app _ rfl (.tmp 63) (.tmp 65) 165 rfl 164 (.agg #[.int .i64 0, .int .i64 0]) 2 16 Facg.underlying165 info164 rfl (by decide) (.slice (some ⟨rb, 0, none⟩) L.length cap) L.length (spanC L) rfl (by exact (HSr.out.grows (by repeat (first | exact Kept.refl _ _ | refine Kept.drew ?_ | refine Kept.alloc ?_ _))).own) ⟨wr.heap.size, 0, none⟩ 1 1 [.int .i64 lo, .int .i64 hi] rfl rfl (two_news (by simp) (by simp)) (by simp [Value.oneCell']) (by unfold maxLen; omega) (by omega) ?_; intro a' c' w' ho hk hb'; obtain ⟨q0, qf⟩ := seen_after HSr.out (by repeat (first | exact Kept.refl _ _ | refine Kept.drew ?_ | refine Kept.alloc ?_ _)) hk; have HD := hide (seen_done (lo := lo) (hi := hi) HS.out HGr.out (by repeat (first | exact Kept.refl _ _ | refine Kept.drew ?_ | refine Kept.alloc ?_ _)) ho hk hb'); clear hk ho hb')
          all_goals go_wp2
          all_goals go_meet
          all_goals exact HD.out
        case rest =>
          have HD := hide hcut
          clear hcut n0
          go_wp2
          go_ret
          exact ⟨true, rfl, ⟨fun _ => HNone.out, fun _ => rfl⟩, HD.out⟩
  · cases c7
    · have hlo := hlo' false rfl
      simp only [Bool.false_eq_true, if_false] at hlo
      clear hlo'
      subst hlo
      go_enter Facg.func143, Facg.ntmps143
      go_wp2_with (first
        | (go_at_call 74; refine (HW.out _).mono ?_; rintro e w2 ⟨rfl, hg⟩; obtain ⟨b0, b1, b2, b3, b4, b5⟩ := HBX.out.kept hg trivial; simp only at b0 b1 b2 b3 b4 b5; have hs2 : w.heap.size < w2.heap.size := World.block_lt_of_cell? w2 ⟨w.heap.size, 0, none⟩ b0; have HG := hide (((Kept.refl _ _).alloc _).trans hg); have hc2 := HG.out.cell HS.out.cell trivial; have hsl2 : sg < w2.heap.size := World.block_lt_of_cell? w2 ⟨sg, 0, none⟩ hc2; clear hg))
      clear b0 b1 b2 b3 b4 b5 hc2 HBX
      go_loopw [43] (fun t wr => ∃ i : Nat, t = .int .i64 i ∧ GatL L w2 w2.heap.size lo hi i wr) (fun t _ => L.length - (intOf t).toNat)
      case atStart => exact ⟨0, rfl, Nat.zero_le _, (Kept.refl _ _).alloc _, by simp, by simp, fun j s hj => by omega⟩
      case round =>
        obtain ⟨i, rfl, hi', hg, c0, c1, hno⟩ := hrel
        have hBlt : w2.heap.size < wr.heap.size := World.block_lt_of_cell? wr ⟨w2.heap.size, 0, none⟩ c0
        have HGr := hide (HG.out.trans hg)
        have HG2r := hide hg
        have HN := hide hno
        clear hg hno
        by_cases hlt : i < L.length
        · have hd : decide (i < L.length) = true := decide_eq_true hlt
          obtain ⟨⟨s1, s2⟩, hs⟩ : ∃ s, L[i]? = some s := ⟨L[i], List.getElem?_eq_getElem hlt⟩
          have hbd := HB.out _ (List.mem_of_getElem? hs)
          simp only at hbd
          have x0 := HGr.out.cell (row_cells HS.out.own _ _ (spanC_get L i _ hs).1) trivial
          have x1 := HGr.out.cell (row_cells HS.out.own _ _ (spanC_get L i _ hs).2) trivial
          simp only at x0 x1
          have HSs := hide hs
          clear hs
          cases t1 : decide (lo < s2) with
          | false =>
            have HM : Hid (meets (lo, hi) (s1, s2) = false) := by unfold Hid meets; simp only; rw [t1]; rfl
            go_wp2
            go_roundw
            case rel => exact ⟨i + 1, rfl, gatL_next ⟨hi', HG2r.out, c0, c1, HN.out⟩ hlt HSs.out HM.out _⟩
            case measure => simp [intOf]; omega
          | true =>
            cases t2 : decide (s1 < hi) with
            | false =>
              have HM : Hid (meets (lo, hi) (s1, s2) = false) := by unfold Hid meets; simp only; rw [t1, t2]; rfl
              go_wp2
              go_roundw
              case rel => exact ⟨i + 1, rfl, gatL_next ⟨hi', HG2r.out, c0, c1, HN.out⟩ hlt HSs.out HM.out _⟩
              case measure => simp [intOf]; omega
            | true =>
              have HM : Hid (meets (lo, hi) (s1, s2) = true) := by unfold Hid meets; simp only; rw [t1, t2]; rfl
              go_wp2
              go_ret
              refine ⟨false, rfl, ⟨fun h => (by cases h), fun h => ?_⟩, .refl HS.out (HGr.out.alloc _)⟩
              have := h _ (List.mem_of_getElem? HSs.out)
              rw [HM.out] at this
              cases this
        · have hd : decide (i < L.length) = false := decide_eq_false hlt
          have HNone : Hid (∀ o ∈ L, meets (lo, hi) o = false) := fun o ho => by
            obtain ⟨j, hj⟩ := List.getElem?_of_mem ho
            exact HN.out j o (by have := (List.getElem?_eq_some_iff.1 hj).1; omega) hj
          have HSr := hide (HS.out.grows HGr.out)
          have hrb : rb < w.heap.size := World.block_lt_of_cell? w ⟨rb, 0, none⟩ (seen_head HS.out.own hL)
          have hrs : rb ≠ sg := fun e => HS.out.ne (by rw [e]; rfl)
          have hwr : w.heap.size ≤ wr.heap.size := HGr.out.size
          have n0 := HSr.out.cell
          have hsl3 : sg < wr.heap.size := HSr.out.lt
          go_wp2
          go_cut [66] (fun _ wc => SeenTo w sg (.slice (some ⟨rb, 0, none⟩) L.length cap) (L ++ [(lo, hi)]) wc)
          case first =>
            go_region_law (refine step_app _ rfl (.tmp 63) (.tmp 65) 165 rfl 164 (.agg #[.int .i64 0, .int .i64 0]) 2 16 Facg.underlying165 info164 rfl (by decide) (.slice (some ⟨rb, 0, none⟩) L.length cap) L.length (spanC L) rfl (by exact (HSr.out.grows (by repeat (first | exact Kept.refl _ _ | refine Kept.drew ?_ | refine Kept.alloc ?_ _))).own) ⟨wr.heap.size, 0, none⟩ 1 1 [.int .i64 lo, .int .i64 hi] rfl rfl (two_news (by simp) (by simp)) (by simp [Value.oneCell']) (by unfold maxLen; omega) (by omega) ?_; intro a' c' w' ho hk hb'; obtain ⟨q0, qf⟩ := seen_after HSr.out (by repeat (first | exact Kept.refl _ _ | refine Kept.drew ?_ | refine Kept.alloc ?_ _)) hk; have HD := hide (seen_done (lo := lo) (hi := hi) HS.out HGr.out (by repeat (first | exact Kept.refl _ _ | refine Kept.drew ?_ | refine Kept.alloc ?_ _)) ho hk hb'); clear hk ho hb')
            all_goals go_wp2
            all_goals go_meet
            all_goals exact HD.out
          case rest =>
            have HD := hide hcut
            clear hcut n0
            go_wp2
            go_ret
            exact ⟨true, rfl, ⟨fun _ => HNone.out, fun _ => rfl⟩, HD.out⟩
    · have hlo := hlo' true rfl
      simp only [if_true] at hlo
      clear hlo'
      subst hlo
      have hsum2 : (lo : Int) + 1 + (W : Int) = (hi : Int) + 1 := by omega
      go_enter Facg.func143, Facg.ntmps143
      go_wp2_with (first
        | (go_at_call 74; refine (HW.out _).mono ?_; rintro e w2 ⟨rfl, hg⟩; obtain ⟨b0, b1, b2, b3, b4, b5⟩ := HBX.out.kept hg trivial; simp only at b0 b1 b2 b3 b4 b5; have hs2 : w.heap.size < w2.heap.size := World.block_lt_of_cell? w2 ⟨w.heap.size, 0, none⟩ b0; have HG := hide (((Kept.refl _ _).alloc _).trans hg); have hc2 := HG.out.cell HS.out.cell trivial; have hsl2 : sg < w2.heap.size := World.block_lt_of_cell? w2 ⟨sg, 0, none⟩ hc2; clear hg))
      clear b0 b1 b2 b3 b4 b5 hc2 HBX
      go_loopw [43] (fun t wr => ∃ i : Nat, t = .int .i64 i ∧ GatL L w2 w2.heap.size lo hi i wr) (fun t _ => L.length - (intOf t).toNat)
      case atStart => exact ⟨0, rfl, Nat.zero_le _, (Kept.refl _ _).alloc _, by simp, by simp, fun j s hj => by omega⟩
      case round =>
        obtain ⟨i, rfl, hi', hg, c0, c1, hno⟩ := hrel
        have hBlt : w2.heap.size < wr.heap.size := World.block_lt_of_cell? wr ⟨w2.heap.size, 0, none⟩ c0
        have HGr := hide (HG.out.trans hg)
        have HG2r := hide hg
        have HN := hide hno
        clear hg hno
        by_cases hlt : i < L.length
        · have hd : decide (i < L.length) = true := decide_eq_true hlt
          obtain ⟨⟨s1, s2⟩, hs⟩ : ∃ s, L[i]? = some s := ⟨L[i], List.getElem?_eq_getElem hlt⟩
          have hbd := HB.out _ (List.mem_of_getElem? hs)
          simp only at hbd
          have x0 := HGr.out.cell (row_cells HS.out.own _ _ (spanC_get L i _ hs).1) trivial
          have x1 := HGr.out.cell (row_cells HS.out.own _ _ (spanC_get L i _ hs).2) trivial
          simp only at x0 x1
          have HSs := hide hs
          clear hs
          cases t1 : decide (lo < s2) with
          | false =>
            have HM : Hid (meets (lo, hi) (s1, s2) = false) := by unfold Hid meets; simp only; rw [t1]; rfl
            go_wp2
            go_roundw
            case rel => exact ⟨i + 1, rfl, gatL_next ⟨hi', HG2r.out, c0, c1, HN.out⟩ hlt HSs.out HM.out _⟩
            case measure => simp [intOf]; omega
          | true =>
            cases t2 : decide (s1 < hi) with
            | false =>
              have HM : Hid (meets (lo, hi) (s1, s2) = false) := by unfold Hid meets; simp only; rw [t1, t2]; rfl
              go_wp2
              go_roundw
              case rel => exact ⟨i + 1, rfl, gatL_next ⟨hi', HG2r.out, c0, c1, HN.out⟩ hlt HSs.out HM.out _⟩
              case measure => simp [intOf]; omega
            | true =>
              have HM : Hid (meets (lo, hi) (s1, s2) = true) := by unfold Hid meets; simp only; rw [t1, t2]; rfl
              go_wp2
              go_ret
              refine ⟨false, rfl, ⟨fun h => (by cases h), fun h => ?_⟩, .refl HS.out (HGr.out.alloc _)⟩
              have := h _ (List.mem_of_getElem? HSs.out)
              rw [HM.out] at this
              cases this
        · have hd : decide (i < L.length) = false := decide_eq_false hlt
          have HNone : Hid (∀ o ∈ L, meets (lo, hi) o = false) := fun o ho => by
            obtain ⟨j, hj⟩ := List.getElem?_of_mem ho
            exact HN.out j o (by have := (List.getElem?_eq_some_iff.1 hj).1; omega) hj
          have HSr := hide (HS.out.grows HGr.out)
          have hrb : rb < w.heap.size := World.block_lt_of_cell? w ⟨rb, 0, none⟩ (seen_head HS.out.own hL)
          have hrs : rb ≠ sg := fun e => HS.out.ne (by rw [e]; rfl)
          have hwr : w.heap.size ≤ wr.heap.size := HGr.out.size
          have n0 := HSr.out.cell
          have hsl3 : sg < wr.heap.size := HSr.out.lt
          go_wp2
          go_cut [66] (fun _ wc => SeenTo w sg (.slice (some ⟨rb, 0, none⟩) L.length cap) (L ++ [(lo, hi)]) wc)
          case first =>
            go_region_law (refine step_app _ rfl (.tmp 63) (.tmp 65) 165 rfl 164 (.agg #[.int .i64 0, .int .i64 0]) 2 16 Facg.underlying165 info164 rfl (by decide) (.slice (some ⟨rb, 0, none⟩) L.length cap) L.length (spanC L) rfl (by exact (HSr.out.grows (by repeat (first | exact Kept.refl _ _ | refine Kept.drew ?_ | refine Kept.alloc ?_ _))).own) ⟨wr.heap.size, 0, none⟩ 1 1 [.int .i64 lo, .int .i64 hi] rfl rfl (two_news (by simp) (by simp)) (by simp [Value.oneCell']) (by unfold maxLen; omega) (by omega) ?_; intro a' c' w' ho hk hb'; obtain ⟨q0, qf⟩ := seen_after HSr.out (by repeat (first | exact Kept.refl _ _ | refine Kept.drew ?_ | refine Kept.alloc ?_ _)) hk; have HD := hide (seen_done (lo := lo) (hi := hi) HS.out HGr.out (by repeat (first | exact Kept.refl _ _ | refine Kept.drew ?_ | refine Kept.alloc ?_ _)) ho hk hb'); clear hk ho hb')
            all_goals go_wp2
            all_goals go_meet
            all_goals exact HD.out
          case rest =>
            have HD := hide hcut
            clear hcut n0
            go_wp2
            go_ret
            exact ⟨true, rfl, ⟨fun _ => HNone.out, fun _ => rfl⟩, HD.out⟩

theorem seen_form {w : World} {sg : Nat} {v : Value} {L : List (Nat × Nat)} (h : SeenAt w sg v L) (hL : 0 < L.length) : ∃ rb cap, v = .slice (some ⟨rb, 0, none⟩) L.length cap := by
  obtain ⟨g, c, h1, _⟩ := h.own.form hL
  exact ⟨g, c, h1⟩

/-- The span of an object. -/
def spanOf (q : P) : Nat × Nat := (q.first.toNat, q.first.toNat + (wordsI q).toNat)
/-- What gather adds. -/
def gatherL (q : P) (L : List (Nat × Nat)) : List (Nat × Nat) := if wordsI q = 0 then L else L ++ [spanOf q]
def free (q : P) (L : List (Nat × Nat)) : Prop := wordsI q = 0 ∨ ∀ o ∈ L, meets (spanOf q) o = false

theorem gather_any (q : P) (n sg : Nat) (v : Value) (L : List (Nat × Nat)) (w : World) (hp : q.Ok) (hin : insideI n q = true) (hL : 0 < L.length) (hLm : L.length ≤ 1000000) (hB : ∀ s ∈ L, s.1 ≤ 256 ∧ s.2 ≤ 256) (hS : SeenAt w sg v L) :
    Calls Facg.prog 143 #[q.val, .pointer (some ⟨sg, 0, none⟩)] w fun e w' => ∃ r, e = .returned (.bool r) ∧ (r = true ↔ free q L) ∧ SeenTo w sg v (if r then gatherL q L else L) w' := by
  by_cases h0 : wordsI q = 0
  · refine (gather_zero q sg v L w hp h0 hS).mono ?_
    rintro e w' ⟨rfl, h⟩
    refine ⟨true, rfl, ⟨fun _ => .inl h0, fun _ => rfl⟩, ?_⟩
    unfold gatherL
    rw [if_pos h0]
    simpa using h
  · obtain ⟨rb, cap, rfl⟩ := seen_form hS hL
    obtain ⟨x1, x2, x3, x4⟩ := inside_extent hp hin
    obtain ⟨W, hW⟩ := Int.eq_ofNat_of_zero_le (pwords_bd q hp).1
    have e1 : (spanOf q).1 = q.first.toNat := rfl
    have e2 : (spanOf q).2 = q.first.toNat + W := by unfold spanOf; simp only; omega
    have hlo : q.at_ = if (q.kind == 2) && (q.code == 7) then (q.first.toNat : Int) + 1 else q.first.toNat := by
      have hf : q.first = if q.kind = 2 ∧ q.code = 7 then q.at_ - 1 else q.at_ := rfl
      by_cases h7 : q.kind = 2 ∧ q.code = 7
      · rw [if_pos h7] at hf
        rw [if_pos (by simp [h7.1, h7.2])]
        omega
      · rw [if_neg h7] at hf
        rw [if_neg (by intro h; rw [Bool.and_eq_true, beq_iff_eq, beq_iff_eq] at h; exact h7 h)]
        omega
    refine (gather_go q.kind q.at_ q.data q.ptrs q.code q.count q.first.toNat (q.first.toNat + W) W sg rb cap L w hp hW (by omega) (by omega) rfl _ _ rfl rfl hlo hL hLm hB hS).mono ?_
    rintro e w' ⟨r, rfl, h1, h2⟩
    have hsp : spanOf q = (q.first.toNat, q.first.toNat + W) := Prod.ext rfl e2
    refine ⟨r, rfl, ?_, ?_⟩
    · unfold free
      rw [h1, hsp]
      constructor
      · exact fun h => .inr h
      · intro h
        rcases h with h | h
        · exact absurd h h0
        · exact h
    · unfold gatherL
      rw [if_neg h0, hsp]
      exact h2
end Go.Proofs.Ygcfac
