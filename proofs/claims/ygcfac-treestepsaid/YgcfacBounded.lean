/-
  (*Tree).bounded.
-/
import Derived.Test.YgcfacBnd
namespace Go.Proofs.Ygcfac
open Go.RowKit
set_option linter.unusedVariables false

/-- n cells at the head of block g. -/
def Arr (w : World) (g n : Nat) (F : Nat → Value) : Prop := (∀ k, k < n → w.cell? ⟨g, k, none⟩ = some (F k)) ∧ ∀ j, w.frozen? ⟨g, j, none⟩ = false

theorem Arr.lt {w : World} {g n : Nat} {F : Nat → Value} (h : Arr w g n F) (hn : 0 < n) : g < w.heap.size := World.block_lt_of_cell? w ⟨g, 0, none⟩ (h.1 0 hn)
theorem Arr.kept {q : Nat → Prop} {w w' : World} {g n : Nat} {F : Nat → Value} (h : Arr w g n F) (hn : 0 < n) (hk : Kept q w w') (hq : q g) : Arr w' g n F :=
  ⟨fun k hkn => hk.cell (h.1 k hkn) hq, fun j => by rw [hk.frozen (q := ⟨g, j, none⟩) (h.lt hn) hq]; exact h.2 j⟩
theorem Arr.set {w : World} {g n : Nat} {F : Nat → Value} (h : Arr w g n F) {k : Nat} (hk : k < n) (v : Value) : Arr (w.setCell ⟨g, k, none⟩ v) g n (fun q => if q = k then v else F q) := by
  refine ⟨fun q hq => ?_, fun j => by rw [World.frozen?_setCell]; exact h.2 j⟩
  show _ = some (if q = k then v else F q)
  by_cases e : q = k
  · subst e
    rw [if_pos rfl]
    exact World.cell?_setCell_same _ _ _ (h.1 q hq)
  · rw [if_neg e]
    rw [World.cell?_setCell_other _ _ _ _ (fun e' => by injection e' with _ e2 _; exact e e2.symm)]
    exact h.1 q hq
theorem Arr.alloc (w : World) (n : Nat) (cs : Array Value) (ty : TypeId) (v : Value) (hcs : cs = Array.replicate n v) : Arr (w.alloc (.cells cs ty)) w.heap.size n (fun _ => v) := by
  refine ⟨fun k hk => ?_, fun j => World.frozen?_alloc_at _ _ _ _ rfl⟩
  rw [World.cell?_alloc_at _ _ _ _ rfl, hcs, Array.getElem?_replicate, if_pos hk]
theorem Arr.congr {w : World} {g n : Nat} {F G : Nat → Value} (h : Arr w g n F) (hfg : ∀ k, k < n → F k = G k) : Arr w g n G := ⟨fun k hk => by rw [h.1 k hk, hfg k hk], h.2⟩

theorem Arr.other {w : World} {g n b k : Nat} {F : Nat → Value} (h : Arr w g n F) (hb : b ≠ g) (v : Value) : Arr (w.setCell ⟨b, k, none⟩ v) g n F := by
  refine ⟨fun q hq => ?_, fun j => by rw [World.frozen?_setCell]; exact h.2 j⟩
  rw [World.cell?_setCell_other _ _ _ _ (fun e' => by injection e' with e1 _ _; exact hb e1)]
  exact h.1 q hq

theorem zero205 : Facg.zeroCells205 = Array.replicate 512 (Value.int .u8 0) := by kernel_rfl
theorem zero206 : Facg.zeroCells206 = Array.replicate 512 (Value.bool false) := by kernel_rfl

/-! ### What shapes give -/
theorem Linked.short {t : Tr} (h : Linked t) : t.Short := fun i => by
  by_cases hi : i < t.ns.length
  · rcases (h.shp i hi).2 with ⟨_, _, h1, h2⟩ | ⟨_, h1, h2, _⟩
    · omega
    · exact ⟨h1, h2⟩
  · have : t.nd i = Nd.nil := by
      unfold Tr.nd
      rw [List.getD_eq_getElem?_getD, List.getElem?_eq_none (by omega)]
      rfl
    rw [this]
    exact ⟨Nat.zero_le _, Nat.zero_le _⟩

theorem Linked.kinds {t : Tr} (h : Linked t) {i : Nat} (hi : i < t.ns.length) : ((t.nd i).kind = 1 ∧ (t.nd i).code = 0) ∨ ((t.nd i).kind = 2 ∧ (t.nd i).code = 7) ∨ ((t.nd i).kind = 2 ∧ ¬ (t.nd i).code = 7 ∧ 2 ≤ (t.nd i).code ∧ (t.nd i).code ≤ 6) := by
  rcases (h.shp i hi).2 with ⟨h1, h2, _⟩ | ⟨h1, _, _, h2 | h2 | h2⟩
  · exact .inl ⟨h1, h2⟩
  · exact .inr (.inr ⟨h1, by omega, h2.1.1, by omega⟩)
  · exact .inr (.inr ⟨h1, by omega, by omega, by omega⟩)
  · exact .inr (.inl ⟨h1, h2.1⟩)

theorem Linked.inl_in {t : Tr} (h : Linked t) {i : Nat} (hi : i < t.ns.length) (hk : (t.nd i).kind = 2) (hc : (t.nd i).code = 7) : t.In (t.nd i) := fun j hj => by
  have hs := h.shp i hi
  have h1 := hs.1 j hj
  rcases hs.2 with ⟨h2, _⟩ | ⟨_, _, _, h2 | h2 | h2⟩
  · omega
  · omega
  · omega
  · have := (h2.2.2 j hj).1
    omega

def TellsG (w : World) (p : Prop) (e : Ending) (w' : World) : Prop := ∃ r, e = .returned (.bool r) ∧ Grows w w' ∧ (r = true ↔ p)
theorem TellsG.no {w w' : World} {p : Prop} (h : ¬ p) (hg : Grows w w') : TellsG w p (.returned (.bool false)) w' := ⟨false, rfl, hg, ⟨fun e => (by cases e), fun h' => absurd h' h⟩⟩
theorem TellsG.yes {w w' : World} {p : Prop} (h : p) (hg : Grows w w') : TellsG w p (.returned (.bool true)) w' := ⟨true, rfl, hg, ⟨fun _ => h, fun _ => rfl⟩⟩

theorem wd_le {t : Tr} {x : Nd} (hs : t.Short) (hd : x.data.length ≤ 128) (hk : x.kids.length ≤ 128) (hc : x.kind = 1 ∨ (2 ≤ x.code ∧ x.code ≤ 7)) : t.wd x ≤ 33000 := by
  unfold Tr.wd
  have h1 := td_le x
  have h2 := tk_le x
  have h3 := evd_le (x := x) hs
  split
  · omega
  · rename_i k1
    have hc' := hc.resolve_left k1
    split
    · omega
    · split
      · have : x.kids.length * (t.evd x + t.mk_ x) ≤ 128 * 256 := Nat.mul_le_mul hk (by omega)
        omega
      · have : 2 ^ (x.code - 2).toNat ≤ 2 ^ 3 := Nat.pow_le_pow_right (by decide) (by omega)
        have : x.data.length * 2 ^ (x.code - 2).toNat ≤ 128 * 8 := Nat.mul_le_mul hd this
        omega

/-- The two arrays of 'bounded'. -/
structure BArr (w wr : World) (dep : Nat → Nat) (el : Nat → Bool) : Prop where
  gr : Grows w wr
  dep : Arr wr w.heap.size 512 (fun k => .int .u8 (dep k))
  el : Arr wr (w.heap.size + 1) 512 (fun k => .bool (el k))

theorem BArr.start (w : World) (r : Nat) : BArr w ((w.alloc (.cells (Facg.zeroCells205.setIfInBounds r (.int .u8 1)) 205)).alloc (.cells Facg.zeroCells206 206)) (fun k => if k = r then 1 else 0) (fun _ => false) := by
  refine ⟨((Kept.refl _ _).alloc _).alloc _, ?_, ?_⟩
  · refine Arr.kept (q := fun _ => True) ?_ (by decide) ((Kept.refl _ _).alloc _) trivial
    refine ⟨fun k hk => ?_, fun j => World.frozen?_alloc_at _ _ _ _ rfl⟩
    rw [World.cell?_alloc_at _ _ _ _ rfl, zero205, Array.getElem?_setIfInBounds]
    by_cases e : r = k
    · subst e
      simp [hk]
    · rw [if_neg e, Array.getElem?_replicate, if_pos hk]
      show some (Value.int .u8 0) = some (Value.int .u8 ((if k = r then 1 else 0 : Nat) : Int))
      rw [if_neg (fun e' : k = r => e e'.symm)]
      rfl
  · have := Arr.alloc (w.alloc (.cells (Facg.zeroCells205.setIfInBounds r (.int .u8 1)) 205)) 512 Facg.zeroCells206 206 (.bool false) zero206
    rw [show (w.alloc (.cells (Facg.zeroCells205.setIfInBounds r (.int .u8 1)) 205)).heap.size = w.heap.size + 1 by simp] at this
    exact this

theorem BArr.kept {w wr w' : World} {dep : Nat → Nat} {el : Nat → Bool} (h : BArr w wr dep el) (hg : Grows wr w') : BArr w w' dep el :=
  ⟨h.gr.trans hg, h.dep.kept (by decide) hg trivial, h.el.kept (by decide) hg trivial⟩

theorem BArr.set {w wr : World} {dep : Nat → Nat} {el : Nat → Bool} (h : BArr w wr dep el) {k : Nat} (hk : k < 512) (b : Nat) (i : Bool) :
    BArr w ((wr.setCell ⟨w.heap.size + 1, k, none⟩ (.bool i)).setCell ⟨w.heap.size, k, none⟩ (.int .u8 b)) (fun q => if q = k then b else dep q) (fun q => if q = k then i else el q) := by
  refine ⟨(h.gr.setCell (.inl (by show w.heap.size ≤ w.heap.size + 1; omega)) _).setCell (.inl (Nat.le_refl _)) _, ?_, ?_⟩
  · refine ((h.dep.other (by omega) _).set hk (.int .u8 b)).congr (fun q _ => ?_)
    show (if q = k then Value.int .u8 b else .int .u8 (dep q)) = .int .u8 ((if q = k then b else dep q : Nat) : Int)
    split <;> rfl
  · refine ((h.el.set hk (.bool i)).other (by omega) _).congr (fun q _ => ?_)
    show (if q = k then Value.bool i else .bool (el q)) = .bool (if q = k then i else el q)
    split <;> rfl

set_option maxHeartbeats 4000000 in
set_option maxRecDepth 10000 in
theorem bounded_any (g : Nat) (t : Tr) (r : Nat) (w : World) (ht : TrAt w g t) (hl : Linked t) (hr : t.root = (r : Int)) (hrN : r < t.ns.length) (hN : t.ns.length ≤ 512) :
    Calls Facg.prog 77 #[.pointer (some ⟨g, 0, none⟩)] w (TellsG w (Bnd t)) := by
  obtain ⟨a, cN, t0, t1, _, hns⟩ := ht.lift
  obtain ⟨bn, on, rfl, hnode⟩ := hns (by omega)
  have HL := hide hl
  have HTr := hide (fun w' hg => ht.grows (w' := w') hg)
  have HNode := hide (fun j w' (hj : j < t.ns.length) hg => (hnode j hj).grows (w' := w') hg)
  have HT0 := hide t0
  rw [hr] at t1
  have HR := hide hr
  have hgl : g < w.heap.size := World.block_lt_of_cell? w ⟨g, 0, none⟩ t0
  have hr512 : r < 512 := by omega
  obtain ⟨cst, hcst⟩ := cost_ex t
  have HCst := hide hcst
  clear hcst
  clear hl ht hnode hns hr
  obtain ⟨N, hNe⟩ : ∃ N, t.ns.length = N := ⟨_, rfl⟩
  rw [hNe] at hrN hN t0 HNode HT0
  have HNe := hide hNe
  clear hNe
  go_enter Facg.func77, Facg.ntmps77
  go_wp2
  have HS0 := hide (BArr.start w r)
  have HB0 := hide (BSt.start HL.out HR.out)
  have HW0 := hide (sum_low HCst.out HL.out HR.out r (Nat.le_refl _))
  generalize (w.alloc (.cells (Facg.zeroCells205.setIfInBounds r (.int .u8 1)) 205)).alloc (.cells Facg.zeroCells206 206) = W0 at *
  go_loopw [6, 5] (fun ti tw wr => ∃ (i W : Nat) (dep : Nat → Nat) (el : Nat → Bool), ti = .int .i64 i ∧ tw = .int .i64 W ∧ i ≤ N ∧ W ≤ 1 + 33000 * i ∧ W = 1 + sumN cst i ∧ BArr w wr dep el ∧ BSt t i 0 dep el) (fun ti _ _ => N - (intOf ti).toNat)
  case atStart => exact ⟨r, 1, _, _, rfl, rfl, by omega, by omega, by rw [HW0.out], HS0.out, HB0.out⟩
  case round =>
    obtain ⟨i, W, dep, el, rfl, rfl, hi, hW, hWs, hA, hB⟩ := hrel
    clear HS0 HB0 HW0
    have HA := hide hA
    have HB := hide hB
    have HWs := hide hWs
    have HC := hide (cost_el HCst.out HL.out hB)
    have d0 := hA.gr.cell HT0.out trivial
    have hdl := hB.le i
    clear hA hB hWs t0 t1
    by_cases hiN : i < N
    · have hdi : decide (i < N) = true := decide_eq_true hiN
      have e0 := HA.out.dep.1 i (by omega)
      have e1 := HA.out.el.1 i (by omega)
      simp only at e0 e1
      by_cases hD : dep i = 0
      · rw [hD] at e0
        have HSk := hide (HB.out.skip HL.out hD)
        have HSu := hide (show sumN cst (i + 1) = sumN cst i by rw [show sumN cst (i + 1) = sumN cst i + cst i from rfl, HC.out, if_neg (fun h => h.1 hD)]; rfl)
        clear hD
        go_wp2
        go_roundw
        case rel => exact ⟨i + 1, W, dep, el, by go_num, rfl, by omega, by omega, by rw [HSu.out]; exact HWs.out, HA.out, HSk.out⟩
        case measure => simp [intOf]; omega
      · have hiN' : i < t.ns.length := by rw [HNe.out]; exact hiN
        obtain ⟨_, _, c0w, c1w, ⟨vd, c2w, h3⟩, vk, c3w, h5⟩ := HNode.out i w hiN (Kept.refl _ _)
        obtain ⟨ak, ck, rfl, hm, hrow, hwf⟩ := h5.row
        have hsh := HL.out.short i
        have HRow := hide hrow
        have HKb := hide (fun j (hj : j < (t.nd i).kids.length) => show -32768 ≤ (t.nd i).k j ∧ (t.nd i).k j < 32768 by
          have := hwf ((t.nd i).kids.getD j 0) (by rw [List.getD_eq_getElem?_getD, List.getElem?_eq_getElem hj]; exact List.getElem_mem hj)
          have := bounds_i16 this
          unfold Nd.k
          omega)
        have HLk := hide (fun j (hj : j < (t.nd i).kids.length) => (HL.out.shp i hiN').1 j hj)
        have hkd := HL.out.kinds hiN'
        have HWd := hide (twords_any g bn (on + i * 4) t (t.nd i) wr (HTr.out wr HA.out.gr) (HNode.out i wr hiN HA.out.gr) HL.out.short hsh.1 hsh.2 (by omega) (fun k1 k7 => HL.out.inl_in hiN' (by omega) k7))
        have hwb := wd_le (t := t) (x := t.nd i) HL.out.short hsh.1 hsh.2 (by omega)
        have HAt := hide (HB.out.sound i hD)
        have HSu : Hid (sumN cst (i + 1) = sumN cst i + if el i = false then t.wd (t.nd i) else 0) := by
          unfold Hid
          rw [show sumN cst (i + 1) = sumN cst i + cst i from rfl, HC.out]
          congr 1
          by_cases he : el i = false
          · rw [if_pos ⟨hD, he⟩, if_pos he]
          · rw [if_neg (fun h => he h.2), if_neg he]
        have HB1 : Hid (BSt t i 0 dep el) := HB.out
        obtain ⟨X, hX⟩ : ∃ X, dep i = X := ⟨_, rfl⟩
        rw [hX] at e0 hdl hD HAt
        have HX := hide hX
        have hXb : ((X : Int) == 0) = false := by rw [beq_eq_false_iff_ne]; omega
        have HKid := hide (fun j (k : Nat) (hj : j < (t.nd i).kids.length) (hk : (t.nd i).k j = (k : Int)) => (show TKid t i j k from ⟨hiN', hj, hk⟩))
        have HNoD := hide (fun (j k d : Nat) (e : Bool) (hkid : TKid t i j k) (ha : TAt t i d e) (h8 : ¬ (if (t.nd i).inl then d else d + 1) ≤ 8) (hb : Bnd t) => h8 (hb.deep i j k d e ha hkid))
        have HInl := hide (show (t.nd i).inl = (decide ((t.nd i).kind = 2) && decide ((t.nd i).code = 7)) from rfl)
        clear h3 h5 hrow hwf hX hiN' HC HB
        obtain ⟨K, hK⟩ : ∃ K, (t.nd i).kids.length = K := ⟨_, rfl⟩
        have HKe := hide hK
        rw [hK] at hsh HRow HKb HLk HKid c3w hm
        clear hK
        rcases hkd with ⟨hk, hc⟩ | ⟨hk, hc⟩ | ⟨hk, hc, hc2, hc6⟩
        · rw [hk] at c0w
          have HI : Hid ((t.nd i).inl = false) := by unfold Hid; rw [HInl.out, hk]; simp [hc]
          have c0 := HA.out.gr.cell c0w trivial
          have c1 := HA.out.gr.cell c1w trivial
          have c3 := HA.out.gr.cell c3w trivial
          have HC0 := hide c0w
          have HC1 := hide c1w
          have HC3 := hide c3w
          clear c0w c1w c3w c2w HInl hk hc
          cases hel : el i with
          | true =>
            rw [hel] at e1
            have HSn := hide (show sumN cst (i + 1) = sumN cst i by rw [HSu.out, hel]; rfl)
            clear hel
            go_wp2
            go_loopw [74] (fun tj wq => ∃ (j : Nat) (dep' : Nat → Nat) (el' : Nat → Bool), tj = .int .i64 j ∧ j ≤ K ∧ BArr w wq dep' el' ∧ BSt t i j dep' el' ∧ dep' i = X) (fun tj _ => K - (intOf tj).toNat)
            case atStart => exact ⟨0, dep, el, rfl, Nat.zero_le _, HA.out, HB1.out, HX.out⟩
            case round =>
              obtain ⟨j, dep', el', rfl, hj, hA', hB', hX'⟩ := hrel
              have HA' := hide hA'
              have HB' := hide hB'
              have HX' := hide hX'
              clear hA' hB' hX'
              by_cases hjK : j < K
              · have hdj : decide (j < K) = true := decide_eq_true hjK
                obtain ⟨bk, ok, rfl, hc⟩ := HRow.out (by omega)
                have cx : wr.cell? ⟨bk, ok + j, none⟩ = some (.int .i16 ((t.nd i).k j)) := HA'.out.gr.cell (hc j hjK) trivial
                have hyb := HKb.out j hjK
                have hlk := HLk.out j hjK
                have HKj := hide (fun k => HKid.out j k hjK)
                clear hc
                by_cases hy : (t.nd i).k j = -1
                · rw [hy] at cx
                  have HNl := hide (HB'.out.null hy)
                  clear hy hyb hlk
                  go_wp2
                  go_roundw
                  case rel => exact ⟨j + 1, dep', el', by go_num, by omega, HA'.out, HNl.out, HX'.out⟩
                  case measure => simp [intOf]; omega
                · obtain ⟨k, hk⟩ := Int.eq_ofNat_of_zero_le (show 0 ≤ (t.nd i).k j by omega)
                  have hik : i < k := by omega
                  have hkN : k < 512 := by have := HNe.out; omega
                  have HTk := hide (HKj.out k hk)
                  rw [hk] at cx
                  clear hy hyb hlk hk
                  have g0 := HA'.out.dep.1 k hkN
                  have g1 := HA'.out.el.1 k hkN
                  have g2 := HA'.out.dep.2 k
                  have g3 := HA'.out.el.2 k
                  simp only at g0 g1
                  by_cases h8 : X + 1 ≤ 8
                  · have hd8 : decide ((8 : Int) < (X : Int) + 1) = false := decide_eq_false (by omega)
                    have HBk := hide (HB'.out.kid HL.out (by rw [HX'.out]; exact hD) HTk.out (b := X + 1) (by rw [HX'.out, HI.out]; rfl) h8)
                    have HAk := hide (HA'.out.set hkN (X + 1) false)
                    rw [HI.out] at HBk
                    go_wp2
                    go_roundw
                    case rel => exact ⟨j + 1, _, _, by go_num, by omega, HAk.out, HBk.out, by show (if i = k then _ else _) = X; rw [if_neg (by omega)]; exact HX'.out⟩
                    case measure => simp [intOf]; omega
                  · have hd8 : decide ((8 : Int) < (X : Int) + 1) = true := decide_eq_true (by omega)
                    have HNB := hide (HNoD.out j k X (el i) HTk.out HAt.out (by rw [HI.out]; exact h8))
                    go_wp2
                    go_ret
                    exact TellsG.no HNB.out HA'.out.gr
              · obtain rfl : j = K := by omega
                have hdj : decide (j < j) = false := decide_eq_false (by omega)
                have HBn : Hid (BSt t (i + 1) 0 dep' el') := by
                  have := HB'.out
                  rw [← HKe.out] at this
                  exact this.next
                go_wp2
                go_roundw
                case rel => exact ⟨i + 1, W, dep', el', by go_num, by go_num, by omega, by omega, (by rw [HSn.out, HWs.out] <;> omega), HA'.out, HBn.out⟩
                case measure => simp [intOf]; omega
          | false =>
            rw [hel] at e1
            have HSn := hide (show sumN cst (i + 1) = sumN cst i + t.wd (t.nd i) by rw [HSu.out, hel]; rfl)
            clear hel
            generalize t.wd (t.nd i) = wdx at *
            go_wp2_with (first
              | (go_at_call 134; (with_reducible refine HWd.out.mono ?_); rintro e w2 ⟨rfl, hg⟩; have HA2 := hide (HA.out.kept hg); have f0 := hg.cell c0 trivial; have f1 := hg.cell c1 trivial; have f3 := hg.cell c3 trivial; have f4 := hg.cell e0 trivial; clear hg))
            go_loopw [74] (fun tj wq => ∃ (j : Nat) (dep' : Nat → Nat) (el' : Nat → Bool), tj = .int .i64 j ∧ j ≤ K ∧ BArr w wq dep' el' ∧ BSt t i j dep' el' ∧ dep' i = X) (fun tj _ => K - (intOf tj).toNat)
            case atStart => exact ⟨0, dep, el, rfl, Nat.zero_le _, HA2.out, HB1.out, HX.out⟩
            case round =>
              obtain ⟨j, dep', el', rfl, hj, hA', hB', hX'⟩ := hrel
              have HA' := hide hA'
              have HB' := hide hB'
              have HX' := hide hX'
              clear hA' hB' hX'
              by_cases hjK : j < K
              · have hdj : decide (j < K) = true := decide_eq_true hjK
                obtain ⟨bk, ok, rfl, hc⟩ := HRow.out (by omega)
                have cx : wr.cell? ⟨bk, ok + j, none⟩ = some (.int .i16 ((t.nd i).k j)) := HA'.out.gr.cell (hc j hjK) trivial
                have hyb := HKb.out j hjK
                have hlk := HLk.out j hjK
                have HKj := hide (fun k => HKid.out j k hjK)
                clear hc
                by_cases hy : (t.nd i).k j = -1
                · rw [hy] at cx
                  have HNl := hide (HB'.out.null hy)
                  clear hy hyb hlk
                  go_wp2
                  go_roundw
                  case rel => exact ⟨j + 1, dep', el', by go_num, by omega, HA'.out, HNl.out, HX'.out⟩
                  case measure => simp [intOf]; omega
                · obtain ⟨k, hk⟩ := Int.eq_ofNat_of_zero_le (show 0 ≤ (t.nd i).k j by omega)
                  have hik : i < k := by omega
                  have hkN : k < 512 := by have := HNe.out; omega
                  have HTk := hide (HKj.out k hk)
                  rw [hk] at cx
                  clear hy hyb hlk hk
                  have g0 := HA'.out.dep.1 k hkN
                  have g1 := HA'.out.el.1 k hkN
                  have g2 := HA'.out.dep.2 k
                  have g3 := HA'.out.el.2 k
                  simp only at g0 g1
                  by_cases h8 : X + 1 ≤ 8
                  · have hd8 : decide ((8 : Int) < (X : Int) + 1) = false := decide_eq_false (by omega)
                    have HBk := hide (HB'.out.kid HL.out (by rw [HX'.out]; exact hD) HTk.out (b := X + 1) (by rw [HX'.out, HI.out]; rfl) h8)
                    have HAk := hide (HA'.out.set hkN (X + 1) false)
                    rw [HI.out] at HBk
                    go_wp2
                    go_roundw
                    case rel => exact ⟨j + 1, _, _, by go_num, by omega, HAk.out, HBk.out, by show (if i = k then _ else _) = X; rw [if_neg (by omega)]; exact HX'.out⟩
                    case measure => simp [intOf]; omega
                  · have hd8 : decide ((8 : Int) < (X : Int) + 1) = true := decide_eq_true (by omega)
                    have HNB := hide (HNoD.out j k X (el i) HTk.out HAt.out (by rw [HI.out]; exact h8))
                    go_wp2
                    go_ret
                    exact TellsG.no HNB.out HA'.out.gr
              · obtain rfl : j = K := by omega
                have hdj : decide (j < j) = false := decide_eq_false (by omega)
                have HBn : Hid (BSt t (i + 1) 0 dep' el') := by
                  have := HB'.out
                  rw [← HKe.out] at this
                  exact this.next
                go_wp2
                go_roundw
                case rel => exact ⟨i + 1, W + wdx, dep', el', by go_num, by go_num, by omega, by omega, (by rw [HSn.out, HWs.out] <;> omega), HA'.out, HBn.out⟩
                case measure => simp [intOf]; omega
        · rw [hk] at c0w
          rw [hc] at c1w
          have HI : Hid ((t.nd i).inl = true) := by unfold Hid; rw [HInl.out, hk]; simp [hc]
          have c0 := HA.out.gr.cell c0w trivial
          have c1 := HA.out.gr.cell c1w trivial
          have c3 := HA.out.gr.cell c3w trivial
          have HC0 := hide c0w
          have HC1 := hide c1w
          have HC3 := hide c3w
          clear c0w c1w c3w c2w HInl hk hc
          cases hel : el i with
          | true =>
            rw [hel] at e1
            have HSn := hide (show sumN cst (i + 1) = sumN cst i by rw [HSu.out, hel]; rfl)
            clear hel
            go_wp2
            go_loopw [74] (fun tj wq => ∃ (j : Nat) (dep' : Nat → Nat) (el' : Nat → Bool), tj = .int .i64 j ∧ j ≤ K ∧ BArr w wq dep' el' ∧ BSt t i j dep' el' ∧ dep' i = X) (fun tj _ => K - (intOf tj).toNat)
            case atStart => exact ⟨0, dep, el, rfl, Nat.zero_le _, HA.out, HB1.out, HX.out⟩
            case round =>
              obtain ⟨j, dep', el', rfl, hj, hA', hB', hX'⟩ := hrel
              have HA' := hide hA'
              have HB' := hide hB'
              have HX' := hide hX'
              clear hA' hB' hX'
              by_cases hjK : j < K
              · have hdj : decide (j < K) = true := decide_eq_true hjK
                obtain ⟨bk, ok, rfl, hc⟩ := HRow.out (by omega)
                have cx : wr.cell? ⟨bk, ok + j, none⟩ = some (.int .i16 ((t.nd i).k j)) := HA'.out.gr.cell (hc j hjK) trivial
                have hyb := HKb.out j hjK
                have hlk := HLk.out j hjK
                have HKj := hide (fun k => HKid.out j k hjK)
                clear hc
                by_cases hy : (t.nd i).k j = -1
                · rw [hy] at cx
                  have HNl := hide (HB'.out.null hy)
                  clear hy hyb hlk
                  go_wp2
                  go_roundw
                  case rel => exact ⟨j + 1, dep', el', by go_num, by omega, HA'.out, HNl.out, HX'.out⟩
                  case measure => simp [intOf]; omega
                · obtain ⟨k, hk⟩ := Int.eq_ofNat_of_zero_le (show 0 ≤ (t.nd i).k j by omega)
                  have hik : i < k := by omega
                  have hkN : k < 512 := by have := HNe.out; omega
                  have HTk := hide (HKj.out k hk)
                  rw [hk] at cx
                  clear hy hyb hlk hk
                  have g0 := HA'.out.dep.1 k hkN
                  have g1 := HA'.out.el.1 k hkN
                  have g2 := HA'.out.dep.2 k
                  have g3 := HA'.out.el.2 k
                  simp only at g0 g1
                  by_cases h8 : X ≤ 8
                  · have hd8 : decide ((8 : Int) < (X : Int)) = false := decide_eq_false (by omega)
                    have HBk := hide (HB'.out.kid HL.out (by rw [HX'.out]; exact hD) HTk.out (b := X) (by rw [HX'.out, HI.out]; rfl) h8)
                    have HAk := hide (HA'.out.set hkN (X) true)
                    rw [HI.out] at HBk
                    go_wp2
                    go_roundw
                    case rel => exact ⟨j + 1, _, _, by go_num, by omega, HAk.out, HBk.out, by show (if i = k then _ else _) = X; rw [if_neg (by omega)]; exact HX'.out⟩
                    case measure => simp [intOf]; omega
                  · exact absurd hdl h8
              · obtain rfl : j = K := by omega
                have hdj : decide (j < j) = false := decide_eq_false (by omega)
                have HBn : Hid (BSt t (i + 1) 0 dep' el') := by
                  have := HB'.out
                  rw [← HKe.out] at this
                  exact this.next
                go_wp2
                go_roundw
                case rel => exact ⟨i + 1, W, dep', el', by go_num, by go_num, by omega, by omega, (by rw [HSn.out, HWs.out] <;> omega), HA'.out, HBn.out⟩
                case measure => simp [intOf]; omega
          | false =>
            rw [hel] at e1
            have HSn := hide (show sumN cst (i + 1) = sumN cst i + t.wd (t.nd i) by rw [HSu.out, hel]; rfl)
            clear hel
            generalize t.wd (t.nd i) = wdx at *
            go_wp2_with (first
              | (go_at_call 134; (with_reducible refine HWd.out.mono ?_); rintro e w2 ⟨rfl, hg⟩; have HA2 := hide (HA.out.kept hg); have f0 := hg.cell c0 trivial; have f1 := hg.cell c1 trivial; have f3 := hg.cell c3 trivial; have f4 := hg.cell e0 trivial; clear hg))
            go_loopw [74] (fun tj wq => ∃ (j : Nat) (dep' : Nat → Nat) (el' : Nat → Bool), tj = .int .i64 j ∧ j ≤ K ∧ BArr w wq dep' el' ∧ BSt t i j dep' el' ∧ dep' i = X) (fun tj _ => K - (intOf tj).toNat)
            case atStart => exact ⟨0, dep, el, rfl, Nat.zero_le _, HA2.out, HB1.out, HX.out⟩
            case round =>
              obtain ⟨j, dep', el', rfl, hj, hA', hB', hX'⟩ := hrel
              have HA' := hide hA'
              have HB' := hide hB'
              have HX' := hide hX'
              clear hA' hB' hX'
              by_cases hjK : j < K
              · have hdj : decide (j < K) = true := decide_eq_true hjK
                obtain ⟨bk, ok, rfl, hc⟩ := HRow.out (by omega)
                have cx : wr.cell? ⟨bk, ok + j, none⟩ = some (.int .i16 ((t.nd i).k j)) := HA'.out.gr.cell (hc j hjK) trivial
                have hyb := HKb.out j hjK
                have hlk := HLk.out j hjK
                have HKj := hide (fun k => HKid.out j k hjK)
                clear hc
                by_cases hy : (t.nd i).k j = -1
                · rw [hy] at cx
                  have HNl := hide (HB'.out.null hy)
                  clear hy hyb hlk
                  go_wp2
                  go_roundw
                  case rel => exact ⟨j + 1, dep', el', by go_num, by omega, HA'.out, HNl.out, HX'.out⟩
                  case measure => simp [intOf]; omega
                · obtain ⟨k, hk⟩ := Int.eq_ofNat_of_zero_le (show 0 ≤ (t.nd i).k j by omega)
                  have hik : i < k := by omega
                  have hkN : k < 512 := by have := HNe.out; omega
                  have HTk := hide (HKj.out k hk)
                  rw [hk] at cx
                  clear hy hyb hlk hk
                  have g0 := HA'.out.dep.1 k hkN
                  have g1 := HA'.out.el.1 k hkN
                  have g2 := HA'.out.dep.2 k
                  have g3 := HA'.out.el.2 k
                  simp only at g0 g1
                  by_cases h8 : X ≤ 8
                  · have hd8 : decide ((8 : Int) < (X : Int)) = false := decide_eq_false (by omega)
                    have HBk := hide (HB'.out.kid HL.out (by rw [HX'.out]; exact hD) HTk.out (b := X) (by rw [HX'.out, HI.out]; rfl) h8)
                    have HAk := hide (HA'.out.set hkN (X) true)
                    rw [HI.out] at HBk
                    go_wp2
                    go_roundw
                    case rel => exact ⟨j + 1, _, _, by go_num, by omega, HAk.out, HBk.out, by show (if i = k then _ else _) = X; rw [if_neg (by omega)]; exact HX'.out⟩
                    case measure => simp [intOf]; omega
                  · exact absurd hdl h8
              · obtain rfl : j = K := by omega
                have hdj : decide (j < j) = false := decide_eq_false (by omega)
                have HBn : Hid (BSt t (i + 1) 0 dep' el') := by
                  have := HB'.out
                  rw [← HKe.out] at this
                  exact this.next
                go_wp2
                go_roundw
                case rel => exact ⟨i + 1, W + wdx, dep', el', by go_num, by go_num, by omega, by omega, (by rw [HSn.out, HWs.out] <;> omega), HA'.out, HBn.out⟩
                case measure => simp [intOf]; omega
        · rw [hk] at c0w
          have e7 : ((t.nd i).code == 7) = false := by rw [beq_eq_false_iff_ne]; exact hc
          have HI : Hid ((t.nd i).inl = false) := by unfold Hid; rw [HInl.out, hk]; simp [hc]
          have c0 := HA.out.gr.cell c0w trivial
          have c1 := HA.out.gr.cell c1w trivial
          have c3 := HA.out.gr.cell c3w trivial
          have HC0 := hide c0w
          have HC1 := hide c1w
          have HC3 := hide c3w
          clear c0w c1w c3w c2w HInl hk hc hc2 hc6
          cases hel : el i with
          | true =>
            rw [hel] at e1
            have HSn := hide (show sumN cst (i + 1) = sumN cst i by rw [HSu.out, hel]; rfl)
            clear hel
            go_wp2
            go_loopw [74] (fun tj wq => ∃ (j : Nat) (dep' : Nat → Nat) (el' : Nat → Bool), tj = .int .i64 j ∧ j ≤ K ∧ BArr w wq dep' el' ∧ BSt t i j dep' el' ∧ dep' i = X) (fun tj _ => K - (intOf tj).toNat)
            case atStart => exact ⟨0, dep, el, rfl, Nat.zero_le _, HA.out, HB1.out, HX.out⟩
            case round =>
              obtain ⟨j, dep', el', rfl, hj, hA', hB', hX'⟩ := hrel
              have HA' := hide hA'
              have HB' := hide hB'
              have HX' := hide hX'
              clear hA' hB' hX'
              by_cases hjK : j < K
              · have hdj : decide (j < K) = true := decide_eq_true hjK
                obtain ⟨bk, ok, rfl, hc⟩ := HRow.out (by omega)
                have cx : wr.cell? ⟨bk, ok + j, none⟩ = some (.int .i16 ((t.nd i).k j)) := HA'.out.gr.cell (hc j hjK) trivial
                have hyb := HKb.out j hjK
                have hlk := HLk.out j hjK
                have HKj := hide (fun k => HKid.out j k hjK)
                clear hc
                by_cases hy : (t.nd i).k j = -1
                · rw [hy] at cx
                  have HNl := hide (HB'.out.null hy)
                  clear hy hyb hlk
                  go_wp2
                  go_roundw
                  case rel => exact ⟨j + 1, dep', el', by go_num, by omega, HA'.out, HNl.out, HX'.out⟩
                  case measure => simp [intOf]; omega
                · obtain ⟨k, hk⟩ := Int.eq_ofNat_of_zero_le (show 0 ≤ (t.nd i).k j by omega)
                  have hik : i < k := by omega
                  have hkN : k < 512 := by have := HNe.out; omega
                  have HTk := hide (HKj.out k hk)
                  rw [hk] at cx
                  clear hy hyb hlk hk
                  have g0 := HA'.out.dep.1 k hkN
                  have g1 := HA'.out.el.1 k hkN
                  have g2 := HA'.out.dep.2 k
                  have g3 := HA'.out.el.2 k
                  simp only at g0 g1
                  by_cases h8 : X + 1 ≤ 8
                  · have hd8 : decide ((8 : Int) < (X : Int) + 1) = false := decide_eq_false (by omega)
                    have HBk := hide (HB'.out.kid HL.out (by rw [HX'.out]; exact hD) HTk.out (b := X + 1) (by rw [HX'.out, HI.out]; rfl) h8)
                    have HAk := hide (HA'.out.set hkN (X + 1) false)
                    rw [HI.out] at HBk
                    go_wp2
                    go_roundw
                    case rel => exact ⟨j + 1, _, _, by go_num, by omega, HAk.out, HBk.out, by show (if i = k then _ else _) = X; rw [if_neg (by omega)]; exact HX'.out⟩
                    case measure => simp [intOf]; omega
                  · have hd8 : decide ((8 : Int) < (X : Int) + 1) = true := decide_eq_true (by omega)
                    have HNB := hide (HNoD.out j k X (el i) HTk.out HAt.out (by rw [HI.out]; exact h8))
                    go_wp2
                    go_ret
                    exact TellsG.no HNB.out HA'.out.gr
              · obtain rfl : j = K := by omega
                have hdj : decide (j < j) = false := decide_eq_false (by omega)
                have HBn : Hid (BSt t (i + 1) 0 dep' el') := by
                  have := HB'.out
                  rw [← HKe.out] at this
                  exact this.next
                go_wp2
                go_roundw
                case rel => exact ⟨i + 1, W, dep', el', by go_num, by go_num, by omega, by omega, (by rw [HSn.out, HWs.out] <;> omega), HA'.out, HBn.out⟩
                case measure => simp [intOf]; omega
          | false =>
            rw [hel] at e1
            have HSn := hide (show sumN cst (i + 1) = sumN cst i + t.wd (t.nd i) by rw [HSu.out, hel]; rfl)
            clear hel
            generalize t.wd (t.nd i) = wdx at *
            go_wp2_with (first
              | (go_at_call 134; (with_reducible refine HWd.out.mono ?_); rintro e w2 ⟨rfl, hg⟩; have HA2 := hide (HA.out.kept hg); have f0 := hg.cell c0 trivial; have f1 := hg.cell c1 trivial; have f3 := hg.cell c3 trivial; have f4 := hg.cell e0 trivial; clear hg))
            go_loopw [74] (fun tj wq => ∃ (j : Nat) (dep' : Nat → Nat) (el' : Nat → Bool), tj = .int .i64 j ∧ j ≤ K ∧ BArr w wq dep' el' ∧ BSt t i j dep' el' ∧ dep' i = X) (fun tj _ => K - (intOf tj).toNat)
            case atStart => exact ⟨0, dep, el, rfl, Nat.zero_le _, HA2.out, HB1.out, HX.out⟩
            case round =>
              obtain ⟨j, dep', el', rfl, hj, hA', hB', hX'⟩ := hrel
              have HA' := hide hA'
              have HB' := hide hB'
              have HX' := hide hX'
              clear hA' hB' hX'
              by_cases hjK : j < K
              · have hdj : decide (j < K) = true := decide_eq_true hjK
                obtain ⟨bk, ok, rfl, hc⟩ := HRow.out (by omega)
                have cx : wr.cell? ⟨bk, ok + j, none⟩ = some (.int .i16 ((t.nd i).k j)) := HA'.out.gr.cell (hc j hjK) trivial
                have hyb := HKb.out j hjK
                have hlk := HLk.out j hjK
                have HKj := hide (fun k => HKid.out j k hjK)
                clear hc
                by_cases hy : (t.nd i).k j = -1
                · rw [hy] at cx
                  have HNl := hide (HB'.out.null hy)
                  clear hy hyb hlk
                  go_wp2
                  go_roundw
                  case rel => exact ⟨j + 1, dep', el', by go_num, by omega, HA'.out, HNl.out, HX'.out⟩
                  case measure => simp [intOf]; omega
                · obtain ⟨k, hk⟩ := Int.eq_ofNat_of_zero_le (show 0 ≤ (t.nd i).k j by omega)
                  have hik : i < k := by omega
                  have hkN : k < 512 := by have := HNe.out; omega
                  have HTk := hide (HKj.out k hk)
                  rw [hk] at cx
                  clear hy hyb hlk hk
                  have g0 := HA'.out.dep.1 k hkN
                  have g1 := HA'.out.el.1 k hkN
                  have g2 := HA'.out.dep.2 k
                  have g3 := HA'.out.el.2 k
                  simp only at g0 g1
                  by_cases h8 : X + 1 ≤ 8
                  · have hd8 : decide ((8 : Int) < (X : Int) + 1) = false := decide_eq_false (by omega)
                    have HBk := hide (HB'.out.kid HL.out (by rw [HX'.out]; exact hD) HTk.out (b := X + 1) (by rw [HX'.out, HI.out]; rfl) h8)
                    have HAk := hide (HA'.out.set hkN (X + 1) false)
                    rw [HI.out] at HBk
                    go_wp2
                    go_roundw
                    case rel => exact ⟨j + 1, _, _, by go_num, by omega, HAk.out, HBk.out, by show (if i = k then _ else _) = X; rw [if_neg (by omega)]; exact HX'.out⟩
                    case measure => simp [intOf]; omega
                  · have hd8 : decide ((8 : Int) < (X : Int) + 1) = true := decide_eq_true (by omega)
                    have HNB := hide (HNoD.out j k X (el i) HTk.out HAt.out (by rw [HI.out]; exact h8))
                    go_wp2
                    go_ret
                    exact TellsG.no HNB.out HA'.out.gr
              · obtain rfl : j = K := by omega
                have hdj : decide (j < j) = false := decide_eq_false (by omega)
                have HBn : Hid (BSt t (i + 1) 0 dep' el') := by
                  have := HB'.out
                  rw [← HKe.out] at this
                  exact this.next
                go_wp2
                go_roundw
                case rel => exact ⟨i + 1, W + wdx, dep', el', by go_num, by go_num, by omega, by omega, (by rw [HSn.out, HWs.out] <;> omega), HA'.out, HBn.out⟩
                case measure => simp [intOf]; omega
    · obtain rfl : i = N := by omega
      have hdi : decide (i < i) = false := decide_eq_false (by omega)
      have HDeep := hide HB.out.deep
      by_cases hle : W ≤ 256
      · have hlw : decide ((W : Int) ≤ 256) = true := decide_eq_true (by omega)
        go_wp2
        go_ret
        exact TellsG.yes (Bnd.of (fun p j k d e hp hk => HDeep.out p j k d e (.inl (by have := hk.1; rw [HNe.out] at this; exact this)) hp hk) HCst.out (by rw [HNe.out, ← HWs.out]; exact hle)) HA.out.gr
      · have hlw : decide ((W : Int) ≤ 256) = false := decide_eq_false (by omega)
        go_wp2
        go_ret
        exact TellsG.no (fun h => hle (by have := h.words cst HCst.out; rw [HNe.out, ← HWs.out] at this; exact this)) HA.out.gr
end Go.Proofs.Ygcfac
