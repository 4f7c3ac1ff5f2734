/-
  (*Tree).evened, (*Tree).words.
-/
import Derived.Test.YgcfacTree
namespace Go.Proofs.Ygcfac
open Go.RowKit
set_option linter.unusedVariables false

def Tr.nd (t : Tr) (i : Nat) : Nd := t.ns.getD i Nd.nil

def mx (h : Nat → Nat) : Nat → Nat
  | 0 => 0
  | n + 1 => max (mx h n) (h n)

theorem mx_le {h : Nat → Nat} {B : Nat} : ∀ n, (∀ j, j < n → h j ≤ B) → mx h n ≤ B
  | 0, _ => Nat.zero_le _
  | n + 1, hb => by
    have := mx_le n (fun j hj => hb j (by omega))
    have := hb n (by omega)
    unfold mx
    omega

theorem le_mx {h : Nat → Nat} : ∀ n j, j < n → h j ≤ mx h n
  | 0, j, hj => absurd hj (Nat.not_lt_zero _)
  | n + 1, j, hj => by
    unfold mx
    by_cases e : j = n
    · subst e; omega
    · have := le_mx (h := h) n j (by omega); omega

def Tr.md (t : Tr) (x : Nd) : Nat := mx (fun j => (t.nd (x.k j).toNat).td) x.kids.length
def Tr.mk_ (t : Tr) (x : Nd) : Nat := mx (fun j => (t.nd (x.k j).toNat).tk) x.kids.length
def Tr.evd (t : Tr) (x : Nd) : Nat := if 0 < x.kids.length ∧ t.md x + t.mk_ x = 0 then 1 else t.md x

theorem TrAt.lift {w : World} {g : Nat} {t : Tr} (h : TrAt w g t) : ∃ a c, w.cell? ⟨g, 0, none⟩ = some (.slice a t.ns.length c) ∧ w.cell? ⟨g, 1, none⟩ = some (.int .i16 t.root) ∧ t.ns.length ≤ 9223372036854775807 ∧ (0 < t.ns.length → ∃ b o, a = some ⟨b, o, none⟩ ∧ ∀ j, j < t.ns.length → NodeAt w b (o + j * 4) (t.nd j)) := by
  obtain ⟨r, ⟨v, h1, a, c, rfl, hc, hm, hr⟩, h3⟩ := h
  unfold maxLen at hm
  refine ⟨a, c, h1, h3, by omega, fun h0 => ?_⟩
  obtain ⟨b, o, e, hx⟩ := hr (by intro e; rw [e] at h0; simp at h0)
  refine ⟨b, o, e, fun j hj => hx j _ ?_⟩
  unfold Tr.nd
  rw [List.getD_eq_getElem?_getD, List.getElem?_eq_getElem hj]
  rfl

set_option maxRecDepth 10000 in
theorem evened_f (g b o m ck N cN bn on : Nat) (ak : Option Addr) (f : Nat → Nat) (hd hk : Nat → Nat) (R : Nat → Nat → Prop) (hR : R (if 0 < m ∧ mx (fun j => hd (f j)) m + mx (fun j => hk (f j)) m = 0 then 1 else mx (fun j => hd (f j)) m) (mx (fun j => hk (f j)) m)) (w : World) (hN : N ≤ 9223372036854775807) (hm : m ≤ 9223372036854775807) (hf : ∀ j, j < m → f j < N)
    (aN : Option Addr) (haN : 0 < m → aN = some ⟨bn, on, none⟩) (c0 : w.cell? ⟨g, 0, none⟩ = some (.slice aN N cN)) (c3 : w.cell? ⟨b, o + 3, none⟩ = some (.slice ak m ck)) (hr : Row w .i16 ak m (fun j => (f j : Int)))
    (hb1 : ∀ j, hd j ≤ 4611686018427387903) (hb2 : ∀ j, hk j ≤ 4611686018427387903)
    (hT : ∀ q w', 0 < m → q < N → Grows w w' → Calls Facg.prog 78 #[.pointer (some ⟨bn, on + q * 4, none⟩)] w' fun e w2 => e = .returned (.tuple #[.int .i64 (hd q), .int .i64 (hk q)]) ∧ Grows w' w2) :
    Calls Facg.prog 80 #[.pointer (some ⟨g, 0, none⟩), .pointer (some ⟨b, o, none⟩)] w fun e w' =>
      ∃ d p : Nat, e = .returned (.tuple #[.int .i64 d, .int .i64 p]) ∧ Grows w w' ∧ R d p := by
  have HR := hide hr
  have HRR := hide hR
  clear hR
  have HF := hide hf
  have HT := hide hT
  have HC0 := hide c0
  have HC3 := hide c3
  have HB1 := hide hb1
  have HB2 := hide hb2
  have HaN := hide haN
  clear hr hf hT c0 hb1 hb2 haN
  go_enter Facg.func80, Facg.ntmps80
  go_wp2
  go_loopw [15, 4, 5] (fun t d p wr => ∃ i : Nat, t = .int .i64 i ∧ i ≤ m ∧ d = .int .i64 (mx (fun j => hd (f j)) i) ∧ p = .int .i64 (mx (fun j => hk (f j)) i) ∧ Grows w wr) (fun t _ _ _ => m - (intOf t).toNat)
  case atStart => exact ⟨0, rfl, Nat.zero_le _, rfl, rfl, Kept.refl _ _⟩
  case round =>
    obtain ⟨i, rfl, hi, rfl, rfl, hg⟩ := hrel
    have HG := hide hg
    have d3 := hg.cell HC3.out trivial
    have d0 := hg.cell HC0.out trivial
    clear hg c3
    by_cases him : i < m
    · have hdi : decide (i < m) = true := decide_eq_true him
      obtain rfl := HaN.out (by omega)
      obtain ⟨bk, ok, rfl, hc⟩ := HR.out (by omega)
      have cx := HG.out.cell (hc i him) trivial
      have hfi := HF.out i him
      have HTi := hide (fun w' hg => HT.out (f i) w' (by omega) hfi hg)
      have HE1 := hide (show mx (fun j => hd (f j)) (i + 1) = max (mx (fun j => hd (f j)) i) (hd (f i)) from rfl)
      have HE2 := hide (show mx (fun j => hk (f j)) (i + 1) = max (mx (fun j => hk (f j)) i) (hk (f i)) from rfl)
      clear hc
      simp only at cx
      generalize f i = q at *
      generalize mx (fun j => hd (f j)) i = A at *
      generalize mx (fun j => hk (f j)) i = B at *
      generalize hd q = C at *
      generalize hk q = D at *
      have m1 : (if A < C then (C : Int) else (A : Int)) = ((max A C : Nat) : Int) := by split <;> omega
      have m2 : (if B < D then (D : Int) else (B : Int)) = ((max B D : Nat) : Int) := by split <;> omega
      go_wp2_with (first
        | (go_at_call 78; (with_reducible refine (HTi.out _ HG.out).mono ?_); rintro e w2 ⟨rfl, hg⟩; have HG2 := hide (HG.out.trans hg); clear hg))
      go_roundw
      case rel => exact ⟨i + 1, by go_num, by omega, by rw [HE1.out], by rw [HE2.out], HG2.out⟩
      case measure => simp [intOf]; omega
    · obtain rfl : i = m := by omega
      have hdi : decide (i < i) = false := decide_eq_false (by omega)
      have b1 := mx_le (h := fun j => hd (f j)) i (fun j _ => HB1.out (f j))
      have b2 := mx_le (h := fun j => hk (f j)) i (fun j _ => HB2.out (f j))
      obtain ⟨A, hA⟩ : ∃ A, mx (fun j => hd (f j)) i = A := ⟨_, rfl⟩
      obtain ⟨B, hB⟩ : ∃ B, mx (fun j => hk (f j)) i = B := ⟨_, rfl⟩
      rw [hA, hB] at HRR
      rw [hA] at b1 ⊢
      rw [hB] at b2 ⊢
      clear hA hB
      by_cases h0 : 0 < i
      · have h0' : decide ((0 : Int) < (i : Int)) = true := decide_eq_true (by omega)
        have hw : wrap64 ((A : Int) + (B : Int)) = ((A + B : Nat) : Int) := by unfold wrap64; omega
        cases hs : (((A : Int) + (B : Int)) == 0) with
        | true =>
          have HS := hide (show A + B = 0 by have : (A : Int) + (B : Int) = 0 := (by simpa using hs); omega)
          go_wp2
          refine bodyPost_ret (v := .tuple #[.int .i64 (1 : Nat), .int .i64 B]) (by simp [results, Facg.results80, go_sem]) rfl ?_
          exact ⟨1, B, rfl, HG.out, by have := HRR.out; rw [if_pos ⟨h0, HS.out⟩] at this; exact this⟩
        | false =>
          have HS := hide (show ¬ A + B = 0 by have : ¬ (A : Int) + (B : Int) = 0 := (by simpa using hs); omega)
          go_wp2
          refine bodyPost_ret (v := .tuple #[.int .i64 A, .int .i64 B]) (by simp [results, Facg.results80, go_sem]) rfl ?_
          exact ⟨A, B, rfl, HG.out, by have := HRR.out; rw [if_neg (fun h => HS.out h.2)] at this; exact this⟩
      · have h0' : decide ((0 : Int) < (i : Int)) = false := decide_eq_false (by omega)
        go_wp2
        refine bodyPost_ret (v := .tuple #[.int .i64 A, .int .i64 B]) (by simp [results, Facg.results80, go_sem]) rfl ?_
        exact ⟨A, B, rfl, HG.out, by have := HRR.out; rw [if_neg (fun h => h0 h.1)] at this; exact this⟩

theorem td_le (x : Nd) : x.td ≤ x.data.length := tl_le _ _ _
theorem tk_le (x : Nd) : x.tk ≤ x.kids.length := tl_le _ _ _

/-- All rows of the tree are short. -/
def Tr.Short (t : Tr) : Prop := ∀ i, (t.nd i).data.length ≤ 128 ∧ (t.nd i).kids.length ≤ 128
/-- x's kids are nodes of t, or null. -/
def Tr.In (t : Tr) (x : Nd) : Prop := ∀ j, j < x.kids.length → 0 ≤ x.k j ∧ x.k j < t.ns.length

theorem evened_any (g b o : Nat) (t : Tr) (x : Nd) (w : World) (ht : TrAt w g t) (hx : NodeAt w b o x) (hs : t.Short) (hin : t.In x) :
    Calls Facg.prog 80 #[.pointer (some ⟨g, 0, none⟩), .pointer (some ⟨b, o, none⟩)] w fun e w' => e = .returned (.tuple #[.int .i64 (t.evd x), .int .i64 (t.mk_ x)]) ∧ Grows w w' := by
  obtain ⟨a, c, c0, c1, hN, hns⟩ := ht.lift
  obtain ⟨_, _, _, _, _, u, h4, h5⟩ := hx
  obtain ⟨ak, ck, rfl, hm, hk, _⟩ := h5.row
  by_cases h0 : 0 < x.kids.length
  · have hN0 : 0 < t.ns.length := by have := hin 0 h0; omega
    obtain ⟨bn, on, rfl, hnode⟩ := hns hN0
    refine (evened_f g b o x.kids.length ck t.ns.length c bn on ak (fun j => (x.k j).toNat) (fun q => (t.nd q).td) (fun q => (t.nd q).tk) (fun d p => d = t.evd x ∧ p = t.mk_ x) ⟨rfl, rfl⟩ w hN hm (fun j hj => by have := hin j hj; omega) _ (fun _ => rfl) c0 h4 ?_ (fun j => by have := td_le (t.nd j); have := (hs j).1; omega) (fun j => by have := tk_le (t.nd j); have := (hs j).2; omega) (fun q w' _ hq hg => trimmed_any bn (on + q * 4) (t.nd q) w' ((hnode q hq).grows hg))).mono ?_
    · intro h
      obtain ⟨b', o', e, hc⟩ := hk h
      refine ⟨b', o', e, fun j hj => ?_⟩
      have := hin j hj
      rw [hc j hj]
      show some (Value.int .i16 (x.k j)) = some (.int .i16 (((x.k j).toNat : Nat) : Int))
      rw [show (((x.k j).toNat : Nat) : Int) = x.k j by omega]
    · rintro e w' ⟨d, p, rfl, hg, rfl, rfl⟩
      exact ⟨rfl, hg⟩
  · refine (evened_f g b o x.kids.length ck t.ns.length c 0 0 ak (fun j => (x.k j).toNat) (fun q => (t.nd q).td) (fun q => (t.nd q).tk) (fun d p => d = t.evd x ∧ p = t.mk_ x) ⟨rfl, rfl⟩ w hN hm (fun j hj => absurd hj (by omega)) _ (fun h => absurd h h0) c0 h4 (fun h => absurd h h0) (fun j => by have := td_le (t.nd j); have := (hs j).1; omega) (fun j => by have := tk_le (t.nd j); have := (hs j).2; omega) (fun q w' h hq hg => absurd h h0)).mono ?_
    rintro e w' ⟨d, p, rfl, hg, rfl, rfl⟩
    exact ⟨rfl, hg⟩

/-! ### words -/
def Tr.wd (t : Tr) (x : Nd) : Nat :=
  if x.kind = 1 then x.td + x.tk
  else if x.code = 6 then x.kids.length
  else if x.code = 7 then 1 + x.kids.length * (t.evd x + t.mk_ x)
  else (x.data.length * 2 ^ (x.code - 2).toNat + 7) / 8

theorem evd_le {t : Tr} {x : Nd} (hs : t.Short) : t.evd x ≤ 128 ∧ t.mk_ x ≤ 128 := by
  have h1 : t.md x ≤ 128 := mx_le _ (fun j _ => Nat.le_trans (td_le _) (hs _).1)
  have h2 : t.mk_ x ≤ 128 := mx_le _ (fun j _ => Nat.le_trans (tk_le _) (hs _).2)
  unfold Tr.evd
  split <;> omega

set_option maxRecDepth 10000 in
theorem twords_any (g b o : Nat) (t : Tr) (x : Nd) (w : World) (ht : TrAt w g t) (hx : NodeAt w b o x) (hs : t.Short) (hd : x.data.length ≤ 128) (hk : x.kids.length ≤ 128)
    (hcode : x.kind = 1 ∨ (2 ≤ x.code ∧ x.code ≤ 7)) (hin : x.kind ≠ 1 → x.code = 7 → t.In x) :
    Calls Facg.prog 134 #[.pointer (some ⟨g, 0, none⟩), .pointer (some ⟨b, o, none⟩)] w fun e w' => e = .returned (.int .i64 (t.wd x)) ∧ Grows w w' := by
  have HT := hide (trimmed_any b o x w hx)
  have HE := hide (fun h => evened_any g b o t x w ht hx hs h)
  have hev := evd_le (x := x) hs
  have ht1 := td_le x
  have ht2 := tk_le x
  obtain ⟨_, _, c0, c1, ⟨v, c2, h3⟩, u, c3, h5⟩ := hx
  obtain ⟨ad, cd, rfl, hn, _, _⟩ := h3.row
  obtain ⟨ak, ck, rfl, hm, _, _⟩ := h5.row
  clear h3 h5 ht hs
  by_cases k1 : x.kind = 1
  · have hwd : t.wd x = x.td + x.tk := by unfold Tr.wd; rw [if_pos k1]
    rw [hwd]
    rw [k1] at c0
    generalize x.td = A at *
    generalize x.tk = B at *
    clear hwd
    go_enter Facg.func134, Facg.ntmps134
    go_wp2_with (first
      | (go_at_call 78; (with_reducible refine HT.out.mono ?_); rintro e w2 ⟨rfl, hg⟩; have HG := hide hg; clear hg))
    go_ret
    exact ⟨rfl, HG.out⟩
  · have e1 : (x.kind == 1) = false := by rw [beq_eq_false_iff_ne]; exact k1
    have hc : 2 ≤ x.code ∧ x.code ≤ 7 := hcode.resolve_left k1
    by_cases k6 : x.code = 6
    · have hwd : t.wd x = x.kids.length := by unfold Tr.wd; rw [if_neg k1, if_pos k6]
      rw [hwd]
      rw [k6] at c1
      clear hwd
      go_enter Facg.func134, Facg.ntmps134
      go_wp2
      go_ret
      exact ⟨rfl, Kept.refl _ _⟩
    · have e6 : (x.code == 6) = false := by rw [beq_eq_false_iff_ne]; exact k6
      by_cases k7 : x.code = 7
      · have hwd : t.wd x = 1 + x.kids.length * (t.evd x + t.mk_ x) := by unfold Tr.wd; rw [if_neg k1, if_neg k6, if_pos k7]
        rw [hwd]
        rw [k7] at c1
        have HE7 := hide (HE.out (hin k1 k7))
        have HC3 := hide c3
        clear hwd
        generalize t.evd x = A at *
        generalize t.mk_ x = B at *
        generalize x.kids.length = K at *
        have hb : K * (A + B) ≤ 128 * 256 := Nat.mul_le_mul hk (by omega)
        have hbi : (K : Int) * ((A : Int) + (B : Int)) = ((K * (A + B) : Nat) : Int) := by simp
        generalize K * (A + B) = M at *
        go_enter Facg.func134, Facg.ntmps134
        go_wp2_with (first
          | (go_at_call 80; (with_reducible refine HE7.out.mono ?_); rintro e w2 ⟨rfl, hg⟩; have HG := hide hg; have d3 := hg.cell HC3.out trivial; clear hg))
        go_ret
        exact ⟨rfl, HG.out⟩
      · have e7 : (x.code == 7) = false := by rw [beq_eq_false_iff_ne]; exact k7
        have hwd : t.wd x = (x.data.length * 2 ^ (x.code - 2).toNat + 7) / 8 := by unfold Tr.wd; rw [if_neg k1, if_neg k6, if_neg k7]
        rw [hwd]
        clear hwd HT HE
        generalize x.data.length = D at *
        have hcs : x.code = 2 ∨ x.code = 3 ∨ x.code = 4 ∨ x.code = 5 := by omega
        rcases hcs with hcs | hcs | hcs | hcs
        all_goals
          rw [hcs] at c1 ⊢
          simp only [show ((2 : Int) - 2).toNat = 0 from rfl, show ((3 : Int) - 2).toNat = 1 from rfl, show ((4 : Int) - 2).toNat = 2 from rfl, show ((5 : Int) - 2).toNat = 3 from rfl, Nat.pow_zero, Nat.mul_one, show (2 : Nat) ^ 1 = 2 from rfl, show (2 : Nat) ^ 2 = 4 from rfl, show (2 : Nat) ^ 3 = 8 from rfl]
          go_enter Facg.func134, Facg.ntmps134
          go_wp2
          go_quiet (fail)
          go_wp2
          go_ret
          exact ⟨rfl, (Kept.refl _ _).drewN _⟩
end Go.Proofs.Ygcfac
