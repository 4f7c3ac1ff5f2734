/-
  tree.Tree in memory: nodes, rows of nodes, and (*Node).trimmed.
-/
import Derived.Test.YgcfacTake
import Derived.BigQuiet
namespace Go.Proofs.Ygcfac
open Go.RowKit
set_option linter.unusedVariables false

structure Nd where
  kind : Int
  code : Int
  data : List Int
  kids : List Int

structure Tr where
  ns : List Nd
  root : Int

/-- A row of integers, by a function. -/
def Row (w : World) (k : IntKind) (a : Option Addr) (n : Nat) (f : Nat → Int) : Prop :=
  0 < n → ∃ b o, a = some ⟨b, o, none⟩ ∧ ∀ j, j < n → w.cell? ⟨b, o + j, none⟩ = some (.int k (f j))

theorem Row.kept {w w' : World} {k : IntKind} {a : Option Addr} {n : Nat} {f : Nat → Int} (h : Row w k a n f) (hg : Grows w w') : Row w' k a n f := fun h0 => by
  obtain ⟨b, o, e, hc⟩ := h h0
  exact ⟨b, o, e, fun j hj => hg.cell (hc j hj) trivial⟩

theorem Ints.row {w : World} {k : IntKind} {v : Value} {xs : List Int} (h : Ints w k v xs) : ∃ a c, v = .slice a xs.length c ∧ xs.length ≤ 9223372036854775807 ∧ Row w k a xs.length (fun j => xs.getD j 0) ∧ ∀ x ∈ xs, (Lit.int k x).wf = true := by
  obtain ⟨a, c, rfl, hc, hm, hw, hr⟩ := h
  unfold maxLen at hm
  refine ⟨a, c, rfl, by omega, fun h0 => ?_, hw⟩
  exact hr (by intro e; rw [e] at h0; simp at h0)

def NodeAt (w : World) (b o : Nat) (x : Nd) : Prop :=
  (0 ≤ x.kind ∧ x.kind < 256) ∧ (0 ≤ x.code ∧ x.code < 256) ∧
  w.cell? ⟨b, o, none⟩ = some (.int .u8 x.kind) ∧ w.cell? ⟨b, o + 1, none⟩ = some (.int .u8 x.code) ∧
  (∃ v, w.cell? ⟨b, o + 2, none⟩ = some v ∧ Ints w .u64 v x.data) ∧ ∃ v, w.cell? ⟨b, o + 3, none⟩ = some v ∧ Ints w .i16 v x.kids

theorem NodeAt.grows {w w' : World} {b o : Nat} {x : Nd} (h : NodeAt w b o x) (hg : Grows w w') : NodeAt w' b o x := by
  obtain ⟨r1, r2, h0, h1, ⟨v, h2, h3⟩, u, h4, h5⟩ := h
  exact ⟨r1, r2, hg.cell h0 trivial, hg.cell h1 trivial, ⟨v, hg.cell h2 trivial, h3.grows hg⟩, u, hg.cell h4 trivial, h5.grows hg⟩

/-- A slice of nodes. -/
def NsAt (w : World) (v : Value) (ns : List Nd) : Prop :=
  ∃ a c, v = .slice a ns.length c ∧ ns.length ≤ c ∧ c ≤ maxLen ∧ (ns ≠ [] → ∃ b o, a = some ⟨b, o, none⟩ ∧ ∀ j x, ns[j]? = some x → NodeAt w b (o + j * 4) x)

theorem NsAt.grows {w w' : World} {v : Value} {ns : List Nd} (h : NsAt w v ns) (hg : Grows w w') : NsAt w' v ns := by
  obtain ⟨a, c, rfl, h1, h2, h3⟩ := h
  refine ⟨a, c, rfl, h1, h2, fun hne => ?_⟩
  obtain ⟨b, o, rfl, hc⟩ := h3 hne
  exact ⟨b, o, rfl, fun j x hj => (hc j x hj).grows hg⟩

/-- A tree at the head of block g. -/
def TrAt (w : World) (g : Nat) (t : Tr) : Prop :=
  (-32768 ≤ t.root ∧ t.root < 32768) ∧ (∃ v, w.cell? ⟨g, 0, none⟩ = some v ∧ NsAt w v t.ns) ∧ w.cell? ⟨g, 1, none⟩ = some (.int .i16 t.root)

theorem TrAt.grows {w w' : World} {g : Nat} {t : Tr} (h : TrAt w g t) (hg : Grows w w') : TrAt w' g t := by
  obtain ⟨r, ⟨v, h1, h2⟩, h3⟩ := h
  exact ⟨r, ⟨v, hg.cell h1 trivial, h2.grows hg⟩, hg.cell h3 trivial⟩

/-! ### trimmed -/
/-- The length that is left where the z's at the end are dropped. -/
def tl (z : Int) (f : Nat → Int) : Nat → Nat
  | 0 => 0
  | n + 1 => if f n = z then tl z f n else n + 1

theorem tl_le (z : Int) (f : Nat → Int) : ∀ n, tl z f n ≤ n
  | 0 => Nat.le_refl _
  | n + 1 => by
    unfold tl
    have := tl_le z f n
    split <;> omega

set_option maxRecDepth 10000 in
theorem trimmed_f (b o n m cd ck : Nat) (ad ak : Option Addr) (f g : Nat → Int) (w : World) (hn : n ≤ 9223372036854775807) (hm : m ≤ 9223372036854775807)
    (c2 : w.cell? ⟨b, o + 2, none⟩ = some (.slice ad n cd)) (c3 : w.cell? ⟨b, o + 3, none⟩ = some (.slice ak m ck)) (hd : Row w .u64 ad n f) (hk : Row w .i16 ak m g) :
    Calls Facg.prog 78 #[.pointer (some ⟨b, o, none⟩)] w fun e w' => e = .returned (.tuple #[.int .i64 (tl 0 f n), .int .i64 (tl (-1) g m)]) ∧ Grows w w' := by
  have HD := hide hd
  have HK := hide hk
  clear hd hk
  go_enter Facg.func78, Facg.ntmps78
  go_wp2
  go_quiet (fail)
  go_wp2
  go_loopw [2] (fun t wr => ∃ i : Nat, t = .int .i64 i ∧ i ≤ n ∧ Grows w wr ∧ tl 0 f n = tl 0 f i) (fun t _ => (intOf t).toNat)
  case atStart => exact ⟨n, rfl, Nat.le_refl _, (Kept.refl _ _).drewN _, rfl⟩
  case round =>
    obtain ⟨i, rfl, hi, hg, htl⟩ := hrel
    have HT := hide htl
    have HG := hide hg
    have d2 := hg.cell c2 trivial
    have d3 := hg.cell c3 trivial
    have HC2 := hide c2
    have HC3 := hide c3
    clear htl hg c2 c3
    by_cases h0 : i = 0
    · subst h0
      have HTE := hide (show tl 0 f n = 0 by rw [HT.out]; rfl)
      go_wp2
      go_loopw [3] (fun t wr => ∃ i : Nat, t = .int .i64 i ∧ i ≤ m ∧ Grows w wr ∧ tl (-1) g m = tl (-1) g i) (fun t _ => (intOf t).toNat)
      case atStart => exact ⟨m, rfl, Nat.le_refl _, HG.out, rfl⟩
      case round =>
        obtain ⟨k, rfl, hk, hg, htl⟩ := hrel
        clear d2 d3 HG HD
        have HG := hide hg
        have HT2 := hide htl
        have d3 := hg.cell HC3.out trivial
        clear hg htl
        by_cases h1 : k = 0
        · subst h1
          go_wp2
          refine bodyPost_ret (v := .tuple #[.int .i64 (tl 0 f n), .int .i64 (tl (-1) g m)]) (by rw [HTE.out, HT2.out]; simp [results, Facg.results78, go_sem, tl]) rfl ?_
          exact ⟨rfl, HG.out⟩
        · obtain ⟨q, rfl⟩ : ∃ q, k = q + 1 := ⟨k - 1, by omega⟩
          obtain ⟨bk, ok, rfl, hc⟩ := HK.out (by omega)
          have cx := HG.out.cell (hc q (by omega)) trivial
          clear hc
          have hdec2 : decide ((0 : Int) < ((q + 1 : Nat) : Int)) = true := decide_eq_true (by omega)
          have hqm : q < m := by omega
          cases hz2 : (g q == -1) with
          | true =>
            have hz3 : g q = -1 := by simpa using hz2
            have HT3 := hide (show tl (-1) g m = tl (-1) g q by rw [HT2.out]; simp only [tl]; rw [if_pos hz3])
            clear hz3
            go_wp2
            go_roundw
            case rel => exact ⟨q, by go_num, by omega, HG.out, HT3.out⟩
            case measure => simp [intOf]
          | false =>
            have hz3 : ¬ g q = -1 := by simpa using hz2
            have HT3 := hide (show tl (-1) g m = q + 1 by rw [HT2.out]; simp only [tl]; rw [if_neg hz3])
            clear hz3
            go_wp2
            refine bodyPost_ret (v := .tuple #[.int .i64 (tl 0 f n), .int .i64 (tl (-1) g m)]) (by rw [HTE.out, HT3.out]; simp [results, Facg.results78, go_sem]) rfl ?_
            exact ⟨rfl, HG.out⟩
    · obtain ⟨j, rfl⟩ : ∃ j, i = j + 1 := ⟨i - 1, by omega⟩
      obtain ⟨bd, od, rfl, hc⟩ := HD.out (by omega)
      have cx := HG.out.cell (hc j (by omega)) trivial
      clear hc
      have hdec : decide ((0 : Int) < ((j + 1 : Nat) : Int)) = true := decide_eq_true (by omega)
      have hjn : j < n := by omega
      cases hz : (f j == 0) with
      | true =>
        have hz' : f j = 0 := by simpa using hz
        have HTj := hide (show tl 0 f n = tl 0 f j by rw [HT.out]; simp only [tl]; rw [if_pos hz'])
        clear hz'
        go_wp2
        go_roundw
        case rel => exact ⟨j, by go_num, by omega, HG.out, HTj.out⟩
        case measure => simp [intOf]
      | false =>
        have hz' : ¬ f j = 0 := by simpa using hz
        have HTE := hide (show tl 0 f n = j + 1 by rw [HT.out]; simp only [tl]; rw [if_neg hz'])
        clear hz'
        go_wp2
        go_loopw [3] (fun t wr => ∃ i : Nat, t = .int .i64 i ∧ i ≤ m ∧ Grows w wr ∧ tl (-1) g m = tl (-1) g i) (fun t _ => (intOf t).toNat)
        case atStart => exact ⟨m, rfl, Nat.le_refl _, HG.out, rfl⟩
        case round =>
          obtain ⟨k, rfl, hk, hg, htl⟩ := hrel
          clear d2 d3 HG HD
          have HG := hide hg
          have HT2 := hide htl
          have d3 := hg.cell HC3.out trivial
          clear hg htl
          by_cases h1 : k = 0
          · subst h1
            go_wp2
            refine bodyPost_ret (v := .tuple #[.int .i64 (tl 0 f n), .int .i64 (tl (-1) g m)]) (by rw [HTE.out, HT2.out]; simp [results, Facg.results78, go_sem, tl]) rfl ?_
            exact ⟨rfl, HG.out⟩
          · obtain ⟨q, rfl⟩ : ∃ q, k = q + 1 := ⟨k - 1, by omega⟩
            obtain ⟨bk, ok, rfl, hc⟩ := HK.out (by omega)
            have cx := HG.out.cell (hc q (by omega)) trivial
            clear hc
            have hdec2 : decide ((0 : Int) < ((q + 1 : Nat) : Int)) = true := decide_eq_true (by omega)
            have hqm : q < m := by omega
            cases hz2 : (g q == -1) with
            | true =>
              have hz3 : g q = -1 := by simpa using hz2
              have HT3 := hide (show tl (-1) g m = tl (-1) g q by rw [HT2.out]; simp only [tl]; rw [if_pos hz3])
              clear hz3
              go_wp2
              go_roundw
              case rel => exact ⟨q, by go_num, by omega, HG.out, HT3.out⟩
              case measure => simp [intOf]
            | false =>
              have hz3 : ¬ g q = -1 := by simpa using hz2
              have HT3 := hide (show tl (-1) g m = q + 1 by rw [HT2.out]; simp only [tl]; rw [if_neg hz3])
              clear hz3
              go_wp2
              refine bodyPost_ret (v := .tuple #[.int .i64 (tl 0 f n), .int .i64 (tl (-1) g m)]) (by rw [HTE.out, HT3.out]; simp [results, Facg.results78, go_sem]) rfl ?_
              exact ⟨rfl, HG.out⟩

def Nd.nil : Nd := ⟨0, 0, [], []⟩

def Nd.d (x : Nd) (j : Nat) : Int := x.data.getD j 0
def Nd.k (x : Nd) (j : Nat) : Int := x.kids.getD j 0
/-- What trimmed returns. -/
def Nd.td (x : Nd) : Nat := tl 0 x.d x.data.length
def Nd.tk (x : Nd) : Nat := tl (-1) x.k x.kids.length

theorem trimmed_any (b o : Nat) (x : Nd) (w : World) (h : NodeAt w b o x) :
    Calls Facg.prog 78 #[.pointer (some ⟨b, o, none⟩)] w fun e w' => e = .returned (.tuple #[.int .i64 x.td, .int .i64 x.tk]) ∧ Grows w w' := by
  obtain ⟨_, _, _, _, ⟨v, h2, h3⟩, u, h4, h5⟩ := h
  obtain ⟨ad, cd, rfl, hn, hd, _⟩ := h3.row
  obtain ⟨ak, ck, rfl, hm, hk, _⟩ := h5.row
  exact trimmed_f b o x.data.length x.kids.length cd ck ad ak _ _ w hn hm h2 h4 hd hk
end Go.Proofs.Ygcfac
