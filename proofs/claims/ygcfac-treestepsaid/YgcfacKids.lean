/-
  law.sameKids; tree.sized; tree.alike.
-/
import Derived.Test.YgcfacTree
namespace Go.Proofs.Ygcfac
open Go.RowKit
set_option linter.unusedVariables false

theorem kids_len (a b : Option Addr) (n m ca cb : Nat) (h : n ≠ m) (hn : n ≤ 9223372036854775807) (hm : m ≤ 9223372036854775807) (w : World) :
    Calls Facg.prog 84 #[.slice a n ca, .slice b m cb] w fun e w' => e = .returned (.bool false) ∧ ∃ k, w' = w.drewN k := by
  have hb : ((n : Int) != (m : Int)) = true := by simp; omega
  go_enter Facg.func84, Facg.ntmps84
  go_wp2
  go_ret
  exact ⟨rfl, 0, rfl⟩

theorem kids_zero (a b : Option Addr) (ca cb : Nat) (w : World) :
    Calls Facg.prog 84 #[.slice a 0 ca, .slice b 0 cb] w fun e w' => e = .returned (.bool true) ∧ ∃ k, w' = w.drewN k := by
  go_enter Facg.func84, Facg.ntmps84
  go_wp2
  go_loop [13] (fun t => t = .int .i64 0) (fun _ => 0)
  case atStart => rfl
  case round =>
    subst hrel
    go_wp2
    go_ret
    exact ⟨rfl, 0, rfl⟩

set_option maxHeartbeats 800000 in
theorem kids_rows (b1 o1 b2 o2 n ca cb : Nat) (hn : n ≤ 9223372036854775807) (x y : Nat → Int) (w : World)
    (h1 : ∀ j, j < n → w.cell? ⟨b1, o1 + j, none⟩ = some (.int .i16 (x j))) (h2 : ∀ j, j < n → w.cell? ⟨b2, o2 + j, none⟩ = some (.int .i16 (y j))) :
    Calls Facg.prog 84 #[.slice (some ⟨b1, o1, none⟩) n ca, .slice (some ⟨b2, o2, none⟩) n cb] w fun e w' => (∃ r : Bool, e = .returned (.bool r) ∧ (r = true ↔ ∀ j, j < n → x j = y j)) ∧ ∃ k, w' = w.drewN k := by
  have H1 : Hid (∀ j, j < n → w.cell? ⟨b1, o1 + j, none⟩ = some (.int .i16 (x j))) := h1
  have H2 : Hid (∀ j, j < n → w.cell? ⟨b2, o2 + j, none⟩ = some (.int .i16 (y j))) := h2
  clear h1 h2
  go_enter Facg.func84, Facg.ntmps84
  go_wp2
  go_loopw [13, 5] (fun t _ wr => ∃ (j : Nat) (k : Nat), t = .int .i64 j ∧ j ≤ n ∧ wr = w.drewN k ∧ ∀ q, q < j → x q = y q) (fun t _ _ => n - (intOf t).toNat)
  case atStart => exact ⟨0, 0, rfl, Nat.zero_le _, rfl, fun q hq => absurd hq (Nat.not_lt_zero _)⟩
  case round =>
    obtain ⟨j, k, rfl, hj, hwr, hq⟩ := hrel
    have HW : Hid (wr = w.drewN k) := hwr
    have HQ : Hid (∀ q, q < j → x q = y q) := hq
    clear hwr hq
    by_cases hjn : j < n
    · have hc1 : wr.cell? ⟨b1, o1 + j, none⟩ = some (.int .i16 (x j)) := by rw [HW.out]; exact H1.out j hjn
      have hc2 : wr.cell? ⟨b2, o2 + j, none⟩ = some (.int .i16 (y j)) := by rw [HW.out]; exact H2.out j hjn
      have hji : (j : Int) < (n : Int) := by omega
      by_cases hxy : x j = y j
      · have hb : (x j != y j) = false := by simpa using hxy
        have HXY : Hid (x j = y j) := hxy
        clear hxy
        go_wp2
        go_quiet (fail)
        go_wp2
        go_roundw
        case rel => exact ⟨j + 1, _, by go_num, by omega, by rw [HW.out, World.drewN_drewN], fun q hq => by
            rcases Nat.lt_or_ge q j with h | h
            · exact HQ.out q h
            · rw [show q = j by omega]; exact HXY.out⟩
        case measure => simp [intOf]; omega
      · have hb : (x j != y j) = true := by simpa using hxy
        have HXY : Hid (¬ x j = y j) := hxy
        clear hxy
        go_wp2
        go_quiet (fail)
        go_wp2
        go_ret
        exact ⟨⟨false, rfl, by simpa using ⟨j, hjn, HXY.out⟩⟩, _, by rw [HW.out, World.drewN_drewN]⟩
    · go_wp2
      go_ret
      exact ⟨⟨true, rfl, by simpa using fun q hq => HQ.out q (by omega)⟩, k, HW.out⟩

/-- law.sameKids. -/
theorem same_kids (va vb : Value) (xs ys : List Int) (w : World) (h1 : Ints w .i16 va xs) (h2 : Ints w .i16 vb ys) :
    Calls Facg.prog 84 #[va, vb] w fun e w' => e = .returned (.bool (decide (xs = ys))) ∧ ∃ k, w' = w.drewN k := by
  obtain ⟨a, ca, rfl, hca, hma, _, ra⟩ := h1
  obtain ⟨b, cb, rfl, hcb, hmb, _, rb⟩ := h2
  unfold maxLen at hma hmb
  by_cases hl : xs.length = ys.length
  · by_cases hx : xs = []
    · subst hx
      have hy : ys = [] := List.eq_nil_of_length_eq_zero (by simpa using hl.symm)
      subst hy
      simpa using kids_zero a b ca cb w
    · have hy : ys ≠ [] := fun h => hx (List.eq_nil_of_length_eq_zero (by rw [hl, h]; rfl))
      obtain ⟨b1, o1, rfl, c1⟩ := ra hx
      obtain ⟨b2, o2, rfl, c2⟩ := rb hy
      rw [← hl] at c2 ⊢
      refine (kids_rows b1 o1 b2 o2 xs.length ca cb (by omega) _ _ w c1 c2).mono ?_
      rintro e w' ⟨⟨r, rfl, hr⟩, hw⟩
      refine ⟨?_, hw⟩
      have : r = decide (xs = ys) := by
        rw [Bool.eq_iff_iff, hr, decide_eq_true_iff]
        exact ⟨fun h => list_eq_of hl h, fun h => by subst h; exact fun _ _ => rfl⟩
      rw [this]
  · have hne : decide (xs = ys) = false := by simp; exact fun h => hl (by rw [h])
    rw [hne]
    exact kids_len a b xs.length ys.length ca cb hl (by omega) (by omega) w


/-- What alike tells: .. of two nodes that agree the kids are as many. -/
def AlikeP (w : World) (m1 m2 : Nat) (e : Ending) (w' : World) : Prop := ∃ r : Bool, e = .returned (.bool r) ∧ Grows w w' ∧ (r = true → m1 = m2)
theorem AlikeP.no {w w' : World} {m1 m2 : Nat} (h : Grows w w') : AlikeP w m1 m2 (.returned (.bool false)) w' := ⟨false, rfl, h, fun e => by cases e⟩
theorem AlikeP.yes {w w' : World} {m1 m2 : Nat} (h : Grows w w') (hm : m1 = m2) : AlikeP w m1 m2 (.returned (.bool true)) w' := ⟨true, rfl, h, fun _ => hm⟩

set_option maxHeartbeats 2000000 in
set_option maxRecDepth 10000 in
theorem alike_f (b1 o1 b2 o2 n1 n2 m1 m2 x1 x2 x3 x4 : Nat) (a1 a2 a3 a4 : Option Addr) (k1 k2 c1 c2 : Int) (f1 f2 : Nat → Int) (w : World) (hn1 : n1 ≤ 9223372036854775807) (hn2 : n2 ≤ 9223372036854775807) (hm1 : m1 ≤ 9223372036854775807) (hm2 : m2 ≤ 9223372036854775807)
    (p0 : w.cell? ⟨b1, o1, none⟩ = some (.int .u8 k1)) (p1 : w.cell? ⟨b1, o1 + 1, none⟩ = some (.int .u8 c1)) (p2 : w.cell? ⟨b1, o1 + 2, none⟩ = some (.slice a1 n1 x1)) (p3 : w.cell? ⟨b1, o1 + 3, none⟩ = some (.slice a3 m1 x3))
    (q0 : w.cell? ⟨b2, o2, none⟩ = some (.int .u8 k2)) (q1 : w.cell? ⟨b2, o2 + 1, none⟩ = some (.int .u8 c2)) (q2 : w.cell? ⟨b2, o2 + 2, none⟩ = some (.slice a2 n2 x2)) (q3 : w.cell? ⟨b2, o2 + 3, none⟩ = some (.slice a4 m2 x4))
    (r1 : Row w .u64 a1 n1 f1) (r2 : Row w .u64 a2 n2 f2) :
    Calls Facg.prog 81 #[.pointer (some ⟨b1, o1, none⟩), .pointer (some ⟨b2, o2, none⟩)] w (AlikeP w m1 m2) := by
  have HR1 := hide r1
  have HR2 := hide r2
  have HP2 := hide p2
  have HQ2 := hide q2
  clear r1 r2
  by_cases hk : k1 = k2
  · have ek : (k1 != k2) = false := by rw [bne_eq_false_iff_eq]; exact hk
    clear hk
    by_cases hc : c1 = c2
    · have ec : (c1 != c2) = false := by rw [bne_eq_false_iff_eq]; exact hc
      clear hc
      by_cases hn : n1 = n2
      · subst hn
        by_cases hm : m1 = m2
        · subst hm
          go_enter Facg.func81, Facg.ntmps81
          go_wp2
          go_quiet (fail)
          have HG0 := hide ((Kept.refl (fun _ => True) w).drewN nq)
          have p2' := HG0.out.cell HP2.out trivial
          clear p0 p1 p2 p3 q0 q1 q2 q3
          generalize w.drewN nq = w0 at *
          go_wp2
          go_loopw [57] (fun tj wr => ∃ j : Nat, tj = .int .i64 j ∧ j ≤ n1 ∧ Grows w wr) (fun tj _ => n1 - (intOf tj).toNat)
          case atStart => exact ⟨0, rfl, Nat.zero_le _, HG0.out⟩
          case round =>
            obtain ⟨j, rfl, hj, hg⟩ := hrel
            have HG := hide hg
            clear hg HG0 p2'
            have p2 := HG.out.cell HP2.out trivial
            have q2 := HG.out.cell HQ2.out trivial
            by_cases hjn : j < n1
            · have hdj : decide (j < n1) = true := decide_eq_true hjn
              obtain ⟨bb1, oo1, rfl, g1⟩ := HR1.out (by omega)
              obtain ⟨bb2, oo2, rfl, g2⟩ := HR2.out (by omega)
              have y1 := HG.out.cell (g1 j hjn) trivial
              have y2 := HG.out.cell (g2 j hjn) trivial
              clear g1 g2
              cases hb : (f1 j != f2 j)
              · go_wp2
                go_quiet (fail)
                have HG1 := hide (HG.out.drewN nq)
                clear p2 q2 y1 y2
                generalize wr.drewN nq = w1 at *
                go_wp2
                go_roundw
                case rel => exact ⟨j + 1, by go_num, by omega, HG1.out⟩
                case measure => simp [intOf]; omega
              · go_wp2
                go_quiet (fail)
                have HG1 := hide (HG.out.drewN nq)
                clear p2 q2 y1 y2
                generalize wr.drewN nq = w1 at *
                go_wp2
                go_ret
                exact AlikeP.no HG1.out
            · have hdj : decide (j < n1) = false := decide_eq_false hjn
              go_wp2
              go_ret
              exact AlikeP.yes HG.out rfl
        · have em : ((m1 : Int) != (m2 : Int)) = true := by rw [bne_iff_ne]; omega
          go_enter Facg.func81, Facg.ntmps81
          go_wp2
          go_quiet (fail)
          go_wp2
          go_ret
          exact AlikeP.no ((Kept.refl _ _).drewN _)
      · have en : ((n1 : Int) != (n2 : Int)) = true := by rw [bne_iff_ne]; omega
        go_enter Facg.func81, Facg.ntmps81
        go_wp2
        go_quiet (fail)
        go_wp2
        go_ret
        exact AlikeP.no ((Kept.refl _ _).drewN _)
    · have ec : (c1 != c2) = true := by rw [bne_iff_ne]; exact hc
      clear hc
      go_enter Facg.func81, Facg.ntmps81
      go_wp2
      go_quiet (fail)
      go_wp2
      go_ret
      exact AlikeP.no ((Kept.refl _ _).drewN _)
  · have ek : (k1 != k2) = true := by rw [bne_iff_ne]; exact hk
    clear hk
    go_enter Facg.func81, Facg.ntmps81
    go_wp2
    go_quiet (fail)
    go_wp2
    go_ret
    exact AlikeP.no ((Kept.refl _ _).drewN _)

theorem alike_any (b1 o1 b2 o2 : Nat) (x y : Nd) (w : World) (hx : NodeAt w b1 o1 x) (hy : NodeAt w b2 o2 y) :
    Calls Facg.prog 81 #[.pointer (some ⟨b1, o1, none⟩), .pointer (some ⟨b2, o2, none⟩)] w (AlikeP w x.kids.length y.kids.length) := by
  obtain ⟨_, _, p0, p1, ⟨v, p2, h3⟩, u, p3, h5⟩ := hx
  obtain ⟨ad, cd, rfl, hn, hd, _⟩ := h3.row
  obtain ⟨ak, ck, rfl, hm, hk, _⟩ := h5.row
  obtain ⟨_, _, q0, q1, ⟨v', q2, h3'⟩, u', q3, h5'⟩ := hy
  obtain ⟨ad', cd', rfl, hn', hd', _⟩ := h3'.row
  obtain ⟨ak', ck', rfl, hm', hk', _⟩ := h5'.row
  exact alike_f b1 o1 b2 o2 _ _ _ _ _ _ _ _ _ _ _ _ _ _ _ _ _ _ w hn hn' hm hm' p0 p1 p2 p3 q0 q1 q2 q3 hd hd'
end Go.Proofs.Ygcfac
