/-
  (*Tree).shaped.
-/
import Derived.Test.YgcfacEven
namespace Go.Proofs.Ygcfac
open Go.RowKit
set_option linter.unusedVariables false

def lim (c : Int) : Int := if c = 2 then 255 else if c = 3 then 65535 else if c = 4 then 4294967295 else 18446744073709551615

def Links (N i m : Nat) (h : Nat → Int) : Prop := ∀ j, j < m → h j = -1 ∨ ((i : Int) < h j ∧ h j < (N : Int))

def ShpF (kd : Nat → Int) (N i n m : Nat) (k c : Int) (f h : Nat → Int) : Prop :=
  Links N i m h ∧
  ((k = 1 ∧ c = 0 ∧ n ≤ 8 ∧ m ≤ 8) ∨
   (k = 2 ∧ n ≤ 128 ∧ m ≤ 128 ∧
    (((2 ≤ c ∧ c ≤ 5) ∧ m = 0 ∧ ∀ j, j < n → f j ≤ lim c) ∨ (c = 6 ∧ n = 0) ∨ (c = 7 ∧ n = 0 ∧ ∀ j, j < m → h j ≠ -1 ∧ kd (h j).toNat = 1))))

def Shp (t : Tr) (i : Nat) : Prop := ShpF (fun q => (t.nd q).kind) t.ns.length i (t.nd i).data.length (t.nd i).kids.length (t.nd i).kind (t.nd i).code (t.nd i).d (t.nd i).k

def Two (kd : Nat → Int) (n m : Nat) (c : Int) (f h : Nat → Int) : Prop :=
  ((2 ≤ c ∧ c ≤ 5) ∧ m = 0 ∧ ∀ j, j < n → f j ≤ lim c) ∨ (c = 6 ∧ n = 0) ∨ (c = 7 ∧ n = 0 ∧ ∀ j, j < m → h j ≠ -1 ∧ kd (h j).toNat = 1)
theorem shp_two {kd : Nat → Int} {N i n m : Nat} {c : Int} {f h : Nat → Int} (hs : ShpF kd N i n m 2 c f h) : n ≤ 128 ∧ m ≤ 128 ∧ Two kd n m c f h := by
  rcases hs.2 with hx | hx
  · exact absurd hx.1 (by decide)
  · exact hx.2
theorem shp_kind {kd : Nat → Int} {N i n m : Nat} {k c : Int} {f h : Nat → Int} (hs : ShpF kd N i n m k c f h) : k = 1 ∨ k = 2 := by
  rcases hs.2 with hx | hx
  · exact .inl hx.1
  · exact .inr hx.1

def Tells (w : World) (p : Prop) (e : Ending) (w' : World) : Prop := ∃ r, e = .returned (.bool r) ∧ w' = w ∧ (r = true ↔ p)
theorem Tells.no {w : World} {p : Prop} (h : ¬ p) : Tells w p (.returned (.bool false)) w := ⟨false, rfl, rfl, ⟨fun e => (by cases e), fun h' => absurd h' h⟩⟩
theorem Tells.yes {w : World} {p : Prop} (h : p) : Tells w p (.returned (.bool true)) w := ⟨true, rfl, rfl, ⟨fun _ => h, fun _ => rfl⟩⟩

set_option maxHeartbeats 2000000 in
set_option maxRecDepth 100000 in
theorem shaped_f (g N cN bn on i n m cd ck : Nat) (ad ak : Option Addr) (k c : Int) (f h : Nat → Int) (kd : Nat → Int) (w : World) (hN : N ≤ 9223372036854775807) (hi : i < N) (hn : n ≤ 9223372036854775807) (hm : m ≤ 9223372036854775807)
    (hh : ∀ j, j < m → -32768 ≤ h j ∧ h j < 32768) (hf : ∀ j, j < n → 0 ≤ f j ∧ f j < 18446744073709551616)
    (t0 : w.cell? ⟨g, 0, none⟩ = some (.slice (some ⟨bn, on, none⟩) N cN))
    (c0 : w.cell? ⟨bn, on + i * 4, none⟩ = some (.int .u8 k)) (c1 : w.cell? ⟨bn, on + i * 4 + 1, none⟩ = some (.int .u8 c))
    (c2 : w.cell? ⟨bn, on + i * 4 + 2, none⟩ = some (.slice ad n cd)) (c3 : w.cell? ⟨bn, on + i * 4 + 3, none⟩ = some (.slice ak m ck))
    (rd : Row w .u64 ad n f) (rk : Row w .i16 ak m h) (hkd : ∀ q, q < N → w.cell? ⟨bn, on + q * 4, none⟩ = some (.int .u8 (kd q))) :
    Calls Facg.prog 76 #[.pointer (some ⟨g, 0, none⟩), .int .i64 i] w (Tells w (ShpF kd N i n m k c f h)) := by
  have HD := hide rd
  have HK := hide rk
  have HH := hide hh
  have HF := hide hf
  have HKd := hide hkd
  have hiN : decide (i < N) = true := decide_eq_true hi
  clear rd rk hh hf hkd
  go_enter Facg.func76, Facg.ntmps76
  go_wp2
  go_loopw [23] (fun t wr => ∃ j : Nat, t = .int .i64 j ∧ j ≤ m ∧ wr = w ∧ Links N i j h) (fun t _ => m - (intOf t).toNat)
  case atStart => exact ⟨0, rfl, Nat.zero_le _, rfl, fun j hj => absurd hj (Nat.not_lt_zero _)⟩
  case round =>
    obtain ⟨j, rfl, hj, rfl, hl⟩ := hrel
    have HL := hide hl
    clear hl
    by_cases hjm : j < m
    · have hdj : decide (j < m) = true := decide_eq_true hjm
      obtain ⟨bk, ok, rfl, hc⟩ := HK.out (by omega)
      have cx := hc j hjm
      have hb := HH.out j hjm
      have HLs := hide (show ∀ hx : h j = -1 ∨ ((i : Int) < h j ∧ h j < (N : Int)), Links N i (j + 1) h from fun hx q hq => by
        by_cases e : q = j
        · subst e; exact hx
        · exact HL.out q (by omega))
      have HNo := hide (show (¬ (h j = -1 ∨ ((i : Int) < h j ∧ h j < (N : Int)))) → ¬ ShpF kd N i n m k c f h from fun hx hs => hx (hs.1 j hjm))
      clear hc
      generalize h j = y at *
      by_cases y1 : y = -1
      · subst y1
        go_wp2
        go_roundw
        case rel => exact ⟨j + 1, by go_num, by omega, by first | rfl | trivial, HLs.out (.inl rfl)⟩
        case measure => simp [intOf]; omega
      · have e1 : (y != -1) = true := by rw [bne_iff_ne]; exact y1
        by_cases y2 : y ≤ (i : Int)
        · have e2 : decide (y ≤ (i : Int)) = true := decide_eq_true y2
          go_wp2
          go_ret
          exact Tells.no (HNo.out (by omega))
        · have e2 : decide (y ≤ (i : Int)) = false := decide_eq_false y2
          by_cases y3 : (N : Int) ≤ y
          · have e3 : decide ((N : Int) ≤ y) = true := decide_eq_true y3
            go_wp2
            go_ret
            exact Tells.no (HNo.out (by omega))
          · have e3 : decide ((N : Int) ≤ y) = false := decide_eq_false y3
            go_wp2
            go_roundw
            case rel => exact ⟨j + 1, by go_num, by omega, by first | rfl | trivial, HLs.out (.inr (by omega))⟩
            case measure => simp [intOf]; omega
    · obtain rfl : j = m := by omega
      have hdj : decide (j < j) = false := decide_eq_false (by omega)
      by_cases k1 : k = 1
      · subst k1
        have HIff : Hid (ShpF kd N i n j 1 c f h ↔ c = 0 ∧ n ≤ 8 ∧ j ≤ 8) := ⟨fun hs => by
            rcases hs.2 with hx | hx
            · exact hx.2
            · exact absurd hx.1 (by decide), fun hx => ⟨HL.out, .inl ⟨rfl, hx⟩⟩⟩
        by_cases x1 : c = 0
        · subst x1
          by_cases x2 : n ≤ 8
          · have y2 : decide ((n : Int) ≤ 8) = true := decide_eq_true (by omega)
            by_cases x3 : j ≤ 8
            · have y3 : decide ((j : Int) ≤ 8) = true := decide_eq_true (by omega)
              go_wp2
              go_ret
              exact Tells.yes (HIff.out.2 ⟨by first | rfl | trivial, x2, x3⟩)
            · have y3 : decide ((j : Int) ≤ 8) = false := decide_eq_false (by omega)
              go_wp2
              go_ret
              exact Tells.no (fun hs => x3 (HIff.out.1 hs).2.2)
          · have y2 : decide ((n : Int) ≤ 8) = false := decide_eq_false (by omega)
            go_wp2
            go_ret
            exact Tells.no (fun hs => x2 (HIff.out.1 hs).2.1)
        · have y1 : (c == 0) = false := by rw [beq_eq_false_iff_ne]; exact x1
          go_wp2
          go_ret
          exact Tells.no (fun hs => x1 (HIff.out.1 hs).1)
      · have e1 : (k == 1) = false := by rw [beq_eq_false_iff_ne]; exact k1
        by_cases k2 : k = 2
        · subst k2
          by_cases n1 : n ≤ 128
          · have f1 : decide ((128 : Int) < (n : Int)) = false := decide_eq_false (by omega)
            by_cases n2 : j ≤ 128
            · have f2 : decide ((128 : Int) < (j : Int)) = false := decide_eq_false (by omega)
              have HIff : Hid (Two kd n j c f h → ShpF kd N i n j 2 c f h) := fun ht => ⟨HL.out, .inr ⟨rfl, n1, n2, ht⟩⟩
              by_cases hcs : 2 ≤ c ∧ c ≤ 5
              · have HIff2 : Hid (ShpF kd N i n j 2 c f h ↔ j = 0 ∧ ∀ q, q < n → f q ≤ lim c) := ⟨fun hs => by
                    rcases (shp_two hs).2.2 with hx | hx | hx
                    · exact hx.2
                    · exact absurd hx.1 (by omega)
                    · exact absurd hx.1 (by omega), fun hx => HIff.out (.inl ⟨hcs, hx⟩)⟩
                clear HIff
                have hcs' : c = 2 ∨ c = 3 ∨ c = 4 ∨ c = 5 := by omega
                rcases hcs' with rfl | rfl | rfl | rfl
                · clear hcs
                  rw [show lim 2 = 255 from rfl] at HIff2
                  go_wp2
                  go_loopw [113] (fun t wr' => ∃ q : Nat, t = .int .i64 q ∧ q ≤ n ∧ wr' = wr ∧ ∀ p, p < q → f p ≤ 255) (fun t _ => n - (intOf t).toNat)
                  case atStart => exact ⟨0, rfl, Nat.zero_le _, rfl, fun p hp => absurd hp (Nat.not_lt_zero _)⟩
                  case round =>
                    obtain ⟨q, rfl, hq, rfl, hl⟩ := hrel
                    have HLq := hide hl
                    clear hl
                    by_cases hqn : q < n
                    · have hdq : decide (q < n) = true := decide_eq_true hqn
                      obtain ⟨bd, od, rfl, hc⟩ := HD.out (by omega)
                      have cx := hc q hqn
                      have hb := HF.out q hqn
                      clear hc
                      by_cases hle : f q ≤ 255
                      · have y1 : decide ((255 : Int) < f q) = false := decide_eq_false (by omega)
                        have HLs := hide (show ∀ p, p < q + 1 → f p ≤ 255 from fun p hp => (by
                          by_cases e : p = q
                          · subst e; exact hle
                          · exact HLq.out p (by omega)))
                        clear hle
                        go_wp2
                        go_roundw
                        case rel => exact ⟨q + 1, by go_num, by omega, by first | rfl | trivial, HLs.out⟩
                        case measure => simp [intOf]; omega
                      · have y1 : decide ((255 : Int) < f q) = true := decide_eq_true (by omega)
                        go_wp2
                        go_ret
                        exact Tells.no (fun hs => absurd ((HIff2.out.1 hs).2 q hqn) (by omega))
                    · have hdq : decide (q < n) = false := decide_eq_false hqn
                      by_cases hj0 : j = 0
                      · subst hj0
                        go_wp2
                        go_ret
                        exact Tells.yes (HIff2.out.2 ⟨by first | rfl | trivial, fun p hp => HLq.out p (by omega)⟩)
                      · have y0 : ((j : Int) == 0) = false := by rw [beq_eq_false_iff_ne]; omega
                        go_wp2
                        go_ret
                        exact Tells.no (fun hs => hj0 (HIff2.out.1 hs).1)
                · clear hcs
                  rw [show lim 3 = 65535 from rfl] at HIff2
                  go_wp2
                  go_loopw [113] (fun t wr' => ∃ q : Nat, t = .int .i64 q ∧ q ≤ n ∧ wr' = wr ∧ ∀ p, p < q → f p ≤ 65535) (fun t _ => n - (intOf t).toNat)
                  case atStart => exact ⟨0, rfl, Nat.zero_le _, rfl, fun p hp => absurd hp (Nat.not_lt_zero _)⟩
                  case round =>
                    obtain ⟨q, rfl, hq, rfl, hl⟩ := hrel
                    have HLq := hide hl
                    clear hl
                    by_cases hqn : q < n
                    · have hdq : decide (q < n) = true := decide_eq_true hqn
                      obtain ⟨bd, od, rfl, hc⟩ := HD.out (by omega)
                      have cx := hc q hqn
                      have hb := HF.out q hqn
                      clear hc
                      by_cases hle : f q ≤ 65535
                      · have y1 : decide ((65535 : Int) < f q) = false := decide_eq_false (by omega)
                        have HLs := hide (show ∀ p, p < q + 1 → f p ≤ 65535 from fun p hp => (by
                          by_cases e : p = q
                          · subst e; exact hle
                          · exact HLq.out p (by omega)))
                        clear hle
                        go_wp2
                        go_roundw
                        case rel => exact ⟨q + 1, by go_num, by omega, by first | rfl | trivial, HLs.out⟩
                        case measure => simp [intOf]; omega
                      · have y1 : decide ((65535 : Int) < f q) = true := decide_eq_true (by omega)
                        go_wp2
                        go_ret
                        exact Tells.no (fun hs => absurd ((HIff2.out.1 hs).2 q hqn) (by omega))
                    · have hdq : decide (q < n) = false := decide_eq_false hqn
                      by_cases hj0 : j = 0
                      · subst hj0
                        go_wp2
                        go_ret
                        exact Tells.yes (HIff2.out.2 ⟨by first | rfl | trivial, fun p hp => HLq.out p (by omega)⟩)
                      · have y0 : ((j : Int) == 0) = false := by rw [beq_eq_false_iff_ne]; omega
                        go_wp2
                        go_ret
                        exact Tells.no (fun hs => hj0 (HIff2.out.1 hs).1)
                · clear hcs
                  rw [show lim 4 = 4294967295 from rfl] at HIff2
                  go_wp2
                  go_loopw [113] (fun t wr' => ∃ q : Nat, t = .int .i64 q ∧ q ≤ n ∧ wr' = wr ∧ ∀ p, p < q → f p ≤ 4294967295) (fun t _ => n - (intOf t).toNat)
                  case atStart => exact ⟨0, rfl, Nat.zero_le _, rfl, fun p hp => absurd hp (Nat.not_lt_zero _)⟩
                  case round =>
                    obtain ⟨q, rfl, hq, rfl, hl⟩ := hrel
                    have HLq := hide hl
                    clear hl
                    by_cases hqn : q < n
                    · have hdq : decide (q < n) = true := decide_eq_true hqn
                      obtain ⟨bd, od, rfl, hc⟩ := HD.out (by omega)
                      have cx := hc q hqn
                      have hb := HF.out q hqn
                      clear hc
                      by_cases hle : f q ≤ 4294967295
                      · have y1 : decide ((4294967295 : Int) < f q) = false := decide_eq_false (by omega)
                        have HLs := hide (show ∀ p, p < q + 1 → f p ≤ 4294967295 from fun p hp => (by
                          by_cases e : p = q
                          · subst e; exact hle
                          · exact HLq.out p (by omega)))
                        clear hle
                        go_wp2
                        go_roundw
                        case rel => exact ⟨q + 1, by go_num, by omega, by first | rfl | trivial, HLs.out⟩
                        case measure => simp [intOf]; omega
                      · have y1 : decide ((4294967295 : Int) < f q) = true := decide_eq_true (by omega)
                        go_wp2
                        go_ret
                        exact Tells.no (fun hs => absurd ((HIff2.out.1 hs).2 q hqn) (by omega))
                    · have hdq : decide (q < n) = false := decide_eq_false hqn
                      by_cases hj0 : j = 0
                      · subst hj0
                        go_wp2
                        go_ret
                        exact Tells.yes (HIff2.out.2 ⟨by first | rfl | trivial, fun p hp => HLq.out p (by omega)⟩)
                      · have y0 : ((j : Int) == 0) = false := by rw [beq_eq_false_iff_ne]; omega
                        go_wp2
                        go_ret
                        exact Tells.no (fun hs => hj0 (HIff2.out.1 hs).1)
                · clear hcs
                  rw [show lim 5 = 18446744073709551615 from rfl] at HIff2
                  go_wp2
                  go_loopw [113] (fun t wr' => ∃ q : Nat, t = .int .i64 q ∧ q ≤ n ∧ wr' = wr ∧ ∀ p, p < q → f p ≤ 18446744073709551615) (fun t _ => n - (intOf t).toNat)
                  case atStart => exact ⟨0, rfl, Nat.zero_le _, rfl, fun p hp => absurd hp (Nat.not_lt_zero _)⟩
                  case round =>
                    obtain ⟨q, rfl, hq, rfl, hl⟩ := hrel
                    have HLq := hide hl
                    clear hl
                    by_cases hqn : q < n
                    · have hdq : decide (q < n) = true := decide_eq_true hqn
                      obtain ⟨bd, od, rfl, hc⟩ := HD.out (by omega)
                      have cx := hc q hqn
                      have hb := HF.out q hqn
                      clear hc
                      by_cases hle : f q ≤ 18446744073709551615
                      · have y1 : decide ((18446744073709551615 : Int) < f q) = false := decide_eq_false (by omega)
                        have HLs := hide (show ∀ p, p < q + 1 → f p ≤ 18446744073709551615 from fun p hp => (by
                          by_cases e : p = q
                          · subst e; exact hle
                          · exact HLq.out p (by omega)))
                        clear hle
                        go_wp2
                        go_roundw
                        case rel => exact ⟨q + 1, by go_num, by omega, by first | rfl | trivial, HLs.out⟩
                        case measure => simp [intOf]; omega
                      · exact absurd hle (by omega)
                    · have hdq : decide (q < n) = false := decide_eq_false hqn
                      by_cases hj0 : j = 0
                      · subst hj0
                        go_wp2
                        go_ret
                        exact Tells.yes (HIff2.out.2 ⟨by first | rfl | trivial, fun p hp => HLq.out p (by omega)⟩)
                      · have y0 : ((j : Int) == 0) = false := by rw [beq_eq_false_iff_ne]; omega
                        go_wp2
                        go_ret
                        exact Tells.no (fun hs => hj0 (HIff2.out.1 hs).1)
              · have z1 : (decide (2 ≤ c) && decide (c ≤ 5)) = false := by
                  rw [← Bool.decide_and]; exact decide_eq_false hcs
                have hno : ¬ (2 ≤ c) ∨ ¬ (c ≤ 5) := by omega
                have z5 : ∀ {r : Prop}, (¬ (2 ≤ c) → r) → (2 ≤ c → ¬ (c ≤ 5) → r) → r := fun h1 h2 => by
                  by_cases x : 2 ≤ c
                  · exact h2 x (by omega)
                  · exact h1 x
                have HC := hide hcs
                by_cases c6 : c = 6
                · subst c6
                  clear z5 hno z1 hcs
                  by_cases n0 : n = 0
                  · subst n0
                    go_wp2
                    go_ret
                    exact Tells.yes (HIff.out (.inr (.inl ⟨rfl, rfl⟩)))
                  · have y0 : ((n : Int) == 0) = false := by rw [beq_eq_false_iff_ne]; omega
                    go_wp2
                    go_ret
                    exact Tells.no (fun hs => by
                      rcases (shp_two hs).2.2 with hx | hx | hx
                      · exact absurd hx.1.2 (by decide)
                      · exact n0 hx.2
                      · exact n0 hx.2.1)
                · by_cases c7 : c = 7
                  · subst c7
                    clear z5 hno z1 hcs c6
                    have HIff7 : Hid (ShpF kd N i n j 2 7 f h ↔ n = 0 ∧ ∀ q, q < j → h q ≠ -1 ∧ kd (h q).toNat = 1) := ⟨fun hs => by
                      rcases (shp_two hs).2.2 with hx | hx | hx
                      · exact absurd hx.1.2 (by decide)
                      · exact absurd hx.1 (by decide)
                      · exact hx.2, fun hx => HIff.out (.inr (.inr ⟨rfl, hx⟩))⟩
                    clear HIff
                    go_wp2
                    go_loopw [145] (fun t wr' => ∃ q : Nat, t = .int .i64 q ∧ q ≤ j ∧ wr' = wr ∧ ∀ p, p < q → h p ≠ -1 ∧ kd (h p).toNat = 1) (fun t _ => j - (intOf t).toNat)
                    case atStart => exact ⟨0, rfl, Nat.zero_le _, rfl, fun p hp => absurd hp (Nat.not_lt_zero _)⟩
                    case round =>
                      obtain ⟨q, rfl, hq, rfl, hl⟩ := hrel
                      have HLq := hide hl
                      clear hl
                      by_cases hqj : q < j
                      · have hdq : decide (q < j) = true := decide_eq_true hqj
                        obtain ⟨bk, ok, rfl, hc⟩ := HK.out (by omega)
                        have cx := hc q hqj
                        have hlk := HL.out q hqj
                        clear hc
                        by_cases hm1 : h q = -1
                        · rw [hm1] at cx
                          have HNo := hide (show ¬ ShpF kd N i n j 2 7 f h from fun hs => ((HIff7.out.1 hs).2 q hqj).1 hm1)
                          clear hlk hm1
                          go_wp2
                          go_ret
                          exact Tells.no HNo.out
                        · obtain ⟨y, hy⟩ := Int.eq_ofNat_of_zero_le (show 0 ≤ h q by omega)
                          have hyN : y < N := by omega
                          have ck := HKd.out y hyN
                          have HY := hide hy
                          rw [hy] at cx
                          have yb : y < 32768 := by have := HH.out q hqj; omega
                          by_cases hk1 : kd y = 1
                          · rw [hk1] at ck
                            have HLs := hide (show ∀ p, p < q + 1 → h p ≠ -1 ∧ kd (h p).toNat = 1 from fun p hp => (by
                              by_cases e : p = q
                              · subst e; exact ⟨hm1, by rw [HY.out]; exact hk1⟩
                              · exact HLq.out p (by omega)))
                            clear hlk hm1 hy hk1
                            go_wp2
                            go_roundw
                            case rel => exact ⟨q + 1, by go_num, by omega, by first | rfl | trivial, HLs.out⟩
                            case measure => simp [intOf]; omega
                          · have y1 : (kd y != 1) = true := by rw [bne_iff_ne]; exact hk1
                            have HNo := hide (show ¬ ShpF kd N i n j 2 7 f h from fun hs => hk1 (by have := ((HIff7.out.1 hs).2 q hqj).2; rw [HY.out] at this; exact this))
                            clear hlk hm1 hy hk1
                            go_wp2
                            go_ret
                            exact Tells.no HNo.out
                      · have hdq : decide (q < j) = false := decide_eq_false hqj
                        by_cases n0 : n = 0
                        · subst n0
                          go_wp2
                          go_ret
                          exact Tells.yes (HIff7.out.2 ⟨by first | rfl | trivial, fun p hp => HLq.out p (by omega)⟩)
                        · have y0 : ((n : Int) == 0) = false := by rw [beq_eq_false_iff_ne]; omega
                          go_wp2
                          go_ret
                          exact Tells.no (fun hs => n0 (HIff7.out.1 hs).1)
                  · have HNo := hide (show ¬ ShpF kd N i n j 2 c f h from fun hs => by
                      rcases (shp_two hs).2.2 with hx | hx | hx
                      · exact hcs hx.1
                      · exact c6 hx.1
                      · exact c7 hx.1)
                    have y6 : (c == 6) = false := by rw [beq_eq_false_iff_ne]; exact c6
                    have y7 : (c == 7) = false := by rw [beq_eq_false_iff_ne]; exact c7
                    clear hcs hno z1 c6 c7
                    refine z5 (fun h1 => ?_) (fun h1 h2 => ?_)
                    · have y2 : decide (2 ≤ c) = false := decide_eq_false h1
                      clear h1 z5
                      go_wp2
                      go_ret
                      exact Tells.no HNo.out
                    · have y2 : decide (2 ≤ c) = true := decide_eq_true h1
                      have y5 : decide (c ≤ 5) = false := decide_eq_false h2
                      clear h1 h2 z5
                      go_wp2
                      go_ret
                      exact Tells.no HNo.out
            · have f2 : decide ((128 : Int) < (j : Int)) = true := decide_eq_true (by omega)
              go_wp2
              go_ret
              exact Tells.no (fun hs => n2 (shp_two hs).2.1)
          · have f1 : decide ((128 : Int) < (n : Int)) = true := decide_eq_true (by omega)
            go_wp2
            go_ret
            exact Tells.no (fun hs => n1 (shp_two hs).1)
        · have e2 : (k != 2) = true := by rw [bne_iff_ne]; exact k2
          go_wp2
          go_ret
          exact Tells.no (fun hs => (shp_kind hs).elim k1 k2)

theorem shaped_any (g : Nat) (t : Tr) (i : Nat) (w : World) (ht : TrAt w g t) (hi : i < t.ns.length) :
    Calls Facg.prog 76 #[.pointer (some ⟨g, 0, none⟩), .int .i64 i] w (Tells w (Shp t i)) := by
  obtain ⟨a, c, c0, c1, hN, hns⟩ := ht.lift
  obtain ⟨bn, on, rfl, hnode⟩ := hns (by omega)
  obtain ⟨_, _, h0, h1, ⟨v, h2, h3⟩, u, h4, h5⟩ := hnode i hi
  obtain ⟨ad, cd, rfl, hn, hd, bd⟩ := h3.row
  obtain ⟨ak, ck, rfl, hm, hk, bk⟩ := h5.row
  refine shaped_f g t.ns.length c bn on i _ _ cd ck ad ak _ _ _ _ _ w hN hi hn hm (fun j hj => ?_) (fun j hj => ?_) c0 h0 h1 h2 h4 hd hk (fun q hq => (hnode q hq).2.2.1)
  · have := bk ((t.nd i).kids.getD j 0) (by rw [List.getD_eq_getElem?_getD, List.getElem?_eq_getElem hj]; exact List.getElem_mem hj)
    have := bounds_i16 this
    unfold Nd.k
    omega
  · have := bd ((t.nd i).data.getD j 0) (by rw [List.getD_eq_getElem?_getD, List.getElem?_eq_getElem hj]; exact List.getElem_mem hj)
    have := bounds_u64 this
    unfold Nd.d
    omega
end Go.Proofs.Ygcfac
