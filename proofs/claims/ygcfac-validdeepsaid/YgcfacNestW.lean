import Derived.Test.YgcfacNest
namespace Go.Proofs.Ygcfac
open Go.RowKit
set_option linter.unusedVariables false

theorem and127 (t : Nat) (h : t < 256) : bits .and .u8 (t : Int) 127 = ((t % 128 : Nat) : Int) := by
  have : ∀ t : Nat, t < 256 → bits .and .u8 (t : Int) 127 = ((t % 128 : Nat) : Int) := by decide +kernel
  exact this t h
theorem orW_bd (x y : Int) : 0 ≤ bits .or .u64 x y ∧ bits .or .u64 x y < 18446744073709551616 := by
  unfold bits
  exact wrap64_bd _

theorem wrap_small (k x : Nat) (h : k ≤ 10) (hx : x ≤ 10) : wrap64 ((k : Int) + 1) = ((k + 1 : Nat) : Int) ∧ IntKind.i64.wrap ((k : Int) + 1) = ((k + 1 : Nat) : Int) ∧ IntKind.i64.wrap (x : Int) = (x : Int) := by
  refine ⟨?_, ?_, ?_⟩
  · unfold wrap64; omega
  · rw [IntKind.wrap_i64]; omega
  · rw [IntKind.wrap_i64]; omega

theorem NestS.setA'' {w wr : World} {vs : Value} {X : List Int} {Y : List Nat} {g c i : Nat} {z : Int} (h : NestS w wr (.slice (some ⟨g, 0, none⟩) X.length c) vs X Y) (hi : i < X.length) (hz : 0 ≤ z ∧ z < 18446744073709551616) :
    NestS w (wr.setCell ⟨g, i, none⟩ (.int .u64 z)) (.slice (some ⟨g, 0, none⟩) X.length c) vs (X.set i z) Y := h.setA hi hz

theorem NestS.setA' {w wr : World} {vs : Value} {X X2 : List Int} {Y : List Nat} {g c i : Nat} {z : Int} (h : NestS w wr (.slice (some ⟨g, 0, none⟩) X.length c) vs X2 Y) (hl : X2.length = X.length) (hi : i < X.length) (hz : 0 ≤ z ∧ z < 18446744073709551616) :
    NestS w (wr.setCell ⟨g, i, none⟩ (.int .u64 z)) (.slice (some ⟨g, 0, none⟩) X.length c) vs (X2.set i z) Y := by
  rw [← hl] at h hi ⊢
  exact h.setA hi hz

set_option maxRecDepth 10000 in
theorem nest_empty (a : Option Addr) (n c : Nat) (m : Nat) (w : World) (hc : n ≤ c) (hm : c ≤ 9223372036854775807) (hmn : m ≤ n) (hm9 : m ≤ 9) (hmin : (if (9 : Int) < (n : Int) then (9 : Int) else (n : Int)) = (m : Int)) (hm0 : m = 0) :
    Calls Facg.prog 45 #[.slice a n c] w fun e w' => ∃ va X, e = .returned va ∧ Grows w w' ∧ Ints w' .u64 va X ∧ 1 ≤ X.length ∧ X.length ≤ 256 := by
  have hmc : (m : Int) ≤ (c : Int) := by omega
  have HS0 : Hid (NestS w ((w.alloc (.cells #[.int .u64 0] 38)).alloc (.cells #[.int .i64 0] 3)) (.slice (some ⟨w.heap.size, 0, none⟩) 1 1) (.slice (some ⟨w.heap.size + 1, 0, none⟩) 1 1) [0] [0]) := by
    refine ⟨((Kept.refl _ _).alloc _).alloc _, ?_, ?_, fun g hg => ?_, fun g hg => ?_, fun g hg => ?_, by simp, by simp, by simp, by simp⟩
    · exact owns_kept (World.ownsRow_lit (base := 0) (e := 38) (size := 1) w #[.int .u64 0] 1 (Nat.zero_le _) (by decide) (by rfl)) ((Kept.refl (fun _ => True) _).alloc _) (fun _ _ => trivial)
    · have := World.ownsRow_lit (base := 0) (e := 3) (size := 1) (w.alloc (.cells #[.int .u64 0] 38)) #[.int .i64 0] 1 (Nat.zero_le _) (by decide) (by rfl)
      rw [World.size_alloc] at this
      exact this
    · simp [Value.ownBlock] at hg; omega
    · simp [Value.ownBlock] at hg; omega
    · simp [Value.ownBlock] at hg ⊢; omega
  go_enter Facg.func45, Facg.ntmps45
  go_wp2
  go_loopw [25, 3, 4, 5] (fun t s3 s4 s5 wr => ∃ (i : Nat) (X : List Int) (Y : List Nat) (many : Bool), t = .int .i64 i ∧ i ≤ m ∧ s5 = .bool many ∧ NestS w wr s3 s4 X Y ∧ 0 < Y.length ∧ Y.length ≤ 1000) (fun t _ _ _ _ => m - (intOf t).toNat)
  case atStart => exact ⟨0, [0], [0], false, rfl, Nat.zero_le _, rfl, HS0.out, by decide, by decide⟩
  case round =>
    clear HS0
    obtain ⟨i, X, Y, many, rfl, hi, rfl, hN, hY, hYm⟩ := hrel
    obtain ⟨ga, ca, rfl⟩ := hN.formA
    obtain ⟨gs, cs, rfl, hcs⟩ := hN.formS hY
    have hX1 := hN.lo
    have hX2 := hN.hi
    have HN := hide hN
    clear hN
    have hd : decide (i < m) = false := decide_eq_false (by omega)
    go_wp2
    go_ret
    refine ⟨_, X, rfl, HN.out.grows, ?_, hX1, hX2⟩
    exact Ints.of_owns HN.out.ra (fun x hx => wf_u64 (HN.out.xr x hx).1 (HN.out.xr x hx).2)
set_option maxHeartbeats 8000000 in
set_option maxRecDepth 10000 in
theorem nest_full (bb o : Nat) (sh : Nat → Nat) (n c : Nat) (m : Nat) (w : World) (hc : n ≤ c) (hm : c ≤ 9223372036854775807) (hmn : m ≤ n) (hm9 : m ≤ 9) (hmin : (if (9 : Int) < (n : Int) then (9 : Int) else (n : Int)) = (m : Int)) (hsh : ∀ j, sh j < 256) (hcell : ∀ j, j < m → w.cell? ⟨bb, o + j, none⟩ = some (.int .u8 (sh j))) :
    Calls Facg.prog 45 #[.slice (some ⟨bb, o, none⟩) n c] w fun e w' => ∃ va X, e = .returned va ∧ Grows w w' ∧ Ints w' .u64 va X ∧ 1 ≤ X.length ∧ X.length ≤ 256 := by
  have HSh := hide hsh
  have HCell := hide hcell
  clear hsh hcell
  have hmc : (m : Int) ≤ (c : Int) := by omega
  have HS0 : Hid (NestS w ((w.alloc (.cells #[.int .u64 0] 38)).alloc (.cells #[.int .i64 0] 3)) (.slice (some ⟨w.heap.size, 0, none⟩) 1 1) (.slice (some ⟨w.heap.size + 1, 0, none⟩) 1 1) [0] [0]) := by
    refine ⟨((Kept.refl _ _).alloc _).alloc _, ?_, ?_, fun g hg => ?_, fun g hg => ?_, fun g hg => ?_, by simp, by simp, by simp, by simp⟩
    · exact owns_kept (World.ownsRow_lit (base := 0) (e := 38) (size := 1) w #[.int .u64 0] 1 (Nat.zero_le _) (by decide) (by rfl)) ((Kept.refl (fun _ => True) _).alloc _) (fun _ _ => trivial)
    · have := World.ownsRow_lit (base := 0) (e := 3) (size := 1) (w.alloc (.cells #[.int .u64 0] 38)) #[.int .i64 0] 1 (Nat.zero_le _) (by decide) (by rfl)
      rw [World.size_alloc] at this
      exact this
    · simp [Value.ownBlock] at hg; omega
    · simp [Value.ownBlock] at hg; omega
    · simp [Value.ownBlock] at hg ⊢; omega
  go_enter Facg.func45, Facg.ntmps45
  go_wp2
  go_loopw [25, 3, 4, 5] (fun t s3 s4 s5 wr => ∃ (i : Nat) (X : List Int) (Y : List Nat) (many : Bool), t = .int .i64 i ∧ i ≤ m ∧ s5 = .bool many ∧ NestS w wr s3 s4 X Y ∧ 0 < Y.length ∧ Y.length ≤ 1000) (fun t _ _ _ _ => m - (intOf t).toNat)
  case atStart => exact ⟨0, [0], [0], false, rfl, Nat.zero_le _, rfl, HS0.out, by decide, by decide⟩
  case round =>
    clear HS0
    obtain ⟨i, X, Y, many, rfl, hi, rfl, hN, hY, hYm⟩ := hrel
    obtain ⟨ga, ca, rfl⟩ := hN.formA
    obtain ⟨gs, cs, rfl, hcs⟩ := hN.formS hY
    have hX1 := hN.lo
    have hX2 := hN.hi
    have HN := hide hN
    clear hN
    by_cases hlt : i < m
    · have hd : decide (i < m) = true := decide_eq_true hlt
      have HC := hide (HCell.out i hlt)
      have cb := HN.out.grows.cell HC.out trivial
      have hb := HSh.out i
      obtain ⟨b, hbe⟩ : ∃ b, b = sh i := ⟨_, rfl⟩
      rw [← hbe] at cb hb
      clear hbe HC
      have a127 := and127 b hb
      obtain ⟨cc, hcc⟩ : ∃ cc, cc = b % 128 := ⟨_, rfl⟩
      rw [← hcc] at a127
      have hccb : cc < 128 := by omega
      clear hcc
      obtain ⟨x, hx⟩ : ∃ x, x = cc / 3 := ⟨_, rfl⟩
      have ex : (cc : Int) / 3 = (x : Int) := by omega
      have hxb : x ≤ 42 := by omega
      clear hx
      obtain ⟨r, hr⟩ : ∃ r, r = x % 4 := ⟨_, rfl⟩
      have er : (x : Int) % 4 = (r : Int) := by omega
      obtain ⟨tA, tA1, tA2, hixA⟩ := idxA r (by omega)
      obtain ⟨tB, tB1, tB2, hixB⟩ := idxB r (by omega)
      clear hr
      obtain ⟨z, hz⟩ : ∃ z, z = cc % 3 := ⟨_, rfl⟩
      have ez : (cc : Int) % 3 = (z : Int) := by omega
      have hzb : z < 3 := by omega
      clear hz
      have hz3 : z = 0 ∨ z = 1 ∨ z = 2 := by omega
      rcases hz3 with rfl | rfl | rfl
      · by_cases hroom : 256 < X.length + (tB + 1)
        · have hdr : decide ((256 : Int) < (X.length : Int) + ((tB : Int) + 1)) = true := decide_eq_true (by omega)
          go_wp2
          go_ret
          refine ⟨_, X, rfl, HN.out.grows, ?_, hX1, hX2⟩
          exact Ints.of_owns HN.out.ra (fun x hx => wf_u64 (HN.out.xr x hx).1 (HN.out.xr x hx).2)
        · have hdr : decide ((256 : Int) < (X.length : Int) + ((tB : Int) + 1)) = false := decide_eq_false (by omega)
          cases many
          · have hx4 : (x : Int) / 4 = ((x / 4 : Nat) : Int) := by omega
            obtain ⟨x4, hx4e⟩ : ∃ x4, x4 = x / 4 := ⟨_, rfl⟩
            have hx4b : x4 ≤ 10 := by omega
            rw [← hx4e] at hx4
            clear hx4e
            obtain ⟨k, hke⟩ : ∃ k, k = x4 % Y.length := ⟨_, rfl⟩
            have hk : (x4 : Int) % (Y.length : Int) = (k : Int) := by rw [hke]; simp
            have hkl : k < Y.length := by rw [hke]; exact Nat.mod_lt _ hY
            have htm : Int.tmod (x4 : Int) (Y.length : Int) = (k : Int) := by rw [Int.tmod_eq_emod_of_nonneg (by omega)]; exact hk
            have hYn : ¬ Y = [] := fun h => by rw [h] at hY; simp at hY
            have hdiv : ∀ w : World, (Op.intDiv .rem .i64 (x4 : Int) (Y.length : Int)).run Facg.prog w = .ok (.int .i64 k) w := fun w => by
              simp [Op.intDiv, hYn, htm]
            have hk10 : k ≤ 10 := by rw [hke]; exact Nat.le_trans (Nat.mod_le _ _) hx4b
            clear hke
            have hY0 : ¬ (Y.length : Int) = 0 := by omega
            have hkc : ¬ cs = k := by omega
            obtain ⟨k1, hk1⟩ : ∃ k1, k1 = k + 1 := ⟨_, rfl⟩
            obtain ⟨hw1, hw2, hwx⟩ := wrap_small k x4 hk10 hx4b
            rw [← hk1] at hw1 hw2
            have hkk : k ≤ k1 := by rw [hk1]; exact Nat.le_succ k
            have hkc3 : k1 ≤ cs := by rw [hk1]; exact Nat.le_trans hkl hcs
            have hks : k1 - k = 1 := by rw [hk1, Nat.add_sub_cancel_left]
            clear hk1
            go_wp2
            go_quiet (fail)
            go_wp2
            have hzne : ((cc : Int) % 3 != 0) = false := by rw [ez]; rfl
            have hzeq : ((cc : Int) % 3 == 0) = true := by rw [ez]; rfl
            clear ez er ex
            go_loopw [88] (fun t wq => ∃ (j : Nat) (X2 : List Int), t = .int .i64 j ∧ j ≤ 1 ∧ NestS w wq (.slice (some ⟨ga, 0, none⟩) X.length ca) (.slice (some ⟨gs, 0, none⟩) Y.length cs) X2 Y ∧ X2.length = X.length) (fun t _ => 1 - (intOf t).toNat)
            case atStart => exact ⟨0, X, rfl, Nat.zero_le _, HN.out.grow (by first | exact Kept.refl _ _ | exact (Kept.refl _ _).drewN _), rfl⟩
            case round =>
              obtain ⟨j, X2, rfl, hj, hN2, hX2l⟩ := hrel
              have HN2 := hide hN2
              have HL2 := hide hX2l
              clear hN2
              have HN2' : Hid (NestS w wr (.slice (some ⟨ga, 0, none⟩) X2.length ca) (.slice (some ⟨gs, 0, none⟩) Y.length cs) X2 Y) := by unfold Hid; rw [HL2.out]; exact HN2.out
              clear hX2l
              by_cases hjl : j < 1
              · have hdj : decide ((j : Int) < 1) = true := decide_eq_true (by omega)
                have cy := HN2.out.cellS (show k + j < Y.length by omega)
                obtain ⟨y, hye⟩ : ∃ y, y = Y[k + j] := ⟨_, rfl⟩
                have hyl : y < X.length := by rw [hye, ← HL2.out]; exact HN2.out.yr _ (List.getElem_mem _)
                rw [← hye] at cy
                obtain ⟨⟨x0, cx⟩, cf⟩ := HN2'.out.cellA (i := y) (by rw [HL2.out]; exact hyl)
                clear hye
                go_wp2
                go_roundw
                case rel =>
                  exact ⟨j + 1, _, rfl, by omega, NestS.setA' HN2.out HL2.out hyl (orW_bd _ _), by rw [List.length_set]; exact HL2.out⟩
                case measure => first | (simp [intOf]; omega) | simp [intOf]
              · have hdj : decide ((j : Int) < 1) = false := decide_eq_false (by omega)
                have hN0 := HN2'.out.nil
                rw [HL2.out] at hN0
                have HN0 := hide hN0
                clear hN0
                go_wp2
                go_loopw [108, 3, 4] (fun t s3 s4 wq => ∃ (q : Nat) (X3 : List Int) (Y3 : List Nat), t = .int .i64 q ∧ q ≤ tB + 1 ∧ NestS w wq s3 s4 X3 Y3 ∧ X3.length = X.length + q ∧ (1 < q → 0 < Y3.length) ∧ Y3.length ≤ q) (fun t _ _ _ => tB + 1 - (intOf t).toNat)
                case atStart => exact ⟨0, X2, [], rfl, Nat.zero_le _, HN0.out, HL2.out, fun h => (by omega), Nat.le_refl _⟩
                case round =>
                  obtain ⟨q, X3, Y3, rfl, hq, hN3, hX3, hY3, hYq⟩ := hrel
                  obtain ⟨g3, c3, rfl⟩ := hN3.formA
                  obtain ⟨a4, c4, hu4⟩ := owns_slice hN3.rs
                  subst hu4
                  have HN3 := hide hN3
                  have HX3 := hide hX3
                  have HY3 := hide hY3
                  have hx3 : X3.length ≤ 256 := hN3.hi
                  have HYq := hide hYq
                  clear hN3 hX3 hY3
                  by_cases hql : q < tB + 1
                  · have hdq : decide ((q : Int) < (tB : Int) + 1) = true := decide_eq_true (by omega)
                    have hx3' : X3.length < 256 := by have := HX3.out; omega
                    have hto : X.length + q < X3.length + 1 := by have := HX3.out; omega
                    go_wp2_with (first
                      | (at_builtin; refine wpList_app1 _ rfl _ _ 22 rfl 38 (.int .u64 0) 8 Facg.underlying22 info38 rfl (.slice (some ⟨g3, 0, none⟩) X3.length c3) X3.length (X3.map (Value.int .u64)) rfl ?o1 wr.heap.size (.int .u64 0) rfl ?o2 rfl ?o3 ?o4 ?_))
                    case o1 => exact (HN3.out.grow ((Kept.refl _ _).alloc _)).ra
                    case o2 => simp
                    case o3 => unfold maxLen; omega
                    case o4 => omega
                    intro a' c' w' ho hk hb'
                    have HNa := hide ((HN3.out.grow ((Kept.refl _ _).alloc _)).pushA hx3' ho hk (by rw [World.size_alloc]; exact hb'))
                    clear ho hk hb'
                    by_cases hq0 : q = 0
                    · have hdz : decide ((0 : Int) < (q : Int)) = false := decide_eq_false (by omega)
                      subst hq0
                      go_wp2
                      go_roundw
                      case rel => exact ⟨0 + 1, X3 ++ [0], Y3, rfl, by omega, by simpa using HNa.out, by simp; have := HX3.out; omega, fun h => (by omega), by have := HYq.out; omega⟩
                      case measure => first | (simp [intOf]; omega) | simp [intOf]

                    · have hdz : decide ((0 : Int) < (q : Int)) = true := decide_eq_true (by omega)
                      go_wp2_with (first
                        | (at_builtin; refine wpList_app1 _ rfl _ _ 162 rfl 3 (.int .i64 0) 8 Facg.underlying162 info3 rfl (.slice a4 Y3.length c4) Y3.length (intsOf Y3) rfl ?p1 w'.heap.size (.int .i64 ((X.length : Int) + (q : Int))) rfl ?p2 rfl ?p3 ?p4 ?_))
                      case p1 => exact (HNa.out.grow ((Kept.refl _ _).alloc _)).rs
                      case p2 => simp
                      case p3 => unfold maxLen; omega
                      case p4 => omega
                      intro a5 c5 w5 ho hk hb'
                      have HNb := hide ((HNa.out.grow ((Kept.refl _ _).alloc _)).pushS (y := X.length + q) (by simp; omega) ho hk (by rw [World.size_alloc]; exact hb'))
                      clear ho hk hb'
                      go_wp2
                      go_roundw
                      case rel => exact ⟨q + 1, X3 ++ [0], Y3 ++ [X.length + q], rfl, by omega, by simpa using HNb.out, by simp; have := HX3.out; omega, fun _ => (by simp), by rw [List.length_append]; simp only [List.length_cons, List.length_nil]; have := HYq.out; omega⟩
                      case measure => first | (simp [intOf]; omega) | simp [intOf]

                  · have hdq : decide ((q : Int) < (tB : Int) + 1) = false := decide_eq_false (by omega)
                    have hqW : q = tB + 1 := by omega
                    obtain ⟨⟨x0, cx⟩, cf⟩ := HN3.out.cellA (i := X.length) (by have := HX3.out; omega)
                    have hlt3 : X.length < X3.length := by have := HX3.out; omega
                    go_wp2
                    go_roundw
                    case rel => exact ⟨i + 1, _, Y3, _, rfl, by omega, rfl, HN3.out.setA'' hlt3 (orW_bd _ _), HY3.out (by omega), by have := HYq.out; omega⟩
                    case measure => first | (simp [intOf]; omega) | simp [intOf]
          · go_wp2
            have hzne : ((cc : Int) % 3 != 0) = false := by rw [ez]; rfl
            have hzeq : ((cc : Int) % 3 == 0) = true := by rw [ez]; rfl
            clear ez er ex
            go_loopw [88] (fun t wq => ∃ (j : Nat) (X2 : List Int), t = .int .i64 j ∧ j ≤ Y.length ∧ NestS w wq (.slice (some ⟨ga, 0, none⟩) X.length ca) (.slice (some ⟨gs, 0, none⟩) Y.length cs) X2 Y ∧ X2.length = X.length) (fun t _ => Y.length - (intOf t).toNat)
            case atStart => exact ⟨0, X, rfl, Nat.zero_le _, HN.out.grow (by first | exact Kept.refl _ _ | exact (Kept.refl _ _).drewN _), rfl⟩
            case round =>
              obtain ⟨j, X2, rfl, hj, hN2, hX2l⟩ := hrel
              have HN2 := hide hN2
              have HL2 := hide hX2l
              clear hN2
              have HN2' : Hid (NestS w wr (.slice (some ⟨ga, 0, none⟩) X2.length ca) (.slice (some ⟨gs, 0, none⟩) Y.length cs) X2 Y) := by unfold Hid; rw [HL2.out]; exact HN2.out
              clear hX2l
              by_cases hjl : j < Y.length
              · have hdj : decide (j < Y.length) = true := decide_eq_true (by omega)
                have cy := HN2.out.cellS (show j < Y.length by omega)
                obtain ⟨y, hye⟩ : ∃ y, y = Y[j] := ⟨_, rfl⟩
                have hyl : y < X.length := by rw [hye, ← HL2.out]; exact HN2.out.yr _ (List.getElem_mem _)
                rw [← hye] at cy
                obtain ⟨⟨x0, cx⟩, cf⟩ := HN2'.out.cellA (i := y) (by rw [HL2.out]; exact hyl)
                clear hye
                go_wp2
                go_roundw
                case rel =>
                  exact ⟨j + 1, _, rfl, by omega, NestS.setA' HN2.out HL2.out hyl (orW_bd _ _), by rw [List.length_set]; exact HL2.out⟩
                case measure => first | (simp [intOf]; omega) | simp [intOf]
              · have hdj : decide (j < Y.length) = false := decide_eq_false (by omega)
                have hN0 := HN2'.out.nil
                rw [HL2.out] at hN0
                have HN0 := hide hN0
                clear hN0
                go_wp2
                go_loopw [108, 3, 4] (fun t s3 s4 wq => ∃ (q : Nat) (X3 : List Int) (Y3 : List Nat), t = .int .i64 q ∧ q ≤ tB + 1 ∧ NestS w wq s3 s4 X3 Y3 ∧ X3.length = X.length + q ∧ (1 < q → 0 < Y3.length) ∧ Y3.length ≤ q) (fun t _ _ _ => tB + 1 - (intOf t).toNat)
                case atStart => exact ⟨0, X2, [], rfl, Nat.zero_le _, HN0.out, HL2.out, fun h => (by omega), Nat.le_refl _⟩
                case round =>
                  obtain ⟨q, X3, Y3, rfl, hq, hN3, hX3, hY3, hYq⟩ := hrel
                  obtain ⟨g3, c3, rfl⟩ := hN3.formA
                  obtain ⟨a4, c4, hu4⟩ := owns_slice hN3.rs
                  subst hu4
                  have HN3 := hide hN3
                  have HX3 := hide hX3
                  have HY3 := hide hY3
                  have hx3 : X3.length ≤ 256 := hN3.hi
                  have HYq := hide hYq
                  clear hN3 hX3 hY3
                  by_cases hql : q < tB + 1
                  · have hdq : decide ((q : Int) < (tB : Int) + 1) = true := decide_eq_true (by omega)
                    have hx3' : X3.length < 256 := by have := HX3.out; omega
                    have hto : X.length + q < X3.length + 1 := by have := HX3.out; omega
                    go_wp2_with (first
                      | (at_builtin; refine wpList_app1 _ rfl _ _ 22 rfl 38 (.int .u64 0) 8 Facg.underlying22 info38 rfl (.slice (some ⟨g3, 0, none⟩) X3.length c3) X3.length (X3.map (Value.int .u64)) rfl ?o1 wr.heap.size (.int .u64 0) rfl ?o2 rfl ?o3 ?o4 ?_))
                    case o1 => exact (HN3.out.grow ((Kept.refl _ _).alloc _)).ra
                    case o2 => simp
                    case o3 => unfold maxLen; omega
                    case o4 => omega
                    intro a' c' w' ho hk hb'
                    have HNa := hide ((HN3.out.grow ((Kept.refl _ _).alloc _)).pushA hx3' ho hk (by rw [World.size_alloc]; exact hb'))
                    clear ho hk hb'
                    by_cases hq0 : q = 0
                    · have hdz : decide ((0 : Int) < (q : Int)) = false := decide_eq_false (by omega)
                      subst hq0
                      go_wp2
                      go_roundw
                      case rel => exact ⟨0 + 1, X3 ++ [0], Y3, rfl, by omega, by simpa using HNa.out, by simp; have := HX3.out; omega, fun h => (by omega), by have := HYq.out; omega⟩
                      case measure => first | (simp [intOf]; omega) | simp [intOf]

                    · have hdz : decide ((0 : Int) < (q : Int)) = true := decide_eq_true (by omega)
                      go_wp2_with (first
                        | (at_builtin; refine wpList_app1 _ rfl _ _ 162 rfl 3 (.int .i64 0) 8 Facg.underlying162 info3 rfl (.slice a4 Y3.length c4) Y3.length (intsOf Y3) rfl ?p1 w'.heap.size (.int .i64 ((X.length : Int) + (q : Int))) rfl ?p2 rfl ?p3 ?p4 ?_))
                      case p1 => exact (HNa.out.grow ((Kept.refl _ _).alloc _)).rs
                      case p2 => simp
                      case p3 => unfold maxLen; omega
                      case p4 => omega
                      intro a5 c5 w5 ho hk hb'
                      have HNb := hide ((HNa.out.grow ((Kept.refl _ _).alloc _)).pushS (y := X.length + q) (by simp; omega) ho hk (by rw [World.size_alloc]; exact hb'))
                      clear ho hk hb'
                      go_wp2
                      go_roundw
                      case rel => exact ⟨q + 1, X3 ++ [0], Y3 ++ [X.length + q], rfl, by omega, by simpa using HNb.out, by simp; have := HX3.out; omega, fun _ => (by simp), by rw [List.length_append]; simp only [List.length_cons, List.length_nil]; have := HYq.out; omega⟩
                      case measure => first | (simp [intOf]; omega) | simp [intOf]

                  · have hdq : decide ((q : Int) < (tB : Int) + 1) = false := decide_eq_false (by omega)
                    have hqW : q = tB + 1 := by omega
                    obtain ⟨⟨x0, cx⟩, cf⟩ := HN3.out.cellA (i := X.length) (by have := HX3.out; omega)
                    have hlt3 : X.length < X3.length := by have := HX3.out; omega
                    go_wp2
                    go_roundw
                    case rel => exact ⟨i + 1, _, Y3, _, rfl, by omega, rfl, HN3.out.setA'' hlt3 (orW_bd _ _), HY3.out (by omega), by have := HYq.out; omega⟩
                    case measure => first | (simp [intOf]; omega) | simp [intOf]
      · by_cases hroom : 256 < X.length + tA
        · have hdr : decide ((256 : Int) < (X.length : Int) + (tA : Int)) = true := decide_eq_true (by omega)
          go_wp2
          go_ret
          refine ⟨_, X, rfl, HN.out.grows, ?_, hX1, hX2⟩
          exact Ints.of_owns HN.out.ra (fun x hx => wf_u64 (HN.out.xr x hx).1 (HN.out.xr x hx).2)
        · have hdr : decide ((256 : Int) < (X.length : Int) + (tA : Int)) = false := decide_eq_false (by omega)
          cases many
          · have hx4 : (x : Int) / 4 = ((x / 4 : Nat) : Int) := by omega
            obtain ⟨x4, hx4e⟩ : ∃ x4, x4 = x / 4 := ⟨_, rfl⟩
            have hx4b : x4 ≤ 10 := by omega
            rw [← hx4e] at hx4
            clear hx4e
            obtain ⟨k, hke⟩ : ∃ k, k = x4 % Y.length := ⟨_, rfl⟩
            have hk : (x4 : Int) % (Y.length : Int) = (k : Int) := by rw [hke]; simp
            have hkl : k < Y.length := by rw [hke]; exact Nat.mod_lt _ hY
            have htm : Int.tmod (x4 : Int) (Y.length : Int) = (k : Int) := by rw [Int.tmod_eq_emod_of_nonneg (by omega)]; exact hk
            have hYn : ¬ Y = [] := fun h => by rw [h] at hY; simp at hY
            have hdiv : ∀ w : World, (Op.intDiv .rem .i64 (x4 : Int) (Y.length : Int)).run Facg.prog w = .ok (.int .i64 k) w := fun w => by
              simp [Op.intDiv, hYn, htm]
            have hk10 : k ≤ 10 := by rw [hke]; exact Nat.le_trans (Nat.mod_le _ _) hx4b
            clear hke
            have hY0 : ¬ (Y.length : Int) = 0 := by omega
            have hkc : ¬ cs = k := by omega
            obtain ⟨k1, hk1⟩ : ∃ k1, k1 = k + 1 := ⟨_, rfl⟩
            obtain ⟨hw1, hw2, hwx⟩ := wrap_small k x4 hk10 hx4b
            rw [← hk1] at hw1 hw2
            have hkk : k ≤ k1 := by rw [hk1]; exact Nat.le_succ k
            have hkc3 : k1 ≤ cs := by rw [hk1]; exact Nat.le_trans hkl hcs
            have hks : k1 - k = 1 := by rw [hk1, Nat.add_sub_cancel_left]
            clear hk1
            go_wp2
            go_quiet (fail)
            go_wp2
            have hzne : ((cc : Int) % 3 != 0) = true := by rw [ez]; rfl
            have hzeq : ((cc : Int) % 3 == 0) = false := by rw [ez]; rfl
            clear ez er ex
            go_loopw [88] (fun t wq => ∃ (j : Nat) (X2 : List Int), t = .int .i64 j ∧ j ≤ 1 ∧ NestS w wq (.slice (some ⟨ga, 0, none⟩) X.length ca) (.slice (some ⟨gs, 0, none⟩) Y.length cs) X2 Y ∧ X2.length = X.length) (fun t _ => 1 - (intOf t).toNat)
            case atStart => exact ⟨0, X, rfl, Nat.zero_le _, HN.out.grow (by first | exact Kept.refl _ _ | exact (Kept.refl _ _).drewN _), rfl⟩
            case round =>
              obtain ⟨j, X2, rfl, hj, hN2, hX2l⟩ := hrel
              have HN2 := hide hN2
              have HL2 := hide hX2l
              clear hN2
              have HN2' : Hid (NestS w wr (.slice (some ⟨ga, 0, none⟩) X2.length ca) (.slice (some ⟨gs, 0, none⟩) Y.length cs) X2 Y) := by unfold Hid; rw [HL2.out]; exact HN2.out
              clear hX2l
              by_cases hjl : j < 1
              · have hdj : decide ((j : Int) < 1) = true := decide_eq_true (by omega)
                have cy := HN2.out.cellS (show k + j < Y.length by omega)
                obtain ⟨y, hye⟩ : ∃ y, y = Y[k + j] := ⟨_, rfl⟩
                have hyl : y < X.length := by rw [hye, ← HL2.out]; exact HN2.out.yr _ (List.getElem_mem _)
                rw [← hye] at cy
                obtain ⟨⟨x0, cx⟩, cf⟩ := HN2'.out.cellA (i := y) (by rw [HL2.out]; exact hyl)
                clear hye
                go_wp2
                go_roundw
                case rel =>
                  exact ⟨j + 1, _, rfl, by omega, NestS.setA' HN2.out HL2.out hyl (orW_bd _ _), by rw [List.length_set]; exact HL2.out⟩
                case measure => first | (simp [intOf]; omega) | simp [intOf]
              · have hdj : decide ((j : Int) < 1) = false := decide_eq_false (by omega)
                have hN0 := HN2'.out.nil
                rw [HL2.out] at hN0
                have HN0 := hide hN0
                clear hN0
                go_wp2
                go_loopw [108, 3, 4] (fun t s3 s4 wq => ∃ (q : Nat) (X3 : List Int) (Y3 : List Nat), t = .int .i64 q ∧ q ≤ tA ∧ NestS w wq s3 s4 X3 Y3 ∧ X3.length = X.length + q ∧ (0 < q → 0 < Y3.length) ∧ Y3.length ≤ q) (fun t _ _ _ => tA - (intOf t).toNat)
                case atStart => exact ⟨0, X2, [], rfl, Nat.zero_le _, HN0.out, HL2.out, fun h => (by omega), Nat.le_refl _⟩
                case round =>
                  obtain ⟨q, X3, Y3, rfl, hq, hN3, hX3, hY3, hYq⟩ := hrel
                  obtain ⟨g3, c3, rfl⟩ := hN3.formA
                  obtain ⟨a4, c4, hu4⟩ := owns_slice hN3.rs
                  subst hu4
                  have HN3 := hide hN3
                  have HX3 := hide hX3
                  have HY3 := hide hY3
                  have hx3 : X3.length ≤ 256 := hN3.hi
                  have HYq := hide hYq
                  clear hN3 hX3 hY3
                  by_cases hql : q < tA
                  · have hdq : decide (q < tA) = true := decide_eq_true (by omega)
                    have hx3' : X3.length < 256 := by have := HX3.out; omega
                    have hto : X.length + q < X3.length + 1 := by have := HX3.out; omega
                    go_wp2_with (first
                      | (at_builtin; refine wpList_app1 _ rfl _ _ 22 rfl 38 (.int .u64 0) 8 Facg.underlying22 info38 rfl (.slice (some ⟨g3, 0, none⟩) X3.length c3) X3.length (X3.map (Value.int .u64)) rfl ?o1 wr.heap.size (.int .u64 0) rfl ?o2 rfl ?o3 ?o4 ?_))
                    case o1 => exact (HN3.out.grow ((Kept.refl _ _).alloc _)).ra
                    case o2 => simp
                    case o3 => unfold maxLen; omega
                    case o4 => omega
                    intro a' c' w' ho hk hb'
                    have HNa := hide ((HN3.out.grow ((Kept.refl _ _).alloc _)).pushA hx3' ho hk (by rw [World.size_alloc]; exact hb'))
                    clear ho hk hb'
                    by_cases hq0 : q = 0
                    · have hdz : decide ((0 : Int) < (q : Int)) = false := decide_eq_false (by omega)
                      subst hq0
                      go_wp2_with (first
                        | (at_builtin; refine wpList_app1 _ rfl _ _ 162 rfl 3 (.int .i64 0) 8 Facg.underlying162 info3 rfl (.slice a4 Y3.length c4) Y3.length (intsOf Y3) rfl ?p1 w'.heap.size (.int .i64 (X.length : Int)) rfl ?p2 rfl ?p3 ?p4 ?_))
                      case p1 => exact (HNa.out.grow ((Kept.refl _ _).alloc _)).rs
                      case p2 => simp
                      case p3 => unfold maxLen; omega
                      case p4 => omega
                      intro a5 c5 w5 ho hk hb'
                      have HNb := hide ((HNa.out.grow ((Kept.refl _ _).alloc _)).pushS (y := X.length) (by simp; omega) ho hk (by rw [World.size_alloc]; exact hb'))
                      clear ho hk hb'
                      go_wp2
                      go_roundw
                      case rel => exact ⟨0 + 1, X3 ++ [0], Y3 ++ [X.length], rfl, by omega, by simpa using HNb.out, by simp; have := HX3.out; omega, fun _ => (by simp), by rw [List.length_append]; simp only [List.length_cons, List.length_nil]; have := HYq.out; omega⟩
                      case measure => first | (simp [intOf]; omega) | simp [intOf]

                    · have hdz : decide ((0 : Int) < (q : Int)) = true := decide_eq_true (by omega)
                      go_wp2_with (first
                        | (at_builtin; refine wpList_app1 _ rfl _ _ 162 rfl 3 (.int .i64 0) 8 Facg.underlying162 info3 rfl (.slice a4 Y3.length c4) Y3.length (intsOf Y3) rfl ?p1 w'.heap.size (.int .i64 ((X.length : Int) + (q : Int))) rfl ?p2 rfl ?p3 ?p4 ?_))
                      case p1 => exact (HNa.out.grow ((Kept.refl _ _).alloc _)).rs
                      case p2 => simp
                      case p3 => unfold maxLen; omega
                      case p4 => omega
                      intro a5 c5 w5 ho hk hb'
                      have HNb := hide ((HNa.out.grow ((Kept.refl _ _).alloc _)).pushS (y := X.length + q) (by simp; omega) ho hk (by rw [World.size_alloc]; exact hb'))
                      clear ho hk hb'
                      go_wp2
                      go_roundw
                      case rel => exact ⟨q + 1, X3 ++ [0], Y3 ++ [X.length + q], rfl, by omega, by simpa using HNb.out, by simp; have := HX3.out; omega, fun _ => (by simp), by rw [List.length_append]; simp only [List.length_cons, List.length_nil]; have := HYq.out; omega⟩
                      case measure => first | (simp [intOf]; omega) | simp [intOf]

                  · have hdq : decide (q < tA) = false := decide_eq_false (by omega)
                    have hqW : q = tA := by omega
                    go_wp2
                    go_roundw
                    case rel => exact ⟨i + 1, X3, Y3, _, rfl, by omega, rfl, HN3.out, HY3.out (by omega), by have := HYq.out; omega⟩
                    case measure => first | (simp [intOf]; omega) | simp [intOf]
          · go_wp2
            have hzne : ((cc : Int) % 3 != 0) = true := by rw [ez]; rfl
            have hzeq : ((cc : Int) % 3 == 0) = false := by rw [ez]; rfl
            clear ez er ex
            go_loopw [88] (fun t wq => ∃ (j : Nat) (X2 : List Int), t = .int .i64 j ∧ j ≤ Y.length ∧ NestS w wq (.slice (some ⟨ga, 0, none⟩) X.length ca) (.slice (some ⟨gs, 0, none⟩) Y.length cs) X2 Y ∧ X2.length = X.length) (fun t _ => Y.length - (intOf t).toNat)
            case atStart => exact ⟨0, X, rfl, Nat.zero_le _, HN.out.grow (by first | exact Kept.refl _ _ | exact (Kept.refl _ _).drewN _), rfl⟩
            case round =>
              obtain ⟨j, X2, rfl, hj, hN2, hX2l⟩ := hrel
              have HN2 := hide hN2
              have HL2 := hide hX2l
              clear hN2
              have HN2' : Hid (NestS w wr (.slice (some ⟨ga, 0, none⟩) X2.length ca) (.slice (some ⟨gs, 0, none⟩) Y.length cs) X2 Y) := by unfold Hid; rw [HL2.out]; exact HN2.out
              clear hX2l
              by_cases hjl : j < Y.length
              · have hdj : decide (j < Y.length) = true := decide_eq_true (by omega)
                have cy := HN2.out.cellS (show j < Y.length by omega)
                obtain ⟨y, hye⟩ : ∃ y, y = Y[j] := ⟨_, rfl⟩
                have hyl : y < X.length := by rw [hye, ← HL2.out]; exact HN2.out.yr _ (List.getElem_mem _)
                rw [← hye] at cy
                obtain ⟨⟨x0, cx⟩, cf⟩ := HN2'.out.cellA (i := y) (by rw [HL2.out]; exact hyl)
                clear hye
                go_wp2
                go_roundw
                case rel =>
                  exact ⟨j + 1, _, rfl, by omega, NestS.setA' HN2.out HL2.out hyl (orW_bd _ _), by rw [List.length_set]; exact HL2.out⟩
                case measure => first | (simp [intOf]; omega) | simp [intOf]
              · have hdj : decide (j < Y.length) = false := decide_eq_false (by omega)
                have hN0 := HN2'.out.nil
                rw [HL2.out] at hN0
                have HN0 := hide hN0
                clear hN0
                go_wp2
                go_loopw [108, 3, 4] (fun t s3 s4 wq => ∃ (q : Nat) (X3 : List Int) (Y3 : List Nat), t = .int .i64 q ∧ q ≤ tA ∧ NestS w wq s3 s4 X3 Y3 ∧ X3.length = X.length + q ∧ (0 < q → 0 < Y3.length) ∧ Y3.length ≤ q) (fun t _ _ _ => tA - (intOf t).toNat)
                case atStart => exact ⟨0, X2, [], rfl, Nat.zero_le _, HN0.out, HL2.out, fun h => (by omega), Nat.le_refl _⟩
                case round =>
                  obtain ⟨q, X3, Y3, rfl, hq, hN3, hX3, hY3, hYq⟩ := hrel
                  obtain ⟨g3, c3, rfl⟩ := hN3.formA
                  obtain ⟨a4, c4, hu4⟩ := owns_slice hN3.rs
                  subst hu4
                  have HN3 := hide hN3
                  have HX3 := hide hX3
                  have HY3 := hide hY3
                  have hx3 : X3.length ≤ 256 := hN3.hi
                  have HYq := hide hYq
                  clear hN3 hX3 hY3
                  by_cases hql : q < tA
                  · have hdq : decide (q < tA) = true := decide_eq_true (by omega)
                    have hx3' : X3.length < 256 := by have := HX3.out; omega
                    have hto : X.length + q < X3.length + 1 := by have := HX3.out; omega
                    go_wp2_with (first
                      | (at_builtin; refine wpList_app1 _ rfl _ _ 22 rfl 38 (.int .u64 0) 8 Facg.underlying22 info38 rfl (.slice (some ⟨g3, 0, none⟩) X3.length c3) X3.length (X3.map (Value.int .u64)) rfl ?o1 wr.heap.size (.int .u64 0) rfl ?o2 rfl ?o3 ?o4 ?_))
                    case o1 => exact (HN3.out.grow ((Kept.refl _ _).alloc _)).ra
                    case o2 => simp
                    case o3 => unfold maxLen; omega
                    case o4 => omega
                    intro a' c' w' ho hk hb'
                    have HNa := hide ((HN3.out.grow ((Kept.refl _ _).alloc _)).pushA hx3' ho hk (by rw [World.size_alloc]; exact hb'))
                    clear ho hk hb'
                    by_cases hq0 : q = 0
                    · have hdz : decide ((0 : Int) < (q : Int)) = false := decide_eq_false (by omega)
                      subst hq0
                      go_wp2_with (first
                        | (at_builtin; refine wpList_app1 _ rfl _ _ 162 rfl 3 (.int .i64 0) 8 Facg.underlying162 info3 rfl (.slice a4 Y3.length c4) Y3.length (intsOf Y3) rfl ?p1 w'.heap.size (.int .i64 (X.length : Int)) rfl ?p2 rfl ?p3 ?p4 ?_))
                      case p1 => exact (HNa.out.grow ((Kept.refl _ _).alloc _)).rs
                      case p2 => simp
                      case p3 => unfold maxLen; omega
                      case p4 => omega
                      intro a5 c5 w5 ho hk hb'
                      have HNb := hide ((HNa.out.grow ((Kept.refl _ _).alloc _)).pushS (y := X.length) (by simp; omega) ho hk (by rw [World.size_alloc]; exact hb'))
                      clear ho hk hb'
                      go_wp2
                      go_roundw
                      case rel => exact ⟨0 + 1, X3 ++ [0], Y3 ++ [X.length], rfl, by omega, by simpa using HNb.out, by simp; have := HX3.out; omega, fun _ => (by simp), by rw [List.length_append]; simp only [List.length_cons, List.length_nil]; have := HYq.out; omega⟩
                      case measure => first | (simp [intOf]; omega) | simp [intOf]

                    · have hdz : decide ((0 : Int) < (q : Int)) = true := decide_eq_true (by omega)
                      go_wp2_with (first
                        | (at_builtin; refine wpList_app1 _ rfl _ _ 162 rfl 3 (.int .i64 0) 8 Facg.underlying162 info3 rfl (.slice a4 Y3.length c4) Y3.length (intsOf Y3) rfl ?p1 w'.heap.size (.int .i64 ((X.length : Int) + (q : Int))) rfl ?p2 rfl ?p3 ?p4 ?_))
                      case p1 => exact (HNa.out.grow ((Kept.refl _ _).alloc _)).rs
                      case p2 => simp
                      case p3 => unfold maxLen; omega
                      case p4 => omega
                      intro a5 c5 w5 ho hk hb'
                      have HNb := hide ((HNa.out.grow ((Kept.refl _ _).alloc _)).pushS (y := X.length + q) (by simp; omega) ho hk (by rw [World.size_alloc]; exact hb'))
                      clear ho hk hb'
                      go_wp2
                      go_roundw
                      case rel => exact ⟨q + 1, X3 ++ [0], Y3 ++ [X.length + q], rfl, by omega, by simpa using HNb.out, by simp; have := HX3.out; omega, fun _ => (by simp), by rw [List.length_append]; simp only [List.length_cons, List.length_nil]; have := HYq.out; omega⟩
                      case measure => first | (simp [intOf]; omega) | simp [intOf]

                  · have hdq : decide (q < tA) = false := decide_eq_false (by omega)
                    have hqW : q = tA := by omega
                    go_wp2
                    go_roundw
                    case rel => exact ⟨i + 1, X3, Y3, _, rfl, by omega, rfl, HN3.out, HY3.out (by omega), by have := HYq.out; omega⟩
                    case measure => first | (simp [intOf]; omega) | simp [intOf]
      · by_cases hroom : 256 < X.length + 8
        · have hdr : decide ((256 : Int) < (X.length : Int) + 8) = true := decide_eq_true (by omega)
          go_wp2
          go_ret
          refine ⟨_, X, rfl, HN.out.grows, ?_, hX1, hX2⟩
          exact Ints.of_owns HN.out.ra (fun x hx => wf_u64 (HN.out.xr x hx).1 (HN.out.xr x hx).2)
        · have hdr : decide ((256 : Int) < (X.length : Int) + 8) = false := decide_eq_false (by omega)
          cases many
          · have hx4 : (x : Int) / 4 = ((x / 4 : Nat) : Int) := by omega
            obtain ⟨x4, hx4e⟩ : ∃ x4, x4 = x / 4 := ⟨_, rfl⟩
            have hx4b : x4 ≤ 10 := by omega
            rw [← hx4e] at hx4
            clear hx4e
            obtain ⟨k, hke⟩ : ∃ k, k = x4 % Y.length := ⟨_, rfl⟩
            have hk : (x4 : Int) % (Y.length : Int) = (k : Int) := by rw [hke]; simp
            have hkl : k < Y.length := by rw [hke]; exact Nat.mod_lt _ hY
            have htm : Int.tmod (x4 : Int) (Y.length : Int) = (k : Int) := by rw [Int.tmod_eq_emod_of_nonneg (by omega)]; exact hk
            have hYn : ¬ Y = [] := fun h => by rw [h] at hY; simp at hY
            have hdiv : ∀ w : World, (Op.intDiv .rem .i64 (x4 : Int) (Y.length : Int)).run Facg.prog w = .ok (.int .i64 k) w := fun w => by
              simp [Op.intDiv, hYn, htm]
            have hk10 : k ≤ 10 := by rw [hke]; exact Nat.le_trans (Nat.mod_le _ _) hx4b
            clear hke
            have hY0 : ¬ (Y.length : Int) = 0 := by omega
            have hkc : ¬ cs = k := by omega
            obtain ⟨k1, hk1⟩ : ∃ k1, k1 = k + 1 := ⟨_, rfl⟩
            obtain ⟨hw1, hw2, hwx⟩ := wrap_small k x4 hk10 hx4b
            rw [← hk1] at hw1 hw2
            have hkk : k ≤ k1 := by rw [hk1]; exact Nat.le_succ k
            have hkc3 : k1 ≤ cs := by rw [hk1]; exact Nat.le_trans hkl hcs
            have hks : k1 - k = 1 := by rw [hk1, Nat.add_sub_cancel_left]
            clear hk1
            go_wp2
            go_quiet (fail)
            go_wp2
            have hzne : ((cc : Int) % 3 != 0) = true := by rw [ez]; rfl
            have hzeq : ((cc : Int) % 3 == 0) = false := by rw [ez]; rfl
            clear ez er ex
            go_loopw [88] (fun t wq => ∃ (j : Nat) (X2 : List Int), t = .int .i64 j ∧ j ≤ 1 ∧ NestS w wq (.slice (some ⟨ga, 0, none⟩) X.length ca) (.slice (some ⟨gs, 0, none⟩) Y.length cs) X2 Y ∧ X2.length = X.length) (fun t _ => 1 - (intOf t).toNat)
            case atStart => exact ⟨0, X, rfl, Nat.zero_le _, HN.out.grow (by first | exact Kept.refl _ _ | exact (Kept.refl _ _).drewN _), rfl⟩
            case round =>
              obtain ⟨j, X2, rfl, hj, hN2, hX2l⟩ := hrel
              have HN2 := hide hN2
              have HL2 := hide hX2l
              clear hN2
              have HN2' : Hid (NestS w wr (.slice (some ⟨ga, 0, none⟩) X2.length ca) (.slice (some ⟨gs, 0, none⟩) Y.length cs) X2 Y) := by unfold Hid; rw [HL2.out]; exact HN2.out
              clear hX2l
              by_cases hjl : j < 1
              · have hdj : decide ((j : Int) < 1) = true := decide_eq_true (by omega)
                have cy := HN2.out.cellS (show k + j < Y.length by omega)
                obtain ⟨y, hye⟩ : ∃ y, y = Y[k + j] := ⟨_, rfl⟩
                have hyl : y < X.length := by rw [hye, ← HL2.out]; exact HN2.out.yr _ (List.getElem_mem _)
                rw [← hye] at cy
                obtain ⟨⟨x0, cx⟩, cf⟩ := HN2'.out.cellA (i := y) (by rw [HL2.out]; exact hyl)
                clear hye
                go_wp2
                go_roundw
                case rel =>
                  exact ⟨j + 1, _, rfl, by omega, NestS.setA' HN2.out HL2.out hyl (orW_bd _ _), by rw [List.length_set]; exact HL2.out⟩
                case measure => first | (simp [intOf]; omega) | simp [intOf]
              · have hdj : decide ((j : Int) < 1) = false := decide_eq_false (by omega)
                have hN0 := HN2'.out.nil
                rw [HL2.out] at hN0
                have HN0 := hide hN0
                clear hN0
                go_wp2
                go_loopw [108, 3, 4] (fun t s3 s4 wq => ∃ (q : Nat) (X3 : List Int) (Y3 : List Nat), t = .int .i64 q ∧ q ≤ 8 ∧ NestS w wq s3 s4 X3 Y3 ∧ X3.length = X.length + q ∧ (0 < q → 0 < Y3.length) ∧ Y3.length ≤ q) (fun t _ _ _ => 8 - (intOf t).toNat)
                case atStart => exact ⟨0, X2, [], rfl, Nat.zero_le _, HN0.out, HL2.out, fun h => (by omega), Nat.le_refl _⟩
                case round =>
                  obtain ⟨q, X3, Y3, rfl, hq, hN3, hX3, hY3, hYq⟩ := hrel
                  obtain ⟨g3, c3, rfl⟩ := hN3.formA
                  obtain ⟨a4, c4, hu4⟩ := owns_slice hN3.rs
                  subst hu4
                  have HN3 := hide hN3
                  have HX3 := hide hX3
                  have HY3 := hide hY3
                  have hx3 : X3.length ≤ 256 := hN3.hi
                  have HYq := hide hYq
                  clear hN3 hX3 hY3
                  by_cases hql : q < 8
                  · have hdq : decide ((q : Int) < 8) = true := decide_eq_true (by omega)
                    have hx3' : X3.length < 256 := by have := HX3.out; omega
                    have hto : X.length + q < X3.length + 1 := by have := HX3.out; omega
                    go_wp2_with (first
                      | (at_builtin; refine wpList_app1 _ rfl _ _ 22 rfl 38 (.int .u64 0) 8 Facg.underlying22 info38 rfl (.slice (some ⟨g3, 0, none⟩) X3.length c3) X3.length (X3.map (Value.int .u64)) rfl ?o1 wr.heap.size (.int .u64 0) rfl ?o2 rfl ?o3 ?o4 ?_))
                    case o1 => exact (HN3.out.grow ((Kept.refl _ _).alloc _)).ra
                    case o2 => simp
                    case o3 => unfold maxLen; omega
                    case o4 => omega
                    intro a' c' w' ho hk hb'
                    have HNa := hide ((HN3.out.grow ((Kept.refl _ _).alloc _)).pushA hx3' ho hk (by rw [World.size_alloc]; exact hb'))
                    clear ho hk hb'
                    by_cases hq0 : q = 0
                    · have hdz : decide ((0 : Int) < (q : Int)) = false := decide_eq_false (by omega)
                      subst hq0
                      go_wp2_with (first
                        | (at_builtin; refine wpList_app1 _ rfl _ _ 162 rfl 3 (.int .i64 0) 8 Facg.underlying162 info3 rfl (.slice a4 Y3.length c4) Y3.length (intsOf Y3) rfl ?p1 w'.heap.size (.int .i64 (X.length : Int)) rfl ?p2 rfl ?p3 ?p4 ?_))
                      case p1 => exact (HNa.out.grow ((Kept.refl _ _).alloc _)).rs
                      case p2 => simp
                      case p3 => unfold maxLen; omega
                      case p4 => omega
                      intro a5 c5 w5 ho hk hb'
                      have HNb := hide ((HNa.out.grow ((Kept.refl _ _).alloc _)).pushS (y := X.length) (by simp; omega) ho hk (by rw [World.size_alloc]; exact hb'))
                      clear ho hk hb'
                      go_wp2
                      go_roundw
                      case rel => exact ⟨0 + 1, X3 ++ [0], Y3 ++ [X.length], rfl, by omega, by simpa using HNb.out, by simp; have := HX3.out; omega, fun _ => (by simp), by rw [List.length_append]; simp only [List.length_cons, List.length_nil]; have := HYq.out; omega⟩
                      case measure => first | (simp [intOf]; omega) | simp [intOf]

                    · have hdz : decide ((0 : Int) < (q : Int)) = true := decide_eq_true (by omega)
                      go_wp2_with (first
                        | (at_builtin; refine wpList_app1 _ rfl _ _ 162 rfl 3 (.int .i64 0) 8 Facg.underlying162 info3 rfl (.slice a4 Y3.length c4) Y3.length (intsOf Y3) rfl ?p1 w'.heap.size (.int .i64 ((X.length : Int) + (q : Int))) rfl ?p2 rfl ?p3 ?p4 ?_))
                      case p1 => exact (HNa.out.grow ((Kept.refl _ _).alloc _)).rs
                      case p2 => simp
                      case p3 => unfold maxLen; omega
                      case p4 => omega
                      intro a5 c5 w5 ho hk hb'
                      have HNb := hide ((HNa.out.grow ((Kept.refl _ _).alloc _)).pushS (y := X.length + q) (by simp; omega) ho hk (by rw [World.size_alloc]; exact hb'))
                      clear ho hk hb'
                      go_wp2
                      go_roundw
                      case rel => exact ⟨q + 1, X3 ++ [0], Y3 ++ [X.length + q], rfl, by omega, by simpa using HNb.out, by simp; have := HX3.out; omega, fun _ => (by simp), by rw [List.length_append]; simp only [List.length_cons, List.length_nil]; have := HYq.out; omega⟩
                      case measure => first | (simp [intOf]; omega) | simp [intOf]

                  · have hdq : decide ((q : Int) < 8) = false := decide_eq_false (by omega)
                    have hqW : q = 8 := by omega
                    go_wp2
                    go_roundw
                    case rel => exact ⟨i + 1, X3, Y3, _, rfl, by omega, rfl, HN3.out, HY3.out (by omega), by have := HYq.out; omega⟩
                    case measure => first | (simp [intOf]; omega) | simp [intOf]
          · go_wp2
            have hzne : ((cc : Int) % 3 != 0) = true := by rw [ez]; rfl
            have hzeq : ((cc : Int) % 3 == 0) = false := by rw [ez]; rfl
            clear ez er ex
            go_loopw [88] (fun t wq => ∃ (j : Nat) (X2 : List Int), t = .int .i64 j ∧ j ≤ Y.length ∧ NestS w wq (.slice (some ⟨ga, 0, none⟩) X.length ca) (.slice (some ⟨gs, 0, none⟩) Y.length cs) X2 Y ∧ X2.length = X.length) (fun t _ => Y.length - (intOf t).toNat)
            case atStart => exact ⟨0, X, rfl, Nat.zero_le _, HN.out.grow (by first | exact Kept.refl _ _ | exact (Kept.refl _ _).drewN _), rfl⟩
            case round =>
              obtain ⟨j, X2, rfl, hj, hN2, hX2l⟩ := hrel
              have HN2 := hide hN2
              have HL2 := hide hX2l
              clear hN2
              have HN2' : Hid (NestS w wr (.slice (some ⟨ga, 0, none⟩) X2.length ca) (.slice (some ⟨gs, 0, none⟩) Y.length cs) X2 Y) := by unfold Hid; rw [HL2.out]; exact HN2.out
              clear hX2l
              by_cases hjl : j < Y.length
              · have hdj : decide (j < Y.length) = true := decide_eq_true (by omega)
                have cy := HN2.out.cellS (show j < Y.length by omega)
                obtain ⟨y, hye⟩ : ∃ y, y = Y[j] := ⟨_, rfl⟩
                have hyl : y < X.length := by rw [hye, ← HL2.out]; exact HN2.out.yr _ (List.getElem_mem _)
                rw [← hye] at cy
                obtain ⟨⟨x0, cx⟩, cf⟩ := HN2'.out.cellA (i := y) (by rw [HL2.out]; exact hyl)
                clear hye
                go_wp2
                go_roundw
                case rel =>
                  exact ⟨j + 1, _, rfl, by omega, NestS.setA' HN2.out HL2.out hyl (orW_bd _ _), by rw [List.length_set]; exact HL2.out⟩
                case measure => first | (simp [intOf]; omega) | simp [intOf]
              · have hdj : decide (j < Y.length) = false := decide_eq_false (by omega)
                have hN0 := HN2'.out.nil
                rw [HL2.out] at hN0
                have HN0 := hide hN0
                clear hN0
                go_wp2
                go_loopw [108, 3, 4] (fun t s3 s4 wq => ∃ (q : Nat) (X3 : List Int) (Y3 : List Nat), t = .int .i64 q ∧ q ≤ 8 ∧ NestS w wq s3 s4 X3 Y3 ∧ X3.length = X.length + q ∧ (0 < q → 0 < Y3.length) ∧ Y3.length ≤ q) (fun t _ _ _ => 8 - (intOf t).toNat)
                case atStart => exact ⟨0, X2, [], rfl, Nat.zero_le _, HN0.out, HL2.out, fun h => (by omega), Nat.le_refl _⟩
                case round =>
                  obtain ⟨q, X3, Y3, rfl, hq, hN3, hX3, hY3, hYq⟩ := hrel
                  obtain ⟨g3, c3, rfl⟩ := hN3.formA
                  obtain ⟨a4, c4, hu4⟩ := owns_slice hN3.rs
                  subst hu4
                  have HN3 := hide hN3
                  have HX3 := hide hX3
                  have HY3 := hide hY3
                  have hx3 : X3.length ≤ 256 := hN3.hi
                  have HYq := hide hYq
                  clear hN3 hX3 hY3
                  by_cases hql : q < 8
                  · have hdq : decide ((q : Int) < 8) = true := decide_eq_true (by omega)
                    have hx3' : X3.length < 256 := by have := HX3.out; omega
                    have hto : X.length + q < X3.length + 1 := by have := HX3.out; omega
                    go_wp2_with (first
                      | (at_builtin; refine wpList_app1 _ rfl _ _ 22 rfl 38 (.int .u64 0) 8 Facg.underlying22 info38 rfl (.slice (some ⟨g3, 0, none⟩) X3.length c3) X3.length (X3.map (Value.int .u64)) rfl ?o1 wr.heap.size (.int .u64 0) rfl ?o2 rfl ?o3 ?o4 ?_))
                    case o1 => exact (HN3.out.grow ((Kept.refl _ _).alloc _)).ra
                    case o2 => simp
                    case o3 => unfold maxLen; omega
                    case o4 => omega
                    intro a' c' w' ho hk hb'
                    have HNa := hide ((HN3.out.grow ((Kept.refl _ _).alloc _)).pushA hx3' ho hk (by rw [World.size_alloc]; exact hb'))
                    clear ho hk hb'
                    by_cases hq0 : q = 0
                    · have hdz : decide ((0 : Int) < (q : Int)) = false := decide_eq_false (by omega)
                      subst hq0
                      go_wp2_with (first
                        | (at_builtin; refine wpList_app1 _ rfl _ _ 162 rfl 3 (.int .i64 0) 8 Facg.underlying162 info3 rfl (.slice a4 Y3.length c4) Y3.length (intsOf Y3) rfl ?p1 w'.heap.size (.int .i64 (X.length : Int)) rfl ?p2 rfl ?p3 ?p4 ?_))
                      case p1 => exact (HNa.out.grow ((Kept.refl _ _).alloc _)).rs
                      case p2 => simp
                      case p3 => unfold maxLen; omega
                      case p4 => omega
                      intro a5 c5 w5 ho hk hb'
                      have HNb := hide ((HNa.out.grow ((Kept.refl _ _).alloc _)).pushS (y := X.length) (by simp; omega) ho hk (by rw [World.size_alloc]; exact hb'))
                      clear ho hk hb'
                      go_wp2
                      go_roundw
                      case rel => exact ⟨0 + 1, X3 ++ [0], Y3 ++ [X.length], rfl, by omega, by simpa using HNb.out, by simp; have := HX3.out; omega, fun _ => (by simp), by rw [List.length_append]; simp only [List.length_cons, List.length_nil]; have := HYq.out; omega⟩
                      case measure => first | (simp [intOf]; omega) | simp [intOf]

                    · have hdz : decide ((0 : Int) < (q : Int)) = true := decide_eq_true (by omega)
                      go_wp2_with (first
                        | (at_builtin; refine wpList_app1 _ rfl _ _ 162 rfl 3 (.int .i64 0) 8 Facg.underlying162 info3 rfl (.slice a4 Y3.length c4) Y3.length (intsOf Y3) rfl ?p1 w'.heap.size (.int .i64 ((X.length : Int) + (q : Int))) rfl ?p2 rfl ?p3 ?p4 ?_))
                      case p1 => exact (HNa.out.grow ((Kept.refl _ _).alloc _)).rs
                      case p2 => simp
                      case p3 => unfold maxLen; omega
                      case p4 => omega
                      intro a5 c5 w5 ho hk hb'
                      have HNb := hide ((HNa.out.grow ((Kept.refl _ _).alloc _)).pushS (y := X.length + q) (by simp; omega) ho hk (by rw [World.size_alloc]; exact hb'))
                      clear ho hk hb'
                      go_wp2
                      go_roundw
                      case rel => exact ⟨q + 1, X3 ++ [0], Y3 ++ [X.length + q], rfl, by omega, by simpa using HNb.out, by simp; have := HX3.out; omega, fun _ => (by simp), by rw [List.length_append]; simp only [List.length_cons, List.length_nil]; have := HYq.out; omega⟩
                      case measure => first | (simp [intOf]; omega) | simp [intOf]

                  · have hdq : decide ((q : Int) < 8) = false := decide_eq_false (by omega)
                    have hqW : q = 8 := by omega
                    go_wp2
                    go_roundw
                    case rel => exact ⟨i + 1, X3, Y3, _, rfl, by omega, rfl, HN3.out, HY3.out (by omega), by have := HYq.out; omega⟩
                    case measure => first | (simp [intOf]; omega) | simp [intOf]
    · have hd : decide (i < m) = false := decide_eq_false hlt
      go_wp2
      go_ret
      refine ⟨_, X, rfl, HN.out.grows, ?_, hX1, hX2⟩
      exact Ints.of_owns HN.out.ra (fun x hx => wf_u64 (HN.out.xr x hx).1 (HN.out.xr x hx).2)

theorem nest_walk (v : Value) (Sh : List Int) (w : World) (hv : Ints w .u8 v Sh) :
    Calls Facg.prog 45 #[v] w fun e w' => ∃ va X, e = .returned va ∧ Grows w w' ∧ Ints w' .u64 va X ∧ 1 ≤ X.length ∧ X.length ≤ 256 := by
  obtain ⟨a, c, rfl, hc, hm, hw, hr⟩ := id hv
  unfold maxLen at hm
  obtain ⟨m, hmin0, hm1, hm2, _⟩ := min_of Sh.length 9
  by_cases hm0 : m = 0
  · exact nest_empty a Sh.length c m w hc hm hm1 hm2 hmin0 hm0
  · have hne : Sh ≠ [] := fun h => by rw [h] at hm1; simp at hm1; omega
    obtain ⟨bb, o, rfl, hcell⟩ := hr hne
    have hb := fun j => bytes_bd hw 0 j
    refine nest_full bb o (fun j => (Sh.getD (0 + j) 0).toNat) Sh.length c m w hc hm hm1 hm2 hmin0 (fun j => ?_) (fun j hj => ?_)
    · have := hb j
      omega
    · have h1 := hcell j (by omega)
      have h2 := hb j
      rw [Int.toNat_of_nonneg h2.1, Nat.zero_add]
      exact h1
end Go.Proofs.Ygcfac
