import Derived.Test.YgcfacExplain
namespace Go.Proofs.Ygcfac
open Go.RowKit
set_option linter.unusedVariables false

/-- law.slots. -/
structure Sl where
  first : Nat
  count : Nat
  run : Nat
  stride : Nat
def Sl.val (s : Sl) : Value := .agg #[.int .i64 s.first, .int .i64 s.count, .int .i64 s.run, .int .i64 s.stride]
def slotsQ (p : P) : Sl :=
  if p.kind = 1 then ⟨p.at_.toNat + p.data.toNat, p.ptrs.toNat, p.ptrs.toNat, p.data.toNat + p.ptrs.toNat⟩
  else if p.kind = 2 ∧ p.code = 6 then ⟨p.at_.toNat, p.count.toNat, 1, 1⟩
  else if p.kind = 2 ∧ p.code = 7 then ⟨p.at_.toNat + p.data.toNat, p.count.toNat * p.ptrs.toNat, p.ptrs.toNat, p.data.toNat + p.ptrs.toNat⟩
  else ⟨0, 0, 0, 0⟩

def SlotsPost (w : World) (s : Sl) (e : Ending) (w' : World) : Prop := e = .returned s.val ∧ Grows w w'

set_option maxRecDepth 10000 in
theorem slotsOf_1 (a d q c : Nat) (cd : Int) (w : World) (ha : a < 65536) (hd : d < 256) (hq : q < 256) (hc : c < 65536) :
    Calls Facg.prog 54 #[.agg #[.int .u8 1, .int .u16 a, .int .u8 d, .int .u8 q, .int .u8 cd, .int .u16 c]] w (SlotsPost w ⟨a + d, q, q, d + q⟩) := by
  go_enter Facg.func54, Facg.ntmps54
  go_wp2
  go_quiet (fail)
  go_wp2
  refine bodyPost_ret (v := Sl.val ⟨a + d, q, q, d + q⟩) (by simp [results, Facg.results54, go_sem, Sl.val]) rfl ⟨rfl, ?_⟩
  exact ((((Kept.refl _ _).alloc _).alloc _).drewN _).set4 (by omega) _ _ _ _

set_option maxRecDepth 10000 in
theorem slotsOf_6 (a d q c : Nat)  (w : World) (ha : a < 65536) (hd : d < 256) (hq : q < 256) (hc : c < 65536) :
    Calls Facg.prog 54 #[.agg #[.int .u8 2, .int .u16 a, .int .u8 d, .int .u8 q, .int .u8 6, .int .u16 c]] w (SlotsPost w ⟨a, c, 1, 1⟩) := by
  go_enter Facg.func54, Facg.ntmps54
  go_wp2
  go_quiet (fail)
  go_wp2
  refine bodyPost_ret (v := Sl.val ⟨a, c, 1, 1⟩) (by simp [results, Facg.results54, go_sem, Sl.val]) rfl ⟨rfl, ?_⟩
  exact ((((Kept.refl _ _).alloc _).alloc _).drewN _).set4 (by omega) _ _ _ _

set_option maxRecDepth 10000 in
theorem slotsOf_7 (a d q c : Nat)  (w : World) (ha : a < 65536) (hd : d < 256) (hq : q < 256) (hc : c < 65536) :
    Calls Facg.prog 54 #[.agg #[.int .u8 2, .int .u16 a, .int .u8 d, .int .u8 q, .int .u8 7, .int .u16 c]] w (SlotsPost w ⟨a + d, c * q, q, d + q⟩) := by
  have hcq : c * q < 65536 * 256 := Nat.mul_lt_mul_of_lt_of_lt hc hq
  have hcq' : (c : Int) * (q : Int) < 16777216 := by have : ((c * q : Nat) : Int) = (c : Int) * (q : Int) := by simp
                                                     omega
  have hcq0 : (0 : Int) ≤ (c : Int) * (q : Int) := Int.mul_nonneg (by omega) (by omega)
  go_enter Facg.func54, Facg.ntmps54
  go_wp2
  go_quiet (fail)
  go_wp2
  refine bodyPost_ret (v := Sl.val ⟨a + d, c * q, q, d + q⟩) (by simp [results, Facg.results54, go_sem, Sl.val]) rfl ⟨rfl, ?_⟩
  exact ((((Kept.refl _ _).alloc _).alloc _).drewN _).set4 (by omega) _ _ _ _

set_option maxRecDepth 10000 in
theorem slotsOf_0 (a d q c : Nat) (k cd : Int) (w : World) (ha : a < 65536) (hd : d < 256) (hq : q < 256) (hc : c < 65536) (h1 : (k == 1) = false) (h2 : (k == 2) = false) :
    Calls Facg.prog 54 #[.agg #[.int .u8 k, .int .u16 a, .int .u8 d, .int .u8 q, .int .u8 cd, .int .u16 c]] w (SlotsPost w ⟨0, 0, 0, 0⟩) := by
  go_enter Facg.func54, Facg.ntmps54
  go_wp2
  go_quiet (fail)
  go_wp2
  refine bodyPost_ret (v := Sl.val ⟨0, 0, 0, 0⟩) (by simp [results, Facg.results54, go_sem, Sl.val]) rfl ⟨rfl, ?_⟩
  exact ((((Kept.refl _ _).alloc _).alloc _).drewN _).set4 (by omega) _ _ _ _

set_option maxRecDepth 10000 in
theorem slotsOf_2 (a d q c : Nat) (cd : Int) (w : World) (ha : a < 65536) (hd : d < 256) (hq : q < 256) (hc : c < 65536) (h1 : (cd == 6) = false) (h2 : (cd == 7) = false) :
    Calls Facg.prog 54 #[.agg #[.int .u8 2, .int .u16 a, .int .u8 d, .int .u8 q, .int .u8 cd, .int .u16 c]] w (SlotsPost w ⟨0, 0, 0, 0⟩) := by
  go_enter Facg.func54, Facg.ntmps54
  go_wp2
  go_quiet (fail)
  go_wp2
  refine bodyPost_ret (v := Sl.val ⟨0, 0, 0, 0⟩) (by simp [results, Facg.results54, go_sem, Sl.val]) rfl ⟨rfl, ?_⟩
  exact ((((Kept.refl _ _).alloc _).alloc _).drewN _).set4 (by omega) _ _ _ _

theorem slotsOf_any (p : P) (hp : p.Ok) (w : World) : Calls Facg.prog 54 #[p.val] w (SlotsPost w (slotsQ p)) := by
  have h0 := hp.at_
  have h1 := hp.data
  have h2 := hp.ptrs
  have h3 := hp.count
  obtain ⟨k, at_, dt, pt, cd, m⟩ := p
  simp only at h0 h1 h2 h3
  obtain ⟨a, rfl⟩ := Int.eq_ofNat_of_zero_le h0.1
  obtain ⟨d, rfl⟩ := Int.eq_ofNat_of_zero_le h1.1
  obtain ⟨q, rfl⟩ := Int.eq_ofNat_of_zero_le h2.1
  obtain ⟨c, rfl⟩ := Int.eq_ofNat_of_zero_le h3.1
  unfold P.val slotsQ
  simp only [Int.toNat_natCast]
  by_cases k1 : k = 1
  · subst k1
    rw [if_pos rfl]
    exact slotsOf_1 a d q c cd w (by omega) (by omega) (by omega) (by omega)
  rw [if_neg k1]
  by_cases k2 : k = 2
  · subst k2
    by_cases c6 : cd = 6
    · subst c6
      rw [if_pos ⟨rfl, rfl⟩]
      exact slotsOf_6 a d q c w (by omega) (by omega) (by omega) (by omega)
    rw [if_neg (fun h => c6 h.2)]
    by_cases c7 : cd = 7
    · subst c7
      rw [if_pos ⟨rfl, rfl⟩]
      exact slotsOf_7 a d q c w (by omega) (by omega) (by omega) (by omega)
    rw [if_neg (fun h => c7 h.2)]
    exact slotsOf_2 a d q c cd w (by omega) (by omega) (by omega) (by omega) (by rw [beq_eq_false_iff_ne]; exact c6) (by rw [beq_eq_false_iff_ne]; exact c7)
  · rw [if_neg (fun h => k2 h.1), if_neg (fun h => k2 h.1)]
    exact slotsOf_0 a d q c k cd w (by omega) (by omega) (by omega) (by omega) (by rw [beq_eq_false_iff_ne]; exact k1) (by rw [beq_eq_false_iff_ne]; exact k2)

/-- (slots).at. -/
def Sl.at (s : Sl) (k : Nat) : Nat := s.first + k / s.run * s.stride + k % s.run

theorem firstWord_any (p : P) (hp : p.Ok) (w : World) : Calls Facg.prog 57 #[p.val] w fun e w' => e = .returned (.int .i64 p.first) ∧ Grows w w' := by
  have h0 := hp.at_
  obtain ⟨k, at_, dt, pt, cd, m⟩ := p
  simp only at h0
  unfold P.val P.first
  simp only
  by_cases h : k = 2 ∧ cd = 7
  · obtain ⟨rfl, rfl⟩ := h
    rw [if_pos ⟨rfl, rfl⟩]
    go_enter Facg.func57, Facg.ntmps57
    go_wp2
    go_ret
    exact ⟨rfl, (Kept.refl _ _).alloc _⟩
  · rw [if_neg h]
    by_cases hk : k = 2
    · subst hk
      have hc : (cd == 7) = false := by rw [beq_eq_false_iff_ne]; exact fun e => h ⟨rfl, e⟩
      go_enter Facg.func57, Facg.ntmps57
      go_wp2
      go_ret
      exact ⟨rfl, (Kept.refl _ _).alloc _⟩
    · have hc : (k == 2) = false := by rw [beq_eq_false_iff_ne]; exact hk
      go_enter Facg.func57, Facg.ntmps57
      go_wp2
      go_ret
      exact ⟨rfl, (Kept.refl _ _).alloc _⟩

set_option maxRecDepth 10000 in
theorem at_any (s : Sl) (k : Nat) (w : World) (hr : 0 < s.run) (hk : k < 65536) (hb : s.first < 1000000 ∧ s.run < 1000000 ∧ s.stride < 1000000) :
    Calls Facg.prog 55 #[s.val, .int .i64 k] w fun e w' => e = .returned (.int .i64 (s.at k)) ∧ Grows w w' := by
  obtain ⟨fi, co, ru, st⟩ := s
  simp only at hr hb
  unfold Sl.val Sl.at
  simp only
  go_enter Facg.func55, Facg.ntmps55
  go_wp2
  go_quiet (fail)
  go_wp2
  go_ret
  refine ⟨?_, ((Kept.refl _ _).alloc _).drewN _⟩
  have w1 : ∀ x : Nat, x < 1000000000000 → wrap64 (x : Int) = (x : Int) := fun x hx => by unfold wrap64; omega
  have e1 : (k : Int) / (ru : Int) = ((k / ru : Nat) : Int) := by simp
  have e2 : (k : Int) % (ru : Int) = ((k % ru : Nat) : Int) := by simp
  have b1 : k / ru ≤ k := Nat.div_le_self _ _
  have b2 : k % ru < ru := Nat.mod_lt _ hr
  have b3 : k / ru * st < 65536 * 1000000 := Nat.mul_lt_mul_of_lt_of_lt (by omega) hb.2.2
  rw [e1, e2]
  generalize k / ru = x at *
  generalize k % ru = y at *
  rw [w1 x (by omega), ← Int.natCast_mul]
  generalize x * st = z at *
  rw [w1 z (by omega), ← Int.natCast_add, w1 _ (by omega), ← Int.natCast_add, w1 _ (by omega)]
  rfl

/-! ### The slots are the pointer words of the object -/
theorem runL_get (a n k : Nat) (h : k < n) : (runL a n).getD k 0 = a + k := by
  simp [runL, List.getD_eq_getElem?_getD, List.getElem?_map, List.getElem?_range h]

theorem runs7_get (a d q : Nat) (hq : 0 < q) : ∀ c k, k < c * q → (runs7 a d (d + q) q c).getD k 0 = a + d + k / q * (d + q) + k % q := by
  intro c
  induction c with
  | zero => intro k h; omega
  | succ c ih =>
    intro k h
    rw [Nat.succ_mul] at h
    rw [runs7_succ, List.getD_eq_getElem?_getD, List.getElem?_append, runs7_length]
    by_cases hk : k < c * q
    · rw [if_pos hk, ← List.getD_eq_getElem?_getD]
      exact ih k hk
    · rw [if_neg hk, ← List.getD_eq_getElem?_getD, runL_get _ _ _ (by omega)]
      have e : k = (k - c * q) + c * q := by omega
      have e1 : k / q = c := by
        rw [e, Nat.add_mul_div_right _ _ hq, Nat.div_eq_of_lt (by omega)]
        omega
      have e2 : k % q = k - c * q := by
        have := Nat.div_add_mod k q
        rw [e1, Nat.mul_comm] at this
        omega
      rw [e1, e2]
      omega

theorem slotsQ_ok {n : Nat} {q : P} (hf : Fine n q) : (slotsQ q).count = (slotsL q).length ∧ (∀ k, k < (slotsQ q).count → 0 < (slotsQ q).run ∧ (slotsQ q).at k = (slotsL q).getD k 0) ∧ (slotsQ q).count < 65536 ∧ (slotsQ q).first < 1000000 ∧ (slotsQ q).run < 1000000 ∧ (slotsQ q).stride < 1000000 := by
  rcases hf with rfl | ⟨hok, hk, hin⟩
  · rw [slots_zero]
    unfold slotsQ
    rw [if_neg (by simp), if_neg (by simp), if_neg (by simp)]
    exact ⟨rfl, fun k hk => absurd hk (by simp), by decide, by decide, by decide, by decide⟩
  · have hkk : q.kind = 1 ∨ q.kind = 2 := by
      unfold insideI at hin
      simp at hin
      exact hin.1.2
    have h0 := hok.at_
    have h1 := hok.data
    have h2 := hok.ptrs
    have h3 := hok.count
    have hsl := slots_in hok hin
    obtain ⟨x1, x2, x3, x4⟩ := inside_extent hok hin
    have hlen : (slotsL q).length ≤ n := by
      have := nodup_le (m := List.range n) hsl.1 (fun x hx => List.mem_range.2 (by have := hsl.2 x hx; have := (pwords_bd q hok).1; omega))
      simpa using this
    suffices hm : (slotsQ q).count = (slotsL q).length ∧ (∀ k, k < (slotsQ q).count → 0 < (slotsQ q).run ∧ (slotsQ q).at k = (slotsL q).getD k 0) ∧ (slotsQ q).first < 1000000 ∧ (slotsQ q).run < 1000000 ∧ (slotsQ q).stride < 1000000 from
      ⟨hm.1, hm.2.1, by rw [hm.1]; omega, hm.2.2⟩
    clear hlen hsl
    unfold slotsQ slotsL Sl.at
    rcases hkk with k1 | k2
    · rw [if_pos k1, if_pos k1]
      simp only
      refine ⟨(runL_length _ _).symm, fun k hk => ⟨by omega, ?_⟩, by omega, by omega, by omega⟩
      rw [runL_get _ _ _ hk, Nat.div_eq_of_lt hk, Nat.mod_eq_of_lt hk]
      omega
    · rw [if_neg (by omega), if_neg (show ¬ q.kind = 1 by omega)]
      by_cases c6 : q.code = 6
      · rw [if_pos ⟨k2, c6⟩, if_pos c6]
        simp only
        refine ⟨(runL_length _ _).symm, fun k hk => ⟨by omega, ?_⟩, by omega, by omega, by omega⟩
        rw [runL_get _ _ _ hk, Nat.div_one, Nat.mod_one]
        omega
      · rw [if_neg (fun h => c6 h.2), if_neg c6]
        by_cases c7 : q.code = 7
        · rw [if_pos ⟨k2, c7⟩, if_pos c7, show (q.data + q.ptrs).toNat = q.data.toNat + q.ptrs.toNat by omega]
          simp only
          refine ⟨(runs7_length _ _ _ _ _).symm, fun k hk => ?_, by omega, by omega, by omega⟩
          have hp : 0 < q.ptrs.toNat := by
            rcases Nat.eq_zero_or_pos q.ptrs.toNat with h | h
            · rw [h] at hk; omega
            · exact h
          exact ⟨hp, (runs7_get _ _ _ hp _ _ hk).symm⟩
        · rw [if_neg (fun h => c7 h.2), if_neg c7]
          exact ⟨rfl, fun k hk => absurd hk (by simp), by decide, by decide, by decide⟩
end Go.Proofs.Ygcfac
