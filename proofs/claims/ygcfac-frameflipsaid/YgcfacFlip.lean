import Derived.Test.YgcfacRound
namespace Go.Proofs.Ygcfac
open Go.RowKit
set_option linter.unusedVariables false

theorem drop16 (h g : Int) (L : List Int) : (bytes8 h ++ (bytes8 g ++ L)).drop 16 = L := rfl

theorem heads (h g : Int) (L : List Int) (h0 : 0 ≤ h) (h1 : h < 18446744073709551616) (g0 : 0 ≤ g) (g1 : g < 18446744073709551616) :
    numF (at_ (bytes8 h ++ (bytes8 g ++ L))) 0 4 = h % 4294967296 ∧ numF (at_ (bytes8 h ++ (bytes8 g ++ L))) 4 2 = h / 4294967296 % 65536 ∧ numF (at_ (bytes8 h ++ (bytes8 g ++ L))) 6 2 = h / 281474976710656 ∧
    numF (at_ (bytes8 h ++ (bytes8 g ++ L))) 8 4 = g % 4294967296 ∧ numF (at_ (bytes8 h ++ (bytes8 g ++ L))) 12 4 = g / 4294967296 := by
  simp only [numF, at_, bytes8, List.cons_append, List.nil_append, Nat.zero_add, Nat.reduceAdd, List.getD_cons_zero, List.getD_cons_succ]
  refine ⟨?_, ?_, ?_, ?_, ?_⟩ <;> omega

theorem hdr0_bd (p : Bool) : 0 ≤ hdr0 p ∧ hdr0 p < 18446744073709551616 ∧ hdr0 p % 4294967296 = 827742039 ∧ hdr0 p / 4294967296 % 65536 = 1 ∧ hdr0 p / 281474976710656 = (if p then 1 else 0) := by cases p <;> decide

theorem load_bd (A : List Int) (p : Bool) (hA : ∀ x ∈ A, 0 ≤ x ∧ x < 18446744073709551616) : ∀ y ∈ loadF A p, 0 ≤ y ∧ y < 256 := by
  cases p with
  | true =>
    have e : loadF A true = packF A := rfl
    rw [e]; unfold packF
    split
    · simp
    · exact packL_bd _ _ (fun x hx => (hA x hx).1)
  | false =>
    have e : loadF A false = A.flatMap bytes8 := rfl
    rw [e]
    intro y hy
    obtain ⟨x, hx, hy⟩ := List.mem_flatMap.1 hy
    exact bytes8_bd x (hA x hx).1 y hy

theorem sumF_bd (L : List Int) (h : ∀ y ∈ L, 0 ≤ y ∧ y < 256) : 0 ≤ sumF L ∧ sumF L < 4294967296 := sumFrom_bd L h _ (by decide) (by decide)

/-- The five numbers of the header of a sealed frame. -/
theorem seal_heads (A : List Int) (p : Bool) (hA : ∀ x ∈ A, 0 ≤ x ∧ x < 18446744073709551616) (hl : A.length ≤ 256) :
    numF (at_ (sealF A p)) 0 4 = 827742039 ∧ numF (at_ (sealF A p)) 4 2 = 1 ∧ numF (at_ (sealF A p)) 6 2 = (if p then 1 else 0) ∧ numF (at_ (sealF A p)) 8 4 = (A.length : Int) ∧ numF (at_ (sealF A p)) 12 4 = sumF (loadF A p) := by
  have hs := sumF_bd _ (load_bd A p hA)
  obtain ⟨d0, d1, d2, d3, d4⟩ := hdr0_bd p
  unfold sealF
  generalize sumF (loadF A p) = X at *
  have hh := heads (hdr0 p) ((A.length : Int) + X * 4294967296) (loadF A p) d0 d1 (by omega) (by omega)
  rw [d2, d3, d4] at hh
  obtain ⟨e1, e2, e3, e4, e5⟩ := hh
  refine ⟨e1, e2, e3, ?_, ?_⟩
  · rw [e4]; omega
  · rw [e5]; omega

theorem seal_len (A : List Int) (p : Bool) : (sealF A p).length = 16 + (loadF A p).length := by
  simp only [sealF, bytes8, List.length_append, List.length_cons, List.length_nil]; omega

theorem seal_bd (A : List Int) (p : Bool) (hA : ∀ x ∈ A, 0 ≤ x ∧ x < 18446744073709551616) : ∀ y ∈ sealF A p, 0 ≤ y ∧ y < 256 := by
  have hs := sumF_bd _ (load_bd A p hA)
  obtain ⟨d0, d1, d2, d3, d4⟩ := hdr0_bd p
  intro y hy
  unfold sealF at hy
  rcases List.mem_append.1 hy with hy | hy
  · exact bytes8_bd _ d0 y hy
  · rcases List.mem_append.1 hy with hy | hy
    · exact bytes8_bd _ (by omega) y hy
    · exact load_bd A p hA y hy

theorem flag_eq (p : Bool) : ((if p then (1 : Int) else 0) == 1) = p := by cases p <;> rfl

theorem open_seal (A : List Int) (p : Bool) (hA : ∀ x ∈ A, 0 ≤ x ∧ x < 18446744073709551616) (hl : A.length ≤ 256) : openF (sealF A p) = (A, 0) := by
  have hlen := seal_len A p
  obtain ⟨e1, e2, e3, e4, e5⟩ := seal_heads A p hA hl
  have ed : (sealF A p).drop 16 = loadF A p := drop16 _ _ _
  have hw := words_load A p hA hl
  unfold openF
  rw [if_neg (by omega), e1, e2, e3, e4, e5, ed]
  unfold openG
  rw [if_neg (by simp), if_neg (by simp), if_neg (by cases p <;> simp), if_neg (by omega), if_neg (by simp), flag_eq, Int.toNat_natCast, hw]
  simp

/-! ### A changed byte -/
theorem num_inj : ∀ (n : Nat) (s t : Nat → Int) (p : Nat), (∀ j, 0 ≤ s j ∧ s j < 256) → (∀ j, 0 ≤ t j ∧ t j < 256) → numF s p n = numF t p n → ∀ j, j < n → s (p + j) = t (p + j)
  | 0, s, t, p, hs, ht, h, j, hj => by omega
  | n + 1, s, t, p, hs, ht, h, j, hj => by
    have h1 := hs p
    have h2 := ht p
    simp only [numF] at h
    cases j with
    | zero => simp only [Nat.add_zero]; omega
    | succ j =>
      have := num_inj n s t (p + 1) hs ht (by omega) j (by omega)
      rw [show p + (j + 1) = p + 1 + j by omega]
      exact this

theorem sumStep_nat (h x : Nat) (hh : h < 4294967296) (hx : x < 256) : sumStep h x = ((h ^^^ x) * 16777619 % 4294967296 : Nat) := by
  unfold sumStep
  rw [u32_xor_nat h x hh (by omega), IntKind.wrap_u32]
  omega
theorem xor_lt {h x : Nat} (hh : h < 4294967296) (hx : x < 256) : h ^^^ x < 4294967296 := by
  have := Nat.xor_lt_two_pow (n := 32) (x := h) (y := x) (by omega) (by omega)
  omega
theorem xor_back (a b : Nat) : (a ^^^ b) ^^^ b = a := by rw [Nat.xor_assoc, Nat.xor_self, Nat.xor_zero]
theorem mul_back (a : Nat) (ha : a < 4294967296) : a * 16777619 % 4294967296 * 899433627 % 4294967296 = a := by
  rw [Nat.mod_mul_mod, Nat.mul_assoc, show 16777619 * 899433627 = 1 + 4294967296 * 3513497 from rfl, Nat.mul_add, Nat.mul_left_comm, Nat.add_mul_mod_self_left, Nat.mul_one, Nat.mod_eq_of_lt ha]
theorem mul_inj (a b : Nat) (ha : a < 4294967296) (hb : b < 4294967296) (h : a * 16777619 % 4294967296 = b * 16777619 % 4294967296) : a = b := by
  rw [← mul_back a ha, h, mul_back b hb]
theorem sumStep_inj {h g x y : Int} (h0 : 0 ≤ h ∧ h < 4294967296) (g0 : 0 ≤ g ∧ g < 4294967296) (x0 : 0 ≤ x ∧ x < 256) (y0 : 0 ≤ y ∧ y < 256) (hc : x = y ∨ h = g) (e : sumStep h x = sumStep g y) : h = g ∧ x = y := by
  obtain ⟨h, rfl⟩ := Int.eq_ofNat_of_zero_le h0.1
  obtain ⟨g, rfl⟩ := Int.eq_ofNat_of_zero_le g0.1
  obtain ⟨x, rfl⟩ := Int.eq_ofNat_of_zero_le x0.1
  obtain ⟨y, rfl⟩ := Int.eq_ofNat_of_zero_le y0.1
  rw [sumStep_nat h x (by omega) (by omega), sumStep_nat g y (by omega) (by omega)] at e
  have l1 := xor_lt (h := h) (x := x) (by omega) (by omega)
  have l2 := xor_lt (h := g) (x := y) (by omega) (by omega)
  have e2 : h ^^^ x = g ^^^ y := mul_inj _ _ l1 l2 (by
    generalize h ^^^ x = a at *
    generalize g ^^^ y = b at *
    exact Int.ofNat_inj.1 e)
  rcases hc with hc | hc
  · have : x = y := by omega
    subst this
    have : h = g := by rw [← xor_back h x, e2, xor_back]
    omega
  · have : h = g := by omega
    subst this
    have : x = y := by rw [← xor_back x h, Nat.xor_comm x h, e2, Nat.xor_comm h y, xor_back]
    omega

theorem sumFrom_cons (h x : Int) (L : List Int) : sumFrom h (x :: L) = sumFrom (sumStep h x) L := rfl
theorem sumStep_bd {h x : Int} (h0 : 0 ≤ h ∧ h < 4294967296) (x0 : 0 ≤ x ∧ x < 256) : 0 ≤ sumStep h x ∧ sumStep h x < 4294967296 := by
  unfold sumStep; rw [IntKind.wrap_u32]; omega
theorem sumFrom_inj : ∀ (L : List Int), (∀ x ∈ L, 0 ≤ x ∧ x < 256) → ∀ h g, 0 ≤ h ∧ h < 4294967296 → 0 ≤ g ∧ g < 4294967296 → sumFrom h L = sumFrom g L → h = g
  | [], _, h, g, _, _, e => e
  | x :: L, hL, h, g, h0, g0, e => by
    have hx := hL x List.mem_cons_self
    rw [sumFrom_cons, sumFrom_cons] at e
    have := sumFrom_inj L (fun x hx => hL x (List.mem_cons_of_mem _ hx)) _ _ (sumStep_bd h0 hx) (sumStep_bd g0 hx) e
    exact (sumStep_inj h0 g0 hx hx (.inl rfl) this).1
theorem sumFrom_set : ∀ (L : List Int), (∀ x ∈ L, 0 ≤ x ∧ x < 256) → ∀ (j : Nat) (v : Int), j < L.length → 0 ≤ v ∧ v < 256 → ∀ h, 0 ≤ h ∧ h < 4294967296 → sumFrom h (L.set j v) = sumFrom h L → L.getD j 0 = v
  | [], _, j, v, hj, _, _, _, _ => by simp at hj
  | x :: L, hL, 0, v, hj, hv, h, h0, e => by
    have hx := hL x List.mem_cons_self
    rw [List.set_cons_zero, sumFrom_cons, sumFrom_cons] at e
    have := sumFrom_inj L (fun x hx => hL x (List.mem_cons_of_mem _ hx)) _ _ (sumStep_bd h0 hv) (sumStep_bd h0 hx) e
    exact (sumStep_inj h0 h0 hv hx (.inr rfl) this).2.symm
  | x :: L, hL, j + 1, v, hj, hv, h, h0, e => by
    have hx := hL x List.mem_cons_self
    rw [List.set_cons_succ, sumFrom_cons, sumFrom_cons] at e
    rw [List.getD_cons_succ]
    exact sumFrom_set L (fun x hx => hL x (List.mem_cons_of_mem _ hx)) j v (by simpa using hj) hv _ (sumStep_bd h0 hx) e

theorem at_wf {S : List Int} (h : ∀ y ∈ S, 0 ≤ y ∧ y < 256) (j : Nat) : 0 ≤ at_ S j ∧ at_ S j < 256 := by
  unfold at_
  by_cases hj : j < S.length
  · have := h S[j] (List.getElem_mem hj)
    simpa [List.getElem?_eq_getElem hj] using this
  · simp [List.getElem?_eq_none (by omega : S.length ≤ j)]

theorem at_set_ne (S : List Int) (k j : Nat) (v : Int) (h : k ≠ j) : at_ (S.set k v) j = at_ S j := by
  simp [at_, List.getElem?_set_ne h]
theorem at_set_eq (S : List Int) (k : Nat) (v : Int) (h : k < S.length) : at_ (S.set k v) k = v := by
  simp [at_, h]

/-- When openG answers with no fault, every test has passed. -/
theorem openG_ok {M V F N X : Int} {L : List Int} (h : (openG M V F N X L).2 = 0) : M = 827742039 ∧ V = 1 ∧ F ≤ 1 ∧ N ≤ 256 ∧ sumF L = X ∧ ∃ a, wordsF L (F == 1) N.toNat = some a ∧ a.length = N.toNat := by
  unfold openG at h
  split at h
  · simp at h
  split at h
  · simp at h
  split at h
  · simp at h
  split at h
  · simp at h
  split at h
  · simp at h
  cases hw : wordsF L (F == 1) N.toNat with
  | none => rw [hw] at h; simp at h
  | some a =>
    rw [hw] at h
    simp only at h
    split at h
    · exact ⟨by omega, by omega, by omega, by omega, by omega, a, rfl, by assumption⟩
    · simp at h

/-- One changed byte, the seventh apart, is seen. -/
theorem open_flip (A : List Int) (p : Bool) (hA : ∀ x ∈ A, 0 ≤ x ∧ x < 18446744073709551616) (hl : A.length ≤ 256) (k : Nat) (v : Int) (hk : k < (sealF A p).length) (h6 : k ≠ 6) (hv : 0 ≤ v ∧ v < 256) (hne : (sealF A p).getD k 0 ≠ v) :
    (openF ((sealF A p).set k v)).2 ≠ 0 := by
  intro h
  have hlen := seal_len A p
  have hB := seal_bd A p hA
  have hLB := load_bd A p hA
  obtain ⟨e1, e2, e3, e4, e5⟩ := seal_heads A p hA hl
  have hS : ∀ j, 0 ≤ at_ (sealF A p) j ∧ at_ (sealF A p) j < 256 := at_wf hB
  have hB' : ∀ y ∈ (sealF A p).set k v, 0 ≤ y ∧ y < 256 := by
    intro y hy
    rcases List.mem_or_eq_of_mem_set hy with hy | rfl
    · exact hB y hy
    · exact hv
  have hS' : ∀ j, 0 ≤ at_ ((sealF A p).set k v) j ∧ at_ ((sealF A p).set k v) j < 256 := at_wf hB'
  have hne' : at_ (sealF A p) k ≠ at_ ((sealF A p).set k v) k := by
    rw [at_set_eq _ _ _ hk]; exact hne
  have same : ∀ q n, numF (at_ (sealF A p)) q n = numF (at_ ((sealF A p).set k v)) q n → ¬ (q ≤ k ∧ k < q + n) := by
    intro q n e hq
    have := num_inj n _ _ q hS hS' e (k - q) (by omega)
    rw [show q + (k - q) = k by omega] at this
    exact hne' this
  have ed : (sealF A p).drop 16 = loadF A p := drop16 _ _ _
  unfold openF at h
  rw [if_neg (by rw [List.length_set]; omega)] at h
  obtain ⟨o1, o2, o3, o4, o5, a, o6, o7⟩ := openG_ok h
  have k1 := same 0 4 (by rw [e1, o1])
  have k2 := same 4 2 (by rw [e2, o2])
  have k7 : k ≠ 7 := by
    intro e
    subst e
    simp only [numF, Nat.reduceAdd] at e3 o3
    have a6 := hS 6; have a7 := hS 7; have b6 := hS' 6; have b7 := hS' 7
    have : (if p then (1 : Int) else 0) ≤ 1 := by cases p <;> simp
    omega
  have s6 : numF (at_ ((sealF A p).set k v)) 6 2 = (if p then 1 else 0) := by
    rw [← e3]
    simp only [numF]
    rw [at_set_ne _ _ _ _ h6, at_set_ne _ _ _ _ k7]
  by_cases k16 : 16 ≤ k
  · have ed' : ((sealF A p).set k v).drop 16 = (loadF A p).set (k - 16) v := by
      rw [List.drop_set, ed, if_neg (by omega)]
    rw [ed'] at o5
    have e12 : numF (at_ ((sealF A p).set k v)) 12 4 = sumF (loadF A p) := by
      rw [← e5]
      simp only [numF]
      rw [at_set_ne _ _ _ _ (by omega), at_set_ne _ _ _ _ (by omega), at_set_ne _ _ _ _ (by omega), at_set_ne _ _ _ _ (by omega)]
    rw [e12] at o5
    have := sumFrom_set (loadF A p) hLB (k - 16) v (by omega) hv 2166136261 (by decide) o5
    apply hne
    rw [← this, ← ed]
    simp only [List.getD_eq_getElem?_getD, List.getElem?_drop]
    rw [show 16 + (k - 16) = k by omega]
  · have ed' : ((sealF A p).set k v).drop 16 = loadF A p := by
      rw [List.drop_set, ed, if_pos (by omega)]
    rw [ed'] at o5 o6
    have k3 := same 12 4 (by rw [e5, o5])
    have k4 : numF (at_ (sealF A p)) 8 4 ≠ numF (at_ ((sealF A p).set k v)) 8 4 := by
      intro e
      have := same 8 4 e
      omega
    rw [e4] at k4
    have hN := (num_bd _ hS' 4 8).1
    generalize numF (at_ ((sealF A p).set k v)) 8 4 = N at *
    rw [s6, flag_eq] at o6
    have hw := words_load A p hA hl
    cases p with
    | true =>
      have u1 : unpackF (loadF A true) = some A := hw
      have u2 : unpackF (loadF A true) = some a := o6
      rw [u1] at u2
      injection u2 with u2
      subst u2
      omega
    | false =>
      have e : loadF A false = A.flatMap bytes8 := rfl
      have hf := flat_len A
      rw [← e] at hf
      generalize loadF A false = L at *
      unfold wordsF at o6
      rw [if_neg Bool.false_ne_true, if_neg (by omega)] at o6
      simp at o6
end Go.Proofs.Ygcfac
