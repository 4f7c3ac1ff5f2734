/-
  (*pack.Cur).Step: one contract, by the plain function 'stepF'; and what 'stepF' is good for.
-/
import Derived.Test.YgcfacStepB
import Derived.Test.YgcfacStepC
import Derived.Test.YgcfacStepD
import Derived.Test.YgcfacCopy
namespace Go.Proofs.Ygcfac
open Go.RowKit
set_option linter.unusedVariables false

/-- The first word of a step. -/
def firstW (s : Nat → Int) : Int := scat s (onesI (s 0)).toNat (s 0) 1 0
/-- The words behind it. -/
def runW (s : Nat → Int) (k : Nat) (full : Bool) (more : Nat) : List Int := (List.range more).map fun q => if full then wordAt s (k + 8 * q) else 0

/-- One step over the stream s of which m bytes are left, nO words having been made: the bytes that it takes and the words that it makes; none: it is refused. -/
def stepF (s : Nat → Int) (m nO : Nat) : Option (Nat × List Int) :=
  if m = 0 then none
  else if s 0 = 0 then
    if m ≤ 1 ∨ 256 < nO + 1 + (s 1).toNat then none else some (2, firstW s :: runW s 2 false (s 1).toNat)
  else if s 0 = 255 then
    if m ≤ 9 ∨ m < 10 + 8 * (s 9).toNat ∨ 256 < nO + 1 + (s 9).toNat then none else some (10 + 8 * (s 9).toNat, firstW s :: runW s 10 true (s 9).toNat)
  else if m < 1 + (onesI (s 0)).toNat ∨ 256 < nO + 1 then none else some (1 + (onesI (s 0)).toNat, [firstW s])

theorem moreWords_run (s : Nat → Int) (k verb more : Nat) (full : Bool) (h : more = 0 ∨ (0 < verb ↔ full = true)) : moreWords s k verb more = (runW s k full more).map (Value.int .u64) := by
  rcases h with rfl | h
  · rfl
  · unfold moreWords runW
    rw [List.map_map]
    apply List.map_congr_left
    intro q _
    cases full <;> simp [h]

theorem full_or (n : Nat) : n = 0 ∨ (0 < 8 * n ↔ true = true) := by
  rcases Nat.eq_zero_or_pos n with h | h
  · exact .inl h
  · exact .inr ⟨fun _ => rfl, fun _ => by omega⟩

theorem moreWords_zero (s : Nat → Int) (k verb : Nat) : moreWords s k verb 0 = [] := rfl

/-- What a step leaves, or that it was refused. -/
def StepPost (w : World) (b : Nat) (sS vO : Value) (i nO : Nat) (out : List Value) (r : Option (Nat × List Int)) (e : Ending) (w' : World) : Prop :=
  match r with
  | none => e = .returned (.bool false) ∧ ∃ n, w' = w.drewN n
  | some (c, ws) => e = .returned (.bool true) ∧ ∃ v', CurAt w b sS vO ((i + c : Nat) : Int) (nO + ws.length) (out ++ ws.map (Value.int .u64)) v' w'

theorem step_all (b nS cS nO i : Nat) (aS : Option Addr) (s : Nat → Int) (vO : Value) (out : List Value) (w : World)
   (c0 : w.cell? ⟨b, 0, none⟩ = some (.slice aS nS cS)) (c1 : w.cell? ⟨b, 1, none⟩ = some (.int .u16 i)) (c2 : w.cell? ⟨b, 2, none⟩ = some vO)
   (fz : ∀ o, w.frozen? ⟨b, o, none⟩ = false)
   (hown : w.ownsRow 0 38 1 vO nO out) (hsep : vO.ownBlock ≠ some b)
   (h1 : nS ≤ 4096) (h2 : i ≤ nS) (h3 : nO ≤ 256) (hc : nS ≤ cS) (hB : ∀ j, 0 ≤ s j ∧ s j < 256)
   (hS : i < nS → ∃ bs os, aS = some ⟨bs, os, none⟩ ∧ bs ≠ b ∧ vO.ownBlock ≠ some bs ∧ ∀ j, i + j < nS → w.cell? ⟨bs, os + i + j, none⟩ = some (.int .u8 (s j))) :
    Calls Facg.prog 41 #[.pointer (some ⟨b, 0, none⟩)] w (StepPost w b (.slice aS nS cS) vO i nO out (stepF s (nS - i) nO)) := by
  obtain ⟨aO, cO, rfl⟩ := owns_slice hown
  by_cases hm : nS - i = 0
  · have hin : i = nS := by omega
    subst hin
    unfold stepF
    rw [if_pos hm]
    exact step_end b i cS nO cO aS aO w c0 c1 c2 h1 h3
  obtain ⟨bs, os, rfl, hbs, hsep', hSS⟩ := hS (by omega)
  clear hS
  have hS := hSS
  clear hSS
  have hT := hB 0
  have ho := ones_bd (s 0) hT.1 hT.2
  have hS0 : w.cell? ⟨bs, os + i, none⟩ = some (.int .u8 (s 0)) := hS 0 (by omega)
  unfold stepF
  rw [if_neg hm]
  by_cases ht0 : s 0 = 0
  · rw [if_pos ht0]
    have e0 : (s 0 == 0) = true := by simpa using ht0
    have e1 : (s 0 == 255) = false := by rw [ht0]; decide
    have hk1 : 1 + onesI (s 0) = 1 := by rw [ht0, ones8_0]; rfl
    have hb1 := hB 1
    by_cases hno : nS - i ≤ 1 ∨ 256 < nO + 1 + (s 1).toNat
    · rw [if_pos hno]
      exact step_no_zero b bs os nS cS nO cO aO i w (s 0) c0 c1 c2 h1 (by omega) h3 hc hS0 hT.1 hT.2 e0 e1 hk1 (s 1).toNat (by omega) (fun h => by rw [Int.toNat_of_nonneg hb1.1]; exact hS 1 h) (by omega)
    · rw [if_neg hno]
      refine (step_zero b bs os nS cS nO i s (.slice aO nO cO) out w c0 c1 c2 fz hown hsep hsep' hbs h1 (by omega) h3 hc hS hB (s 0) rfl (s 1).toNat hk1 (by rw [Int.toNat_of_nonneg hb1.1]; exact hS 1 (by omega)) e0 e1 (by omega) (by omega)).mono ?_
      rintro e w' ⟨rfl, v', hcur⟩
      refine ⟨rfl, v', ?_⟩
      rw [moreWords_run s 2 0 _ false (.inr (by simp))] at hcur
      have e2 : nO + (firstW s :: runW s 2 false (s 1).toNat).length = nO + 1 + (s 1).toNat := by simp [runW]; omega
      rw [e2]
      simp only [List.map_cons, firstW]
      exact hcur
  · rw [if_neg ht0]
    have e0 : (s 0 == 0) = false := by simpa using ht0
    by_cases ht1 : s 0 = 255
    · rw [if_pos ht1]
      have e1 : (s 0 == 255) = true := by simpa using ht1
      have hk1 : 1 + onesI (s 0) = 9 := by rw [ht1, ones8_255]; rfl
      have hb1 := hB 9
      by_cases hno : nS - i ≤ 9 ∨ nS - i < 10 + 8 * (s 9).toNat ∨ 256 < nO + 1 + (s 9).toNat
      · rw [if_pos hno]
        exact step_no_full b bs os nS cS nO cO aO i w (s 0) c0 c1 c2 h1 (by omega) h3 hc hS0 hT.1 hT.2 e0 e1 hk1 (s 9).toNat (by omega) (fun h => by rw [Int.toNat_of_nonneg hb1.1]; exact hS 9 h) (by omega)
      · rw [if_neg hno]
        refine (step_full b bs os nS cS nO i s (.slice aO nO cO) out w c0 c1 c2 fz hown hsep hsep' hbs h1 (by omega) h3 hc hS hB (s 0) rfl (s 9).toNat hk1 (by rw [Int.toNat_of_nonneg hb1.1]; exact hS 9 (by omega)) e0 e1 (by omega) (by omega)).mono ?_
        rintro e w' ⟨rfl, v', hcur⟩
        refine ⟨rfl, v', ?_⟩
        rw [moreWords_run s 10 (8 * (s 9).toNat) (s 9).toNat true (full_or _)] at hcur
        have e2 : nO + (firstW s :: runW s 10 true (s 9).toNat).length = nO + 1 + (s 9).toNat := by simp [runW]; omega
        rw [e2, show i + (10 + 8 * (s 9).toNat) = i + 10 + 8 * (s 9).toNat from by omega]
        simp only [List.map_cons, firstW]
        exact hcur
    · rw [if_neg ht1]
      have e1 : (s 0 == 255) = false := by simpa using ht1
      have hk1 : 1 + onesI (s 0) = ((1 + (onesI (s 0)).toNat : Nat) : Int) := by omega
      by_cases hno : nS - i < 1 + (onesI (s 0)).toNat ∨ 256 < nO + 1
      · rw [if_pos hno]
        exact step_no_plain b bs os nS cS nO cO aO i w (s 0) c0 c1 c2 h1 (by omega) h3 hc hS0 hT.1 hT.2 e0 e1 _ hk1 (by omega)
      · rw [if_neg hno]
        obtain ⟨k, hkk⟩ : ∃ k, 1 + (onesI (s 0)).toNat = k := ⟨_, rfl⟩
        rw [hkk] at hk1 hno ⊢
        refine (step_plain b bs os nS cS nO i s (.slice aO nO cO) out w c0 c1 c2 fz hown hsep hsep' hbs h1 (by omega) h3 hc hS hB (s 0) rfl k hk1 e0 e1 (by omega) (by omega)).mono ?_
        rintro e w' ⟨rfl, v', hcur⟩
        refine ⟨rfl, v', ?_⟩
        rw [moreWords_zero] at hcur
        exact hcur

/-! ### What 'stepF' is good for -/
theorem scat_bd (s : Nat → Int) (hB : ∀ j, 0 ≤ s j ∧ s j < 256) : ∀ (f : Nat) (r : Int) (q : Nat) (acc : Int), 0 ≤ r → r < 256 → (onesI r).toNat = f → 0 ≤ acc → acc < 18446744073709551616 → 0 ≤ scat s f r q acc ∧ scat s f r q acc < 18446744073709551616 := by
  intro f
  induction f with
  | zero => intro r q acc _ _ _ h0 h1; exact ⟨h0, h1⟩
  | succ f ih =>
    intro r q acc hr0 hr1 hf h0 h1
    have hr : 0 < r := by
      rcases Int.lt_or_eq_of_le hr0 with h | h
      · exact h
      · rw [← h, ones8_0] at hf; simp at hf
    obtain ⟨n0, n1, n2⟩ := next_bd r hr hr1
    obtain ⟨l0, l1⟩ := low_bd r hr hr1
    obtain ⟨s0, s1⟩ := sh_bd (s q) (lowI r) (hB q).1 (hB q).2 l0 l1
    obtain ⟨o0, o1⟩ := or_bd acc _ h0 h1 s0 s1
    have hb := ones_bd _ n0 (by omega)
    rw [scat_succ]
    refine ih _ _ _ n0 (by omega) ?_ o0 o1
    generalize onesI (bits .and .u8 r (r - 1)) = y at *
    omega

theorem wordAt_bd (s : Nat → Int) (hB : ∀ j, 0 ≤ s j ∧ s j < 256) (p : Nat) : 0 ≤ wordAt s p ∧ wordAt s p < 18446744073709551616 := by
  unfold wordAt word8
  have := hB p; have := hB (p + 1); have := hB (p + 2); have := hB (p + 3); have := hB (p + 4); have := hB (p + 5); have := hB (p + 6); have := hB (p + 7)
  omega

theorem wf_u64 {x : Int} (h0 : 0 ≤ x) (h1 : x < 18446744073709551616) : (Lit.int .u64 x).wf = true := WalkArith.wf_u64 (by omega)

theorem stepF_some {s : Nat → Int} (hB : ∀ j, 0 ≤ s j ∧ s j < 256) {m nO c : Nat} {ws : List Int} (h : stepF s m nO = some (c, ws)) :
    1 ≤ c ∧ c ≤ m ∧ 1 ≤ ws.length ∧ nO + ws.length ≤ 256 ∧ ∀ x ∈ ws, 0 ≤ x ∧ x < 18446744073709551616 := by
  have hf : 0 ≤ firstW s ∧ firstW s < 18446744073709551616 := scat_bd s hB _ _ _ _ (hB 0).1 (hB 0).2 rfl (by decide) (by decide)
  have hr : ∀ k full more, ∀ x ∈ runW s k full more, 0 ≤ x ∧ x < 18446744073709551616 := by
    intro k full more x hx
    obtain ⟨q, _, rfl⟩ := List.mem_map.1 hx
    cases full
    · simp
    · simpa using wordAt_bd s hB _
  have hl : ∀ k full more, (runW s k full more).length = more := by intro k full more; simp [runW]
  unfold stepF at h
  split at h
  · cases h
  split at h
  · split at h
    · cases h
    · simp only [Option.some.injEq, Prod.mk.injEq] at h
      obtain ⟨rfl, rfl⟩ := h
      refine ⟨by omega, by omega, by simp, by simp [hl]; omega, fun x hx => ?_⟩
      rcases List.mem_cons.1 hx with rfl | hx
      · exact hf
      · exact hr _ _ _ x hx
  split at h
  · split at h
    · cases h
    · simp only [Option.some.injEq, Prod.mk.injEq] at h
      obtain ⟨rfl, rfl⟩ := h
      refine ⟨by omega, by omega, by simp, by simp [hl]; omega, fun x hx => ?_⟩
      rcases List.mem_cons.1 hx with rfl | hx
      · exact hf
      · exact hr _ _ _ x hx
  split at h
  · cases h
  · simp only [Option.some.injEq, Prod.mk.injEq] at h
    obtain ⟨rfl, rfl⟩ := h
    refine ⟨by omega, by omega, by simp, by simp; omega, fun x hx => ?_⟩
    rcases List.mem_cons.1 hx with rfl | hx
    · exact hf
    · cases hx
end Go.Proofs.Ygcfac
