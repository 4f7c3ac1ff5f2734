import Derived.Test.YgcfacBackWalk
namespace Go.Proofs.Ygcfac
open Go.RowKit
set_option linter.unusedVariables false

theorem xor_flip : ∀ x : Nat, x < 256 → ∀ m : Nat, m < 8 → bits .xor .u8 (x : Int) ((2 : Int) ^ m % 256) ≠ x ∧ 0 ≤ bits .xor .u8 (x : Int) ((2 : Int) ^ m % 256) ∧ bits .xor .u8 (x : Int) ((2 : Int) ^ m % 256) < 256 := by decide +kernel

theorem BufAt.slice {w0 w : World} {D : List Int} {v : Value} (h : BufAt w0 D v w) (hD : 0 < D.length) :
    ∃ g cap, v = .slice (some ⟨g, 0, none⟩) D.length cap ∧ D.length ≤ cap ∧ cap ≤ maxLen ∧ w0.heap.size ≤ g ∧ ∀ j, j < D.length → w.cell? ⟨g, j, none⟩ = some (.int .u8 (D.getD j 0)) ∧ w.frozen? ⟨g, j, none⟩ = false := by
  obtain ⟨hl, hv⟩ := id h.owns
  rcases hv with ⟨rfl, e⟩ | ⟨g, cap, cur, rfl, _, hg, hc, hm, hcs, ht⟩
  · omega
  · have hown := h.owns
    refine ⟨g, cap, rfl, hc, hm, h.fresh g rfl, fun j hj => ⟨?_, hown.frozenAt j⟩⟩
    rw [hown.cellAt j (by omega)]
    simp [List.getElem?_eq_getElem hj]

theorem BufAt.stored {w0 w : World} {D : List Int} {g n cap : Nat} (h : BufAt w0 D (.slice (some ⟨g, 0, none⟩) n cap) w) (hn : n = D.length) (k : Nat) (x : Int) : BufAt w0 (D.set k x) (.slice (some ⟨g, 0, none⟩) n cap) (w.setCell ⟨g, k, none⟩ (.int .u8 x)) := by
  subst hn
  refine ⟨h.grows.setCell (.inl (h.fresh g rfl)) _, ?_, h.fresh⟩
  have := (h.owns.stored k (.int .u8 x)).1
  rw [List.length_set, List.map_set]
  exact this

theorem frameFlip_walk (v : Value) (A : List Int) (p : Bool) (i bit : Int) (w : World) (hv : Ints w .u64 v A) (hi : 0 ≤ i ∧ i < 65536) (hb : 0 ≤ bit ∧ bit < 256) :
    Calls Facg.prog 6 #[v, .bool p, .int .u16 i, .int .u8 bit] w fun e w' => e = .returned (.bool true) ∧ Grows w w' := by
  obtain ⟨a, c, rfl, hc, hm, hw, hr⟩ := id hv
  unfold maxLen at hm
  obtain ⟨m, hmin0, hm1, hm2, _⟩ := min_of A.length 256
  have hmin : (if (256 : Int) < (A.length : Int) then (256 : Int) else (A.length : Int)) = (m : Int) := hmin0
  have hI := hv.front m hm1
  have hlm : (A.take m).length ≤ 256 := by simp; omega
  have hB := ints_bd hI
  have HS := hide (seal_any (.slice a m c) (A.take m) p w hI hlm)
  have hsl := seal_len (A.take m) p
  have hsb := seal_bd (A.take m) p hB
  have HF := hide (fun k x => open_flip (A.take m) p hB hlm k x)
  clear hw hr hv hI hmin0 hB hlm
  generalize sealF (A.take m) p = S at *
  have hS : 16 ≤ S.length := by omega
  clear hsl
  have hmc : (m : Int) ≤ (c : Int) := by omega
  obtain ⟨i, rfl⟩ := Int.eq_ofNat_of_zero_le hi.1
  obtain ⟨bit, rfl⟩ := Int.eq_ofNat_of_zero_le hb.1
  have hk : i % S.length < S.length := Nat.mod_lt _ (by omega)
  have hkm : (i : Int).tmod (S.length : Int) = ((i % S.length : Nat) : Int) := by
    rw [Int.tmod_eq_emod_of_nonneg (by omega)]; rfl
  have hbm : (bit : Int).tmod 8 = ((bit % 8 : Nat) : Int) := by
    rw [Int.tmod_eq_emod_of_nonneg (by omega)]; rfl
  have hb8 : bit % 8 < 8 := by omega
  have hz : ((S.length : Int) == 0) = false := by rw [beq_eq_false_iff_ne]; omega
  generalize i % S.length = k at *
  generalize bit % 8 = t at *
  generalize hn : S.length = n at *
  have HK := hide hsb
  clear hsb
  by_cases h6 : k = 6
  · subst h6
    go_enter Facg.func6, Facg.ntmps6
    go_wp2_with (first
      | (go_at_call 23; refine HS.out.mono ?_; rintro e w1 ⟨v1, rfl, hb⟩; obtain ⟨g, cap, rfl, hc1, hc2, hg, hcell⟩ := hb.slice (by omega); rw [hn] at *; have H1 := hide hb; have HC := hide hcell; clear hb hcell))
    go_ret
    exact ⟨rfl, H1.out.grows⟩
  · have h6' : ((k : Int) == 6) = false := by simp; omega
    have hkx := at_wf HK.out k
    unfold at_ at hkx
    obtain ⟨x, hx⟩ := Int.eq_ofNat_of_zero_le hkx.1
    rw [hx] at hkx
    have hfl := xor_flip x (by omega) t hb8
    generalize hy : bits .xor .u8 (x : Int) ((2 : Int) ^ t % 256) = y at *
    have hcode := HF.out k y hk h6 hfl.2 (by rw [hx]; exact fun e => hfl.1 e.symm)
    have HO := hide (fun w1 g cap (b : BufAt w S (.slice (some ⟨g, 0, none⟩) n cap) w1) => open_any (.slice (some ⟨g, 0, none⟩) n cap) (S.set k y) (w1.setCell ⟨g, k, none⟩ (.int .u8 y)) ((b.stored hn.symm k y).ints (by
      intro z hz
      rcases List.mem_or_eq_of_mem_set hz with hz | rfl
      · exact HK.out z hz
      · exact hfl.2)))
    generalize openF (S.set k y) = r at *
    have tz : (r.2 != 0) = true := by simpa using hcode
    have HN := hide hn
    clear hcode hfl HF hn
    go_enter Facg.func6, Facg.ntmps6
    go_wp2_with (first
      | (go_at_call 23; refine HS.out.mono ?_; rintro e w1 ⟨v1, rfl, hb⟩; obtain ⟨g, cap, rfl, hc1, hc2, hg, hcell⟩ := hb.slice (by rw [HN.out]; omega); rw [HN.out] at hb hc1 hcell ⊢; have c1 := (hcell k (by omega)).1; have f1 := (hcell k (by omega)).2; rw [hx] at c1; have H1 := hide hb; clear hb hcell)
      | (go_at_call 24; (try rw [hy]); refine (HO.out _ _ _ H1.out).mono ?_; rintro e w2 ⟨hg2, v2, rfl, hi2, _⟩; have HG := hide hg2; clear hg2 hi2))
    go_ret
    exact ⟨rfl, (H1.out.stored HN.out.symm k y).grows.trans HG.out⟩
end Go.Proofs.Ygcfac
