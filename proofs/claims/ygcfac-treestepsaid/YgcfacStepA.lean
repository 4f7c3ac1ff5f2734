/-
  (*pack.Cur).Check and (*pack.Cur).Step, walked: a step that is taken.
-/
import Derived.Test.YgcfacMem
namespace Go.Proofs.Ygcfac
open Go.RowKit

/-- The word that a tag's bytes make: the byte that comes next goes to the place of the tag's lowest bit. -/
def scat (s : Nat → Int) : Nat → Int → Nat → Int → Int
  | 0, _, _, acc => acc
  | f + 1, r, at_, acc => scat s f (bits .and .u8 r (r - 1)) (at_ + 1) (bits .or .u64 acc (s at_ * 2 ^ (8 * lowI r).toNat))

/-- The eight bytes from p on, as a word. -/
def wordAt (s : Nat → Int) (p : Nat) : Int := word8 (s p) (s (p + 1)) (s (p + 2)) (s (p + 3)) (s (p + 4)) (s (p + 5)) (s (p + 6)) (s (p + 7))

theorem check_yes (b : Nat) (aS aO : Option Addr) (nS cS nO cO : Nat) (i : Int) (w : World) 
   (c0 : w.cell? ⟨b, 0, none⟩ = some (.slice aS nS cS)) (c1 : w.cell? ⟨b, 1, none⟩ = some (.int .u16 i)) (c2 : w.cell? ⟨b, 2, none⟩ = some (.slice aO nO cO)) 
   (hi0 : 0 ≤ i) (h1 : nS ≤ 4096) (h2 : i ≤ nS) (h3 : nO ≤ 256) :
    Calls Facg.prog 40 #[.pointer (some ⟨b, 0, none⟩)] w fun e w' => e = .returned (.bool true) ∧ ∃ n, w' = w.drewN n := by
  have d1 : decide ((nS : Int) ≤ 4096) = true := by simp; omega
  have d2 : decide (i ≤ (nS : Int)) = true := by simp; omega
  have d3 : decide ((nO : Int) ≤ 256) = true := by simp; omega
  go_enter Facg.func40, Facg.ntmps40
  go_wp2
  go_quiet (fail)
  go_wp2
  go_ret
  exact ⟨rfl, _, rfl⟩

/-- The round's new word lies within a word. -/
theorem or_bd (a b : Int) (ha0 : 0 ≤ a) (ha : a < 18446744073709551616) (hb0 : 0 ≤ b) (hb : b < 18446744073709551616) : 0 ≤ bits .or .u64 a b ∧ bits .or .u64 a b < 18446744073709551616 := by
  obtain ⟨a, rfl⟩ := Int.eq_ofNat_of_zero_le ha0
  obtain ⟨b, rfl⟩ := Int.eq_ofNat_of_zero_le hb0
  rw [u64_or_nat a b (by omega) (by omega)]
  have := Nat.or_lt_two_pow (x := a) (y := b) (n := 64) (by omega) (by omega)
  omega

theorem sh_bd (x p : Int) (h0 : 0 ≤ x) (h1 : x < 256) (p0 : 0 ≤ p) (p1 : p ≤ 7) : 0 ≤ x * 2 ^ (8 * p).toNat ∧ x * 2 ^ (8 * p).toNat < 18446744073709551616 := by
  obtain ⟨p, rfl⟩ := Int.eq_ofNat_of_zero_le p0
  match p, p1 with
  | 0, _ | 1, _ | 2, _ | 3, _ | 4, _ | 5, _ | 6, _ | 7, _ => simp <;> omega

theorem scat_succ (s : Nat → Int) (f : Nat) (r : Int) (q : Nat) (acc : Int) : scat s (f + 1) r q acc = scat s f (bits .and .u8 r (r - 1)) (q + 1) (bits .or .u64 acc (s q * 2 ^ (8 * lowI r).toNat)) := rfl

theorem scat_round (s : Nat → Int) (rn tag Wn : Int) (q : Nat) (h0 : 0 < rn) (h1 : rn < 256) (hro : (q : Int) + onesI rn = 1 + onesI tag) (X : Int) (hsc : scat s (onesI rn).toNat rn q Wn = X) :
    ((q + 1 : Nat) : Int) + onesI (bits .and .u8 rn (rn - 1)) = 1 + onesI tag ∧ scat s (onesI (bits .and .u8 rn (rn - 1))).toNat (bits .and .u8 rn (rn - 1)) (q + 1) (bits .or .u64 Wn (s q * 2 ^ (8 * lowI rn).toNat)) = X := by
  obtain ⟨hn0, hn1, hn2⟩ := next_bd rn h0 h1
  have hb := ones_bd _ hn0 (by omega)
  rw [← hsc]
  generalize onesI (bits .and .u8 rn (rn - 1)) = y at *
  generalize onesI rn = x at *
  generalize onesI tag = z at *
  refine ⟨by omega, ?_⟩
  have e : x.toNat = y.toNat + 1 := by omega
  rw [e, scat_succ]

theorem scat_end (s : Nat → Int) (rn Wn : Int) (q : Nat) (h : rn = 0) (X : Int) (hsc : scat s (onesI rn).toNat rn q Wn = X) : Wn = X := by
  subst h
  rw [ones8_0] at hsc
  exact hsc

/-- A cursor in block b, in the midst of a call that began in w0: its stream, its place, its words so far; nothing else has turned. -/
structure CurAt (w0 : World) (b : Nat) (sS vO : Value) (i : Int) (n : Nat) (xs : List Value) (v : Value) (w : World) : Prop where
  c0 : w.cell? ⟨b, 0, none⟩ = some sS
  c1 : w.cell? ⟨b, 1, none⟩ = some (.int .u16 i)
  c2 : w.cell? ⟨b, 2, none⟩ = some v
  fz : ∀ o, w.frozen? ⟨b, o, none⟩ = false
  owns : w.ownsRow 0 38 1 v n xs
  place : v.ownBlock = vO.ownBlock ∨ ∃ g, w0.heap.size ≤ g ∧ v.ownBlock = some g
  kept : Kept (fun k => k ≠ b ∧ some k ≠ vO.ownBlock) w0 w
  apart : vO.ownBlock ≠ some b
  old : b < w0.heap.size

section
variable {w0 : World} {b : Nat} {sS vO : Value} {i : Int} {n : Nat} {xs : List Value} {v : Value} {w : World}

theorem CurAt.lt (h : CurAt w0 b sS vO i n xs v w) : b < w.heap.size := Nat.lt_of_lt_of_le h.old h.kept.size

theorem CurAt.ne (h : CurAt w0 b sS vO i n xs v w) : some b ≠ v.ownBlock := by
  rcases h.place with e | ⟨g, hg, e⟩
  · rw [e]; exact fun e => h.apart e.symm
  · rw [e]; intro e; injection e with e; have := h.old; omega

theorem CurAt.drewN (h : CurAt w0 b sS vO i n xs v w) (m : Nat) : CurAt w0 b sS vO i n xs v (w.drewN m) :=
  ⟨h.c0, h.c1, h.c2, h.fz, owns_kept (p := fun _ => True) h.owns ((Kept.refl _ _).drewN m) (fun _ _ => trivial), h.place, h.kept.drewN m, h.apart, h.old⟩

/-- Behind an append to its words: the facts that the store wants. -/
theorem CurAt.mid (h : CurAt w0 b sS vO i n xs v w) {o : Obj} {w1 : World} (hk : Kept (fun k => some k ≠ v.ownBlock) (w.alloc o) w1) :
    w1.cell? ⟨b, 0, none⟩ = some sS ∧ w1.cell? ⟨b, 1, none⟩ = some (.int .u16 i) ∧ w1.cell? ⟨b, 2, none⟩ = some v ∧ ∀ o, w1.frozen? ⟨b, o, none⟩ = false := by
  have hlt : b < (w.alloc o).heap.size := by have := h.lt; simp; omega
  have hb : (w.alloc o).heap[b]? = w.heap[b]? := Below.heap_alloc _ _ _ h.lt
  have hb1 : w1.heap[b]? = w.heap[b]? := (hk.block b hlt h.ne).trans hb
  refine ⟨?_, ?_, ?_, fun o => ?_⟩
  · rw [World.cell?_of_block (w := w) (a := ⟨b, 0, none⟩) hb1]; exact h.c0
  · rw [World.cell?_of_block (w := w) (a := ⟨b, 1, none⟩) hb1]; exact h.c1
  · rw [World.cell?_of_block (w := w) (a := ⟨b, 2, none⟩) hb1]; exact h.c2
  · rw [World.frozen?_of_block (w := w) (a := ⟨b, o, none⟩) hb1]; exact h.fz o

/-- .. and behind the store. -/
theorem CurAt.app (h : CurAt w0 b sS vO i n xs v w) {o : Obj} {w1 : World} (hk : Kept (fun k => some k ≠ v.ownBlock) (w.alloc o) w1) {v' : Value} {n' : Nat} {ys : List Value} (ho : w1.ownsRow 0 38 1 v' n' ys)
    (hp : v'.ownBlock = v.ownBlock ∨ ∃ g, w.heap.size + 1 ≤ g ∧ v'.ownBlock = some g) : CurAt w0 b sS vO i n' ys v' (w1.setCell ⟨b, 2, none⟩ v') := by
  obtain ⟨m0, m1, m2, mf⟩ := h.mid hk
  have hsz : w.heap.size < (w.alloc o).heap.size := by simp
  have hplace : v'.ownBlock = vO.ownBlock ∨ ∃ g, w0.heap.size ≤ g ∧ v'.ownBlock = some g := by
    rcases hp with e | ⟨g, hg, e⟩
    · rw [e]; exact h.place
    · exact .inr ⟨g, by have := h.kept.size; omega, e⟩
  have hne : some b ≠ v'.ownBlock := by
    rcases hp with e | ⟨g, hg, e⟩
    · rw [e]; exact h.ne
    · rw [e]; intro e; injection e with e; have := h.lt; omega
  have hkk : Kept (fun k => k ≠ b ∧ some k ≠ vO.ownBlock) w0 w1 := (h.kept.alloc o).then hk (fun j hj hpj => by
    rcases h.place with e | ⟨g, hg, e⟩
    · rw [e]; exact hpj.2
    · rw [e]; intro e; injection e with e; omega)
  refine ⟨?_, ?_, ?_, ?_, ?_, hplace, hkk.setCell (.inr (by simp)) _, h.apart, h.old⟩
  · rw [World.cell?_setCell_other _ _ _ _ (by simp)]; exact m0
  · rw [World.cell?_setCell_other _ _ _ _ (by simp)]; exact m1
  · exact World.cell?_setCell_same _ _ _ m2
  · intro o; rw [World.frozen?_setCell]; exact mf o
  · exact owns_kept (p := fun k => k ≠ b) ho ((Kept.refl _ _).setCell (.inr (by simp)) _) (fun g hg e => hne (by rw [hg, e]))

theorem CurAt.below (h : CurAt w0 b sS vO i n xs v w) {w' : World} (hb : Below w.heap.size w w') : CurAt w0 b sS vO i n xs v w' := by
  have hbb := hb.block b h.lt
  refine ⟨?_, ?_, ?_, fun o => ?_, ?_, h.place, ?_, h.apart, h.old⟩
  · rw [World.cell?_of_block (w := w) (a := ⟨b, 0, none⟩) hbb]; exact h.c0
  · rw [World.cell?_of_block (w := w) (a := ⟨b, 1, none⟩) hbb]; exact h.c1
  · rw [World.cell?_of_block (w := w) (a := ⟨b, 2, none⟩) hbb]; exact h.c2
  · rw [World.frozen?_of_block (w := w) (a := ⟨b, o, none⟩) hbb]; exact h.fz o
  · exact owns_kept (p := fun _ => True) h.owns (Kept.of_below hb (fun _ hk _ => hk)) (fun _ _ => trivial)
  · exact h.kept.then (q := fun _ => True) (Kept.of_below hb (fun _ hk _ => hk)) (fun _ _ _ => trivial)

/-- A cell of the stream, which lies elsewhere. -/
theorem CurAt.cell (h : CurAt w0 b sS vO i n xs v w) {bs o : Nat} {u : Value} (hu : w0.cell? ⟨bs, o, none⟩ = some u) (h1 : bs ≠ b) (h2 : vO.ownBlock ≠ some bs) : w.cell? ⟨bs, o, none⟩ = some u :=
  h.kept.cell hu ⟨h1, fun e => h2 e.symm⟩

theorem CurAt.setI (h : CurAt w0 b sS vO i n xs v w) (i' : Int) : CurAt w0 b sS vO i' n xs v (w.setCell ⟨b, 1, none⟩ (.int .u16 i')) := by
  refine ⟨?_, ?_, ?_, ?_, ?_, h.place, h.kept.setCell (.inr (by simp)) _, h.apart, h.old⟩
  · rw [World.cell?_setCell_other _ _ _ _ (by simp)]; exact h.c0
  · exact World.cell?_setCell_same _ _ _ h.c1
  · rw [World.cell?_setCell_other _ _ _ _ (by simp)]; exact h.c2
  · intro o; rw [World.frozen?_setCell]; exact h.fz o
  · exact owns_kept (p := fun k => k ≠ b) h.owns ((Kept.refl _ _).setCell (.inr (by simp)) _) (fun g hg e => h.ne (by rw [hg, e]))
end

/-- The words behind the first. -/
def moreWords (s : Nat → Int) (k verb more : Nat) : List Value := (List.range more).map fun q => .int .u64 (if 0 < verb then wordAt s (k + 8 * q) else 0)
theorem moreWords_succ (s : Nat → Int) (k verb q : Nat) : moreWords s k verb (q + 1) = moreWords s k verb q ++ [.int .u64 (if 0 < verb then wordAt s (k + 8 * q) else 0)] := by
  simp [moreWords, List.range_succ]

set_option maxRecDepth 100000 in
set_option maxHeartbeats 2000000 in
theorem step_plain (b bs os nS cS nO : Nat) (i : Nat) (s : Nat → Int) (vO : Value) (out : List Value) (w : World)
   (c0 : w.cell? ⟨b, 0, none⟩ = some (.slice (some ⟨bs, os, none⟩) nS cS)) (c1 : w.cell? ⟨b, 1, none⟩ = some (.int .u16 i)) (c2 : w.cell? ⟨b, 2, none⟩ = some vO)
   (fz : ∀ o, w.frozen? ⟨b, o, none⟩ = false)
   (hown : w.ownsRow 0 38 1 vO nO out) (hsep : vO.ownBlock ≠ some b) (_hsep' : vO.ownBlock ≠ some bs) (_hbs : bs ≠ b)
   (h1 : nS ≤ 4096) (h2 : i < nS) (h3 : nO ≤ 256) (_hc : nS ≤ cS)
   (hS : ∀ j, i + j < nS → w.cell? ⟨bs, os + i + j, none⟩ = some (.int .u8 (s j)))
   (hB : ∀ j, 0 ≤ s j ∧ s j < 256) (tag : Int) (htag : s 0 = tag) (k : Nat) (hk1 : 1 + onesI tag = k)
   (e0 : (tag == 0) = false) (e1 : (tag == 255) = false)
   (hk : i + k + 0 ≤ nS) (hk2 : nO + 1 + 0 ≤ 256) :
    Calls Facg.prog 41 #[.pointer (some ⟨b, 0, none⟩)] w fun e w' => e = .returned (.bool true) ∧ ∃ v', CurAt w b (.slice (some ⟨bs, os, none⟩) nS cS) vO ((i + k + 0 : Nat) : Int) (nO + 1 + 0) (out ++ .int .u64 (scat s (onesI tag).toNat tag 1 0) :: moreWords s k (0) 0) v' w' := by
  have hst : CurAt w b (.slice (some ⟨bs, os, none⟩) nS cS) vO i nO out vO w := ⟨c0, c1, c2, fz, hown, .inl rfl, Kept.refl _ _, hsep, World.block_lt_of_cell? w _ c0⟩
  have HST : Hid (CurAt w b (.slice (some ⟨bs, os, none⟩) nS cS) vO i nO out vO w) := hst
  clear hst fz
  have hn : ((i : Int) == (nS : Int)) = false := by simp; omega
  have hS0 : w.cell? ⟨bs, os + i, none⟩ = some (.int .u8 tag) := by rw [← htag]; exact hS 0 (by omega)
  have hT : 0 ≤ tag ∧ tag < 256 := by rw [← htag]; exact hB 0
  have ho := ones_bd tag hT.1 hT.2
  obtain ⟨hT0, hT1⟩ := hT
  obtain ⟨ho0, ho1⟩ := ho
  have HS : Hid (∀ j, i + j < nS → w.cell? ⟨bs, os + i + j, none⟩ = some (.int .u8 (s j))) := hS
  have HB : Hid (∀ j, 0 ≤ s j ∧ s j < 256) := hB
  clear htag hS hB
  obtain ⟨aO, cO, rfl⟩ := owns_slice hown
  clear hown
  go_enter Facg.func41, Facg.ntmps41
  go_wp2
  go_quiet ((go_at_call 40; exact Calls.quiet_of (check_yes b _ aO nS cS nO cO i _ (by simpa using c0) (by simpa using c1) (by simpa using c2) (by omega) h1 (by omega) h3)))
  go_wp2
  go_quiet (fail)
  go_wp2_with (go_at_call 85; refine (ones_any _ _ (by omega) (by omega)).mono ?_; rintro e w' ⟨rfl, rfl⟩)
  clear hS0
  go_loopw [8, 9, 10] (fun W at_ r wr => ∃ (Wn : Int) (rn : Int) (q : Nat) (nd : Nat), W = .int .u64 Wn ∧ at_ = .int .i64 q ∧ r = .int .u8 rn ∧ 0 ≤ rn ∧ rn < 256 ∧ 1 ≤ q ∧ q + onesI rn = 1 + onesI tag ∧ wr = w.drewN nd ∧ 0 ≤ Wn ∧ Wn < 18446744073709551616 ∧
      scat s (onesI rn).toNat rn q Wn = scat s (onesI tag).toNat tag 1 0) (fun _ _ r _ => (intOf r).toNat)
  case atStart => exact ⟨0, tag, 1, _, rfl, rfl, rfl, hT0, hT1, by omega, by omega, rfl, by decide, by decide, rfl⟩
  case round =>
    obtain ⟨Wn, rn, q, nd, rfl, rfl, rfl, hr0, hr1, hq1, hro, hwr, hW0, hW1, hsc⟩ := hrel
    have HWR : Hid (wr = w.drewN nd) := hwr
    clear hwr
    have HSC : Hid (_ = _) := hsc
    have HRO : Hid (_ = _) := hro
    obtain ⟨hob0, hob1⟩ := ones_bd rn hr0 hr1
    have hql : i + q ≤ nS := by omega
    clear hsc hro
    by_cases hr : rn = 0
    · have hrb : (rn != 0) = false := by simpa using hr
      have HF : Hid (Wn = scat s (onesI tag).toNat tag 1 0) := scat_end s rn Wn q hr _ HSC.out
      have HC : Hid (CurAt w b (.slice (some ⟨bs, os, none⟩) nS cS) (.slice aO nO cO) i nO out (.slice aO nO cO) wr) := by rw [HWR.out]; exact HST.out.drewN nd
      have d2 : wr.cell? ⟨b, 2, none⟩ = some (.slice aO nO cO) := HC.out.c2
      clear hr
      go_wp2_with (at_builtin; refine wpList_app1 _ rfl _ _ 22 rfl 38 (.int .u64 0) 8 Facg.underlying22 info38 rfl (.slice aO nO cO) nO out rfl ?o1 wr.heap.size (.int .u64 Wn) rfl ?o2 rfl ?o3 ?o4 ?_)
      case o1 => exact HC.out.owns.alloc _
      case o2 => simp
      case o3 => unfold maxLen; omega
      case o4 => omega
      intro a1 cc1 w1 hown1 hk1 hp1
      have HC2 := HC.out.app hk1 hown1 hp1
      obtain ⟨m0, m1, m2, mf⟩ := HC.out.mid hk1
      have HC3 : Hid (CurAt w b (.slice (some ⟨bs, os, none⟩) nS cS) (.slice aO nO cO) i (nO + 1) (out ++ [.int .u64 Wn]) (.slice a1 (nO + 1) cc1) (w1.setCell ⟨b, 2, none⟩ (.slice a1 (nO + 1) cc1))) := HC2
      clear hown1 hk1 hp1 HC2 d2
      go_wp2
      clear m0 m1 m2 mf
      go_loopw [8, 11] (fun W t wr2 => ∃ (x : Int) (j : Nat) (a2 : Option Addr) (cc2 : Nat), W = .int .u64 x ∧ t = .int .i64 j ∧ j ≤ 0 ∧ CurAt w b (.slice (some ⟨bs, os, none⟩) nS cS) (.slice aO nO cO) i (nO + 1 + j) (out ++ .int .u64 Wn :: moreWords s k (0) j) (.slice a2 (nO + 1 + j) cc2) wr2)
        (fun _ t _ => 0 - (intOf t).toNat)
      case atStart => exact ⟨_, 0, _, _, rfl, rfl, Nat.zero_le _, by simpa [moreWords] using HC3.out⟩
      case round =>
        obtain ⟨x, j, a2, cc2, rfl, rfl, hj, hcur⟩ := hrel
        by_cases hjm : j < 0
        · exact absurd hjm (by omega)
        · have hcur' := hcur
          rw [show j = 0 from by omega] at hcur'
          have d1 := hcur.c1
          have df := hcur.fz
          have HC4 : Hid (CurAt w b (.slice (some ⟨bs, os, none⟩) nS cS) (.slice aO nO cO) i (nO + 1 + 0) (out ++ .int .u64 Wn :: moreWords s k (0) 0) (.slice a2 (nO + 1 + 0) cc2) wr) := hcur'
          clear hcur hcur'
          go_wp2
          go_ret
          refine ⟨rfl, .slice a2 (nO + 1 + 0) cc2, ?_⟩
          rw [← HF.out]
          exact HC4.out.setI _
    · have hrb : (rn != 0) = true := by simpa using hr
      obtain ⟨hlo0, hlo1⟩ := low_bd rn (by omega) hr1
      obtain ⟨hn0, hn1, hn2⟩ := next_bd rn (by omega) hr1
      have hro := HRO.out
      have hob2 := (ones_bd _ hn0 (by omega)).1
      have hq2 : (q : Int) < ((nS - i : Nat) : Int) := by omega
      have hSq : wr.cell? ⟨bs, os + i + q, none⟩ = some (.int .u8 (s q)) := by rw [HWR.out]; exact HS.out q (by omega)
      obtain ⟨hb0, hb1⟩ := HB.out q
      have hsh := sh_bd (s q) (lowI rn) hb0 hb1 hlo0 hlo1
      obtain ⟨hsh0, hsh1⟩ := hsh
      have hor := or_bd Wn _ hW0 hW1 hsh0 hsh1
      clear hro hn2 hob2
      have hbn : rn - 1 < 256 := by omega
      go_wp2
      go_quiet ((go_at_call 86; exact Calls.quiet_of_same (low_any _ _ (by omega) (by omega))))
      go_wp2
      go_roundw
      case rel =>
        obtain ⟨r1, r2⟩ := scat_round s rn tag Wn q (by omega) hr1 HRO.out _ HSC.out
        exact ⟨_, _, q + 1, _, rfl, by go_num, rfl, hn0, by omega, by omega, r1, by rw [HWR.out, World.drewN_drewN], hor.1, hor.2, r2⟩
      case measure => simp [intOf]; omega

end Go.Proofs.Ygcfac
