/- Plain: turned bits; bursts. And the laws CrcTurns, CrcBursts. -/
import Derived.Test.YtdhdminocboipaaZCrcY
namespace Go.Proofs.Ytdhdminocboipaa
open Go.RowKit

theorem sealL_len4 (l : List UInt8) : (sealL l).length = l.length + 4 := by unfold sealL; rw [List.length_append, numL_length]
theorem textL_length (q : Nat) (f : Nat → Bool) : (textL q f).length = q := tab_length _ _
theorem textL_getD (q : Nat) (f : Nat → Bool) (j : Nat) (h : j < q) : (textL q f).getD j 0 = byteOf f j := by
  rw [List.getD, textL, tab_get _ _ _ h]; rfl
theorem bitAt_textL (q : Nat) (f : Nat → Bool) (p : Nat) (h : p < 8 * q) : bitAt (textL q f) p = f p := by
  unfold bitAt
  rw [textL_getD _ _ _ (by omega), byteOf_toNat, numOf_bit, show 8 * (p / 8) + p % 8 = p from by omega]
  simp [show p % 8 < 8 from by omega]
theorem textL_congr (q : Nat) (f g : Nat → Bool) (h : ∀ p, p < 8 * q → f p = g p) : textL q f = textL q g :=
  tab_congr fun j hj => byteOf_congr f g j fun p hp => h p (by omega)
theorem textL_bitAt (l : List UInt8) : textL l.length (bitAt l) = l := by
  apply List.ext_getElem?
  intro j
  unfold textL
  by_cases hj : j < l.length
  · rw [tab_get _ _ _ hj, byteOf_bitAt, List.getElem?_eq_getElem hj, List.getD, List.getElem?_eq_getElem hj]; rfl
  · rw [List.getElem?_eq_none (by rw [tab_length]; omega), List.getElem?_eq_none (by omega)]
theorem list_of_bits (a b : List UInt8) (h : a.length = b.length) (hb : ∀ p, p < 8 * a.length → bitAt a p = bitAt b p) : a = b := by
  rw [← textL_bitAt a, ← textL_bitAt b, ← h]
  exact textL_congr _ _ _ hb
theorem turnL_length (l : List UInt8) (a : Int) (bits : Nat) : (turnL l a bits).length = l.length := textL_length _ _
theorem bitAt_turnL (l : List UInt8) (a : Int) (bits p : Nat) (h : p < 8 * l.length) : bitAt (turnL l a bits) p = flip (bitAt l) a bits 32 p := bitAt_textL _ _ _ h
theorem turnL_back (l : List UInt8) (a : Int) (bits : Nat) : turnL (turnL l a bits) a bits = l := by
  refine list_of_bits _ _ (by rw [turnL_length, turnL_length]) fun p hp => ?_
  rw [turnL_length, turnL_length] at hp
  rw [bitAt_turnL _ _ _ _ (by rw [turnL_length]; exact hp)]
  unfold flip
  rw [bitAt_turnL _ _ _ _ hp]
  unfold flip
  cases bitAt l p <;> cases (decide (a ≤ (p : Int) ∧ (p : Int) < a + (32 : Nat)) && bits.testBit ((p : Int) - a).toNat) <;> rfl
theorem fl_window (d : Nat → Bool) (A : Int) (n : Nat) (h : ∀ p, p < n → d p = true → A ≤ (p : Int) ∧ (p : Int) < A + 32) : (fl d n).1 < 0 ∨ (A ≤ (fl d n).1 ∧ (fl d n).2 < A + 32) := by
  induction n with
  | zero => left; simp [fl]
  | succ n ih =>
    have ih' := ih fun p hp => h p (by omega)
    simp only [fl]
    by_cases hd : d n = true
    · have := h n (by omega) hd
      rw [if_pos hd]
      by_cases h0 : (fl d n).1 < 0
      · right; simp only [h0, if_true]; omega
      · right; simp only [h0, if_false]; omega
    · rw [if_neg hd]; exact ih'
theorem diff_turn (l : List UInt8) (a : Int) (bits p : Nat) (hp : p < 8 * l.length) (h : (bitAt l p != bitAt (turnL l a bits) p) = true) : a ≤ (p : Int) ∧ (p : Int) < a + 32 := by
  rw [bitAt_turnL _ _ _ _ hp] at h
  by_cases hw : a ≤ (p : Int) ∧ (p : Int) < a + (32 : Nat)
  · omega
  · rw [flip_far _ _ _ _ _ hw] at h
    simp at h
theorem apart_turn (l : List UInt8) (a : Int) (bits : Nat) : (apartBL l (turnL l a bits)).1 ≤ 32 ∧ (apartBL l (turnL l a bits)).2 = true := by
  unfold apartBL
  rw [if_pos (turnL_length l a bits).symm]
  refine ⟨?_, rfl⟩
  have h := fl_window (fun p => bitAt l p != bitAt (turnL l a bits) p) a (8 * l.length) fun p hp hd => diff_turn l a bits p hp hd
  simp only
  split
  · omega
  · omega

/-! Bursts. -/
theorem stepN_ne (x : Nat) (hx : x < 4294967296) (h : x ≠ 0) : stepN x ≠ 0 := by
  unfold stepN
  by_cases ho : x % 2 = 1
  · rw [if_pos ho]
    intro h0
    have h1 : x / 2 = 3988292384 := by
      have h2 : (x / 2 ^^^ 3988292384) ^^^ 3988292384 = 3988292384 := by rw [h0]; rfl
      rw [Nat.xor_assoc, Nat.xor_self, Nat.xor_zero] at h2
      exact h2
    omega
  · rw [if_neg ho, Nat.xor_zero]; omega
theorem iter_ne (m x : Nat) (hx : x < 4294967296) (h : x ≠ 0) : iter stepN m x ≠ 0 := by
  induction m with
  | zero => exact h
  | succ m ih => exact stepN_ne _ (iter_lt m x hx) ih
/-- What becomes of the difference of two texts. -/
def diffTo (d : Nat → Bool) : Nat → Nat
  | 0 => 0
  | j + 1 => stepN (diffTo d j ^^^ (if d j then 1 else 0))
theorem diffTo_lt (d : Nat → Bool) (j : Nat) : diffTo d j < 4294967296 := by
  induction j with
  | zero => simp [diffTo]
  | succ j ih => exact stepN_lt _ (xor_lt32 ih (by split <;> omega))
theorem bits_diff (a b : List UInt8) (x j : Nat) : bitsTo a x j ^^^ bitsTo b x j = diffTo (fun p => bitAt a p != bitAt b p) j := by
  induction j with
  | zero => simp [bitsTo, diffTo]
  | succ j ih =>
    simp only [bitsTo, diffTo]
    rw [← stepN_xor, ← ih]
    congr 1
    have h : (if bitAt a j = true then 1 else 0 : Nat) ^^^ (if bitAt b j = true then 1 else 0) = (if (bitAt a j != bitAt b j) = true then 1 else 0) := by
      cases bitAt a j <;> cases bitAt b j <;> rfl
    rw [← h]
    ac_rfl
theorem diffTo_zero (d : Nat → Bool) (j : Nat) (h : ∀ q, q < j → d q = false) : diffTo d j = 0 := by
  induction j with
  | zero => rfl
  | succ j ih => simp only [diffTo]; rw [ih fun q hq => h q (by omega), h j (by omega)]; rfl
theorem diffTo_window (d : Nat → Bool) (p m : Nat) (h : ∀ q, q < p → d q = false) : diffTo d (p + m) = iter stepN m (numOf (fun i => d (p + i)) m) := by
  induction m with
  | zero => simpa [numOf, iter] using diffTo_zero d p h
  | succ m ih =>
    show stepN (diffTo d (p + m) ^^^ (if d (p + m) = true then 1 else 0)) = stepN (iter stepN m _)
    rw [ih]
    congr 1
    simp only [numOf]
    rw [iter_xor]
    congr 1
    split
    · rw [iter_pow]
    · rw [iter_zero]
theorem diffTo_after (d : Nat → Bool) (j m : Nat) (h : ∀ q, j ≤ q → q < j + m → d q = false) (hn : diffTo d j ≠ 0) : diffTo d (j + m) ≠ 0 := by
  induction m with
  | zero => exact hn
  | succ m ih =>
    have := ih fun q h1 h2 => h q h1 (by omega)
    show stepN (diffTo d (j + m) ^^^ (if d (j + m) = true then 1 else 0)) ≠ 0
    rw [h (j + m) (by omega) (by omega)]
    simp only [Bool.false_eq_true, if_false, Nat.xor_zero]
    exact stepN_ne _ (diffTo_lt d _) this
theorem least (d : Nat → Bool) (n : Nat) (h : d n = true) : ∃ p, p ≤ n ∧ d p = true ∧ ∀ q, q < p → d q = false := by
  induction n using Nat.strongRecOn with
  | ind n ih =>
    by_cases hq : ∃ q, q < n ∧ d q = true
    · obtain ⟨q, h1, h2⟩ := hq
      obtain ⟨p, h3, h4⟩ := ih q h1 h2
      exact ⟨p, by omega, h4⟩
    · refine ⟨n, Nat.le_refl _, h, fun q hqn => ?_⟩
      cases hd : d q
      · rfl
      · exact absurd ⟨q, hqn, hd⟩ hq
theorem burst (a b : List UInt8) (x : Nat) (A : Int) (hl : a.length = b.length) (hne : a ≠ b) (hw : ∀ p, p < 8 * a.length → (bitAt a p != bitAt b p) = true → A ≤ (p : Int) ∧ (p : Int) < A + 32) : moreN x a ≠ moreN x b := by
  intro heq
  have h1 := bits_diff a b x (8 * a.length)
  rw [bitsTo_all, hl, bitsTo_all, heq, Nat.xor_self] at h1
  obtain ⟨d, hd⟩ : ∃ d, (fun p => bitAt a p != bitAt b p) = d := ⟨_, rfl⟩
  have hdp : ∀ p, (bitAt a p != bitAt b p) = d p := fun p => by rw [← hd]
  rw [hd, ← hl] at h1
  have hex : ∃ n, n < 8 * a.length ∧ d n = true := by
    apply Classical.byContradiction
    intro hno
    apply hne
    refine list_of_bits a b hl fun p hp => ?_
    have h2 := hdp p
    cases hdd : d p
    · rw [hdd] at h2; simpa using h2
    · exact absurd ⟨p, hp, hdd⟩ hno
  obtain ⟨n, hn, hdn⟩ := hex
  obtain ⟨p, hpn, hp, hlow⟩ := least d n hdn
  have hA := hw p (by omega) (by rw [hdp]; exact hp)
  have hnum : ∀ m, 1 ≤ m → numOf (fun i => d (p + i)) m ≠ 0 := by
    intro m hm h0
    have h2 := numOf_bit (fun i => d (p + i)) m 0
    rw [h0] at h2
    simp [hp, show 0 < m by omega] at h2
  by_cases hJ : 8 * a.length ≤ p + 32
  · obtain ⟨m, hm⟩ : ∃ m, 8 * a.length = p + m := ⟨8 * a.length - p, by omega⟩
    rw [hm, diffTo_window d p m hlow] at h1
    have hlt := numOf_lt (fun i => d (p + i)) m
    have hpow : 2 ^ m ≤ 2 ^ 32 := Nat.pow_le_pow_right (by omega) (by omega)
    exact iter_ne m _ (by omega) (hnum m (by omega)) h1.symm
  · obtain ⟨m, hm⟩ : ∃ m, 8 * a.length = (p + 32) + m := ⟨8 * a.length - (p + 32), by omega⟩
    rw [hm] at h1
    refine diffTo_after d (p + 32) m (fun q hq1 hq2 => ?_) ?_ h1.symm
    · cases hdd : d q
      · rfl
      · have := hw q (by omega) (by rw [hdp]; exact hdd)
        omega
    · rw [diffTo_window d p 32 hlow]
      exact iter_ne 32 _ (by have := numOf_lt (fun i => d (p + i)) 32; omega) (hnum 32 (by omega))

theorem bitsTo_lin (l : List UInt8) (c n : Nat) : bitsTo l c n = iter stepN n c ^^^ diffTo (bitAt l) n := by
  induction n with
  | zero => simp [bitsTo, iter, diffTo]
  | succ n ih =>
    simp only [bitsTo, iter, diffTo]
    rw [ih, ← stepN_xor, Nat.xor_assoc]
theorem bitAt_numL (v k p : Nat) (h : p < 8 * k) : bitAt (numL v k) p = v.testBit p := by
  unfold bitAt
  have h1 : (numL v k).getD (p / 8) 0 = numAt v (p / 8) := by rw [List.getD, numL, tab_get _ _ _ (by omega)]; rfl
  rw [h1, numAt_toNat, show (256 : Nat) = 2 ^ 8 from rfl, Nat.testBit_mod_two_pow, Nat.testBit_div_two_pow]
  rw [show p % 8 + 8 * (p / 8) = p from by omega]
  simp [show p % 8 < 8 from by omega]
theorem numOf_self (v : Nat) (n : Nat) (hv : v < 2 ^ n) (f : Nat → Bool) (h : ∀ p, p < n → f p = v.testBit p) : numOf f n = v := by
  apply Nat.eq_of_testBit_eq
  intro k
  rw [numOf_bit]
  by_cases hk : k < n
  · rw [h k hk]; simp [hk]
  · rw [Nat.testBit_lt_two_pow (Nat.lt_of_lt_of_le hv (Nat.pow_le_pow_right (by omega) (by omega)))]
    simp [hk]
theorem moreN_num (c v : Nat) (hv : v < 4294967296) : moreN c (numL v 4) = iter stepN 32 (c ^^^ v) := by
  have h1 := bitsTo_all (numL v 4) c
  rw [numL_length] at h1
  rw [← h1, bitsTo_lin, iter_xor]
  congr 1
  have h2 := diffTo_window (bitAt (numL v 4)) 0 32 (fun q hq => by omega)
  rw [show 8 * 4 = 0 + 32 from rfl, h2]
  congr 1
  refine numOf_self v 32 hv _ fun p hp => ?_
  rw [Nat.zero_add]
  exact bitAt_numL v 4 p (by omega)
theorem moreN_append (c : Nat) (a b : List UInt8) : moreN c (a ++ b) = moreN (moreN c a) b := by simp [moreN]
theorem moreN_seal (l : List UInt8) : moreN 4294967295 (sealL l) = iter stepN 32 4294967295 := by
  unfold sealL
  have hc := moreN_lt l 4294967295 (by omega)
  rw [moreN_append, moreN_num _ _ (crcMore_lt 0 l)]
  congr 1
  unfold crcMore
  have h : 4294967295 - 0 = 4294967295 := rfl
  rw [h, ← not_xor32 _ hc, Nat.xor_comm 4294967295, ← Nat.xor_assoc, Nat.xor_self, Nat.zero_xor]
/-- What was sealed, with a burst that changes it, is not opened. -/
theorem open_burst (l : List UInt8) (a : Int) (bits : Nat) (h : turnL (sealL l) a bits ≠ sealL l) : openL (turnL (sealL l) a bits) = ([], 110) := by
  have hl : (turnL (sealL l) a bits).length = l.length + 4 := by rw [turnL_length, sealL_len4]
  unfold openL
  rw [if_neg (by omega)]
  by_cases hs : sealL ((turnL (sealL l) a bits).take ((turnL (sealL l) a bits).length - 4)) = turnL (sealL l) a bits
  · exfalso
    have h1 := moreN_seal ((turnL (sealL l) a bits).take ((turnL (sealL l) a bits).length - 4))
    rw [hs, ← moreN_seal l] at h1
    exact burst (sealL l) (turnL (sealL l) a bits) 4294967295 a (turnL_length _ _ _).symm (fun e => h e.symm) (fun p hp hd => diff_turn _ a bits p hp hd) h1.symm
  · rw [if_neg hs]
theorem sum_burst (l : List UInt8) (a : Int) (bits : Nat) (h : turnL l a bits ≠ l) : crcMore 0 (turnL l a bits) ≠ crcMore 0 l := by
  intro he
  have h1 := moreN_lt l 4294967295 (by omega)
  have h2 := moreN_lt (turnL l a bits) 4294967295 (by omega)
  have h3 : moreN 4294967295 l = moreN 4294967295 (turnL l a bits) := by
    unfold crcMore at he
    have h : 4294967295 - 0 = 4294967295 := rfl
    rw [h] at he
    omega
  exact burst l (turnL l a bits) 4294967295 a (turnL_length _ _ _).symm (fun e => h e.symm) (fun p hp hd => diff_turn _ a bits p hp hd) h3
end Go.Proofs.Ytdhdminocboipaa
