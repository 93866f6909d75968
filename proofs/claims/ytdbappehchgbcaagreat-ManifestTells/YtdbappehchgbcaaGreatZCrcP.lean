/- Plain: the sums of crc by bits, by bytes and by long division are one. -/
import Derived.Test.YtdbappehchgbcaaGreatZCrcS
namespace Go.Proofs.YtdbappehchgbcaaGreat
open Go.RowKit

theorem testBit_one_iff (k : Nat) : (1 : Nat).testBit k = decide (k = 0) := by
  cases k with
  | zero => rfl
  | succ k => rw [Nat.testBit_succ]; simp
theorem stepN_bit (x k : Nat) : (stepN x).testBit k = (x.testBit (k + 1) ^^ (x.testBit 0 && (3988292384 : Nat).testBit k)) := by
  unfold stepN
  rw [Nat.testBit_xor, Nat.testBit_succ]
  by_cases h : x % 2 = 1 <;> simp [h, Nat.testBit_zero]
theorem stepN_xor (x y : Nat) : stepN (x ^^^ y) = stepN x ^^^ stepN y := by
  apply Nat.eq_of_testBit_eq
  intro k
  rw [Nat.testBit_xor, stepN_bit, stepN_bit, stepN_bit, Nat.testBit_xor, Nat.testBit_xor]
  cases x.testBit (k + 1) <;> cases y.testBit (k + 1) <;> cases x.testBit 0 <;> cases y.testBit 0 <;> cases (3988292384 : Nat).testBit k <;> rfl
theorem iter_xor (n x y : Nat) : iter stepN n (x ^^^ y) = iter stepN n x ^^^ iter stepN n y := by
  induction n with
  | zero => rfl
  | succ n ih => simp only [iter, ih, stepN_xor]
theorem stepN_double (x : Nat) : stepN (2 * x) = x := by unfold stepN; rw [if_neg (by omega)]; simp
theorem iter_pow (m : Nat) : iter stepN m (2 ^ m) = 1 := by
  induction m with
  | zero => rfl
  | succ m ih => rw [iter_succ', Nat.pow_succ, Nat.mul_comm, stepN_double, ih]
theorem stepN_zero : stepN 0 = 0 := rfl
theorem iter_zero (m : Nat) : iter stepN m 0 = 0 := by
  induction m with
  | zero => rfl
  | succ m ih => simp only [iter, ih, stepN_zero]
theorem mod_pow_succ_xor (b m : Nat) : b % 2 ^ (m + 1) = (b % 2 ^ m) ^^^ (if b.testBit m then 2 ^ m else 0) := by
  apply Nat.eq_of_testBit_eq
  intro k
  rw [Nat.testBit_xor, Nat.testBit_mod_two_pow, Nat.testBit_mod_two_pow]
  by_cases hm : b.testBit m
  · rw [if_pos hm, Nat.testBit_two_pow]
    by_cases h1 : k < m
    · simp [h1, show k < m + 1 from by omega, show ¬ m = k from by omega]
    · by_cases h2 : k = m
      · subst h2; simp [hm]
      · simp [h1, show ¬ k < m + 1 from by omega, show ¬ m = k from by omega]
  · rw [if_neg hm]
    by_cases h1 : k < m
    · simp [h1, show k < m + 1 from by omega]
    · by_cases h2 : k = m
      · subst h2; simp [hm]
      · simp [h1, show ¬ k < m + 1 from by omega]
/-- m bits of a byte b, one by one, are the byte's last m bits at once. -/
def byteTo (b c : Nat) : Nat → Nat
  | 0 => c
  | m + 1 => stepN (byteTo b c m ^^^ (if b.testBit m then 1 else 0))
theorem byteTo_eq (b c m : Nat) : byteTo b c m = iter stepN m (c ^^^ b % 2 ^ m) := by
  induction m with
  | zero => simp [byteTo, iter, Nat.mod_one]
  | succ m ih =>
    simp only [byteTo, ih, mod_pow_succ_xor b m]
    rw [← Nat.xor_assoc, iter_xor (m + 1)]
    show stepN _ = stepN (iter stepN m _) ^^^ stepN (iter stepN m _)
    rw [← stepN_xor]
    congr 2
    split
    · rw [iter_pow]
    · rw [iter_zero]
theorem bitsTo_byte (l : List UInt8) (c k : Nat) : ∀ m, m ≤ 8 → bitsTo l c (8 * k + m) = byteTo (l.getD k 0).toNat (bitsTo l c (8 * k)) m := by
  intro m
  induction m with
  | zero => intro _; rfl
  | succ m ih =>
    intro hm
    show stepN (bitsTo l c (8 * k + m) ^^^ if bitAt l (8 * k + m) = true then 1 else 0) = stepN _
    rw [ih (by omega)]
    unfold bitAt
    rw [show (8 * k + m) / 8 = k from by omega, show (8 * k + m) % 8 = m from by omega]
theorem bitsTo_more (l : List UInt8) (c k : Nat) (hk : k ≤ l.length) : bitsTo l c (8 * k) = moreN c (l.take k) := by
  induction k with
  | zero => rfl
  | succ k ih =>
    rw [show 8 * (k + 1) = 8 * k + 8 from by omega, bitsTo_byte l c k 8 (by omega), ih (by omega), byteTo_eq, List.take_succ_eq_append_getElem (by omega)]
    have h : l.getD k 0 = l[k] := by simp [List.getD, show k < l.length by omega]
    rw [h, Nat.mod_eq_of_lt (by have := l[k].toNat_lt; omega)]
    rw [moreN, moreN, List.foldl_append]
    rfl
theorem bitsTo_all (l : List UInt8) (c : Nat) : bitsTo l c (8 * l.length) = moreN c l := by
  rw [bitsTo_more l c l.length (Nat.le_refl _), List.take_length]

/-- The long division goes as the steps go. -/
def bitOr (l : List UInt8) (j : Nat) : Bool := if j < 8 * l.length then bitAt l j else false
theorem poly_rev : ∀ k, k < 32 → polyAt (k + 1) = (3988292384 : Nat).testBit k := by decide
theorem poly_head : polyAt 0 = true := by decide
theorem ones_bit (k : Nat) : (4294967295 : Nat).testBit k = decide (k < 32) := Nat.testBit_two_pow_sub_one 32 k
theorem divTo_inv (l : List UInt8) : ∀ a, a ≤ 8 * l.length →
    (∀ k, k < 32 → divTo (longStart l) a (a + k) = ((bitsTo l 4294967295 a).testBit k ^^ bitOr l (a + k))) ∧ (∀ j, a + 32 ≤ j → divTo (longStart l) a j = bitOr l j) := by
  intro a
  induction a with
  | zero =>
    intro _
    constructor
    · intro k hk
      simp only [divTo, Nat.zero_add, bitsTo, ones_bit, longStart, hk, if_true, decide_true, bitOr]
      simp
    · intro j hj
      simp only [divTo, longStart, bitOr]
      rw [if_neg (by omega)]
  | succ a ih =>
    intro ha
    obtain ⟨h1, h2⟩ := ih (by omega)
    have hc := bitsTo_lt l 4294967295 (by omega) a
    have hbo : bitOr l a = bitAt l a := by unfold bitOr; rw [if_pos (by omega)]
    have hL0 : divTo (longStart l) a a = ((bitsTo l 4294967295 a).testBit 0 ^^ bitAt l a) := by
      have := h1 0 (by omega)
      rw [Nat.add_zero, hbo] at this
      exact this
    have hLk : ∀ k, k < 32 → divTo (longStart l) a (a + 1 + k) = ((bitsTo l 4294967295 a).testBit (k + 1) ^^ bitOr l (a + 1 + k)) := by
      intro k hk
      by_cases hk31 : k + 1 < 32
      · have := h1 (k + 1) hk31
        rw [show a + (k + 1) = a + 1 + k from by omega] at this
        exact this
      · rw [h2 _ (by omega), Nat.testBit_lt_two_pow (Nat.lt_of_lt_of_le hc (Nat.pow_le_pow_right (n := 2) (i := 32) (by omega) (by omega)))]
        simp
    have hs : ∀ k, (bitsTo l 4294967295 (a + 1)).testBit k = ((bitsTo l 4294967295 a).testBit (k + 1) ^^ (divTo (longStart l) a a && (3988292384 : Nat).testBit k)) := by
      intro k
      show (stepN _).testBit k = _
      rw [stepN_bit, hL0, Nat.testBit_xor, Nat.testBit_xor]
      have e1 : (if bitAt l a = true then 1 else 0 : Nat).testBit (k + 1) = false := by split <;> simp [testBit_one_iff]
      have e2 : (if bitAt l a = true then 1 else 0 : Nat).testBit 0 = bitAt l a := by cases bitAt l a <;> rfl
      rw [e1, e2, Bool.xor_false]
    constructor
    · intro k hk
      rw [hs]
      by_cases hb : divTo (longStart l) a a = true
      · have : divTo (longStart l) (a + 1) = divPart a 33 (divTo (longStart l) a) := by simp only [divTo, hb, if_true]
        rw [this]
        unfold divPart
        rw [if_pos (by omega), show a + 1 + k - a = k + 1 from by omega, poly_rev k hk, hLk k hk, hb]
        cases (bitsTo l 4294967295 a).testBit (k + 1) <;> cases bitOr l (a + 1 + k) <;> cases (3988292384 : Nat).testBit k <;> rfl
      · have hb' : divTo (longStart l) a a = false := by simpa using hb
        have : divTo (longStart l) (a + 1) = divTo (longStart l) a := by simp only [divTo, hb', if_false, Bool.false_eq_true]
        rw [this, hLk k hk, hb']
        cases (bitsTo l 4294967295 a).testBit (k + 1) <;> cases bitOr l (a + 1 + k) <;> rfl
    · intro j hj
      by_cases hb : divTo (longStart l) a a = true
      · have : divTo (longStart l) (a + 1) = divPart a 33 (divTo (longStart l) a) := by simp only [divTo, hb, if_true]
        rw [this]
        unfold divPart
        rw [if_neg (by omega), h2 j (by omega)]
      · have hb' : divTo (longStart l) a a = false := by simpa using hb
        have : divTo (longStart l) (a + 1) = divTo (longStart l) a := by simp only [divTo, hb', if_false, Bool.false_eq_true]
        rw [this, h2 j (by omega)]
theorem readOff_eq (L : Nat → Bool) (a c : Nat) (hc : c < 4294967296) (hL : ∀ k, k < 32 → L (a + k) = c.testBit k) : ∀ m, m ≤ 32 → readOff L a m + c / 2 ^ (32 - m) + 1 = 2 ^ m := by
  intro m
  induction m with
  | zero => intro _; simp [readOff, Nat.div_eq_of_lt hc]
  | succ m ih =>
    intro hm
    have h := ih (by omega)
    simp only [readOff]
    rw [hL _ (by omega), show 32 - m = (32 - (m + 1)) + 1 from by omega] at *
    rw [show 31 - m = 32 - (m + 1) from by omega]
    rw [Nat.pow_succ, ← Nat.div_div_eq_div_mul] at h
    rw [Nat.testBit_eq_decide_div_mod_eq, Nat.pow_succ]
    generalize c / 2 ^ (32 - (m + 1)) = d at *
    by_cases hd : d % 2 = 1
    · simp [hd]; omega
    · simp [hd]; omega
theorem longSum_eq (l : List UInt8) : longSum l = crcMore 0 l := by
  unfold longSum crcMore
  obtain ⟨h1, _⟩ := divTo_inv l (8 * l.length) (Nat.le_refl _)
  have hc := bitsTo_lt l 4294967295 (by omega) (8 * l.length)
  have h := readOff_eq (divTo (longStart l) (8 * l.length)) (8 * l.length) (bitsTo l 4294967295 (8 * l.length)) hc (fun k hk => by
    rw [h1 k hk]
    unfold bitOr
    rw [if_neg (by omega), Bool.xor_false]) 32 (by omega)
  rw [bitsTo_all] at *
  have hs : 4294967295 - 0 = 4294967295 := rfl
  rw [hs]
  simp at h
  omega
theorem rmore_eq (l : List UInt8) (x : Nat) : 4294967295 - bitsTo l (4294967295 - x) (8 * l.length) = crcMore x l := by
  rw [bitsTo_all]; rfl
end Go.Proofs.YtdbappehchgbcaaGreat
