/- Plain: floats that hold whole numbers below 2^53 are added, taken away, multiplied and compared exactly. No program is named here. -/
import Derived.Laws.ComplexArith
namespace Go.Proofs.Ytbbngmlgpjepnaa
open Ieee

theorem dbl_binade : Ieee.double.binade = 4503599627370496 := by decide
theorem dbl_least : Ieee.double.leastPlace = -1074 := by decide
theorem dbl_inf : Ieee.double.infRung = 9218868437227405312 := by decide
theorem dbl_sign : Ieee.double.signWeight = 9223372036854775808 := by decide
/-- The word of a whole number with a sign. -/
def fW (s : Bool) (m : Nat) : Nat := Ieee.double.nearest s m 0
def fI (n : Int) : Nat := fW (decide (n < 0)) n.natAbs
theorem cut_whole (s : Bool) (n : Nat) : Toward.even.cut s n 0 = n := by
  unfold Toward.cut
  simp [Nat.mod_one]
theorem cut_exact (s : Bool) (m j : Nat) (hm : 0 < m) : Toward.even.cut s (m * 2 ^ j) j = m := by
  have hlog : j ≤ (m * 2 ^ j).log2 + 2 := by
    have h1 : 2 ^ j ≤ m * 2 ^ j := Nat.le_mul_of_pos_left _ hm
    have h2 := (Nat.le_log2 (n := m * 2 ^ j) (k := j) (by have := Nat.two_pow_pos j; omega)).2 h1
    omega
  unfold Toward.cut
  rw [Nat.min_eq_left hlog]
  have hp := Nat.two_pow_pos j
  simp only [Nat.shiftLeft_eq, Nat.one_mul, Nat.mul_div_cancel _ hp, Nat.mul_mod_left, Nat.mul_zero]
  have h1 : decide (2 ^ j < 0) = false := by simp
  have h2 : (2 ^ j == 0) = false := by simp
  rw [h1, h2]
  rfl
theorem log2_mul_pow (m k : Nat) (hm : 0 < m) : (m * 2 ^ k).log2 = m.log2 + k := by
  have hp := Nat.two_pow_pos k
  have hmk : m * 2 ^ k ≠ 0 := by have := Nat.mul_pos hm hp; omega
  apply Nat.le_antisymm
  · have h1 := (Nat.log2_lt (n := m) (k := m.log2 + 1) (by omega)).1 (Nat.lt_succ_self _)
    have h2 : m * 2 ^ k < 2 ^ (m.log2 + k + 1) := by
      rw [show m.log2 + k + 1 = (m.log2 + 1) + k by omega, Nat.pow_add]
      exact Nat.mul_lt_mul_of_pos_right h1 hp
    have := (Nat.log2_lt hmk).2 h2
    omega
  · apply (Nat.le_log2 hmk).2
    rw [Nat.pow_add]
    exact Nat.mul_le_mul_right _ ((Nat.le_log2 (n := m) (k := m.log2) (by omega)).1 (Nat.le_refl _))
theorem log2_lt53 {m : Nat} (hm : 0 < m) (h : m < 9007199254740992) : m.log2 ≤ 52 := by
  have := (Nat.log2_lt (n := m) (k := 53) (by omega)).2 (by simpa using h)
  omega
/-- The rung of a whole number. -/
def rungOf (m : Nat) : Nat := (m.log2 + 1022) * 4503599627370496 + m * 2 ^ (52 - m.log2)
theorem full_bounds {m : Nat} (hm : 0 < m) (h : m < 9007199254740992) : 4503599627370496 ≤ m * 2 ^ (52 - m.log2) ∧ m * 2 ^ (52 - m.log2) < 9007199254740992 := by
  have hl := log2_lt53 hm h
  have h1 := (Nat.le_log2 (n := m) (k := m.log2) (by omega)).1 (Nat.le_refl _)
  have h2 := (Nat.log2_lt (n := m) (k := m.log2 + 1) (by omega)).1 (Nat.lt_succ_self _)
  constructor
  · have h3 : 2 ^ m.log2 * 2 ^ (52 - m.log2) ≤ m * 2 ^ (52 - m.log2) := Nat.mul_le_mul_right _ h1
    rw [← Nat.pow_add, show m.log2 + (52 - m.log2) = 52 by omega] at h3
    simpa using h3
  · have h3 : m * 2 ^ (52 - m.log2) < 2 ^ (m.log2 + 1) * 2 ^ (52 - m.log2) := Nat.mul_lt_mul_of_pos_right h2 (Nat.two_pow_pos _)
    rw [← Nat.pow_add, show m.log2 + 1 + (52 - m.log2) = 53 by omega] at h3
    simpa using h3
/-- However a whole number is spelled, its word is one. -/
theorem nearest_spelt (s : Bool) (m k : Nat) (hm : 0 < m) (h : m < 9007199254740992) : Ieee.double.nearest s (m * 2 ^ k) (-(k : Int)) = Ieee.double.word s (rungOf m) := by
  have hl := log2_lt53 hm h
  have hp := Nat.two_pow_pos k
  have hb := full_bounds hm h
  have hmk : m * 2 ^ k ≠ 0 := by have := Nat.mul_pos hm hp; omega
  unfold Format.nearest
  rw [if_neg hmk, log2_mul_pow m k hm, dbl_least, dbl_binade, dbl_inf]
  have hf : (Ieee.double.fractionBits : Int) = 52 := rfl
  rw [hf]
  have hlast : max (-(k : Int) + ((m.log2 + k : Nat) : Int) - 52) (-1074) = (m.log2 : Int) - 52 := by omega
  simp only [hlast]
  have hkept : Toward.even.cut s ((m * 2 ^ k) <<< (-(k : Int) - ((m.log2 : Int) - 52)).toNat) (((m.log2 : Int) - 52) - -(k : Int)).toNat = m * 2 ^ (52 - m.log2) := by
    rcases Nat.le_total k (52 - m.log2) with hk | hk
    · rw [show (-(k : Int) - ((m.log2 : Int) - 52)).toNat = 52 - m.log2 - k by omega, show (((m.log2 : Int) - 52) - -(k : Int)).toNat = 0 by omega, cut_whole, Nat.shiftLeft_eq, Nat.mul_assoc, ← Nat.pow_add, show k + (52 - m.log2 - k) = 52 - m.log2 by omega]
    · rw [show (-(k : Int) - ((m.log2 : Int) - 52)).toNat = 0 by omega, show (((m.log2 : Int) - 52) - -(k : Int)).toNat = k - (52 - m.log2) by omega, Nat.shiftLeft_eq, Nat.pow_zero, Nat.mul_one]
      have : m * 2 ^ k = (m * 2 ^ (52 - m.log2)) * 2 ^ (k - (52 - m.log2)) := by rw [Nat.mul_assoc, ← Nat.pow_add]; congr 2; omega
      rw [this]
      exact cut_exact s _ _ (by omega)
  rw [hkept, show ((m.log2 : Int) - 52 - -1074).toNat = m.log2 + 1022 by omega]
  congr 1
  unfold rungOf
  rw [Nat.min_eq_left]
  omega
theorem fW_word (s : Bool) (m : Nat) (hm : 0 < m) (h : m < 9007199254740992) : fW s m = Ieee.double.word s (rungOf m) := by
  have := nearest_spelt s m 0 hm h
  simpa [fW] using this
theorem fW_zero (s : Bool) : fW s 0 = Ieee.double.word s 0 := by simp [fW, Format.nearest]
theorem read_word (s : Bool) (m : Nat) (hm : 0 < m) (h : m < 9007199254740992) : Ieee.double.read (Ieee.double.word s (rungOf m)) = .number s (m * 2 ^ (52 - m.log2)) ((m.log2 : Int) - 52) := by
  have hl := log2_lt53 hm h
  have hb := full_bounds hm h
  have hr : rungOf m = (m.log2 + 1022) * 4503599627370496 + m * 2 ^ (52 - m.log2) := rfl
  generalize m * 2 ^ (52 - m.log2) = M at hb hr
  generalize rungOf m = R at hr
  have hR : R < 9223372036854775808 := by omega
  have hw : Ieee.double.word s R = if s then 9223372036854775808 + R else R := by unfold Format.word; rw [dbl_sign]
  have h1 : (Ieee.double.word s R / 9223372036854775808 % 2 == 1) = s := by
    rw [hw]
    cases s
    · simp; omega
    · simp; omega
  have h2 : Ieee.double.word s R % 9223372036854775808 = R := by
    rw [hw]
    cases s
    · simp; omega
    · simp; omega
  unfold Format.read
  simp only [dbl_sign, dbl_binade, dbl_inf, dbl_least, h1, h2]
  rw [if_neg (by omega), if_pos (by omega)]
  congr 1
  · omega
  · omega
theorem read_zero (s : Bool) : Ieee.double.read (Ieee.double.word s 0) = .number s 0 (-1074) := by cases s <;> decide
/-- A datum that is a whole number. -/
def IsD (d : Datum) (n : Int) : Prop := ∃ (s : Bool) (k : Nat), d = .number s (n.natAbs * 2 ^ k) (-(k : Int)) ∧ (n < 0 → s = true) ∧ (0 < n → s = false)
def IsW (x : Nat) (n : Int) : Prop := IsD (Ieee.double.read x) n ∧ n.natAbs < 9007199254740992 ∧ ∃ s, x = fW s n.natAbs ∧ (n < 0 → s = true) ∧ (0 < n → s = false)
theorem isD_word (s : Bool) (n : Int) (h : n.natAbs < 9007199254740992) (h1 : n < 0 → s = true) (h2 : 0 < n → s = false) : IsD (Ieee.double.read (fW s n.natAbs)) n := by
  rcases Nat.eq_zero_or_pos n.natAbs with h0 | h0
  · rw [h0, fW_zero, read_zero]
    obtain ⟨k, hk⟩ : ∃ k : Nat, (k : Int) = 1074 := ⟨1074, rfl⟩
    exact ⟨s, k, by rw [h0, Nat.zero_mul, hk], h1, h2⟩
  · rw [fW_word s _ h0 h, read_word s _ h0 h]
    have hl := log2_lt53 h0 h
    exact ⟨s, 52 - n.natAbs.log2, by congr 1; omega, h1, h2⟩
theorem isW_fW (s : Bool) (n : Int) (h : n.natAbs < 9007199254740992) (h1 : n < 0 → s = true) (h2 : 0 < n → s = false) : IsW (fW s n.natAbs) n := ⟨isD_word s n h h1 h2, h, s, rfl, h1, h2⟩
theorem isW_fI (n : Int) (h : n.natAbs < 9007199254740992) : IsW (fI n) n := isW_fW _ n h (fun h => by simpa using h) (fun h => by simp; omega)
/-- A word of a datum that is a whole number. -/
theorem write_isD {d : Datum} {n : Int} (hd : IsD d n) (h : n.natAbs < 9007199254740992) : IsW (Ieee.double.write d) n ∧ (n ≠ 0 ∨ d.neg = false → Ieee.double.write d = fI n) := by
  obtain ⟨s, k, rfl, h1, h2⟩ := hd
  have hw : Ieee.double.write (.number s (n.natAbs * 2 ^ k) (-(k : Int))) = fW s n.natAbs := by
    show Ieee.double.nearest s (n.natAbs * 2 ^ k) (-(k : Int)) = _
    rcases Nat.eq_zero_or_pos n.natAbs with h0 | h0
    · rw [h0, fW_zero]; simp [Format.nearest]
    · rw [nearest_spelt s _ k h0 h, fW_word s _ h0 h]
  rw [hw]
  refine ⟨isW_fW s n h h1 h2, fun h3 => ?_⟩
  unfold fI
  congr 1
  rcases Int.lt_trichotomy n 0 with h4 | h4 | h4
  · rw [h1 h4]; simp [h4]
  · subst h4
    rcases h3 with h3 | h3
    · exact absurd rfl h3
    · exact h3
  · rw [h2 h4]; simp; omega
theorem signed_val (s : Bool) (n : Int) (k j : Nat) (h1 : n < 0 → s = true) (h2 : 0 < n → s = false) : signed s (n.natAbs * 2 ^ k) j = n * 2 ^ (k + j) := by
  unfold signed
  rw [Nat.shiftLeft_eq, Nat.mul_assoc, ← Nat.pow_add]
  rcases Int.lt_trichotomy n 0 with h4 | h4 | h4
  · rw [h1 h4]
    simp only [if_true, Int.natCast_mul, Int.natCast_pow]
    have : (n.natAbs : Int) = -n := by omega
    rw [this, Int.neg_mul, Int.neg_neg]
    rfl
  · subst h4
    cases s <;> simp
  · rw [h2 h4]
    simp only [Bool.false_eq_true, if_false, Int.natCast_mul, Int.natCast_pow]
    have : (n.natAbs : Int) = n := by omega
    rw [this]
    rfl
theorem isD_sum {d e : Datum} {a b : Int} (hd : IsD d a) (he : IsD e b) : ∃ r, d.sum e = some r ∧ IsD r (a + b) ∧ (d.neg = false ∨ e.neg = false → a + b = 0 → r.neg = false) := by
  obtain ⟨s, i, rfl, h1, h2⟩ := hd
  obtain ⟨t, j, rfl, h3, h4⟩ := he
  obtain ⟨m, hm⟩ : ∃ m : Nat, m = max i j := ⟨_, rfl⟩
  have hbase : min (-(i : Int)) (-(j : Int)) = -(m : Int) := by omega
  have e1 : signed s (a.natAbs * 2 ^ i) (-(i : Int) - -(m : Int)).toNat = a * 2 ^ m := by
    rw [signed_val s a i _ h1 h2]; congr 2; omega
  have e2 : signed t (b.natAbs * 2 ^ j) (-(j : Int) - -(m : Int)).toNat = b * 2 ^ m := by
    rw [signed_val t b j _ h3 h4]; congr 2; omega
  have hpos : (0 : Int) < 2 ^ m := by exact_mod_cast Nat.two_pow_pos m
  refine ⟨.number (if (a + b) * 2 ^ m = 0 then s && t else decide ((a + b) * 2 ^ m < 0)) ((a + b) * 2 ^ m).natAbs (-(m : Int)), ?_, ⟨if (a + b) * 2 ^ m = 0 then s && t else decide ((a + b) * 2 ^ m < 0), m, ?_, ?_, ?_⟩, ?_⟩
  · simp only [Datum.sum, hbase, e1, e2, ← Int.add_mul]
  · rw [Int.natAbs_mul, Int.natAbs_pow]; rfl
  · intro h
    have : (a + b) * 2 ^ m < 0 := Int.mul_neg_of_neg_of_pos h hpos
    rw [if_neg (by omega)]
    simpa using this
  · intro h
    have : 0 < (a + b) * 2 ^ m := Int.mul_pos h hpos
    rw [if_neg (by omega)]
    simp; omega
  · intro hs h0
    rw [h0]
    simp only [Datum.neg] at hs ⊢
    simp
    rcases hs with h | h
    · intro h'; rw [h] at h'; cases h'
    · intro _; exact h
theorem isD_product {d e : Datum} {a b : Int} (hd : IsD d a) (he : IsD e b) : ∃ r, d.product e = some r ∧ IsD r (a * b) := by
  obtain ⟨s, i, rfl, h1, h2⟩ := hd
  obtain ⟨t, j, rfl, h3, h4⟩ := he
  refine ⟨_, rfl, s ^^ t, i + j, ?_, ?_, ?_⟩
  · congr 1
    · rw [Int.natAbs_mul, Nat.pow_add]; ac_rfl
    · omega
  · intro h
    rcases Int.lt_trichotomy a 0 with ha | ha | ha
    · rcases Int.lt_trichotomy b 0 with hb | hb | hb
      · have := Int.mul_pos_of_neg_of_neg ha hb; omega
      · subst hb; simp at h
      · rw [h1 ha, h4 hb]; rfl
    · subst ha; simp at h
    · rcases Int.lt_trichotomy b 0 with hb | hb | hb
      · rw [h2 ha, h3 hb]; rfl
      · subst hb; simp at h
      · have := Int.mul_pos ha hb; omega
  · intro h
    rcases Int.lt_trichotomy a 0 with ha | ha | ha
    · rcases Int.lt_trichotomy b 0 with hb | hb | hb
      · rw [h1 ha, h3 hb]; rfl
      · subst hb; simp at h
      · have := Int.mul_neg_of_neg_of_pos ha hb; omega
    · subst ha; simp at h
    · rcases Int.lt_trichotomy b 0 with hb | hb | hb
      · have := Int.mul_neg_of_pos_of_neg ha hb; omega
      · subst hb; simp at h
      · rw [h2 ha, h4 hb]; rfl
theorem isD_opposite {d : Datum} {a : Int} (hd : IsD d a) : IsD d.opposite (-a) := by
  obtain ⟨s, i, rfl, h1, h2⟩ := hd
  refine ⟨!s, i, by simp [Datum.opposite], fun h => ?_, fun h => ?_⟩
  · rw [h2 (by omega)]; rfl
  · rw [h1 (by omega)]; rfl
theorem fI_neg {n : Int} (h : n.natAbs < 9007199254740992) : 0 ≤ n → (Ieee.double.read (fI n)).neg = false := by
  intro hn
  unfold fI
  rw [decide_eq_false (by omega)]
  rcases Nat.eq_zero_or_pos n.natAbs with h0 | h0
  · rw [h0, fW_zero, read_zero]; rfl
  · rw [fW_word _ _ h0 h, read_word _ _ h0 h]; rfl
/-- A sum; if one of the two is spelled plainly, so is the sum. -/
theorem add_W {x y : Nat} {a b : Int} (hx : IsW x a) (hy : IsW y b) (h : (a + b).natAbs < 9007199254740992) : ∃ r, floatBits .add .f64 x y = some r ∧ IsW r (a + b) ∧ (x = fI a ∨ y = fI b → r = fI (a + b)) := by
  obtain ⟨r, h1, h2, h3⟩ := isD_sum hx.1 hy.1
  have hw := write_isD h2 h
  refine ⟨Ieee.double.write r, ?_, hw.1, fun hp => hw.2 ?_⟩
  · show (Ieee.double.add x y) = _
    unfold Format.add
    rw [h1]; rfl
  · by_cases h0 : a + b = 0
    · right
      refine h3 ?_ h0
      rcases hp with rfl | rfl
      · by_cases ha : 0 ≤ a
        · exact .inl (fI_neg hx.2.1 ha)
        · right
          obtain ⟨t, k, h4, h5, h6⟩ := hy.1
          rw [h4]
          exact h6 (by omega)
      · by_cases hb : 0 ≤ b
        · exact .inr (fI_neg hy.2.1 hb)
        · left
          obtain ⟨t, k, h4, h5, h6⟩ := hx.1
          rw [h4]
          exact h6 (by omega)
    · exact .inl h0
theorem sub_W {x y : Nat} {a b : Int} (hx : IsW x a) (hy : IsW y b) (h : (a - b).natAbs < 9007199254740992) : ∃ r, floatBits .sub .f64 x y = some r ∧ IsW r (a - b) := by
  obtain ⟨r, h1, h2, h3⟩ := isD_sum hx.1 (isD_opposite hy.1)
  rw [← Int.sub_eq_add_neg] at h2
  refine ⟨Ieee.double.write r, ?_, (write_isD h2 h).1⟩
  show (Ieee.double.sub x y) = _
  unfold Format.sub
  rw [h1]; rfl
theorem mul_W {x y : Nat} {a b : Int} (hx : IsW x a) (hy : IsW y b) (h : (a * b).natAbs < 9007199254740992) : ∃ r, floatBits .mul .f64 x y = some r ∧ IsW r (a * b) := by
  obtain ⟨r, h1, h2⟩ := isD_product hx.1 hy.1
  refine ⟨Ieee.double.write r, ?_, (write_isD h2 h).1⟩
  show (Ieee.double.mul x y) = _
  unfold Format.mul
  rw [h1]; rfl
theorem order_isD {d e : Datum} {a b : Int} (hd : IsD d a) (he : IsD e b) : d.order e = some (compare a b) := by
  obtain ⟨s, i, rfl, h1, h2⟩ := hd
  obtain ⟨t, j, rfl, h3, h4⟩ := he
  obtain ⟨m, hm⟩ : ∃ m : Nat, m = max i j := ⟨_, rfl⟩
  have hbase : min (-(i : Int)) (-(j : Int)) = -(m : Int) := by omega
  have e1 : signed s (a.natAbs * 2 ^ i) (-(i : Int) - -(m : Int)).toNat = a * 2 ^ m := by
    rw [signed_val s a i _ h1 h2]; congr 2; omega
  have e2 : signed t (b.natAbs * 2 ^ j) (-(j : Int) - -(m : Int)).toNat = b * 2 ^ m := by
    rw [signed_val t b j _ h3 h4]; congr 2; omega
  have hpos : (0 : Int) < 2 ^ m := by exact_mod_cast Nat.two_pow_pos m
  simp only [Datum.order, hbase, e1, e2]
  congr 1
  simp only [compare, compareOfLessAndEq]
  by_cases h : a < b
  · rw [if_pos h, if_pos (Int.mul_lt_mul_of_pos_right h hpos)]
  · rw [if_neg h, if_neg (fun h' => h (Int.lt_of_mul_lt_mul_right h' (Int.le_of_lt hpos)))]
    by_cases h' : a = b
    · rw [if_pos h', if_pos (by rw [h'])]
    · rw [if_neg h', if_neg (fun e => h' (Int.eq_of_mul_eq_mul_right (by omega) e))]
theorem order_W {x y : Nat} {a b : Int} (hx : IsW x a) (hy : IsW y b) : FloatKind.f64.format.order x y = some (compare a b) := order_isD hx.1 hy.1
theorem toInt_isD {d : Datum} {a : Int} (hd : IsD d a) : d.toInt .zero = some a := by
  obtain ⟨s, i, rfl, h1, h2⟩ := hd
  have hc : ∀ (n : Nat), Toward.zero.cut s (n * 2 ^ i) i = n := by
    intro n
    rcases Nat.eq_zero_or_pos n with h0 | h0
    · subst h0; simp [Toward.cut]
    · have hlog : i ≤ (n * 2 ^ i).log2 + 2 := by rw [log2_mul_pow n i h0]; omega
      unfold Toward.cut
      rw [Nat.min_eq_left hlog]
      simp only [Nat.shiftLeft_eq, Nat.one_mul, Nat.mul_div_cancel _ (Nat.two_pow_pos i)]
      rfl
  simp only [Datum.toInt, Datum.integral]
  rw [show (-(i : Int)).toNat = 0 by omega, show (-(-(i : Int))).toNat = i by omega, Nat.shiftLeft_eq, Nat.pow_zero, Nat.mul_one, hc]
  have := signed_val s a 0 0 h1 h2
  simp at this
  rw [this]
theorem floatOfInt_fI (n : Int) : floatOfInt .f64 n = fI n := rfl
end Go.Proofs.Ytbbngmlgpjepnaa
