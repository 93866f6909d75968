/- The calendar. No program is named here. -/
import Derived.Test.YtiobcjahgmkmiaaZSxb
namespace Go.Proofs.Ytiobcjahgmkmiaa

def leapN (y : Nat) : Bool := decide (y % 4 = 0 ∧ (y % 100 ≠ 0 ∨ y % 400 = 0))
def daysN (y m : Nat) : Nat := if m = 2 then (if leapN y then 29 else 28) else if m = 4 ∨ m = 6 ∨ m = 9 ∨ m = 11 then 30 else 31
def ydN (y : Nat) : Nat := if leapN y then 366 else 365
def ahN (y : Nat) : Nat := 365 * (y - 1) + (y - 1) / 4 - (y - 1) / 100 + (y - 1) / 400
def moN (y : Nat) : Nat → Nat
  | 0 => 0
  | m + 1 => moN y m + (if m = 0 then 0 else daysN y m)
theorem ydN_bd (y : Nat) : 365 ≤ ydN y ∧ ydN y ≤ 366 := by unfold ydN; split <;> omega
theorem daysN_bd (y m : Nat) : 28 ≤ daysN y m ∧ daysN y m ≤ 31 := by unfold daysN; refine ⟨?_, ?_⟩ <;> (repeat' split) <;> omega
theorem ahN_succ {y : Nat} (h : 1 ≤ y) : ahN (y + 1) = ahN y + ydN y := by
  obtain ⟨n, rfl⟩ : ∃ n, y = n + 1 := ⟨y - 1, by omega⟩
  have a : (n + 1) / 4 = n / 4 + if (n + 1) % 4 = 0 then 1 else 0 := by split <;> omega
  have b : (n + 1) / 100 = n / 100 + if (n + 1) % 100 = 0 then 1 else 0 := by split <;> omega
  have c : (n + 1) / 400 = n / 400 + if (n + 1) % 400 = 0 then 1 else 0 := by split <;> omega
  have e1 : (n + 1) % 400 = 0 → (n + 1) % 100 = 0 := by omega
  have e2 : (n + 1) % 100 = 0 → (n + 1) % 4 = 0 := by omega
  have f : n / 100 ≤ n / 4 := Nat.div_le_div_left (by decide) (by decide)
  unfold ahN ydN leapN
  simp only [Nat.add_sub_cancel, decide_eq_true_eq]
  rw [a, b, c]
  generalize n / 4 = x at *
  generalize n / 100 = u at *
  generalize n / 400 = v at *
  by_cases p : (n + 1) % 4 = 0 <;> by_cases q : (n + 1) % 100 = 0 <;> by_cases r : (n + 1) % 400 = 0 <;> simp only [p, q, r, if_true, if_false, true_and, false_and, not_true_eq_false, not_false_eq_true, or_true, or_false, true_or, false_or, ne_eq] <;> first | omega | (exfalso; omega)
theorem ahN_one : ahN 1 = 0 := rfl
theorem ahN_mono {a b : Nat} (h1 : 1 ≤ a) (h : a ≤ b) : ahN a ≤ ahN b := by
  obtain ⟨k, rfl⟩ : ∃ k, b = a + k := ⟨b - a, by omega⟩
  clear h
  induction k with
  | zero => exact Nat.le_refl _
  | succ k ih => rw [show a + (k + 1) = a + k + 1 by omega, ahN_succ (by omega)]; omega
theorem ahN_le (y : Nat) (h : 1 ≤ y) : ahN y ≤ 366 * (y - 1) ∧ 365 * (y - 1) ≤ ahN y := by
  unfold ahN; omega
theorem moN_one (y : Nat) : moN y 1 = 0 := rfl
theorem moN_succ (y m : Nat) (h : 1 ≤ m) : moN y (m + 1) = moN y m + daysN y m := by
  rw [moN, if_neg (by omega)]
theorem moN_all (y : Nat) : moN y 13 = ydN y := by
  simp [moN, daysN, ydN]
  split <;> rfl
theorem moN_mono {y a b : Nat} (h : a ≤ b) : moN y a ≤ moN y b := by
  obtain ⟨k, rfl⟩ : ∃ k, b = a + k := ⟨b - a, by omega⟩
  clear h
  induction k with
  | zero => exact Nat.le_refl _
  | succ k ih => rw [show a + (k + 1) = a + k + 1 by omega, moN]; omega
/-- A day of the calendar. -/
structure IsD (y m d : Nat) : Prop where
  y1 : 1 ≤ y
  y2 : y ≤ 9999
  m1 : 1 ≤ m
  m2 : m ≤ 12
  d1 : 1 ≤ d
  d2 : d ≤ daysN y m
def numD (y m d : Nat) : Nat := ahN y + moN y m + d - 1
theorem ahN_end : ahN 10000 = 3652059 := by decide
theorem numD_year {y m d : Nat} (h : IsD y m d) : ahN y ≤ numD y m d ∧ numD y m d < ahN (y + 1) := by
  have h1 := moN_succ y m h.m1
  have h2 := moN_mono (y := y) (show m + 1 ≤ 13 by have := h.m2; omega)
  rw [moN_all] at h2
  rw [ahN_succ h.y1]
  unfold numD
  have := h.d1; have := h.d2
  omega
theorem numD_month {y m d : Nat} (h : IsD y m d) : moN y m ≤ numD y m d - ahN y ∧ numD y m d - ahN y < moN y (m + 1) ∧ numD y m d - ahN y - moN y m + 1 = d := by
  rw [moN_succ y m h.m1]
  unfold numD
  have := h.d1; have := h.d2
  omega
theorem numD_lt {y m d : Nat} (h : IsD y m d) : numD y m d < 3652059 := by
  have h1 := (numD_year h).2
  have h2 := ahN_mono (a := y + 1) (b := 10000) (by omega) (by have := h.y2; omega)
  rw [ahN_end] at h2
  omega
theorem numD_inj {y m d y' m' d' : Nat} (h : IsD y m d) (h' : IsD y' m' d') (e : numD y m d = numD y' m' d') : y = y' ∧ m = m' ∧ d = d' := by
  have a := numD_year h
  have b := numD_year h'
  have hy : y = y' := by
    rcases Nat.lt_trichotomy y y' with h1 | h1 | h1
    · have := ahN_mono (a := y + 1) (b := y') (by omega) (by omega); omega
    · exact h1
    · have := ahN_mono (a := y' + 1) (b := y) (by omega) (by omega); omega
  subst hy
  have c := numD_month h
  have f := numD_month h'
  rw [← e] at f
  have hm : m = m' := by
    rcases Nat.lt_trichotomy m m' with h1 | h1 | h1
    · have := moN_mono (y := y) (a := m + 1) (b := m') (by omega); omega
    · exact h1
    · have := moN_mono (y := y) (a := m' + 1) (b := m) (by omega); omega
  subst hm
  exact ⟨rfl, rfl, by omega⟩
theorem exists_year (n : Nat) : ∀ k, n < ahN (k + 1) → ∃ y, 1 ≤ y ∧ y ≤ k ∧ ahN y ≤ n ∧ n < ahN (y + 1)
  | 0, h => by rw [ahN_one] at h; omega
  | k + 1, h => by
    by_cases h1 : n < ahN (k + 1)
    · obtain ⟨y, a, b, c, d⟩ := exists_year n k h1
      exact ⟨y, a, by omega, c, d⟩
    · exact ⟨k + 1, by omega, by omega, by omega, h⟩
theorem exists_month (y n : Nat) : ∀ k, n < moN y (k + 1) → ∃ m, 1 ≤ m ∧ m ≤ k ∧ moN y m ≤ n ∧ n < moN y (m + 1)
  | 0, h => by rw [moN_one] at h; omega
  | k + 1, h => by
    by_cases h1 : n < moN y (k + 1)
    · obtain ⟨m, a, b, c, d⟩ := exists_month y n k h1
      exact ⟨m, a, by omega, c, d⟩
    · exact ⟨k + 1, by omega, by omega, by omega, h⟩
theorem exists_date {n : Nat} (h : n < 3652059) : ∃ y m d, IsD y m d ∧ numD y m d = n := by
  obtain ⟨y, y1, y2, y3, y4⟩ := exists_year n 9999 (by rw [ahN_end]; exact h)
  rw [ahN_succ y1] at y4
  obtain ⟨m, m1, m2, m3, m4⟩ := exists_month y (n - ahN y) 12 (by rw [moN_all]; omega)
  rw [moN_succ y m m1] at m4
  refine ⟨y, m, n - ahN y - moN y m + 1, ⟨y1, y2, m1, m2, by omega, by omega⟩, ?_⟩
  unfold numD
  omega
end Go.Proofs.Ytiobcjahgmkmiaa
