/- Texts in order. No program is named here. -/
import Derived.Test.YtdififdnnpgjoaaZGen
import Derived.Lib.Bytealg
import Derived.Lib.Small
namespace Go.Proofs.Ytdififdnnpgjoaa
open Go.RowKit

abbrev cB (a b : List UInt8) : Int := Go.Lib.compareBytes a b
theorem cB_self : ∀ a : List UInt8, cB a a = 0
  | [] => rfl
  | x :: a => by
    show (if x < x then -1 else if x < x then 1 else Go.Lib.compareBytes a a) = (0 : Int)
    rw [if_neg (UInt8.lt_irrefl x), if_neg (UInt8.lt_irrefl x)]
    exact cB_self a
theorem cB_cons (x y : UInt8) (a b : List UInt8) : cB (x :: a) (y :: b) = if x < y then -1 else if y < x then 1 else cB a b := rfl
theorem cB_zero : ∀ {a b : List UInt8}, cB a b = 0 → a = b
  | [], [], _ => rfl
  | [], _ :: _, h => by cases h
  | _ :: _, [], h => by cases h
  | x :: a, y :: b, h => by
    rw [cB_cons] at h
    split at h
    · cases h
    · split at h
      · cases h
      · rename_i h1 h2
        rw [UInt8.lt_iff_toNat_lt] at h1 h2
        rw [cB_zero h, UInt8.toNat_inj.1 (by omega : x.toNat = y.toNat)]
theorem cB_swap : ∀ a b : List UInt8, cB b a = - cB a b
  | [], [] => rfl
  | [], _ :: _ => rfl
  | _ :: _, [] => rfl
  | x :: a, y :: b => by
    rw [cB_cons, cB_cons]
    have := cB_swap a b
    by_cases h1 : x < y <;> by_cases h2 : y < x
    · rw [UInt8.lt_iff_toNat_lt] at h1 h2; omega
    · rw [if_neg h2, if_pos h1, if_pos h1]; rfl
    · rw [if_pos h2, if_neg h1, if_pos h2]
    · rw [if_neg h2, if_neg h1, if_neg h1, if_neg h2, this]
theorem cB_trans : ∀ {a b c : List UInt8}, cB a b < 0 → cB b c < 0 → cB a c < 0
  | [], [], _, h, _ => by cases h
  | [], _ :: _, [], _, h => by cases h
  | [], _ :: _, _ :: _, _, _ => by show (-1 : Int) < 0; decide
  | _ :: _, [], _, h, _ => by cases h
  | _ :: _, _ :: _, [], _, h => by cases h
  | x :: a, y :: b, z :: c, h1, h2 => by
    rw [cB_cons] at h1 h2 ⊢
    simp only [UInt8.lt_iff_toNat_lt] at h1 h2 ⊢
    split at h1
    · split at h2
      · rw [if_pos (by omega)]; decide
      · split at h2
        · cases h2
        · rw [if_pos (by omega)]; decide
    · split at h1
      · cases h1
      · split at h2
        · rw [if_pos (by omega)]; decide
        · split at h2
          · cases h2
          · rw [if_neg (by omega), if_neg (by omega)]
            exact cB_trans h1 h2
theorem cB_less : ∀ a b : List UInt8, Op.bytesLess a b = decide (cB a b < 0)
  | [], [] => rfl
  | [], _ :: _ => rfl
  | _ :: _, [] => rfl
  | x :: a, y :: b => by
    rw [cB_cons]
    show (decide (x < y) || (x == y && Op.bytesLess a b)) = _
    rw [cB_less a b]
    by_cases h1 : x < y
    · rw [if_pos h1, decide_eq_true h1]; rfl
    · rw [if_neg h1, decide_eq_false h1, Bool.false_or]
      by_cases h2 : y < x
      · rw [if_pos h2]
        have : (x == y) = false := by
          rw [beq_eq_false_iff_ne]; intro e; subst e; exact h1 h2
        rw [this]; rfl
      · rw [if_neg h2]
        have : (x == y) = true := by
          rw [beq_iff_eq]
          rw [UInt8.lt_iff_toNat_lt] at h1 h2
          exact UInt8.toNat_inj.1 (by omega)
        rw [this, Bool.true_and]
theorem cB_ord : Ordr (fun a b : List UInt8 => cB a b < 0) where
  irr := fun x h => by rw [cB_self] at h; exact absurd h (by decide)
  tr := fun x y z => cB_trans
  tri := fun x y h1 h2 => by
    rw [cB_swap] at h2
    exact cB_zero (by omega)
theorem strLt_cB (a b : List UInt8) : strLt ⟨a.toArray⟩ ⟨b.toArray⟩ = decide (cB a b < 0) := by
  unfold strLt
  rw [toList_data, toList_data]
  exact cB_less a b
end Go.Proofs.Ytdififdnnpgjoaa
