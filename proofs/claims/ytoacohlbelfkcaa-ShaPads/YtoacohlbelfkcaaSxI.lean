/- A symbolic walk: the stops, answered. No program is named here. -/
import Derived.Test.YtoacohlbelfkcaaSxH
namespace Go.Proofs.Ytoacohlbelfkcaa
open Go.RowKit

section
variable {A B : Prop}
theorem SxIf.yes {p : Prop} [Decidable p] (h : p) (hA : A) : SxIf (decide p) A B := ⟨fun _ => hA, fun h' => absurd h (by simpa using h')⟩
theorem SxIf.no {p : Prop} [Decidable p] (h : ¬ p) (hB : B) : SxIf (decide p) A B := ⟨fun h' => absurd (by simpa using h') h, fun _ => hB⟩
theorem SxIf.dec {p : Prop} [Decidable p] (h1 : p → A) (h2 : ¬ p → B) : SxIf (decide p) A B := ⟨fun h => h1 (by simpa using h), fun h => h2 (by simpa using h)⟩
theorem SxIf.eq {x y : Int} (h1 : x = y → A) (h2 : x ≠ y → B) : SxIf (x == y) A B := ⟨fun h => h1 (by simpa using h), fun h => h2 (by simpa using h)⟩
theorem SxIf.ne {x y : Int} (h1 : x ≠ y → A) (h2 : x = y → B) : SxIf (x != y) A B := ⟨fun h => h1 (by simpa using h), fun h => h2 (by simpa using h)⟩
theorem SxIf.eqT {x y : Int} (h : x = y) (hA : A) : SxIf (x == y) A B := SxIf.eq (fun _ => hA) (fun h' => absurd h h')
theorem SxIf.eqF {x y : Int} (h : x ≠ y) (hB : B) : SxIf (x == y) A B := SxIf.eq (fun h' => absurd h' h) (fun _ => hB)
theorem SxIf.neT {x y : Int} (h : x ≠ y) (hA : A) : SxIf (x != y) A B := SxIf.ne (fun _ => hA) (fun h' => absurd h' h)
theorem SxIf.neF {x y : Int} (h : x = y) (hB : B) : SxIf (x != y) A B := SxIf.ne (fun h' => absurd h h') (fun _ => hB)
theorem SxIf.nt {t : Bool} (h : SxIf t B A) : SxIf (!t) A B := by
  cases h with | mk h1 h2 => exact ⟨fun h => h2 (by simpa using h), fun h => h1 (by simpa using h)⟩
theorem SxIf.at {t : Bool} (h : t = true) (hA : A) : SxIf t A B := ⟨fun _ => hA, fun h' => absurd (h.symm.trans h') (by decide)⟩
theorem SxIf.af {t : Bool} (h : t = false) (hB : B) : SxIf t A B := ⟨fun h' => absurd (h.symm.trans h') (by decide), fun _ => hB⟩
theorem toList_data (a : ByteArray) : a.toList = a.data.toList := by
  have key : ∀ (n i : Nat) (acc : List UInt8), a.size - i = n → ByteArray.toList.loop a i acc = acc.reverse ++ a.data.toList.drop i := by
    intro n
    induction n with
    | zero =>
      intro i acc h
      unfold ByteArray.toList.loop
      rw [if_neg (by omega), List.drop_of_length_le (by simp; omega)]
      simp
    | succ n ih =>
      intro i acc h
      unfold ByteArray.toList.loop
      have hi : i < a.data.toList.length := by simp; omega
      rw [if_pos (by omega), ih (i + 1) _ (by omega), List.drop_eq_getElem_cons hi]
      have hg : a.get! i = a.data.toList[i] := by
        have : i < a.data.size := by simpa using hi
        simp only [ByteArray.get!, getElem!_pos a.data i this]; simp
      simp [hg]
  have := key a.size 0 [] (by omega)
  simpa [ByteArray.toList] using this
theorem strEq_iff (a b : ByteArray) : strEq a b = true ↔ a = b := by
  unfold strEq
  rw [toList_data, toList_data, beq_iff_eq]
  exact ⟨fun h => ByteArray.ext (Array.ext' h), fun h => by rw [h]⟩
theorem SxIf.str {a b : ByteArray} (h1 : a = b → A) (h2 : a ≠ b → B) : SxIf (strEq a b) A B :=
  ⟨fun h => h1 ((strEq_iff a b).1 h), fun h => h2 fun e => by rw [(strEq_iff a b).2 e] at h; cases h⟩
end
section
variable {W : World} {M : List Nat} {H : Hp} {w : World}
theorem Sat.oneRd (W : World) {ao : Option Addr} {cs : List Value} (h : Rd W ao cs) : Sat W [] [.rd ao cs] W := (Sat.nil [] W).cons_rd h (by intro i e g hi; simp at hi)
theorem Sat.twoRd (W : World) {ao bo : Option Addr} {cs ds : List Value} (h : Rd W ao cs) (k : Rd W bo ds) : Sat W [] [.rd ao cs, .rd bo ds] W :=
  (Sat.oneRd W k).cons_rd h (by
    intro i e g hi hg
    cases i with
    | zero => simp at hi; subst hi; cases hg
    | succ i => simp at hi)
theorem Sat.oneBlk (W : World) {g e : Nat} {cs : List Value} (h : Blk W g e cs) : Sat W [g] [.blk g e cs] W :=
  (Sat.nil [g] W).cons_own (e := .blk g e cs) (g := g) h (fun _ h => h) (.inl (by simp)) (by intro i e hi; simp at hi)
end
end Go.Proofs.Ytoacohlbelfkcaa
