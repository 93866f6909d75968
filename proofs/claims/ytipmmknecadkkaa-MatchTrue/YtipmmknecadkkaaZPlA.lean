/- Places: a box and a slot. -/
import Derived.Test.YtipmmknecadkkaaZGen
import Derived.Test.YtipmmknecadkkaaZSxT
import Derived.Test.YtipmmknecadkkaaZOpnR
import Derived.Lib.Small
namespace Go.Proofs.Ytipmmknecadkkaa
open Go.RowKit

structure Pl where
  bx : Int
  sl : Int
  deriving DecidableEq
instance : Inhabited Pl := ⟨⟨0, 0⟩⟩
def plC (p : Pl) : List Value := [.int .u32 p.bx, .int .i64 p.sl]
def plE : Enc Pl := ⟨plC, 2, by decide, fun _ => rfl, fun _ => rfl⟩
theorem plC_inj {x y : Pl} (h : plC x = plC y) : x = y := by
  unfold plC at h
  simp only [List.cons.injEq, Value.int.injEq, true_and, and_true] at h
  obtain ⟨a, b⟩ := x
  obtain ⟨c, d⟩ := y
  simp only [Pl.mk.injEq]
  exact h
def plK : List KD := [.int .u32, .int .i64]
theorem pl_eq (x y : Pl) : cellsEq (plC x) (plC y) = decide (x = y) := by
  have h := cellsEq_iff (ks := plK) (us := plC x) (vs := plC y) rfl rfl
  by_cases he : x = y
  · rw [decide_eq_true he, he]
    exact (cellsEq_iff (ks := plK) (us := plC y) (vs := plC y) rfl rfl).2 rfl
  · rw [decide_eq_false he]
    cases hc : cellsEq (plC x) (plC y) with
    | false => rfl
    | true => exact absurd (plC_inj (h.1 hc)) he
theorem open_pl {w : World} {d : Nat} (cs : List Value) (h : FitR Try.prog w d [.int .u32, .int .i64] cs) : ∃ b : Pl, cs = plE.enc b := by
  obtain ⟨hl, hf⟩ := h
  match cs, hl with
  | [x, y], _ =>
    obtain ⟨s, rfl, hs⟩ := fitK_int (hf 0 _ _ rfl rfl)
    obtain ⟨n, rfl, hn⟩ := fitK_int (hf 1 _ _ rfl rfl)
    exact ⟨⟨s, n⟩, rfl⟩
/-- The order of places. -/
def ltP (a b : Pl) : Prop := a.bx < b.bx ∨ (a.bx = b.bx ∧ a.sl < b.sl)
def ltbP (a b : Pl) : Bool := decide (a.bx < b.bx) || (decide (a.bx = b.bx) && decide (a.sl < b.sl))
theorem ltbP_iff (a b : Pl) : ltbP a b = true ↔ ltP a b := by
  unfold ltbP ltP
  simp only [Bool.or_eq_true, Bool.and_eq_true, decide_eq_true_eq]
theorem ltP_ord : Ordr ltP where
  irr := fun x h => by unfold ltP at h; omega
  tr := fun x y z h1 h2 => by unfold ltP at *; omega
  tri := fun x y h1 h2 => by
    unfold ltP at h1 h2
    obtain ⟨a, b⟩ := x
    obtain ⟨c, d⟩ := y
    simp only [Pl.mk.injEq] at *
    omega
def cI (a b : Int) : Int := Go.Lib.compareInt a b
def cfP (a b : Pl) : Int := if cI a.bx b.bx ≠ 0 then cI a.bx b.bx else cI a.sl b.sl
theorem cI_lt (a b : Int) : cI a b < 0 ↔ a < b := by
  unfold cI Go.Lib.compareInt
  split
  · exact ⟨fun _ => by assumption, fun _ => by decide⟩
  · split
    · exact ⟨fun h => absurd h (by decide), fun h => by omega⟩
    · exact ⟨fun h => absurd h (by decide), fun h => by omega⟩
theorem cI_z (a b : Int) : cI a b = 0 ↔ a = b := by
  unfold cI Go.Lib.compareInt
  split
  · exact ⟨fun h => absurd h (by decide), fun h => by omega⟩
  · split
    · exact ⟨fun h => absurd h (by decide), fun h => by omega⟩
    · exact ⟨fun _ => by omega, fun _ => rfl⟩
theorem cfP_iff (a b : Pl) : cfP a b < 0 ↔ ltP a b := by
  unfold cfP ltP
  have h1 := cI_lt a.bx b.bx
  have h2 := cI_z a.bx b.bx
  have h3 := cI_lt a.sl b.sl
  split
  · rename_i h
    rw [h1]
    constructor
    · exact fun h => .inl h
    · rintro (h4 | ⟨h4, _⟩)
      · exact h4
      · exact absurd (h2.2 h4) h
  · rename_i h
    have h : cI a.bx b.bx = 0 := by omega
    have he := h2.1 h
    rw [h3]
    constructor
    · exact fun h => .inr ⟨he, h⟩
    · rintro (h4 | ⟨_, h4⟩)
      · omega
      · exact h4
end Go.Proofs.Ytipmmknecadkkaa
