/- Places: a box and a slot. -/
import Derived.Test.YtdififdnnpgjoaaZGen
import Derived.Test.YtdififdnnpgjoaaZSxT
import Derived.Test.YtdififdnnpgjoaaZOpnR
import Derived.Lib.Small
namespace Go.Proofs.Ytdififdnnpgjoaa
open Go.RowKit

structure Pl where
  bx : Int
  sl : Int
  deriving DecidableEq
instance : Inhabited Pl := ⟨⟨0, 0⟩⟩
def plC (p : Pl) : List Value := [.int .u32 p.bx, .int .i64 p.sl]
def plE : Enc Pl := ⟨plC, 2, by decide, fun _ => rfl, fun _ => rfl⟩
theorem plC_inj {x y : Pl} (h : plC x = plC y) : x = y := by
  unfold plC at h
  simp only [List.cons.injEq, Value.int.injEq, true_and, and_true] at h
  obtain ⟨a, b⟩ := x
  obtain ⟨c, d⟩ := y
  simp only [Pl.mk.injEq]
  exact h
def plK : List KD := [.int .u32, .int .i64]
theorem pl_eq (x y : Pl) : cellsEq (plC x) (plC y) = decide (x = y) := by
  have h := cellsEq_iff (ks := plK) (us := plC x) (vs := plC y) rfl rfl
  by_cases he : x = y
  · rw [decide_eq_true he, he]
    exact (cellsEq_iff (ks := plK) (us := plC y) (vs := plC y) rfl rfl).2 rfl
  · rw [decide_eq_false he]
    cases hc : cellsEq (plC x) (plC y) with
    | false => rfl
    | true => exact absurd (plC_inj (h.1 hc)) he
theorem SxRun.eqPl {x y : Pl} {o1 o2 : Operand} {A : Value → Prop} (h : A (.bool (decide (x = y)))) : SxRun SX.P (do eqGuard .eql 29 o1 o2 (.agg (plC x).toArray) (.agg (plC y).toArray); binOp .eql 29 (.agg (plC x).toArray) (.agg (plC y).toArray)) A :=
  SxRun.eq 2 rfl (ks := plK) rfl rfl (by kernel_rfl) rfl rfl rfl (by show A (.bool (cellsEq (plC x) (plC y))); rw [pl_eq]; exact h)
theorem SxRun.nePl {x y : Pl} {o1 o2 : Operand} {A : Value → Prop} (h : A (.bool (!decide (x = y)))) : SxRun SX.P (do eqGuard .neq 29 o1 o2 (.agg (plC x).toArray) (.agg (plC y).toArray); binOp .neq 29 (.agg (plC x).toArray) (.agg (plC y).toArray)) A :=
  SxRun.ne 2 rfl (ks := plK) rfl rfl (by kernel_rfl) rfl rfl rfl (by show A (.bool (!cellsEq (plC x) (plC y))); rw [pl_eq]; exact h)
theorem open_pl {w : World} {d : Nat} (cs : List Value) (h : FitR Try.prog w d [.int .u32, .int .i64] cs) : ∃ b : Pl, cs = plE.enc b := by
  obtain ⟨hl, hf⟩ := h
  match cs, hl with
  | [x, y], _ =>
    obtain ⟨s, rfl, hs⟩ := fitK_int (hf 0 _ _ rfl rfl)
    obtain ⟨n, rfl, hn⟩ := fitK_int (hf 1 _ _ rfl rfl)
    exact ⟨⟨s, n⟩, rfl⟩
theorem open_pls {w : World} {d : Nat} {v : Value} (hv : FitK Try.prog w (d + 1) (.slice 29) v) : ∃ (ao : Option Addr) (n cap : Nat), v = .slice ao n cap ∧ n ≤ maxLen ∧ ∃ l : List Pl, l.length = min n 1000 ∧ Rd w ao (plE.fl l) :=
  open_rows plE (by decide) [.int .u32, .int .i64] hv (by kernel_rfl) (by kernel_rfl) rfl fun cs h => open_pl cs h
/-- The order of places. -/
def ltP (a b : Pl) : Prop := a.bx < b.bx ∨ (a.bx = b.bx ∧ a.sl < b.sl)
def ltbP (a b : Pl) : Bool := decide (a.bx < b.bx) || (decide (a.bx = b.bx) && decide (a.sl < b.sl))
theorem ltbP_iff (a b : Pl) : ltbP a b = true ↔ ltP a b := by
  unfold ltbP ltP
  simp only [Bool.or_eq_true, Bool.and_eq_true, decide_eq_true_eq]
theorem ltP_ord : Ordr ltP where
  irr := fun x h => by unfold ltP at h; omega
  tr := fun x y z h1 h2 => by unfold ltP at *; omega
  tri := fun x y h1 h2 => by
    unfold ltP at h1 h2
    obtain ⟨a, b⟩ := x
    obtain ⟨c, d⟩ := y
    simp only [Pl.mk.injEq] at *
    omega
def cI (a b : Int) : Int := Go.Lib.compareInt a b
def cfP (a b : Pl) : Int := if cI a.bx b.bx ≠ 0 then cI a.bx b.bx else cI a.sl b.sl
theorem cI_lt (a b : Int) : cI a b < 0 ↔ a < b := by
  unfold cI Go.Lib.compareInt
  split
  · exact ⟨fun _ => by assumption, fun _ => by decide⟩
  · split
    · exact ⟨fun h => absurd h (by decide), fun h => by omega⟩
    · exact ⟨fun h => absurd h (by decide), fun h => by omega⟩
theorem cI_z (a b : Int) : cI a b = 0 ↔ a = b := by
  unfold cI Go.Lib.compareInt
  split
  · exact ⟨fun h => absurd h (by decide), fun h => by omega⟩
  · split
    · exact ⟨fun h => absurd h (by decide), fun h => by omega⟩
    · exact ⟨fun _ => by omega, fun _ => rfl⟩
theorem cfP_iff (a b : Pl) : cfP a b < 0 ↔ ltP a b := by
  unfold cfP ltP
  have h1 := cI_lt a.bx b.bx
  have h2 := cI_z a.bx b.bx
  have h3 := cI_lt a.sl b.sl
  split
  · rename_i h
    rw [h1]
    constructor
    · exact fun h => .inl h
    · rintro (h4 | ⟨h4, _⟩)
      · exact h4
      · exact absurd (h2.2 h4) h
  · rename_i h
    have h : cI a.bx b.bx = 0 := by omega
    have he := h2.1 h
    rw [h3]
    constructor
    · exact fun h => .inr ⟨he, h⟩
    · rintro (h4 | ⟨_, h4⟩)
      · omega
      · exact h4
theorem RLessP_any (a b : Pl) (w : World) : Calls Try.prog 49 #[.agg (plC a).toArray, .agg (plC b).toArray] w fun e w' => e = .returned (.bool (ltbP a b)) ∧ Below w.heap.size w w' := by
  refine sx_fn (S := SX) (M := []) (N := 24) (H0 := []) Try.func49 rfl rfl rfl (Sat.nil _ _) ?_
  ((try refine sx_use ?_); (repeat (refine SxNew.mk fun _ => ?_; (try refine sx_use ?_))))
  refine SxIf.dec (fun h => ?_) (fun h => ?_)
  · ((try refine sx_use ?_); (repeat (refine SxNew.mk fun _ => ?_; (try refine sx_use ?_))))
    exact SxDone.mk fun w' hs => ⟨by unfold ltbP; rw [decide_eq_true h]; rfl, hs.touch.below⟩
  · ((try refine sx_use ?_); (repeat (refine SxNew.mk fun _ => ?_; (try refine sx_use ?_))))
    refine SxIf.eq (fun h2 => ?_) (fun h2 => ?_)
    · ((try refine sx_use ?_); (repeat (refine SxNew.mk fun _ => ?_; (try refine sx_use ?_))))
      exact SxDone.mk fun w' hs => ⟨by unfold ltbP; rw [decide_eq_false h, decide_eq_true h2]; rfl, hs.touch.below⟩
    · ((try refine sx_use ?_); (repeat (refine SxNew.mk fun _ => ?_; (try refine sx_use ?_))))
      exact SxDone.mk fun w' hs => ⟨by unfold ltbP; rw [decide_eq_false h, decide_eq_false h2]; rfl, hs.touch.below⟩
end Go.Proofs.Ytdififdnnpgjoaa
