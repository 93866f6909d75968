/- Backups: a name and a day. -/
import Derived.Test.YtiobcjahgmkmiaaZCb
import Derived.Test.YtiobcjahgmkmiaaZSxT
namespace Go.Proofs.Ytiobcjahgmkmiaa
open Go.RowKit

structure Bk where
  nm : List UInt8
  day : Int
  deriving DecidableEq
instance : Inhabited Bk := ⟨⟨[], 0⟩⟩
def bkC (b : Bk) : List Value := [.string ⟨b.nm.toArray⟩, .int .i64 b.day]
def bkE : Enc Bk := ⟨bkC, 2, by decide, fun _ => rfl, fun _ => rfl⟩
theorem mkb_inj {a b : List UInt8} (h : (⟨a.toArray⟩ : ByteArray) = ⟨b.toArray⟩) : a = b := by
  have := congrArg (fun x : ByteArray => x.data.toList) h
  simpa using this
theorem bkC_inj {x y : Bk} (h : bkC x = bkC y) : x = y := by
  unfold bkC at h
  simp only [List.cons.injEq, Value.string.injEq, Value.int.injEq, true_and, and_true] at h
  obtain ⟨nm, d⟩ := x
  obtain ⟨nm', d'⟩ := y
  simp only [Bk.mk.injEq]
  exact ⟨mkb_inj h.1, h.2⟩
def bkK : List KD := [.str, .int .i64]
theorem bk_eq (x y : Bk) : cellsEq (bkC x) (bkC y) = decide (x = y) := by
  have h := cellsEq_iff (ks := bkK) (us := bkC x) (vs := bkC y) rfl rfl
  by_cases he : x = y
  · rw [decide_eq_true he, he]
    exact (cellsEq_iff (ks := bkK) (us := bkC y) (vs := bkC y) rfl rfl).2 rfl
  · rw [decide_eq_false he]
    cases hc : cellsEq (bkC x) (bkC y) with
    | false => rfl
    | true => exact absurd (bkC_inj (h.1 hc)) he
theorem SxRun.eqBk {x y : Bk} {o1 o2 : Operand} {A : Value → Prop} (h : A (.bool (decide (x = y)))) : SxRun SX.P (do eqGuard .eql 55 o1 o2 (.agg (bkC x).toArray) (.agg (bkC y).toArray); binOp .eql 55 (.agg (bkC x).toArray) (.agg (bkC y).toArray)) A :=
  SxRun.eq 2 rfl (ks := bkK) rfl rfl (by kernel_rfl) rfl rfl rfl (by show A (.bool (cellsEq (bkC x) (bkC y))); rw [bk_eq]; exact h)
theorem SxRun.neBk {x y : Bk} {o1 o2 : Operand} {A : Value → Prop} (h : A (.bool (!decide (x = y)))) : SxRun SX.P (do eqGuard .neq 55 o1 o2 (.agg (bkC x).toArray) (.agg (bkC y).toArray); binOp .neq 55 (.agg (bkC x).toArray) (.agg (bkC y).toArray)) A :=
  SxRun.ne 2 rfl (ks := bkK) rfl rfl (by kernel_rfl) rfl rfl rfl (by show A (.bool (!cellsEq (bkC x) (bkC y))); rw [bk_eq]; exact h)
theorem SxRun.eqBr {x y : Bk} {o1 o2 : Operand} {A : Value → Prop} (h : A (.bool (decide (x = y)))) : SxRun SX.P (do eqGuard .eql 61 o1 o2 (.agg (bkC x).toArray) (.agg (bkC y).toArray); binOp .eql 61 (.agg (bkC x).toArray) (.agg (bkC y).toArray)) A :=
  SxRun.eq 2 rfl (ks := bkK) rfl rfl (by kernel_rfl) rfl rfl rfl (by show A (.bool (cellsEq (bkC x) (bkC y))); rw [bk_eq]; exact h)
theorem SxRun.neBr {x y : Bk} {o1 o2 : Operand} {A : Value → Prop} (h : A (.bool (!decide (x = y)))) : SxRun SX.P (do eqGuard .neq 61 o1 o2 (.agg (bkC x).toArray) (.agg (bkC y).toArray); binOp .neq 61 (.agg (bkC x).toArray) (.agg (bkC y).toArray)) A :=
  SxRun.ne 2 rfl (ks := bkK) rfl rfl (by kernel_rfl) rfl rfl rfl (by show A (.bool (!cellsEq (bkC x) (bkC y))); rw [bk_eq]; exact h)
end Go.Proofs.Ytiobcjahgmkmiaa
