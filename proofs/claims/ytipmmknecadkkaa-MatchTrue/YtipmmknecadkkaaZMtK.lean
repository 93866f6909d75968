/- Layer 19: the law's example. -/
import Derived.Test.YtipmmknecadkkaaZMtJ
namespace Go.Proofs.Ytipmmknecadkkaa
open Go.RowKit

theorem SxRun.eqFd {a : Int × Int} {us : Array Value} {o1 o2 : Operand} {A : Value → Prop} (hu : us.toList = fdC a) (h : A (.bool true)) : SxRun SX.P (do eqGuard .eql 36 o1 o2 (.agg (fdC a).toArray) (.agg us); binOp .eql 36 (.agg (fdC a).toArray) (.agg us)) A := by
  obtain ⟨l⟩ := us
  have hl : l = fdC a := hu
  subst hl
  refine SxRun.eq 2 rfl (ks := [.int .i64, .int .i64]) rfl rfl (by kernel_rfl) rfl rfl rfl ?_
  have : cellsEq (fdC a) (fdC a) = true := by simp [cellsEq, cellEq, fdC]
  show A (.bool (cellsEq (fdC a) (fdC a)))
  rw [this]; exact h
set_option maxHeartbeats 8000000 in
theorem mt_awake (w : World) : Calls Try.prog 6 #[] w fun e w' => e = .returned (.bool true) ∧ Below w.heap.size w w' := by
  refine sx_fn (S := SX) (M := []) (N := 63) (H0 := []) Try.func6 rfl rfl rfl (Sat.nil _ _) ?_
  ((try refine sx_use ?_); (repeat (refine SxNew.mk fun _ => ?_; (try refine sx_use ?_))))
  obtain ⟨cs, hcs⟩ : ∃ cs : List ByteArray, cs = [⟨#[97]⟩, ⟨#[98]⟩, ⟨#[97]⟩] := ⟨_, rfl⟩
  refine SxCall.newRow (v := fun a c => .slice a 3 c) (n := 3) (e := 36) (k := 2) (cs := fdE.fl [(-1, -1), (-1, -1), (-1, 0)]) (fun w1 hs => by
    have h0 := Segment_nil [⟨#[97]⟩, ⟨#[98]⟩, ⟨#[97]⟩] (by decide) (by intro c hc; simp at hc; rcases hc with rfl | rfl | rfl <;> decide) [] (by decide) (tlR []) _ none 3 0 w1 (hs.rowRd 0 rfl (by show 3 ≤ maxLen; decide)) ⟨by decide, fun h => absurd h (by decide)⟩ rfl
    have h1 := seg_docF [⟨#[97]⟩, ⟨#[98]⟩, ⟨#[97]⟩] []
    rw [show (segG _ [] (tlR []) _).1 = _ from h1] at h0
    exact h0) fun lo lc => ?_
  ((try refine sx_use ?_); (repeat (refine SxNew.mk fun _ => ?_; (try refine sx_use ?_))))
  refine SxCall.newRow (v := fun a c => .slice a 2 c) (n := 2) (e := 38) (k := 32) (cs := fqE.fl [bFq ⟨#[97]⟩, bFq ⟨#[98]⟩]) (fun w1 hs => Fps_any [⟨#[97]⟩, ⟨#[98]⟩] (by decide) (by intro c hc; simp at hc; rcases hc with rfl | rfl <;> decide) _ 2 w1 (hs.rowRd 0 rfl (by show 2 ≤ maxLen; decide))) fun fo fc => ?_
  ((try refine sx_use ?_); (repeat (refine SxNew.mk fun _ => ?_; (try refine sx_use ?_))))
  refine SxCall.quietS (v := .tuple #[.int .i64 0, .int .i64 1, .int .i64 2]) (fun w1 hs => Counts_any [(-1, -1), (-1, -1), (-1, 0)] (by decide) lo lc w1 (hs.rowRd 2 rfl (by show 6 ≤ maxLen; decide))) ?_
  ((try refine sx_use ?_); (repeat (refine SxNew.mk fun _ => ?_; (try refine sx_use ?_))))
  refine SxCode.base 0 rfl fun hfo _ => ?_
  refine SxCode.base 2 rfl fun hlo _ => ?_
  obtain ⟨gf, rfl⟩ := hfo (by decide)
  obtain ⟨gl, rfl⟩ := hlo (by decide)
  refine SxCode.drawAll rfl [] ?_
  ((try refine sx_use ?_); (repeat (refine SxNew.mk fun _ => ?_; (try refine sx_use ?_))))
  refine SxIA.row 2 _ _ _ rfl 0 rfl (by decide) fun g' hg' => ?_
  obtain rfl : gl = g' := by simpa using hg'
  ((try refine sx_use ?_); (repeat (refine SxNew.mk fun _ => ?_; (try refine sx_use ?_))))
  refine SxLdN.row 2 rfl rfl (j := 0 * 2) rfl (vs := fdC (-1, -1)) rfl rfl ?_
  ((try refine sx_use ?_); (repeat (refine SxNew.mk fun _ => ?_; (try refine sx_use ?_))))
  refine SxRun.eqFd (a := (-1, -1)) rfl ?_
  ((try refine sx_use ?_); (repeat (refine SxNew.mk fun _ => ?_; (try refine sx_use ?_))))
  refine SxIA.row 2 _ _ _ rfl 2 rfl (by decide) fun g' hg' => ?_
  obtain rfl : gl = g' := by simpa using hg'
  ((try refine sx_use ?_); (repeat (refine SxNew.mk fun _ => ?_; (try refine sx_use ?_))))
  refine SxLdN.row 2 rfl rfl (j := 2 * 2) rfl (vs := fdC (-1, 0)) rfl rfl ?_
  ((try refine sx_use ?_); (repeat (refine SxNew.mk fun _ => ?_; (try refine sx_use ?_))))
  refine SxRun.eqFd (a := (-1, 0)) rfl ?_
  ((try refine sx_use ?_); (repeat (refine SxNew.mk fun _ => ?_; (try refine sx_use ?_))))
  refine SxCall.newRow (v := fun a c => .slice a 2 c) (n := 2) (e := 3) (k := 1) (cs := natE.fl [0, 1]) (fun w1 hs => News_any [(-1, -1), (-1, -1), (-1, 0)] (by decide) _ lc w1 (hs.rowRd 2 rfl (by show 6 ≤ maxLen; decide))) fun no nc => ?_
  ((try refine sx_use ?_); (repeat (refine SxNew.mk fun _ => ?_; (try refine sx_use ?_))))
  refine SxIA.row 0 _ _ _ rfl 0 rfl (by decide) fun g' hg' => ?_
  obtain rfl : gf = g' := by simpa using hg'
  ((try refine sx_use ?_); (repeat (refine SxNew.mk fun _ => ?_; (try refine sx_use ?_))))
  refine SxLdN.row 0 rfl rfl (j := 0 * 32) rfl (vs := fqC (bFq ⟨#[97]⟩)) (fqC_len _) (fqE_at (k := 0) rfl) ?_
  ((try refine sx_use ?_); (repeat (refine SxNew.mk fun _ => ?_; (try refine sx_use ?_))))
  refine SxCall.rsumF ⟨#[97]⟩ (by decide) ?_
  ((try refine sx_use ?_); (repeat (refine SxNew.mk fun _ => ?_; (try refine sx_use ?_))))
  refine SxRun.eqFq ?_
  rw [decide_eq_true rfl]
  ((try refine sx_use ?_); (repeat (refine SxNew.mk fun _ => ?_; (try refine sx_use ?_))))
  (try refine SxStable.mk (allI _) (pickH_all _) (nodupB_all _) ?_)
  (try ((try refine sx_use ?_); (repeat (refine SxNew.mk fun _ => ?_; (try refine sx_use ?_)))))
  exact SxDone.mk fun w' hs => ⟨rfl, hs.touch.below⟩
end Go.Proofs.Ytipmmknecadkkaa
