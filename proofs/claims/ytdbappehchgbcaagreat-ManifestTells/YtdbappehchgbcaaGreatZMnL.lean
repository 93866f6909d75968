/- The walk of layer 15: the law's awake. -/
import Derived.Test.YtdbappehchgbcaaGreatZMnK
namespace Go.Proofs.YtdbappehchgbcaaGreat
open Go.RowKit

def zFp : List UInt8 := List.replicate 32 0
def enA1 : En := ⟨zFp, 5, 1, 2, rfl⟩
def enA2 : En := ⟨zFp, 7, 1, 0, rfl⟩
def enA3 : En := ⟨zFp, 7, 4, 9, rfl⟩
def mnA : List En := [enA1, enA2]
theorem mnA_may : mayM 3 mnA := by
  refine ⟨by unfold okNo; decide, by decide, by decide, fun e he => ?_⟩
  simp only [mnA, List.mem_cons, List.not_mem_nil, or_false] at he
  rcases he with rfl | rfl <;> exact ⟨by decide, by decide, ⟨by decide, by decide⟩, by decide, by decide⟩
def mvA : List Mv := [⟨⟨1, 0⟩, ⟨4, 9⟩⟩]
theorem mnA_turn : mnA.map (turn1 mvA) = [enA1, enA3] ∧ turnN mvA mnA = 1 := ⟨rfl, rfl⟩
theorem mnA_places : setP (plsOf mnA) = [⟨1, 0⟩, ⟨1, 2⟩] := by rw [← setRP_eq]; decide
set_option maxHeartbeats 4000000 in
theorem mn_awake (w : World) : Calls Tryz.prog 5 #[] w fun e w' => e = .returned (.bool true) ∧ Below w.heap.size w w' := by
  have h1 := fun (ao : Option Addr) (cap : Nat) (w : World) (hr : Rd w ao (enE.fl mnA)) => MPut_any 3 mnA ao cap w hr
  obtain ⟨s, hse⟩ : ∃ s, s = putM 3 mnA := ⟨_, rfl⟩
  have hsl : s.length = 94 := by rw [hse]; exact (put_parts mnA_may).2.2.2
  simp only [if_pos mnA_may, ← hse] at h1
  have h2 := fun (w : World) => (MGet_any s (by omega) w).mono fun e w' h => h.1 3 mnA mnA_may hse.symm
  have h3 := fun (ao bo : Option Addr) (cap bc : Nat) (w : World) (hr : Rd w ao (enE.fl mnA)) (hb : Rd w bo (mvE.fl mvA)) => MTurn_any 3 mnA (by decide) mvA ao bo cap bc w hr hb
  rw [mnA_turn.1, mnA_turn.2] at h3
  have h5 : bytesI mnA = 12 := by decide
  have h6 := fun (ao : Option Addr) (cap : Nat) (w : World) (hr : Rd w ao (enE.fl mnA)) => MBytes_any 3 mnA (by decide) ao cap w hr
  rw [h5] at h6
  have h4 := fun (ao : Option Addr) (cap : Nat) (w : World) (hr : Rd w ao (enE.fl mnA)) => MPlaces_any 3 mnA (by decide) ao cap w hr
  rw [mnA_places] at h4
  clear hse
  refine sx_fn (S := SX) (M := []) (N := 94) (H0 := []) Tryz.func5 rfl rfl rfl (Sat.nil _ _) ?_
  ((try refine sx_use ?_); (repeat (refine SxNew.mk fun _ => ?_; (try refine sx_use ?_))))
  refine SxCall.quietS (fun w hs => h1 _ _ w (hs.rowRd 1 rfl (by decide))) ?_
  ((try refine sx_use ?_); (repeat (refine SxNew.mk fun _ => ?_; (try refine sx_use ?_))))
  refine SxCall.newRow (v := fun a c => .tuple #[mnV 3 a 2 c, .int .i64 0]) (fun w hs => h2 w) fun ga gc => ?_
  ((try refine sx_use ?_); (repeat (refine SxNew.mk fun _ => ?_; (try refine sx_use ?_))))
  refine SxCall.newRowB (v := fun a c => .tuple #[mnV 3 a 2 c, .int .i64 1]) (fun w hs => h3 _ _ _ _ w (hs.rowRd 4 rfl (by decide)) (hs.rowRd 0 rfl (by decide))) fun ta tc hta htc => ?_
  obtain ⟨tg, rfl⟩ := hta (by decide)
  ((try refine sx_use ?_); (repeat (refine SxNew.mk fun _ => ?_; (try refine sx_use ?_))))
  refine SxCall.newRowB (v := fun a c => .slice a 2 c) (fun w hs => h4 _ _ w (hs.rowRd 6 rfl (by decide))) fun pa pc hpa hpc => ?_
  obtain ⟨pg, rfl⟩ := hpa (by decide)
  ((try refine sx_use ?_); (repeat (refine SxNew.mk fun _ => ?_; (try refine sx_use ?_))))
  refine SxCall.quiet (v := .int .i64 54) (MSize_any 1) ?_
  ((try refine sx_use ?_); (repeat (refine SxNew.mk fun _ => ?_; (try refine sx_use ?_))))
  refine SxLdN.blk 6 rfl rfl rfl ?_
  ((try refine sx_use ?_); (repeat (refine SxNew.mk fun _ => ?_; (try refine sx_use ?_))))
  refine SxCall.quietS (v := .int .i64 12) (fun w hs => h6 _ _ w (hs.rowRd 7 rfl (by decide))) ?_
  ((try refine sx_use ?_); (repeat (refine SxNew.mk fun _ => ?_; (try refine sx_use ?_))))
  refine SxLdN.blk 6 rfl rfl rfl ?_
  ((try refine sx_use ?_); (repeat (refine SxNew.mk fun _ => ?_; (try refine sx_use ?_))))
  refine SxCall.quietS (v := .bool true) (fun w hs => MSame_any 3 3 mnA mnA _ _ _ _ w (hs.rowRd 5 rfl (by decide)) (hs.rowRd 7 rfl (by decide))) ?_
  ((try refine sx_use ?_); (repeat (refine SxNew.mk fun _ => ?_; (try refine sx_use ?_))))
  refine SxIf.eqT (by rw [mk_size, hsl]; rfl) ?_
  ((try refine sx_use ?_); (repeat (refine SxNew.mk fun _ => ?_; (try refine sx_use ?_))))
  refine SxIA.row 2 _ _ _ rfl 1 rfl (by decide) fun g' hg' => ?_
  obtain rfl : tg = g' := by simpa using hg'
  ((try refine sx_use ?_); (repeat (refine SxNew.mk fun _ => ?_; (try refine sx_use ?_))))
  refine SxLd.row 2 rfl rfl rfl (j := 69) (v := .int .i64 9) rfl ?_
  ((try refine sx_use ?_); (repeat (refine SxNew.mk fun _ => ?_; (try refine sx_use ?_))))
  refine SxIA.row 0 _ _ _ rfl 0 rfl (by decide) fun g' hg' => ?_
  obtain rfl : pg = g' := by simpa using hg'
  ((try refine sx_use ?_); (repeat (refine SxNew.mk fun _ => ?_; (try refine sx_use ?_))))
  refine SxLd.row 0 rfl rfl rfl (j := 1) (v := .int .i64 0) rfl ?_
  ((try refine sx_use ?_); (repeat (refine SxNew.mk fun _ => ?_; (try refine sx_use ?_))))
  refine SxCall.quiet (v := .int .i64 1) (fun w => MCheck_any 0 [] none 0 w ⟨by decide, fun h => absurd h (by decide)⟩) ?_
  ((try refine sx_use ?_); (repeat (refine SxNew.mk fun _ => ?_; (try refine sx_use ?_))))
  exact SxDone.mk fun w' hs => ⟨rfl, hs.touch.below⟩
end Go.Proofs.YtdbappehchgbcaaGreat
