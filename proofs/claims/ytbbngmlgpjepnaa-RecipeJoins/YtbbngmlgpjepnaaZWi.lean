/- The walks: Of, Turn and Join of the document's weights. -/
import Derived.Test.YtbbngmlgpjepnaaZWh
namespace Go.Proofs.Ytbbngmlgpjepnaa
open Go.RowKit

def wpV (a b : Int) : Value := .agg #[.int .i64 a, .int .i64 b]
theorem SxRun.ineg {P : Program} {A : Value → Prop} {n : Int} (h1 : -9223372036854775807 ≤ n) (h2 : n ≤ 9223372036854775807) (hA : A (.int .i64 (-n))) : SxRun P (Op.unary .neg (.int .i64 n)) A :=
  ⟨_, fun w => by
    have : IntKind.i64.wrap (-n) = -n := IntWalk.i64_in _ (by omega)
    simp [Op.unary, Op.intArith, this], hA⟩
theorem wAt_succ (l : List UInt8) (j k : Nat) : wAt l j (k + 1) = wAt l j k + (if k % 4 = j then ((l.getD k 0).toNat : Int) else 0) := rfl
theorem ROf4_any (l : List UInt8) (hl : l.length ≤ 1000000) (w : World) :
    Calls Try.prog 29 #[txV l] w fun e w' => e = .returned (wpV (reW l l.length) (imW l l.length)) ∧ Below w.heap.size w w' := by
  have hsz : (⟨l.toArray⟩ : ByteArray).size = l.length := mk_size l
  refine sx_fn (S := SX) (M := []) (N := 34) (H0 := []) Try.func29 rfl rfl rfl (Sat.nil _ _) ?_
  ((try refine sx_use ?_); (repeat (refine SxNew.mk fun _ => ?_; (try refine sx_use ?_))))
  rename_i b2 b3
  refine SxCode.loop (σ := Nat) [4] [5, 6, 7, 8, 11, 12, 13, 14, 15, 16, 17, 18, 19, 20, 21, 22, 9, 10, 4] (fun k => [.int .i64 (k : Nat)]) (fun k => [.blk b3 88 [.int .i64 (wAt l 0 k), .int .i64 (wAt l 1 k), .int .i64 (wAt l 2 k), .int .i64 (wAt l 3 k)], .blk b2 58 [.int .i64 0, .int .i64 0]]) (fun k => k ≤ l.length) (fun k => l.length - k) 0 [0, 1] rfl rfl rfl rfl (Nat.zero_le _) ?_
  rintro k hk
  have hb0 := wAt_bd l 0 k
  have hb1 := wAt_bd l 1 k
  have hb2 := wAt_bd l 2 k
  have hb3 := wAt_bd l 3 k
  ((try refine sx_use ?_); (repeat (refine SxNew.mk fun _ => ?_; (try refine sx_use ?_))))
  refine SxIf.dec (fun h => ?_) (fun h => ?_)
  · have hlt : k < l.length := by omega
    have hc := (l.getD k 0).toNat_lt
    have hgd : (⟨l.toArray⟩ : ByteArray).data.toList.getD k 0 = l.getD k 0 := rfl
    ((try refine sx_use ?_); (repeat (refine SxNew.mk fun _ => ?_; (try refine sx_use ?_))))
    refine SxCode.draw rfl [.blk b3 88 [.int .i64 (wAt l 0 k), .int .i64 (wAt l 1 k), .int .i64 (wAt l 2 k), .int .i64 (wAt l 3 k)]] [12] [0] rfl rfl ?_
    ((try refine sx_use ?_); (repeat (refine SxNew.mk fun _ => ?_; (try refine sx_use ?_))))
    have hj4 : k % 4 = 0 ∨ k % 4 = 1 ∨ k % 4 = 2 ∨ k % 4 = 3 := by omega
    rcases hj4 with hj | hj | hj | hj
    · have e0 : wAt l 0 (k + 1) = wAt l 0 k + ((l.getD k 0).toNat : Int) := by rw [wAt_succ, if_pos hj]
      have e1 : wAt l 1 (k + 1) = wAt l 1 k := by rw [wAt_succ, if_neg (by omega), Int.add_zero]
      have e2 : wAt l 2 (k + 1) = wAt l 2 k := by rw [wAt_succ, if_neg (by omega), Int.add_zero]
      have e3 : wAt l 3 (k + 1) = wAt l 3 k := by rw [wAt_succ, if_neg (by omega), Int.add_zero]
      ((try refine sx_use ?_); (repeat (refine SxNew.mk fun _ => ?_; (try refine sx_use ?_))))
      refine SxIdx.mk 0 (by omega) (by decide) ?_
      ((try refine sx_use ?_); (repeat (refine SxNew.mk fun _ => ?_; (try refine sx_use ?_))))
      refine SxIdx.mk k rfl (by omega) ?_
      rw [hgd]
      ((try refine sx_use ?_); (repeat (refine SxNew.mk fun _ => ?_; (try refine sx_use ?_))))
      refine SxIdx.mk 0 (by omega) (by decide) ?_
      ((try refine sx_use ?_); (repeat (refine SxNew.mk fun _ => ?_; (try refine sx_use ?_))))
      exact SxRound.mk (k + 1) [0, 1] rfl (by rw [e0, e1, e2, e3]; rfl) rfl (by omega) (by omega)
    · have e0 : wAt l 0 (k + 1) = wAt l 0 k := by rw [wAt_succ, if_neg (by omega), Int.add_zero]
      have e1 : wAt l 1 (k + 1) = wAt l 1 k + ((l.getD k 0).toNat : Int) := by rw [wAt_succ, if_pos hj]
      have e2 : wAt l 2 (k + 1) = wAt l 2 k := by rw [wAt_succ, if_neg (by omega), Int.add_zero]
      have e3 : wAt l 3 (k + 1) = wAt l 3 k := by rw [wAt_succ, if_neg (by omega), Int.add_zero]
      ((try refine sx_use ?_); (repeat (refine SxNew.mk fun _ => ?_; (try refine sx_use ?_))))
      refine SxIdx.mk 1 (by omega) (by decide) ?_
      ((try refine sx_use ?_); (repeat (refine SxNew.mk fun _ => ?_; (try refine sx_use ?_))))
      refine SxIdx.mk k rfl (by omega) ?_
      rw [hgd]
      ((try refine sx_use ?_); (repeat (refine SxNew.mk fun _ => ?_; (try refine sx_use ?_))))
      refine SxIdx.mk 1 (by omega) (by decide) ?_
      ((try refine sx_use ?_); (repeat (refine SxNew.mk fun _ => ?_; (try refine sx_use ?_))))
      exact SxRound.mk (k + 1) [0, 1] rfl (by rw [e0, e1, e2, e3]; rfl) rfl (by omega) (by omega)
    · have e0 : wAt l 0 (k + 1) = wAt l 0 k := by rw [wAt_succ, if_neg (by omega), Int.add_zero]
      have e1 : wAt l 1 (k + 1) = wAt l 1 k := by rw [wAt_succ, if_neg (by omega), Int.add_zero]
      have e2 : wAt l 2 (k + 1) = wAt l 2 k + ((l.getD k 0).toNat : Int) := by rw [wAt_succ, if_pos hj]
      have e3 : wAt l 3 (k + 1) = wAt l 3 k := by rw [wAt_succ, if_neg (by omega), Int.add_zero]
      ((try refine sx_use ?_); (repeat (refine SxNew.mk fun _ => ?_; (try refine sx_use ?_))))
      refine SxIdx.mk 2 (by omega) (by decide) ?_
      ((try refine sx_use ?_); (repeat (refine SxNew.mk fun _ => ?_; (try refine sx_use ?_))))
      refine SxIdx.mk k rfl (by omega) ?_
      rw [hgd]
      ((try refine sx_use ?_); (repeat (refine SxNew.mk fun _ => ?_; (try refine sx_use ?_))))
      refine SxIdx.mk 2 (by omega) (by decide) ?_
      ((try refine sx_use ?_); (repeat (refine SxNew.mk fun _ => ?_; (try refine sx_use ?_))))
      exact SxRound.mk (k + 1) [0, 1] rfl (by rw [e0, e1, e2, e3]; rfl) rfl (by omega) (by omega)
    · have e0 : wAt l 0 (k + 1) = wAt l 0 k := by rw [wAt_succ, if_neg (by omega), Int.add_zero]
      have e1 : wAt l 1 (k + 1) = wAt l 1 k := by rw [wAt_succ, if_neg (by omega), Int.add_zero]
      have e2 : wAt l 2 (k + 1) = wAt l 2 k := by rw [wAt_succ, if_neg (by omega), Int.add_zero]
      have e3 : wAt l 3 (k + 1) = wAt l 3 k + ((l.getD k 0).toNat : Int) := by rw [wAt_succ, if_pos hj]
      ((try refine sx_use ?_); (repeat (refine SxNew.mk fun _ => ?_; (try refine sx_use ?_))))
      refine SxIdx.mk 3 (by omega) (by decide) ?_
      ((try refine sx_use ?_); (repeat (refine SxNew.mk fun _ => ?_; (try refine sx_use ?_))))
      refine SxIdx.mk k rfl (by omega) ?_
      rw [hgd]
      ((try refine sx_use ?_); (repeat (refine SxNew.mk fun _ => ?_; (try refine sx_use ?_))))
      refine SxIdx.mk 3 (by omega) (by decide) ?_
      ((try refine sx_use ?_); (repeat (refine SxNew.mk fun _ => ?_; (try refine sx_use ?_))))
      exact SxRound.mk (k + 1) [0, 1] rfl (by rw [e0, e1, e2, e3]; rfl) rfl (by omega) (by omega)
  · obtain rfl : k = l.length := by omega
    ((try refine sx_use ?_); (repeat (refine SxNew.mk fun _ => ?_; (try refine sx_use ?_))))
    refine SxIdx.mk 0 rfl (by decide) ?_
    ((try refine sx_use ?_); (repeat (refine SxNew.mk fun _ => ?_; (try refine sx_use ?_))))
    refine SxIdx.mk 2 rfl (by decide) ?_
    ((try refine sx_use ?_); (repeat (refine SxNew.mk fun _ => ?_; (try refine sx_use ?_))))
    refine SxIdx.mk 1 rfl (by decide) ?_
    ((try refine sx_use ?_); (repeat (refine SxNew.mk fun _ => ?_; (try refine sx_use ?_))))
    refine SxIdx.mk 3 rfl (by decide) ?_
    ((try refine sx_use ?_); (repeat (refine SxNew.mk fun _ => ?_; (try refine sx_use ?_))))
    exact SxDone.mk fun w' hs => ⟨rfl, hs.touch.below⟩
theorem RTurn4_any (a b : Int) (ha : a.natAbs ≤ 1000000000000) (hb : b.natAbs ≤ 1000000000000) (k : Nat) (hk : k ≤ 1000000000) (w : World) :
    Calls Try.prog 60 #[wpV a b, .int .i64 k] w fun e w' => e = .returned (wpV (turnW a b (k % 4)).1 (turnW a b (k % 4)).2) ∧ Below w.heap.size w w' := by
  refine sx_fn (S := SX) (M := []) (N := 22) (H0 := []) Try.func60 rfl rfl rfl (Sat.nil _ _) ?_
  ((try refine sx_use ?_); (repeat (refine SxNew.mk fun _ => ?_; (try refine sx_use ?_))))
  rename_i b2 b4
  refine SxCode.loop (σ := Nat) [1] [11, 12, 15, 16, 17, 18, 19, 20, 13, 14, 1] (fun j => [.int .i64 ((k % 4 - j : Nat) : Int)]) (fun j => [.blk b4 58 [.int .i64 0, .int .i64 0], .blk b2 58 [.int .i64 (turnW a b j).1, .int .i64 (turnW a b j).2]]) (fun j => j ≤ k % 4) (fun j => k % 4 - j) 0 [0, 1] rfl rfl rfl rfl (Nat.zero_le _) ?_
  rintro j hj
  have hbd := turnW_bd a b j
  ((try refine sx_use ?_); (repeat (refine SxNew.mk fun _ => ?_; (try refine sx_use ?_))))
  refine SxIf.dec (fun h => ?_) (fun h => ?_)
  · ((try refine sx_use ?_); (repeat (refine SxNew.mk fun _ => ?_; (try refine sx_use ?_))))
    refine SxRun.ineg (by omega) (by omega) ?_
    ((try refine sx_use ?_); (repeat (refine SxNew.mk fun _ => ?_; (try refine sx_use ?_))))
    exact SxRound.mk (j + 1) [0, 1] (by rw [show ((k % 4 - (j + 1) : Nat) : Int) = ((k % 4 - j : Nat) : Int) - 1 by omega]; rfl) rfl rfl (by omega) (by omega)
  · obtain rfl : j = k % 4 := by omega
    ((try refine sx_use ?_); (repeat (refine SxNew.mk fun _ => ?_; (try refine sx_use ?_))))
    exact SxDone.mk fun w' hs => ⟨rfl, hs.touch.below⟩
theorem RJoin4_any (A B C D : Int) (ha : A.natAbs ≤ 1000000000000) (hb : B.natAbs ≤ 1000000000000) (hc : C.natAbs ≤ 1000000000000) (hd : D.natAbs ≤ 1000000000000) (k : Nat) (hk : k ≤ 1000000000) (w : World) :
    Calls Try.prog 31 #[wpV A B, .int .i64 k, wpV C D] w fun e w' => e = .returned (wpV (A + (turnW C D (k % 4)).1) (B + (turnW C D (k % 4)).2)) ∧ Below w.heap.size w w' := by
  have hbd := turnW_bd C D (k % 4)
  refine sx_fn (S := SX) (M := []) (N := 22) (H0 := []) Try.func31 rfl rfl rfl (Sat.nil _ _) ?_
  ((try refine sx_use ?_); (repeat (refine SxNew.mk fun _ => ?_; (try refine sx_use ?_))))
  refine SxCall.quiet (RTurn4_any C D hc hd k hk) ?_
  ((try refine sx_use ?_); (repeat (refine SxNew.mk fun _ => ?_; (try refine sx_use ?_))))
  exact SxDone.mk fun w' hs => ⟨rfl, hs.touch.below⟩
end Go.Proofs.Ytbbngmlgpjepnaa
