/- The walks: Check, of; the document's Of. -/
import Derived.Test.YtdhdminocboipaaZBoxD
import Derived.Test.YtdhdminocboipaaZCrcT
namespace Go.Proofs.Ytdhdminocboipaa
open Go.RowKit

def lens0 (ls : List (List UInt8)) : List (Int × Int) := ls.map fun x => ((x.length : Int), 0)
def crcI (x : List UInt8) : Int := (crcMore 0 x : Nat)
/-- The slots of chunks. -/
def slOf (ls : List (List UInt8)) : List (Int × Int) := ls.map fun x => ((x.length : Int), crcI x)
theorem slLens_lens0 (ls : List (List UInt8)) : slLens (lens0 ls) = lenL ls := by simp [slLens, lens0, lenL]
theorem slLens_slOf (ls : List (List UInt8)) : slLens (slOf ls) = lenL ls := by simp [slLens, slOf, lenL]
theorem good_lens0 (id : Int) (ls : List (List UInt8)) : goodB id (lens0 ls) = mayB id ls := by rw [goodB_eq, slLens_lens0]; rfl
theorem good_slOf (id : Int) (ls : List (List UInt8)) : goodB id (slOf ls) = mayB id ls := by rw [goodB_eq, slLens_slOf]; rfl
def chkV (b : Bool) : Int := if b then 0 else 1
theorem Check_any (id : Int) (ls : List (List UInt8)) (ao : Option Addr) (cap : Nat) (w : World) (hr : Rd w ao (ls.map txV)) (hl : ls.length ≤ 1000000) :
    Calls Try.prog 11 #[.int .u32 id, .slice ao ls.length cap] w fun e w' => e = .returned (.int .i64 (chkV (mayB id ls))) ∧ Below w.heap.size w w' := by
  refine sx_fn (S := SX) (M := []) (N := 28) (H0 := [.row none 0 0 70 2 [], .rd ao (ls.map txV)]) Try.func11 rfl rfl rfl ((Sat.oneRd _ hr).nilRow 70 2) ?_
  ((try refine sx_use ?_); (repeat (refine SxNew.mk fun _ => ?_; (try refine sx_use ?_))))
  rename_i b
  refine SxCode.loop (σ := Nat × Option Addr × Nat) [12] [13, 14, 15, 7, 16, 17, 18, 19, 20, 21, 22, 23, 24, 12] (fun s => [.int .i64 (s.1 : Nat)]) (fun s => [.blk b 36 [.int .u32 id, .slice s.2.1 s.1 s.2.2], .row s.2.1 s.1 s.2.2 70 2 ((lens0 (ls.take s.1)).flatMap encS), .rd ao (ls.map txV)]) (fun s => s.1 ≤ ls.length) (fun s => ls.length - s.1) (0, none, 0) [0, 1, 2] rfl rfl rfl rfl (Nat.zero_le _) ?_
  rintro ⟨k, bo, bc⟩ hk
  dsimp only at hk ⊢
  ((try refine sx_use ?_); (repeat (refine SxNew.mk fun _ => ?_; (try refine sx_use ?_))))
  refine SxIf.dec (fun h => ?_) (fun h => ?_)
  · have hlt : k < ls.length := by omega
    obtain ⟨x, hx⟩ : ∃ x, ls[k]? = some x := ⟨ls[k], by simp [hlt]⟩
    have hsn : lens0 (ls.take (k + 1)) = lens0 (ls.take k) ++ [((x.length : Int), 0)] := map_snoc _ ls k x hx
    ((try refine sx_use ?_); (repeat (refine SxNew.mk fun _ => ?_; (try refine sx_use ?_))))
    refine SxIA.rd 2 _ rfl k rfl hlt (by simpa using hlt) fun g off ha => ?_
    ((try refine sx_use ?_); (repeat (refine SxNew.mk fun _ => ?_; (try refine sx_use ?_))))
    refine SxLd.rd 2 rfl ha rfl (by rw [Nat.mul_one]; exact txV_get hx) ?_
    ((try refine sx_use ?_); (repeat (refine SxNew.mk fun _ => ?_; (try refine sx_use ?_))))
    refine SxApp.mk 2 rfl 0 (.inr (.inr (.inr ⟨by decide, _, rfl⟩))) rfl rfl (by unfold maxLen; omega) (by omega) (cs' := (lens0 (ls.take (k + 1))).flatMap encS) (by rw [hsn, List.flatMap_append]; rfl) fun ao' cap' => ?_
    ((try refine sx_use ?_); (repeat (refine SxNew.mk fun _ => ?_; (try refine sx_use ?_))))
    exact SxRound.mk (k + 1, ao', cap') [1, 2, 3] rfl rfl rfl hlt (by simp; omega)
  · obtain rfl : k = ls.length := by omega
    rw [List.take_length]
    have hln : (lens0 ls).length = ls.length := by simp [lens0]
    ((try refine sx_use ?_); (repeat (refine SxNew.mk fun _ => ?_; (try refine sx_use ?_))))
    refine SxCall.quietS (fun w hs => by rw [← hln]; exact good_any id (lens0 ls) bo bc w (hs.rowRd 1 rfl (by rw [flat_len encS 2 (fun _ => rfl), hln]; unfold maxLen; omega))) ?_
    rw [good_lens0]
    ((try refine sx_use ?_); (repeat (refine SxNew.mk fun _ => ?_; (try refine sx_use ?_))))
    refine SxIf.nt ⟨fun hg => ?_, fun hg => ?_⟩
    · ((try refine sx_use ?_); (repeat (refine SxNew.mk fun _ => ?_; (try refine sx_use ?_))))
      exact SxDone.mk fun w' hs => ⟨by rw [hg]; rfl, hs.touch.below⟩
    · ((try refine sx_use ?_); (repeat (refine SxNew.mk fun _ => ?_; (try refine sx_use ?_))))
      exact SxDone.mk fun w' hs => ⟨by rw [hg]; rfl, hs.touch.below⟩
theorem bsum_any (x : List UInt8) (hx : x.length ≤ 1000000) (w : World) : Calls Try.prog 55 #[txV x] w fun e w' => e = .returned (.int .u32 (crcI x)) ∧ w = w' :=
  sum_any ⟨x.toArray⟩ (by rw [mk_size]; unfold maxLen; omega) w
theorem rsum_any (x : List UInt8) (hx : x.length ≤ 1000000) (w : World) : Calls Try.prog 41 #[txV x] w fun e w' => e = .returned (.int .u32 (crcI x)) ∧ Below w.heap.size w w' := by
  have h := RSum_any ⟨x.toArray⟩ (by rw [mk_size]; exact hx) w
  rw [longSum_eq] at h
  exact h
theorem of_any (id : Int) (ls : List (List UInt8)) (ao : Option Addr) (cap : Nat) (w : World) (hr : Rd w ao (ls.map txV)) (hl : ls.length ≤ 1000000) (hx : ∀ x ∈ ls, x.length ≤ 1000000) :
    Calls Try.prog 46 #[.int .u32 id, .slice ao ls.length cap] w fun e w' => ∃ ao' cap', e = .returned (hdV id ao' ls.length cap') ∧ NewRow w w' ao' ls.length cap' 70 2 ((slOf ls).flatMap encS) := by
  refine sx_fn (S := SX) (M := []) (N := 28) (H0 := [.row none 0 0 70 2 [], .rd ao (ls.map txV)]) Try.func46 rfl rfl rfl ((Sat.oneRd _ hr).nilRow 70 2) ?_
  ((try refine sx_use ?_); (repeat (refine SxNew.mk fun _ => ?_; (try refine sx_use ?_))))
  rename_i b0 b
  refine SxCode.loop (σ := Nat × Option Addr × Nat) [12] [13, 14, 15, 7, 16, 17, 18, 19, 20, 21, 22, 23, 24, 25, 26, 12] (fun s => [.int .i64 (s.1 : Nat)]) (fun s => [.blk b 36 [.int .u32 id, .slice s.2.1 s.1 s.2.2], .blk b0 36 [.int .u32 0, .slice none 0 0], .row s.2.1 s.1 s.2.2 70 2 ((slOf (ls.take s.1)).flatMap encS), .rd ao (ls.map txV)]) (fun s => s.1 ≤ ls.length) (fun s => ls.length - s.1) (0, none, 0) [0, 1, 2, 3] rfl rfl rfl rfl (Nat.zero_le _) ?_
  rintro ⟨k, bo, bc⟩ hk
  dsimp only at hk ⊢
  ((try refine sx_use ?_); (repeat (refine SxNew.mk fun _ => ?_; (try refine sx_use ?_))))
  refine SxIf.dec (fun h => ?_) (fun h => ?_)
  · have hlt : k < ls.length := by omega
    obtain ⟨x, hx0⟩ : ∃ x, ls[k]? = some x := ⟨ls[k], by simp [hlt]⟩
    have hsn : slOf (ls.take (k + 1)) = slOf (ls.take k) ++ [((x.length : Int), crcI x)] := map_snoc _ ls k x hx0
    ((try refine sx_use ?_); (repeat (refine SxNew.mk fun _ => ?_; (try refine sx_use ?_))))
    refine SxIA.rd 3 _ rfl k rfl hlt (by simpa using hlt) fun g off ha => ?_
    ((try refine sx_use ?_); (repeat (refine SxNew.mk fun _ => ?_; (try refine sx_use ?_))))
    refine SxLd.rd 3 rfl ha rfl (by rw [Nat.mul_one]; exact txV_get hx0) ?_
    ((try refine sx_use ?_); (repeat (refine SxNew.mk fun _ => ?_; (try refine sx_use ?_))))
    refine SxCode.draw rfl [.blk b 36 [.int .u32 id, .slice bo k bc]] [10] [0] rfl rfl ?_
    ((try refine sx_use ?_); (repeat (refine SxNew.mk fun _ => ?_; (try refine sx_use ?_))))
    refine SxCall.pure (bsum_any x (hx x (List.mem_of_getElem? hx0))) ?_
    ((try refine sx_use ?_); (repeat (refine SxNew.mk fun _ => ?_; (try refine sx_use ?_))))
    refine SxApp.mk 3 rfl 0 (.inr (.inr (.inr ⟨by decide, _, rfl⟩))) rfl rfl (by unfold maxLen; omega) (by omega) (cs' := (slOf (ls.take (k + 1))).flatMap encS) (by rw [hsn, List.flatMap_append]; rfl) fun ao' cap' => ?_
    ((try refine sx_use ?_); (repeat (refine SxNew.mk fun _ => ?_; (try refine sx_use ?_))))
    exact SxRound.mk (k + 1, ao', cap') [1, 2, 3, 4] rfl rfl rfl hlt (by simp; omega)
  · obtain rfl : k = ls.length := by omega
    rw [List.take_length]
    ((try refine sx_use ?_); (repeat (refine SxNew.mk fun _ => ?_; (try refine sx_use ?_))))
    exact SxDone.mk fun w' hs => ⟨bo, bc, rfl, hs.newRow 2 rfl⟩
theorem ROf_any (id : Int) (ls : List (List UInt8)) (ao : Option Addr) (cap : Nat) (w : World) (hr : Rd w ao (ls.map txV)) (hl : ls.length ≤ 1000000) (hx : ∀ x ∈ ls, x.length ≤ 1000000) :
    Calls Try.prog 16 #[.int .u32 id, .slice ao ls.length cap] w fun e w' => ∃ ao' cap', e = .returned (hdV id ao' ls.length cap') ∧ NewRow w w' ao' ls.length cap' 70 2 ((slOf ls).flatMap encS) := by
  refine sx_fn (S := SX) (M := []) (N := 32) (H0 := [.row none 0 0 70 2 [], .rd ao (ls.map txV)]) Try.func16 rfl rfl rfl ((Sat.oneRd _ hr).nilRow 70 2) ?_
  ((try refine sx_use ?_); (repeat (refine SxNew.mk fun _ => ?_; (try refine sx_use ?_))))
  rename_i b0 b
  refine SxCode.loop (σ := Nat × Option Addr × Nat) [6] [9, 10, 11, 12, 15, 16, 17, 18, 19, 20, 21, 22, 23, 24, 25, 26, 27, 28, 29, 30, 13, 14, 6] (fun s => [.int .i64 (s.1 : Nat)]) (fun s => [.blk b 36 [.int .u32 id, .slice s.2.1 s.1 s.2.2], .blk b0 36 [.int .u32 0, .slice none 0 0], .row s.2.1 s.1 s.2.2 70 2 ((slOf (ls.take s.1)).flatMap encS), .rd ao (ls.map txV)]) (fun s => s.1 ≤ ls.length) (fun s => ls.length - s.1) (0, none, 0) [0, 1, 2, 3] rfl rfl rfl rfl (Nat.zero_le _) ?_
  rintro ⟨k, bo, bc⟩ hk
  dsimp only at hk ⊢
  ((try refine sx_use ?_); (repeat (refine SxNew.mk fun _ => ?_; (try refine sx_use ?_))))
  refine SxIf.dec (fun h => ?_) (fun h => ?_)
  · have hlt : k < ls.length := by omega
    obtain ⟨x, hx0⟩ : ∃ x, ls[k]? = some x := ⟨ls[k], by simp [hlt]⟩
    have hsn : slOf (ls.take (k + 1)) = slOf (ls.take k) ++ [((x.length : Int), crcI x)] := map_snoc _ ls k x hx0
    ((try refine sx_use ?_); (repeat (refine SxNew.mk fun _ => ?_; (try refine sx_use ?_))))
    refine SxCode.draw rfl [.blk b 36 [.int .u32 id, .slice bo k bc], .rd ao (ls.map txV)] [16] [0, 3] rfl rfl ?_
    ((try refine sx_use ?_); (repeat (refine SxNew.mk fun _ => ?_; (try refine sx_use ?_))))
    refine SxIA.rd 1 _ rfl k rfl hlt (by simpa using hlt) fun g off ha => ?_
    ((try refine sx_use ?_); (repeat (refine SxNew.mk fun _ => ?_; (try refine sx_use ?_))))
    refine SxLd.rd 1 rfl ha rfl (by rw [Nat.mul_one]; exact txV_get hx0) ?_
    ((try refine sx_use ?_); (repeat (refine SxNew.mk fun _ => ?_; (try refine sx_use ?_))))
    refine SxIA.rd 1 _ rfl k rfl hlt (by simpa using hlt) fun g off ha => ?_
    ((try refine sx_use ?_); (repeat (refine SxNew.mk fun _ => ?_; (try refine sx_use ?_))))
    refine SxLd.rd 1 rfl ha rfl (by rw [Nat.mul_one]; exact txV_get hx0) ?_
    ((try refine sx_use ?_); (repeat (refine SxNew.mk fun _ => ?_; (try refine sx_use ?_))))
    refine SxCall.quiet (rsum_any x (hx x (List.mem_of_getElem? hx0))) ?_
    ((try refine sx_use ?_); (repeat (refine SxNew.mk fun _ => ?_; (try refine sx_use ?_))))
    refine SxStable.mk [0, 3] rfl rfl ?_
    ((try refine sx_use ?_); (repeat (refine SxNew.mk fun _ => ?_; (try refine sx_use ?_))))
    refine SxStable.mk [1, 4] rfl rfl ?_
    ((try refine sx_use ?_); (repeat (refine SxNew.mk fun _ => ?_; (try refine sx_use ?_))))
    refine SxApp.mk 3 rfl 0 (.inr (.inr (.inr ⟨by decide, _, rfl⟩))) rfl rfl (by unfold maxLen; omega) (by omega) (cs' := (slOf (ls.take (k + 1))).flatMap encS) (by rw [hsn, List.flatMap_append]; rfl) fun ao' cap' => ?_
    ((try refine sx_use ?_); (repeat (refine SxNew.mk fun _ => ?_; (try refine sx_use ?_))))
    refine SxStable.mk [1, 4] rfl rfl ?_
    ((try refine sx_use ?_); (repeat (refine SxNew.mk fun _ => ?_; (try refine sx_use ?_))))
    exact SxRound.mk (k + 1, ao', cap') [1, 2, 3, 4] rfl rfl rfl hlt (by simp; omega)
  · obtain rfl : k = ls.length := by omega
    rw [List.take_length]
    ((try refine sx_use ?_); (repeat (refine SxNew.mk fun _ => ?_; (try refine sx_use ?_))))
    exact SxDone.mk fun w' hs => ⟨bo, bc, rfl, hs.newRow 2 rfl⟩
end Go.Proofs.Ytdhdminocboipaa
