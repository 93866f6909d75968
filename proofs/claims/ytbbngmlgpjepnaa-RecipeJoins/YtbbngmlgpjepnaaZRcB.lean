/- The walks of package recipe: Clone, weighed, Of, Put; awake. -/
import Derived.Test.YtbbngmlgpjepnaaZRcA
import Derived.Test.YtbbngmlgpjepnaaZCrcT
namespace Go.Proofs.Ytbbngmlgpjepnaa
open Go.RowKit

theorem mkr_append (l m : List UInt8) : (⟨l.toArray⟩ : ByteArray) ++ (⟨m.toArray⟩ : ByteArray) = ⟨(l ++ m).toArray⟩ := by
  rw [ByteArray.mk_append_mk]
theorem txR_append (l m : List UInt8) : Value.string ((⟨l.toArray⟩ : ByteArray) ++ (⟨m.toArray⟩ : ByteArray)) = txV (l ++ m) := by rw [mkr_append]; rfl
theorem rc32_any (x : Int) (h : 0 ≤ x ∧ x < 4294967296) (w : World) : Calls Try.prog 43 #[.int .u32 x] w fun e w' => e = .returned (txV (numL x.toNat 4)) ∧ Below w.heap.size w w' := by
  obtain ⟨n, rfl⟩ : ∃ n : Nat, x = n := ⟨x.toNat, by omega⟩
  exact U32_any n (by omega) w
theorem rc16_any (x : Int) (h : 0 ≤ x ∧ x < 65536) (w : World) : Calls Try.prog 45 #[.int .u16 x] w fun e w' => e = .returned (txV (numL x.toNat 2)) ∧ Below w.heap.size w w' := by
  obtain ⟨n, rfl⟩ : ∃ n : Nat, x = n := ⟨x.toNat, by omega⟩
  exact PU16_any n (by omega) w
def textL (l : List UInt8) : List UInt8 := numL l.length 4 ++ l
theorem numL_len (n k : Nat) : (numL n k).length = k := numL_length n k
theorem PText_any (l : List UInt8) (hl : l.length ≤ 1000000) (w : World) : Calls Try.prog 44 #[txV l] w fun e w' => e = .returned (txV (textL l)) ∧ Below w.heap.size w w' := by
  have hsz : (⟨l.toArray⟩ : ByteArray).size = l.length := mk_size l
  refine sx_fn (S := SX) (M := []) (N := 9) (H0 := []) Try.func44 rfl rfl rfl (Sat.nil _ _) ?_
  ((try refine sx_use ?_); (repeat (refine SxNew.mk fun _ => ?_; (try refine sx_use ?_))))
  refine SxRng.u32 (by omega) (by omega) ?_
  ((try refine sx_use ?_); (repeat (refine SxNew.mk fun _ => ?_; (try refine sx_use ?_))))
  refine SxCall.quiet (rc32_any _ ⟨by omega, by omega⟩) ?_
  rw [show ((((⟨l.toArray⟩ : ByteArray).size : Nat) : Int)).toNat = l.length by omega]
  ((try refine sx_use ?_); (repeat (refine SxNew.mk fun _ => ?_; (try refine sx_use ?_))))
  refine SxLe.mk (by rw [mk_size, numL_len]; omega) ?_
  ((try refine sx_use ?_); (repeat (refine SxNew.mk fun _ => ?_; (try refine sx_use ?_))))
  exact SxDone.mk fun w' hs => ⟨by unfold textL; rw [← txR_append]; rfl, hs.touch.below⟩
theorem allOne_map {α : Type} (f : α → Value) (h : ∀ x, (f x).oneCell' = true) : ∀ l : List α, allOne (l.map f) = true
  | [] => rfl
  | x :: l => by simp [allOne, h x, allOne_map f h l]
theorem Clone_any (ms : List Int) (ao : Option Addr) (cap : Nat) (hl : ms.length ≤ 1000000) (w : World) (hr : Rd w ao (ms.map u4V)) :
    Calls Try.prog 56 #[.slice ao ms.length cap] w fun e w' => ∃ ao' cap', e = .returned (.slice ao' ms.length cap') ∧ NewRow w w' ao' ms.length cap' 42 1 (ms.map u4V) := by
  refine sx_fn (S := SX) (M := []) (N := 8) (H0 := [.row none 0 0 42 1 [], .rd ao (ms.map u4V)]) Try.func56 rfl rfl rfl ((Sat.oneRd _ hr).nilRow 42 1) ?_
  ((try refine sx_use ?_); (repeat (refine SxNew.mk fun _ => ?_; (try refine sx_use ?_))))
  refine SxRun.sEqNil Try.underlying25 ?_
  cases ao with
  | none =>
    have h0 : ms = [] := by
      cases ms with
      | nil => rfl
      | cons x l => obtain ⟨g, off, h, _⟩ := hr.2 (by simp); cases h
    subst h0
    ((try refine sx_use ?_); (repeat (refine SxNew.mk fun _ => ?_; (try refine sx_use ?_))))
    exact SxDone.mk fun w' hs => ⟨none, 0, rfl, hs.newRow 0 rfl⟩
  | some a =>
    ((try refine sx_use ?_); (repeat (refine SxNew.mk fun _ => ?_; (try refine sx_use ?_))))
    refine SxApp.mk 0 rfl 2 (.inr (.inl rfl)) (by simp) (allOne_map u4V (fun _ => rfl) ms) (by unfold maxLen; omega) (by omega) rfl fun ao' cap' => ?_
    ((try refine sx_use ?_); (repeat (refine SxNew.mk fun _ => ?_; (try refine sx_use ?_))))
    exact SxDone.mk fun w' hs => ⟨ao', cap', by rw [Nat.zero_add]; rfl, by have := hs.newRow 0 rfl; rw [Nat.zero_add] at this; exact this⟩
set_option maxHeartbeats 2000000 in
theorem weighed_any (nm : List UInt8) (sz : Int) (a b : Nat) (re im : Int) (ha : IsW a re) (hb : IsW b im) (ms : List Int) (hn : nm.length ≤ maxLen) (ao : Option Addr) (cap : Nat) (hl : ms.length ≤ 1000000) (w : World) (hr : Rd w ao (ms.map u4V)) :
    Calls Try.prog 27 #[txV nm, .int .i64 sz, .complex .f64 a b, .slice ao ms.length cap] w fun e w' => (mayR nm.length sz re im ms → ∃ ao' cap', e = .returned (.tuple #[rcV nm sz re im ao' ms.length cap', .int .i64 0]) ∧ NewRow w w' ao' ms.length cap' 42 1 (ms.map u4V)) ∧ (¬ mayR nm.length sz re im ms → e = .returned (.tuple #[rcV [] 0 0 0 none 0 0, .int .i64 1]) ∧ Below w.heap.size w w') := by
  refine sx_fn (S := SX) (M := []) (N := 36) (H0 := [.rd ao (ms.map u4V)]) Try.func27 rfl rfl rfl (Sat.oneRd _ hr) ?_
  ((try refine sx_use ?_); (repeat (refine SxNew.mk fun _ => ?_; (try refine sx_use ?_))))
  refine SxCall.quiet (Parts_any a b re im ha hb) ?_
  ((try refine sx_use ?_); (repeat (refine SxNew.mk fun _ => ?_; (try refine sx_use ?_))))
  refine SxCall.newRow (v := fun ao cap => .slice ao ms.length cap) (fun w hs => Clone_any ms ao cap hl w (hs.rd 1 rfl)) fun bo bcap => ?_
  ((try refine sx_use ?_); (repeat (refine SxNew.mk fun _ => ?_; (try refine sx_use ?_))))
  have hlm : (ms.map u4V).length ≤ maxLen := by rw [List.length_map]; unfold maxLen; omega
  refine SxCall.quietS (fun w hs => Check_any nm sz re im ms hn bo bcap w (hs.rowRd 1 rfl hlm)) ?_
  by_cases hm : mayR nm.length sz re im ms
  · rw [show chkR nm.length sz re im ms = 0 from if_pos hm]
    ((try refine sx_use ?_); (repeat (refine SxNew.mk fun _ => ?_; (try refine sx_use ?_))))
    exact SxDone.mk fun w' hs => ⟨fun _ => ⟨bo, bcap, rfl, hs.newRow 1 rfl⟩, fun h => absurd hm h⟩
  · rw [show chkR nm.length sz re im ms = 1 from if_neg hm]
    ((try refine sx_use ?_); (repeat (refine SxNew.mk fun _ => ?_; (try refine sx_use ?_))))
    exact SxDone.mk fun w' hs => ⟨fun h => absurd h hm, fun _ => ⟨rfl, hs.touch.below⟩⟩
theorem reW_bd (l : List UInt8) (k : Nat) : -(255 * (k : Int)) ≤ reW l k ∧ reW l k ≤ 255 * k ∧ -(255 * (k : Int)) ≤ imW l k ∧ imW l k ≤ 255 * k := by
  have h0 := wAt_bd l 0 k
  have h1 := wAt_bd l 1 k
  have h2 := wAt_bd l 2 k
  have h3 := wAt_bd l 3 k
  unfold reW imW
  omega
theorem Of_any (nm l : List UInt8) (hl : l.length ≤ 1000000) (ms : List Int) (hn : nm.length ≤ maxLen) (ao : Option Addr) (cap : Nat) (hml : ms.length ≤ 1000000) (w : World) (hr : Rd w ao (ms.map u4V)) :
    Calls Try.prog 11 #[txV nm, txV l, .slice ao ms.length cap] w fun e w' => (mayR nm.length l.length (reW l l.length) (imW l l.length) ms → ∃ ao' cap', e = .returned (.tuple #[rcV nm l.length (reW l l.length) (imW l l.length) ao' ms.length cap', .int .i64 0]) ∧ NewRow w w' ao' ms.length cap' 42 1 (ms.map u4V)) ∧ (¬ mayR nm.length l.length (reW l l.length) (imW l l.length) ms → e = .returned (.tuple #[rcV [] 0 0 0 none 0 0, .int .i64 1]) ∧ Below w.heap.size w w') := by
  have hsz : (⟨l.toArray⟩ : ByteArray).size = l.length := mk_size l
  have hbd := reW_bd l l.length
  have hW := fun (w : World) (hs : Rd w ao (ms.map u4V)) => weighed_any nm l.length _ _ (reW l l.length) (imW l l.length) (isW_fI _ (by omega)) (isW_fI _ (by omega)) ms hn ao cap hml w hs
  refine sx_fn (S := SX) (M := []) (N := 17) (H0 := [.rd ao (ms.map u4V)]) Try.func11 rfl rfl rfl (Sat.oneRd _ hr) ?_
  ((try refine sx_use ?_); (repeat (refine SxNew.mk fun _ => ?_; (try refine sx_use ?_))))
  refine SxCall.quiet (WOf_any l hl) ?_
  ((try refine sx_use ?_); (repeat (refine SxNew.mk fun _ => ?_; (try refine sx_use ?_))))
  by_cases hm : mayR nm.length l.length (reW l l.length) (imW l l.length) ms
  · refine SxCall.newRow (v := fun ao' cap' => .tuple #[rcV nm l.length (reW l l.length) (imW l l.length) ao' ms.length cap', .int .i64 0]) (fun w hs => (hW w (hs.rd 1 rfl)).mono fun e w' h => h.1 hm) fun bo bcap => ?_
    ((try refine sx_use ?_); (repeat (refine SxNew.mk fun _ => ?_; (try refine sx_use ?_))))
    exact SxDone.mk fun w' hs => ⟨fun _ => ⟨bo, bcap, rfl, hs.newRow 0 rfl⟩, fun h => absurd hm h⟩
  · refine SxCall.quietS (fun w hs => (hW w (hs.rd 1 rfl)).mono fun e w' h => h.2 hm) ?_
    ((try refine sx_use ?_); (repeat (refine SxNew.mk fun _ => ?_; (try refine sx_use ?_))))
    exact SxDone.mk fun w' hs => ⟨fun h => absurd h hm, fun _ => ⟨rfl, hs.touch.below⟩⟩
end Go.Proofs.Ytbbngmlgpjepnaa
