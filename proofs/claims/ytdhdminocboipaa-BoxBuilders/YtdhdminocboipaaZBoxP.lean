/- The laws of layer 14: awake, BoxNobody, BoxOnce. -/
import Derived.Test.YtdhdminocboipaaZBoxO
import Derived.Test.YtdhdminocboipaaZBoxN
import Derived.Test.YtdhdminocboipaaZOpen
namespace Go.Proofs.Ytdhdminocboipaa
open Go.RowKit

def helloL : List UInt8 := [104, 101, 108, 108, 111]
theorem hello_may : mayB 7 [helloL] = true := by
  unfold mayB
  rw [lensB_t (l := lenL [helloL]) ⟨by decide, by decide, by intro n hn; simp [lenL, helloL] at hn; omega, by decide⟩]
  decide
theorem hello_facts : (buildL 7 [helloL]).length = 25 ∧ headOk (buildL 7 [helloL]) ∧ idN (buildL 7 [helloL]) = 7 ∧ cntP (buildL 7 [helloL]) = 1 ∧ slP (buildL 7 [helloL]) 1 = slOf [helloL] := by
  have h := mixed 7 [helloL] [helloL] hello_may rfl
  rw [← buildL_mix] at h
  refine ⟨?_, h.ok, h.id, h.cnt, ?_⟩
  · unfold buildL
    rw [List.length_append, sealL_len, frontL_len, slOf_len]
    rfl
  · have := h.slots
    unfold slH at this
    rw [h.cnt] at this
    exact this
theorem awake_any (w : World) : Calls Try.prog 12 #[] w fun e w' => e = .returned (.bool true) ∧ Below w.heap.size w w' := by
  obtain ⟨hlen, hok, hid, hcnt, hsl⟩ := hello_facts
  have hB := fun (w : World) (ao : Option Addr) (hs : Rd w ao ([helloL].map txV)) => BBuild_any 7 (by omega) [helloL] ao 1 (by decide) w hs (by decide) (by intro x hx; simp at hx; subst hx; decide)
  unfold buildV at hB
  rw [if_pos hello_may] at hB
  have hH := fun (w : World) => (BHead_any (buildL 7 [helloL]) (by omega) w).mono fun e w' h => h.1 hok
  rw [hid, hcnt, hsl] at hH
  have hgood : goodB 7 (slOf [helloL]) = true := by rw [good_slOf]; exact hello_may
  have hW := fun (w : World) (ao : Option Addr) (cap : Nat) (h : 1 ≤ cap) (hs : Rd w ao ((slOf [helloL]).flatMap encS)) => BWhere_any 7 (slOf [helloL]) ao cap w hs h (by decide) 0
  have hwv : whereV 7 (slOf [helloL]) 0 = (20, 5, 0) := by unfold whereV; rw [if_pos hgood]; decide
  rw [hwv] at hW
  have hS := fun (w : World) (ao : Option Addr) (cap : Nat) (hs : Rd w ao ((slOf [helloL]).flatMap encS)) => BSize_any 7 (slOf [helloL]) ao cap w hs (by decide)
  have hsv : sizeV 7 (slOf [helloL]) = 25 := by unfold sizeV; rw [if_pos hgood]; decide
  rw [hsv] at hS
  refine sx_fn (S := SX) (M := []) (N := 52) (H0 := []) Try.func12 rfl rfl rfl (Sat.nil _ _) ?_
  ((try refine sx_use ?_); (repeat (refine SxNew.mk fun _ => ?_; (try refine sx_use ?_))))
  refine SxCall.quietS (fun w hs => hB w _ (hs.rowRd 0 rfl (by decide))) ?_
  ((try refine sx_use ?_); (repeat (refine SxNew.mk fun _ => ?_; (try refine sx_use ?_))))
  refine SxCall.newRow (v := fun ao cap => .tuple #[hdV 7 ao 1 cap, .int .i64 0]) (fun w _ => hH w) fun ao cap => ?_
  ((try refine sx_use ?_); (repeat (refine SxNew.mk fun _ => ?_; (try refine sx_use ?_))))
  refine SxCall.quietS (fun w hs => hW w ao cap (row_cap (hs.row 1 rfl)) (hs.rowRd 1 rfl (by decide))) ?_
  ((try refine sx_use ?_); (repeat (refine SxNew.mk fun _ => ?_; (try refine sx_use ?_))))
  ((try refine sx_use ?_); (repeat (refine SxNew.mk fun _ => ?_; (try refine sx_use ?_))))
  refine SxCall.quietS (fun w hs => hS w ao cap (hs.rowRd 1 rfl (by decide))) ?_
  ((try refine sx_use ?_); (repeat (refine SxNew.mk fun _ => ?_; (try refine sx_use ?_))))
  exact SxDone.mk fun w' hs => ⟨rfl, hs.touch.below⟩
theorem BoxNobody_law (w : World) (s : ByteArray) (hs : s.size ≤ maxLen) (i : Int) (hi : IntKind.i64.min ≤ i ∧ i ≤ IntKind.i64.max) :
    Calls Try.prog 7 #[.string s, .int .i64 i] w fun e w' => e = .returned (.bool true) ∧ Below w.heap.size w w' := by
  refine sx_fn (S := SX) (M := []) (N := 59) (H0 := []) Try.func7 rfl rfl rfl (Sat.nil _ _) ?_
  ((try refine sx_use ?_); (repeat (refine SxNew.mk fun _ => ?_; (try refine sx_use ?_))))
  refine SxCall.sat [] (fun w hs => Add_nil hs s) ?_
  ((try refine sx_use ?_); (repeat (refine SxNew.mk fun _ => ?_; (try refine sx_use ?_))))
  refine SxCall.sat [] (fun w hs => BChunk_nil hs i) ?_
  ((try refine sx_use ?_); (repeat (refine SxNew.mk fun _ => ?_; (try refine sx_use ?_))))
  refine SxCall.sat [] (fun w hs => Seal_nil hs) ?_
  ((try refine sx_use ?_); (repeat (refine SxNew.mk fun _ => ?_; (try refine sx_use ?_))))
  refine SxIf.strT rfl ?_
  ((try refine sx_use ?_); (repeat (refine SxNew.mk fun _ => ?_; (try refine sx_use ?_))))
  refine SxIf.strT rfl ?_
  ((try refine sx_use ?_); (repeat (refine SxNew.mk fun _ => ?_; (try refine sx_use ?_))))
  refine SxCall.sat [] (fun w hs => BLen_nil hs) ?_
  ((try refine sx_use ?_); (repeat (refine SxNew.mk fun _ => ?_; (try refine sx_use ?_))))
  refine SxCall.quiet awake_any ?_
  ((try refine sx_use ?_); (repeat (refine SxNew.mk fun _ => ?_; (try refine sx_use ?_))))
  exact SxDone.mk fun w' hs => ⟨rfl, hs.touch.below⟩
end Go.Proofs.Ytdhdminocboipaa
