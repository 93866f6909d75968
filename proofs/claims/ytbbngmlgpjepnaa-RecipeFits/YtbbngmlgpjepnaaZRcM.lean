/- The law of layer 16: RecipeFits. -/
import Derived.Test.YtbbngmlgpjepnaaZRcL
namespace Go.Proofs.Ytbbngmlgpjepnaa
open Go.RowKit

set_option maxHeartbeats 8000000 in
theorem RecipeFits_core (W0 : World) (nm l m : List UInt8) (hnl : nm.length ≤ maxLen) (ms : List Int) (ao : Option Addr) (cap : Nat) (hc : ms.length ≤ cap) (hr : Rd W0 ao (ms.map u4V)) :
    Calls Try.prog 4 #[txV nm, txV l, txV m, .slice ao ms.length cap] W0 fun e w' => e = .returned (.bool true) ∧ Below W0.heap.size W0 w' := by
  have hsz : (⟨nm.toArray⟩ : ByteArray).size = nm.length := mk_size nm
  have hcl : (cutL l).length ≤ 1000000 := by unfold cutL; rw [List.length_take]; omega
  have hcm : (cutL m).length ≤ 1000000 := by unfold cutL; rw [List.length_take]; omega
  refine sx_fn (S := SX) (M := []) (N := 77) (H0 := [.rd ao (ms.map u4V)]) Try.func4 rfl rfl rfl (Sat.oneRd _ hr) ?_
  ((try refine sx_use ?_); (repeat (refine SxNew.mk fun _ => ?_; (try refine sx_use ?_))))
  refine SxCall.quiet (cut_any l) ?_
  ((try refine sx_use ?_); (repeat (refine SxNew.mk fun _ => ?_; (try refine sx_use ?_))))
  refine SxCall.quiet (cut_any m) ?_
  ((try refine sx_use ?_); (repeat (refine SxNew.mk fun _ => ?_; (try refine sx_use ?_))))
  refine SxIf.dec (fun h1 => ?_) (fun h1 => ?_)
  · obtain ⟨ms1, hms⟩ : ∃ ms1, ms1 = ms.take 1030 := ⟨_, rfl⟩
    have hn1 : ms1.length = 1030 := by rw [hms, List.length_take]; omega
    have hml : ms1.length ≤ 1000000 := by omega
    have hlm : (ms1.map u4V).length ≤ maxLen := by rw [List.length_map]; unfold maxLen; omega
    have hrd1 : ∀ w, Rd w ao (ms.map u4V) → Rd w ao (ms1.map u4V) := fun w h => by have := Rd.take h 1030; rw [← List.map_take, ← hms] at this; exact this
    ((try refine sx_use ?_); (repeat (refine SxNew.mk fun _ => ?_; (try refine sx_use ?_))))
    refine SxBnd.mk 0 1030 rfl rfl (by omega) (by omega) fun ao' h3 h4 => ?_
    have hao : ao = ao' := (ao_same2 h3 h4).symm
    subst hao
    ((try refine sx_use ?_); (repeat (refine SxNew.mk fun _ => ?_; (try refine sx_use ?_))))
    refine SxIf.dec (fun h2 => ?_) (fun h2 => ?_)
    · obtain ⟨nm1, hnm⟩ : ∃ nm1, nm1 = nm.take 60 := ⟨_, rfl⟩
      have hnm1 : nm1.length ≤ maxLen := by rw [hnm, List.length_take]; unfold maxLen; omega
      ((try refine sx_use ?_); (repeat (refine SxNew.mk fun _ => ?_; (try refine sx_use ?_))))
      refine SxBnd.mk 0 60 rfl rfl (by omega) (by omega) ?_
      have hex : (⟨nm.toArray⟩ : ByteArray).extract 0 60 = ⟨nm1.toArray⟩ := by rw [mk_extract, hnm]; simp
      rw [hex]
      have hO := fun (w : World) (hs : Rd w ao (ms1.map u4V)) => Of_any nm1 (cutL l) hcl ms1 hnm1 ao cap hml w hs
      have hRO := fun (w : World) (hs : Rd w ao (ms1.map u4V)) => ROf_any nm1 (cutL l) hcl ms1 ao cap w hs
      rw [hn1] at hO hRO
      ((try refine sx_use ?_); (repeat (refine SxNew.mk fun _ => ?_; (try refine sx_use ?_))))
      by_cases hm : mayR nm1.length (cutL l).length (reW (cutL l) (cutL l).length) (imW (cutL l) (cutL l).length) ms1
      · rw [if_pos hm] at hRO
        refine SxCall.newRow (v := fun ao' cap' => .tuple #[rcV nm1 (cutL l).length (reW (cutL l) (cutL l).length) (imW (cutL l) (cutL l).length) ao' 1030 cap', .int .i64 0]) (fun w hs => (hO w (hrd1 w (hs.rd 0 rfl))).mono fun e w' h => h.1 hm) fun bo bcap => ?_
        ((try refine sx_use ?_); (repeat (refine SxNew.mk fun _ => ?_; (try refine sx_use ?_))))
        refine SxCall.quietS (fun w hs => hRO w (hrd1 w (hs.rd 2 rfl))) ?_
        ((try refine sx_use ?_); (repeat (refine SxNew.mk fun _ => ?_; (try refine sx_use ?_))))
        refine SxCall.quietS (v := .bool true) (fun w hs => by
          have h := RRSame_any ⟨nm1, (cutL l).length, reW (cutL l) (cutL l).length, imW (cutL l) (cutL l).length, ms1⟩ ⟨nm1, (cutL l).length, reW (cutL l) (cutL l).length, imW (cutL l) (cutL l).length, ms1⟩ bo ao bcap cap w (hs.rowRd 2 rfl hlm) (hrd1 w (hs.rd 3 rfl)) hml
          rw [decide_eq_true rfl] at h
          unfold Rc.v at h
          dsimp only at h
          rw [hn1] at h
          exact h) ?_
        ((try refine sx_use ?_); (repeat (refine SxNew.mk fun _ => ?_; (try refine sx_use ?_))))
        refine SxRun.bNe Try.underlying4 ?_
        ((try refine sx_use ?_); (repeat (refine SxNew.mk fun _ => ?_; (try refine sx_use ?_))))
        refine SxCall.quiet awake_any ?_
        ((try refine sx_use ?_); (repeat (refine SxNew.mk fun _ => ?_; (try refine sx_use ?_))))
        refine SxCode.drawAll rfl [] ?_
        ((try refine sx_use ?_); (repeat (refine SxNew.mk fun _ => ?_; (try refine sx_use ?_))))
        refine SxCall.quietS (v := .bool true) (fun w hs => by
          have h := Fits_any ⟨nm1, (cutL l).length, reW (cutL l) (cutL l).length, imW (cutL l) (cutL l).length, ms1⟩ hnm1 (cutL l) hcl bo bcap w (hs.rowRd 2 rfl hlm)
          rw [show fitsB ⟨nm1, (cutL l).length, reW (cutL l) (cutL l).length, imW (cutL l) (cutL l).length, ms1⟩ (cutL l) = true by
            unfold fitsB
            rw [decide_eq_true (show Rc.may ⟨nm1, (cutL l).length, reW (cutL l) (cutL l).length, imW (cutL l) (cutL l).length, ms1⟩ from hm)]
            simp] at h
          unfold Rc.v at h
          dsimp only at h
          rw [hn1] at h
          exact h) ?_
        ((try refine sx_use ?_); (repeat (refine SxNew.mk fun _ => ?_; (try refine sx_use ?_))))
        refine SxRun.bEq Try.underlying4 ?_
        ((try refine sx_use ?_); (repeat (refine SxNew.mk fun _ => ?_; (try refine sx_use ?_))))
        have hF := fun (w : World) (hs : Rd w bo (ms1.map u4V)) => Fits_any ⟨nm1, (cutL l).length, reW (cutL l) (cutL l).length, imW (cutL l) (cutL l).length, ms1⟩ hnm1 (cutL m) hcm bo bcap w hs
        have hRF := fun (w : World) (hs : Rd w ao (ms1.map u4V)) => RFits_any ⟨nm1, (cutL l).length, reW (cutL l) (cutL l).length, imW (cutL l) (cutL l).length, ms1⟩ (cutL m) hcm ao cap w hs
        generalize fitsB ⟨nm1, (cutL l).length, reW (cutL l) (cutL l).length, imW (cutL l) (cutL l).length, ms1⟩ (cutL m) = fb at hF hRF
        unfold Rc.v at hF hRF
        dsimp only at hF hRF
        rw [hn1] at hF hRF
        refine SxCall.quietS (fun w hs => hF w (hs.rowRd 2 rfl hlm)) ?_
        ((try refine sx_use ?_); (repeat (refine SxNew.mk fun _ => ?_; (try refine sx_use ?_))))
        refine SxCall.quietS (fun w hs => hRF w (hrd1 w (hs.rd 3 rfl))) ?_
        ((try refine sx_use ?_); (repeat (refine SxNew.mk fun _ => ?_; (try refine sx_use ?_))))
        refine SxRun.bEq Try.underlying4 ?_
        ((try refine sx_use ?_); (repeat (refine SxNew.mk fun _ => ?_; (try refine sx_use ?_))))
        exact SxDone.mk fun w' hs => ⟨by rw [beq_self_eq_true]; rfl, hs.touch.below⟩
      · rw [if_neg hm] at hRO
        refine SxCall.quietS (fun w hs => (hO w (hrd1 w (hs.rd 0 rfl))).mono fun e w' h => h.2 hm) ?_
        ((try refine sx_use ?_); (repeat (refine SxNew.mk fun _ => ?_; (try refine sx_use ?_))))
        refine SxCall.quietS (fun w hs => hRO w (hrd1 w (hs.rd 1 rfl))) ?_
        ((try refine sx_use ?_); (repeat (refine SxNew.mk fun _ => ?_; (try refine sx_use ?_))))
        refine SxCall.quiet (v := .bool true) (fun w => by
          have h := RRSame_any zrc zrc none none 0 0 w (Rd_nil w) (Rd_nil w) (by decide)
          rw [decide_eq_true rfl] at h
          exact h) ?_
        ((try refine sx_use ?_); (repeat (refine SxNew.mk fun _ => ?_; (try refine sx_use ?_))))
        refine SxRun.bNe Try.underlying4 ?_
        ((try refine sx_use ?_); (repeat (refine SxNew.mk fun _ => ?_; (try refine sx_use ?_))))
        refine SxCall.quiet awake_any ?_
        ((try refine sx_use ?_); (repeat (refine SxNew.mk fun _ => ?_; (try refine sx_use ?_))))
        refine SxCode.drawAll rfl [] ?_
        ((try refine sx_use ?_); (repeat (refine SxNew.mk fun _ => ?_; (try refine sx_use ?_))))
        refine SxCall.quiet (v := .bool false) (fun w => by
          have h := Fits_any zrc (Nat.zero_le _) (cutL l) hcl none 0 w (Rd_nil w)
          rw [show fitsB zrc (cutL l) = false from rfl] at h
          exact h) ?_
        ((try refine sx_use ?_); (repeat (refine SxNew.mk fun _ => ?_; (try refine sx_use ?_))))
        refine SxRun.bEq Try.underlying4 ?_
        ((try refine sx_use ?_); (repeat (refine SxNew.mk fun _ => ?_; (try refine sx_use ?_))))
        refine SxCall.quiet (v := .bool false) (fun w => by
          have h := Fits_any zrc (Nat.zero_le _) (cutL m) hcm none 0 w (Rd_nil w)
          rw [show fitsB zrc (cutL m) = false from rfl] at h
          exact h) ?_
        ((try refine sx_use ?_); (repeat (refine SxNew.mk fun _ => ?_; (try refine sx_use ?_))))
        refine SxCall.quiet (v := .bool false) (fun w => by
          have h := RFits_any zrc (cutL m) hcm none 0 w (Rd_nil w)
          rw [show fitsB zrc (cutL m) = false from rfl] at h
          exact h) ?_
        ((try refine sx_use ?_); (repeat (refine SxNew.mk fun _ => ?_; (try refine sx_use ?_))))
        refine SxRun.bEq Try.underlying4 ?_
        ((try refine sx_use ?_); (repeat (refine SxNew.mk fun _ => ?_; (try refine sx_use ?_))))
        exact SxDone.mk fun w' hs => ⟨rfl, hs.touch.below⟩
    · obtain ⟨nm1, hnm⟩ : ∃ nm1, nm1 = nm := ⟨_, rfl⟩
      have hnm1 : nm1.length ≤ maxLen := by rw [hnm]; unfold maxLen; omega
      subst hnm
      have hO := fun (w : World) (hs : Rd w ao (ms1.map u4V)) => Of_any nm1 (cutL l) hcl ms1 hnm1 ao cap hml w hs
      have hRO := fun (w : World) (hs : Rd w ao (ms1.map u4V)) => ROf_any nm1 (cutL l) hcl ms1 ao cap w hs
      rw [hn1] at hO hRO
      ((try refine sx_use ?_); (repeat (refine SxNew.mk fun _ => ?_; (try refine sx_use ?_))))
      by_cases hm : mayR nm1.length (cutL l).length (reW (cutL l) (cutL l).length) (imW (cutL l) (cutL l).length) ms1
      · rw [if_pos hm] at hRO
        refine SxCall.newRow (v := fun ao' cap' => .tuple #[rcV nm1 (cutL l).length (reW (cutL l) (cutL l).length) (imW (cutL l) (cutL l).length) ao' 1030 cap', .int .i64 0]) (fun w hs => (hO w (hrd1 w (hs.rd 0 rfl))).mono fun e w' h => h.1 hm) fun bo bcap => ?_
        ((try refine sx_use ?_); (repeat (refine SxNew.mk fun _ => ?_; (try refine sx_use ?_))))
        refine SxCall.quietS (fun w hs => hRO w (hrd1 w (hs.rd 2 rfl))) ?_
        ((try refine sx_use ?_); (repeat (refine SxNew.mk fun _ => ?_; (try refine sx_use ?_))))
        refine SxCall.quietS (v := .bool true) (fun w hs => by
          have h := RRSame_any ⟨nm1, (cutL l).length, reW (cutL l) (cutL l).length, imW (cutL l) (cutL l).length, ms1⟩ ⟨nm1, (cutL l).length, reW (cutL l) (cutL l).length, imW (cutL l) (cutL l).length, ms1⟩ bo ao bcap cap w (hs.rowRd 2 rfl hlm) (hrd1 w (hs.rd 3 rfl)) hml
          rw [decide_eq_true rfl] at h
          unfold Rc.v at h
          dsimp only at h
          rw [hn1] at h
          exact h) ?_
        ((try refine sx_use ?_); (repeat (refine SxNew.mk fun _ => ?_; (try refine sx_use ?_))))
        refine SxRun.bNe Try.underlying4 ?_
        ((try refine sx_use ?_); (repeat (refine SxNew.mk fun _ => ?_; (try refine sx_use ?_))))
        refine SxCall.quiet awake_any ?_
        ((try refine sx_use ?_); (repeat (refine SxNew.mk fun _ => ?_; (try refine sx_use ?_))))
        refine SxCode.drawAll rfl [] ?_
        ((try refine sx_use ?_); (repeat (refine SxNew.mk fun _ => ?_; (try refine sx_use ?_))))
        refine SxCall.quietS (v := .bool true) (fun w hs => by
          have h := Fits_any ⟨nm1, (cutL l).length, reW (cutL l) (cutL l).length, imW (cutL l) (cutL l).length, ms1⟩ hnm1 (cutL l) hcl bo bcap w (hs.rowRd 2 rfl hlm)
          rw [show fitsB ⟨nm1, (cutL l).length, reW (cutL l) (cutL l).length, imW (cutL l) (cutL l).length, ms1⟩ (cutL l) = true by
            unfold fitsB
            rw [decide_eq_true (show Rc.may ⟨nm1, (cutL l).length, reW (cutL l) (cutL l).length, imW (cutL l) (cutL l).length, ms1⟩ from hm)]
            simp] at h
          unfold Rc.v at h
          dsimp only at h
          rw [hn1] at h
          exact h) ?_
        ((try refine sx_use ?_); (repeat (refine SxNew.mk fun _ => ?_; (try refine sx_use ?_))))
        refine SxRun.bEq Try.underlying4 ?_
        ((try refine sx_use ?_); (repeat (refine SxNew.mk fun _ => ?_; (try refine sx_use ?_))))
        have hF := fun (w : World) (hs : Rd w bo (ms1.map u4V)) => Fits_any ⟨nm1, (cutL l).length, reW (cutL l) (cutL l).length, imW (cutL l) (cutL l).length, ms1⟩ hnm1 (cutL m) hcm bo bcap w hs
        have hRF := fun (w : World) (hs : Rd w ao (ms1.map u4V)) => RFits_any ⟨nm1, (cutL l).length, reW (cutL l) (cutL l).length, imW (cutL l) (cutL l).length, ms1⟩ (cutL m) hcm ao cap w hs
        generalize fitsB ⟨nm1, (cutL l).length, reW (cutL l) (cutL l).length, imW (cutL l) (cutL l).length, ms1⟩ (cutL m) = fb at hF hRF
        unfold Rc.v at hF hRF
        dsimp only at hF hRF
        rw [hn1] at hF hRF
        refine SxCall.quietS (fun w hs => hF w (hs.rowRd 2 rfl hlm)) ?_
        ((try refine sx_use ?_); (repeat (refine SxNew.mk fun _ => ?_; (try refine sx_use ?_))))
        refine SxCall.quietS (fun w hs => hRF w (hrd1 w (hs.rd 3 rfl))) ?_
        ((try refine sx_use ?_); (repeat (refine SxNew.mk fun _ => ?_; (try refine sx_use ?_))))
        refine SxRun.bEq Try.underlying4 ?_
        ((try refine sx_use ?_); (repeat (refine SxNew.mk fun _ => ?_; (try refine sx_use ?_))))
        exact SxDone.mk fun w' hs => ⟨by rw [beq_self_eq_true]; rfl, hs.touch.below⟩
      · rw [if_neg hm] at hRO
        refine SxCall.quietS (fun w hs => (hO w (hrd1 w (hs.rd 0 rfl))).mono fun e w' h => h.2 hm) ?_
        ((try refine sx_use ?_); (repeat (refine SxNew.mk fun _ => ?_; (try refine sx_use ?_))))
        refine SxCall.quietS (fun w hs => hRO w (hrd1 w (hs.rd 1 rfl))) ?_
        ((try refine sx_use ?_); (repeat (refine SxNew.mk fun _ => ?_; (try refine sx_use ?_))))
        refine SxCall.quiet (v := .bool true) (fun w => by
          have h := RRSame_any zrc zrc none none 0 0 w (Rd_nil w) (Rd_nil w) (by decide)
          rw [decide_eq_true rfl] at h
          exact h) ?_
        ((try refine sx_use ?_); (repeat (refine SxNew.mk fun _ => ?_; (try refine sx_use ?_))))
        refine SxRun.bNe Try.underlying4 ?_
        ((try refine sx_use ?_); (repeat (refine SxNew.mk fun _ => ?_; (try refine sx_use ?_))))
        refine SxCall.quiet awake_any ?_
        ((try refine sx_use ?_); (repeat (refine SxNew.mk fun _ => ?_; (try refine sx_use ?_))))
        refine SxCode.drawAll rfl [] ?_
        ((try refine sx_use ?_); (repeat (refine SxNew.mk fun _ => ?_; (try refine sx_use ?_))))
        refine SxCall.quiet (v := .bool false) (fun w => by
          have h := Fits_any zrc (Nat.zero_le _) (cutL l) hcl none 0 w (Rd_nil w)
          rw [show fitsB zrc (cutL l) = false from rfl] at h
          exact h) ?_
        ((try refine sx_use ?_); (repeat (refine SxNew.mk fun _ => ?_; (try refine sx_use ?_))))
        refine SxRun.bEq Try.underlying4 ?_
        ((try refine sx_use ?_); (repeat (refine SxNew.mk fun _ => ?_; (try refine sx_use ?_))))
        refine SxCall.quiet (v := .bool false) (fun w => by
          have h := Fits_any zrc (Nat.zero_le _) (cutL m) hcm none 0 w (Rd_nil w)
          rw [show fitsB zrc (cutL m) = false from rfl] at h
          exact h) ?_
        ((try refine sx_use ?_); (repeat (refine SxNew.mk fun _ => ?_; (try refine sx_use ?_))))
        refine SxCall.quiet (v := .bool false) (fun w => by
          have h := RFits_any zrc (cutL m) hcm none 0 w (Rd_nil w)
          rw [show fitsB zrc (cutL m) = false from rfl] at h
          exact h) ?_
        ((try refine sx_use ?_); (repeat (refine SxNew.mk fun _ => ?_; (try refine sx_use ?_))))
        refine SxRun.bEq Try.underlying4 ?_
        ((try refine sx_use ?_); (repeat (refine SxNew.mk fun _ => ?_; (try refine sx_use ?_))))
        exact SxDone.mk fun w' hs => ⟨rfl, hs.touch.below⟩
  · obtain ⟨ms1, hms⟩ : ∃ ms1, ms1 = ms := ⟨_, rfl⟩
    subst hms
    have hn1 : ms1.length = ms1.length := rfl
    have hml : ms1.length ≤ 1000000 := by omega
    have hlm : (ms1.map u4V).length ≤ maxLen := by rw [List.length_map]; unfold maxLen; omega
    have hrd1 : ∀ w, Rd w ao (ms1.map u4V) → Rd w ao (ms1.map u4V) := fun w h => h
    ((try refine sx_use ?_); (repeat (refine SxNew.mk fun _ => ?_; (try refine sx_use ?_))))
    refine SxIf.dec (fun h2 => ?_) (fun h2 => ?_)
    · obtain ⟨nm1, hnm⟩ : ∃ nm1, nm1 = nm.take 60 := ⟨_, rfl⟩
      have hnm1 : nm1.length ≤ maxLen := by rw [hnm, List.length_take]; unfold maxLen; omega
      ((try refine sx_use ?_); (repeat (refine SxNew.mk fun _ => ?_; (try refine sx_use ?_))))
      refine SxBnd.mk 0 60 rfl rfl (by omega) (by omega) ?_
      have hex : (⟨nm.toArray⟩ : ByteArray).extract 0 60 = ⟨nm1.toArray⟩ := by rw [mk_extract, hnm]; simp
      rw [hex]
      have hO := fun (w : World) (hs : Rd w ao (ms1.map u4V)) => Of_any nm1 (cutL l) hcl ms1 hnm1 ao cap hml w hs
      have hRO := fun (w : World) (hs : Rd w ao (ms1.map u4V)) => ROf_any nm1 (cutL l) hcl ms1 ao cap w hs
      skip
      ((try refine sx_use ?_); (repeat (refine SxNew.mk fun _ => ?_; (try refine sx_use ?_))))
      by_cases hm : mayR nm1.length (cutL l).length (reW (cutL l) (cutL l).length) (imW (cutL l) (cutL l).length) ms1
      · rw [if_pos hm] at hRO
        refine SxCall.newRow (v := fun ao' cap' => .tuple #[rcV nm1 (cutL l).length (reW (cutL l) (cutL l).length) (imW (cutL l) (cutL l).length) ao' ms1.length cap', .int .i64 0]) (fun w hs => (hO w (hrd1 w (hs.rd 0 rfl))).mono fun e w' h => h.1 hm) fun bo bcap => ?_
        ((try refine sx_use ?_); (repeat (refine SxNew.mk fun _ => ?_; (try refine sx_use ?_))))
        refine SxCall.quietS (fun w hs => hRO w (hrd1 w (hs.rd 2 rfl))) ?_
        ((try refine sx_use ?_); (repeat (refine SxNew.mk fun _ => ?_; (try refine sx_use ?_))))
        refine SxCall.quietS (v := .bool true) (fun w hs => by
          have h := RRSame_any ⟨nm1, (cutL l).length, reW (cutL l) (cutL l).length, imW (cutL l) (cutL l).length, ms1⟩ ⟨nm1, (cutL l).length, reW (cutL l) (cutL l).length, imW (cutL l) (cutL l).length, ms1⟩ bo ao bcap cap w (hs.rowRd 2 rfl hlm) (hrd1 w (hs.rd 3 rfl)) hml
          rw [decide_eq_true rfl] at h
          unfold Rc.v at h
          dsimp only at h
          skip
          exact h) ?_
        ((try refine sx_use ?_); (repeat (refine SxNew.mk fun _ => ?_; (try refine sx_use ?_))))
        refine SxRun.bNe Try.underlying4 ?_
        ((try refine sx_use ?_); (repeat (refine SxNew.mk fun _ => ?_; (try refine sx_use ?_))))
        refine SxCall.quiet awake_any ?_
        ((try refine sx_use ?_); (repeat (refine SxNew.mk fun _ => ?_; (try refine sx_use ?_))))
        refine SxCode.drawAll rfl [] ?_
        ((try refine sx_use ?_); (repeat (refine SxNew.mk fun _ => ?_; (try refine sx_use ?_))))
        refine SxCall.quietS (v := .bool true) (fun w hs => by
          have h := Fits_any ⟨nm1, (cutL l).length, reW (cutL l) (cutL l).length, imW (cutL l) (cutL l).length, ms1⟩ hnm1 (cutL l) hcl bo bcap w (hs.rowRd 2 rfl hlm)
          rw [show fitsB ⟨nm1, (cutL l).length, reW (cutL l) (cutL l).length, imW (cutL l) (cutL l).length, ms1⟩ (cutL l) = true by
            unfold fitsB
            rw [decide_eq_true (show Rc.may ⟨nm1, (cutL l).length, reW (cutL l) (cutL l).length, imW (cutL l) (cutL l).length, ms1⟩ from hm)]
            simp] at h
          unfold Rc.v at h
          dsimp only at h
          skip
          exact h) ?_
        ((try refine sx_use ?_); (repeat (refine SxNew.mk fun _ => ?_; (try refine sx_use ?_))))
        refine SxRun.bEq Try.underlying4 ?_
        ((try refine sx_use ?_); (repeat (refine SxNew.mk fun _ => ?_; (try refine sx_use ?_))))
        have hF := fun (w : World) (hs : Rd w bo (ms1.map u4V)) => Fits_any ⟨nm1, (cutL l).length, reW (cutL l) (cutL l).length, imW (cutL l) (cutL l).length, ms1⟩ hnm1 (cutL m) hcm bo bcap w hs
        have hRF := fun (w : World) (hs : Rd w ao (ms1.map u4V)) => RFits_any ⟨nm1, (cutL l).length, reW (cutL l) (cutL l).length, imW (cutL l) (cutL l).length, ms1⟩ (cutL m) hcm ao cap w hs
        generalize fitsB ⟨nm1, (cutL l).length, reW (cutL l) (cutL l).length, imW (cutL l) (cutL l).length, ms1⟩ (cutL m) = fb at hF hRF
        unfold Rc.v at hF hRF
        dsimp only at hF hRF
        skip
        refine SxCall.quietS (fun w hs => hF w (hs.rowRd 2 rfl hlm)) ?_
        ((try refine sx_use ?_); (repeat (refine SxNew.mk fun _ => ?_; (try refine sx_use ?_))))
        refine SxCall.quietS (fun w hs => hRF w (hrd1 w (hs.rd 3 rfl))) ?_
        ((try refine sx_use ?_); (repeat (refine SxNew.mk fun _ => ?_; (try refine sx_use ?_))))
        refine SxRun.bEq Try.underlying4 ?_
        ((try refine sx_use ?_); (repeat (refine SxNew.mk fun _ => ?_; (try refine sx_use ?_))))
        exact SxDone.mk fun w' hs => ⟨by rw [beq_self_eq_true]; rfl, hs.touch.below⟩
      · rw [if_neg hm] at hRO
        refine SxCall.quietS (fun w hs => (hO w (hrd1 w (hs.rd 0 rfl))).mono fun e w' h => h.2 hm) ?_
        ((try refine sx_use ?_); (repeat (refine SxNew.mk fun _ => ?_; (try refine sx_use ?_))))
        refine SxCall.quietS (fun w hs => hRO w (hrd1 w (hs.rd 1 rfl))) ?_
        ((try refine sx_use ?_); (repeat (refine SxNew.mk fun _ => ?_; (try refine sx_use ?_))))
        refine SxCall.quiet (v := .bool true) (fun w => by
          have h := RRSame_any zrc zrc none none 0 0 w (Rd_nil w) (Rd_nil w) (by decide)
          rw [decide_eq_true rfl] at h
          exact h) ?_
        ((try refine sx_use ?_); (repeat (refine SxNew.mk fun _ => ?_; (try refine sx_use ?_))))
        refine SxRun.bNe Try.underlying4 ?_
        ((try refine sx_use ?_); (repeat (refine SxNew.mk fun _ => ?_; (try refine sx_use ?_))))
        refine SxCall.quiet awake_any ?_
        ((try refine sx_use ?_); (repeat (refine SxNew.mk fun _ => ?_; (try refine sx_use ?_))))
        refine SxCode.drawAll rfl [] ?_
        ((try refine sx_use ?_); (repeat (refine SxNew.mk fun _ => ?_; (try refine sx_use ?_))))
        refine SxCall.quiet (v := .bool false) (fun w => by
          have h := Fits_any zrc (Nat.zero_le _) (cutL l) hcl none 0 w (Rd_nil w)
          rw [show fitsB zrc (cutL l) = false from rfl] at h
          exact h) ?_
        ((try refine sx_use ?_); (repeat (refine SxNew.mk fun _ => ?_; (try refine sx_use ?_))))
        refine SxRun.bEq Try.underlying4 ?_
        ((try refine sx_use ?_); (repeat (refine SxNew.mk fun _ => ?_; (try refine sx_use ?_))))
        refine SxCall.quiet (v := .bool false) (fun w => by
          have h := Fits_any zrc (Nat.zero_le _) (cutL m) hcm none 0 w (Rd_nil w)
          rw [show fitsB zrc (cutL m) = false from rfl] at h
          exact h) ?_
        ((try refine sx_use ?_); (repeat (refine SxNew.mk fun _ => ?_; (try refine sx_use ?_))))
        refine SxCall.quiet (v := .bool false) (fun w => by
          have h := RFits_any zrc (cutL m) hcm none 0 w (Rd_nil w)
          rw [show fitsB zrc (cutL m) = false from rfl] at h
          exact h) ?_
        ((try refine sx_use ?_); (repeat (refine SxNew.mk fun _ => ?_; (try refine sx_use ?_))))
        refine SxRun.bEq Try.underlying4 ?_
        ((try refine sx_use ?_); (repeat (refine SxNew.mk fun _ => ?_; (try refine sx_use ?_))))
        exact SxDone.mk fun w' hs => ⟨rfl, hs.touch.below⟩
    · obtain ⟨nm1, hnm⟩ : ∃ nm1, nm1 = nm := ⟨_, rfl⟩
      have hnm1 : nm1.length ≤ maxLen := by rw [hnm]; unfold maxLen; omega
      subst hnm
      have hO := fun (w : World) (hs : Rd w ao (ms1.map u4V)) => Of_any nm1 (cutL l) hcl ms1 hnm1 ao cap hml w hs
      have hRO := fun (w : World) (hs : Rd w ao (ms1.map u4V)) => ROf_any nm1 (cutL l) hcl ms1 ao cap w hs
      skip
      ((try refine sx_use ?_); (repeat (refine SxNew.mk fun _ => ?_; (try refine sx_use ?_))))
      by_cases hm : mayR nm1.length (cutL l).length (reW (cutL l) (cutL l).length) (imW (cutL l) (cutL l).length) ms1
      · rw [if_pos hm] at hRO
        refine SxCall.newRow (v := fun ao' cap' => .tuple #[rcV nm1 (cutL l).length (reW (cutL l) (cutL l).length) (imW (cutL l) (cutL l).length) ao' ms1.length cap', .int .i64 0]) (fun w hs => (hO w (hrd1 w (hs.rd 0 rfl))).mono fun e w' h => h.1 hm) fun bo bcap => ?_
        ((try refine sx_use ?_); (repeat (refine SxNew.mk fun _ => ?_; (try refine sx_use ?_))))
        refine SxCall.quietS (fun w hs => hRO w (hrd1 w (hs.rd 2 rfl))) ?_
        ((try refine sx_use ?_); (repeat (refine SxNew.mk fun _ => ?_; (try refine sx_use ?_))))
        refine SxCall.quietS (v := .bool true) (fun w hs => by
          have h := RRSame_any ⟨nm1, (cutL l).length, reW (cutL l) (cutL l).length, imW (cutL l) (cutL l).length, ms1⟩ ⟨nm1, (cutL l).length, reW (cutL l) (cutL l).length, imW (cutL l) (cutL l).length, ms1⟩ bo ao bcap cap w (hs.rowRd 2 rfl hlm) (hrd1 w (hs.rd 3 rfl)) hml
          rw [decide_eq_true rfl] at h
          unfold Rc.v at h
          dsimp only at h
          skip
          exact h) ?_
        ((try refine sx_use ?_); (repeat (refine SxNew.mk fun _ => ?_; (try refine sx_use ?_))))
        refine SxRun.bNe Try.underlying4 ?_
        ((try refine sx_use ?_); (repeat (refine SxNew.mk fun _ => ?_; (try refine sx_use ?_))))
        refine SxCall.quiet awake_any ?_
        ((try refine sx_use ?_); (repeat (refine SxNew.mk fun _ => ?_; (try refine sx_use ?_))))
        refine SxCode.drawAll rfl [] ?_
        ((try refine sx_use ?_); (repeat (refine SxNew.mk fun _ => ?_; (try refine sx_use ?_))))
        refine SxCall.quietS (v := .bool true) (fun w hs => by
          have h := Fits_any ⟨nm1, (cutL l).length, reW (cutL l) (cutL l).length, imW (cutL l) (cutL l).length, ms1⟩ hnm1 (cutL l) hcl bo bcap w (hs.rowRd 2 rfl hlm)
          rw [show fitsB ⟨nm1, (cutL l).length, reW (cutL l) (cutL l).length, imW (cutL l) (cutL l).length, ms1⟩ (cutL l) = true by
            unfold fitsB
            rw [decide_eq_true (show Rc.may ⟨nm1, (cutL l).length, reW (cutL l) (cutL l).length, imW (cutL l) (cutL l).length, ms1⟩ from hm)]
            simp] at h
          unfold Rc.v at h
          dsimp only at h
          skip
          exact h) ?_
        ((try refine sx_use ?_); (repeat (refine SxNew.mk fun _ => ?_; (try refine sx_use ?_))))
        refine SxRun.bEq Try.underlying4 ?_
        ((try refine sx_use ?_); (repeat (refine SxNew.mk fun _ => ?_; (try refine sx_use ?_))))
        have hF := fun (w : World) (hs : Rd w bo (ms1.map u4V)) => Fits_any ⟨nm1, (cutL l).length, reW (cutL l) (cutL l).length, imW (cutL l) (cutL l).length, ms1⟩ hnm1 (cutL m) hcm bo bcap w hs
        have hRF := fun (w : World) (hs : Rd w ao (ms1.map u4V)) => RFits_any ⟨nm1, (cutL l).length, reW (cutL l) (cutL l).length, imW (cutL l) (cutL l).length, ms1⟩ (cutL m) hcm ao cap w hs
        generalize fitsB ⟨nm1, (cutL l).length, reW (cutL l) (cutL l).length, imW (cutL l) (cutL l).length, ms1⟩ (cutL m) = fb at hF hRF
        unfold Rc.v at hF hRF
        dsimp only at hF hRF
        skip
        refine SxCall.quietS (fun w hs => hF w (hs.rowRd 2 rfl hlm)) ?_
        ((try refine sx_use ?_); (repeat (refine SxNew.mk fun _ => ?_; (try refine sx_use ?_))))
        refine SxCall.quietS (fun w hs => hRF w (hrd1 w (hs.rd 3 rfl))) ?_
        ((try refine sx_use ?_); (repeat (refine SxNew.mk fun _ => ?_; (try refine sx_use ?_))))
        refine SxRun.bEq Try.underlying4 ?_
        ((try refine sx_use ?_); (repeat (refine SxNew.mk fun _ => ?_; (try refine sx_use ?_))))
        exact SxDone.mk fun w' hs => ⟨by rw [beq_self_eq_true]; rfl, hs.touch.below⟩
      · rw [if_neg hm] at hRO
        refine SxCall.quietS (fun w hs => (hO w (hrd1 w (hs.rd 0 rfl))).mono fun e w' h => h.2 hm) ?_
        ((try refine sx_use ?_); (repeat (refine SxNew.mk fun _ => ?_; (try refine sx_use ?_))))
        refine SxCall.quietS (fun w hs => hRO w (hrd1 w (hs.rd 1 rfl))) ?_
        ((try refine sx_use ?_); (repeat (refine SxNew.mk fun _ => ?_; (try refine sx_use ?_))))
        refine SxCall.quiet (v := .bool true) (fun w => by
          have h := RRSame_any zrc zrc none none 0 0 w (Rd_nil w) (Rd_nil w) (by decide)
          rw [decide_eq_true rfl] at h
          exact h) ?_
        ((try refine sx_use ?_); (repeat (refine SxNew.mk fun _ => ?_; (try refine sx_use ?_))))
        refine SxRun.bNe Try.underlying4 ?_
        ((try refine sx_use ?_); (repeat (refine SxNew.mk fun _ => ?_; (try refine sx_use ?_))))
        refine SxCall.quiet awake_any ?_
        ((try refine sx_use ?_); (repeat (refine SxNew.mk fun _ => ?_; (try refine sx_use ?_))))
        refine SxCode.drawAll rfl [] ?_
        ((try refine sx_use ?_); (repeat (refine SxNew.mk fun _ => ?_; (try refine sx_use ?_))))
        refine SxCall.quiet (v := .bool false) (fun w => by
          have h := Fits_any zrc (Nat.zero_le _) (cutL l) hcl none 0 w (Rd_nil w)
          rw [show fitsB zrc (cutL l) = false from rfl] at h
          exact h) ?_
        ((try refine sx_use ?_); (repeat (refine SxNew.mk fun _ => ?_; (try refine sx_use ?_))))
        refine SxRun.bEq Try.underlying4 ?_
        ((try refine sx_use ?_); (repeat (refine SxNew.mk fun _ => ?_; (try refine sx_use ?_))))
        refine SxCall.quiet (v := .bool false) (fun w => by
          have h := Fits_any zrc (Nat.zero_le _) (cutL m) hcm none 0 w (Rd_nil w)
          rw [show fitsB zrc (cutL m) = false from rfl] at h
          exact h) ?_
        ((try refine sx_use ?_); (repeat (refine SxNew.mk fun _ => ?_; (try refine sx_use ?_))))
        refine SxCall.quiet (v := .bool false) (fun w => by
          have h := RFits_any zrc (cutL m) hcm none 0 w (Rd_nil w)
          rw [show fitsB zrc (cutL m) = false from rfl] at h
          exact h) ?_
        ((try refine sx_use ?_); (repeat (refine SxNew.mk fun _ => ?_; (try refine sx_use ?_))))
        refine SxRun.bEq Try.underlying4 ?_
        ((try refine sx_use ?_); (repeat (refine SxNew.mk fun _ => ?_; (try refine sx_use ?_))))
        exact SxDone.mk fun w' hs => ⟨rfl, hs.touch.below⟩
theorem RecipeFits_law (w : World) (nm : ByteArray) (hn : nm.size ≤ maxLen) (s : ByteArray) (_hs : s.size ≤ maxLen) (t : ByteArray) (_ht : t.size ≤ maxLen) (v : Value) (hv : FitK Try.prog w 4 (.slice 42) v) :
    Calls Try.prog 4 #[.string nm, .string s, .string t, v] w fun e w' => e = .returned (.bool true) ∧ Below w.heap.size w w' := by
  obtain ⟨ao, n, cap, ss, rfl, h1, h2, rfl, h4, h5⟩ := fitK_nums (kk := .u32) hv (by kernel_rfl) (by kernel_rfl)
  exact RecipeFits_core w nm.data.toList s.data.toList t.data.toList hn ss ao cap h1 h4
end Go.Proofs.Ytbbngmlgpjepnaa
