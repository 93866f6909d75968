/- The walk: the document's Get. -/
import Derived.Test.YtbbngmlgpjepnaaZRcH
namespace Go.Proofs.Ytbbngmlgpjepnaa
open Go.RowKit

set_option maxHeartbeats 4000000 in
theorem RGet_any (s : List UInt8) (hs0 : s.length ≤ 1000000) (w : World) :
    Calls Try.prog 20 #[txV s] w fun e w' => (∀ r : Rc, r.may → r.put = s → ∃ ao cap, e = .returned (.tuple #[r.v ao cap, .bool true]) ∧ NewRow w w' ao r.ms.length cap 42 1 (r.ms.map u4V)) ∧ (¬ isRc s → e = .returned (.tuple #[zrc.v none 0, .bool false]) ∧ Below w.heap.size w w') := by
  have hss : (⟨s.toArray⟩ : ByteArray).size ≤ maxLen := by rw [mk_size]; unfold maxLen; omega
  obtain ⟨le1, le2, le3, le4, le6, le7⟩ := p_le s
  obtain ⟨eq1, eq2, eq3, eq4, eq6, eq7⟩ := p_eq s
  have hwhole : ∀ r : Rc, r.may → r.put = s → pRc s = r ∧ (finR s).2.2 = 0 ∧ cntR s = r.ms.length := by
    intro r hr hp
    have h1 := parse_whole hr (numL (crcMore 0 r.body) 4)
    have h2 : r.body ++ numL (crcMore 0 r.body) 4 = s := hp
    rw [h2] at h1
    exact ⟨h1.1, by rw [h1.2.2.1], h1.2.2.2⟩
  have b2' : leV (p2 s).1 < 4294967296 := by have h : leV (q2 s).1 < 4294967296 := leV_take4 _ _; rw [eq2] at h; exact h
  have b3 : leV (p3 s).1 < 4294967296 := by have h : leV (q3 s).1 < 4294967296 := leV_take4 _ _; rw [eq3] at h; exact h
  have b4 : leV (p4 s).1 < 4294967296 := by have h : leV (q4 s).1 < 4294967296 := leV_take4 _ _; rw [eq4] at h; exact h
  have b7 : cntR s < 65536 := leV_take2 _ _
  have hc7 : leV (p7 s).1 = cntR s := by unfold cntR; rw [eq7]
  refine sx_fn (S := SX) (M := []) (N := 68) (H0 := [.row none 0 0 42 1 []]) Try.func20 rfl rfl rfl ((Sat.nil _ _).nilRow 42 1) ?_
  ((try refine sx_use ?_); (repeat (refine SxNew.mk fun _ => ?_; (try refine sx_use ?_))))
  rename_i b2 g
  change SxCall _ _ _ _ _ [rrE g ⟨s.toArray⟩ 0 0, .blk b2 28 [.string ⟨#[]⟩, .int .i64 0, .int .i64 0, .int .i64 0, .slice none 0 0], .row none 0 0 42 1 []] _
  refine SxCall.sat [rrE g ⟨s.toArray⟩ (p1 s).2.1 (p1 s).2.2, .blk b2 28 [.string ⟨#[]⟩, .int .i64 0, .int .i64 0, .int .i64 0, .slice none 0 0], .row none 0 0 42 1 []] (fun w hs => RTake_sat hs 0 g ⟨s.toArray⟩ hss 0 (Nat.zero_le _) 0 rfl 4 (by decide)) ?_
  ((try refine sx_use ?_); (repeat (refine SxNew.mk fun _ => ?_; (try refine sx_use ?_))))
  refine SxCall.sat [rrE g ⟨s.toArray⟩ (p2 s).2.1 (p2 s).2.2, .blk b2 28 [.string ⟨#[]⟩, .int .i64 0, .int .i64 0, .int .i64 0, .slice none 0 0], .row none 0 0 42 1 []] (fun w hs => RNum_sat hs 0 g ⟨s.toArray⟩ hss _ le1 _ rfl 4 (by decide)) ?_
  change leV (takeS 4 ⟨s.toArray⟩ (p1 s).2.1 (p1 s).2.2).1 < 4294967296 at b2'
  ((try refine sx_use ?_); (repeat (refine SxNew.mk fun _ => ?_; (try refine sx_use ?_))))
  rename_i b5
  refine SxCall.sat [.blk b5 28 [.string ⟨#[]⟩, .int .i64 (leV (p2 s).1 : Nat), .int .i64 0, .int .i64 0, .slice none 0 0], rrE g ⟨s.toArray⟩ (p3 s).2.1 (p3 s).2.2, .blk b2 28 [.string ⟨#[]⟩, .int .i64 0, .int .i64 0, .int .i64 0, .slice none 0 0], .row none 0 0 42 1 []] (fun w hs => RNum_sat hs 1 g ⟨s.toArray⟩ hss _ le2 _ rfl 4 (by decide)) ?_
  ((try refine sx_use ?_); (repeat (refine SxNew.mk fun _ => ?_; (try refine sx_use ?_))))
  refine SxCall.quiet (signed_any (leV (p3 s).1) b3) ?_
  ((try refine sx_use ?_); (repeat (refine SxNew.mk fun _ => ?_; (try refine sx_use ?_))))
  refine SxCall.sat [.blk b5 28 [.string ⟨#[]⟩, .int .i64 (leV (p2 s).1 : Nat), .int .i64 (sgn (leV (p3 s).1)), .int .i64 0, .slice none 0 0], rrE g ⟨s.toArray⟩ (p4 s).2.1 (p4 s).2.2, .blk b2 28 [.string ⟨#[]⟩, .int .i64 0, .int .i64 0, .int .i64 0, .slice none 0 0], .row none 0 0 42 1 []] (fun w hs => RNum_sat hs 1 g ⟨s.toArray⟩ hss _ le3 _ rfl 4 (by decide)) ?_
  ((try refine sx_use ?_); (repeat (refine SxNew.mk fun _ => ?_; (try refine sx_use ?_))))
  refine SxCall.quiet (signed_any (leV (p4 s).1) b4) ?_
  ((try refine sx_use ?_); (repeat (refine SxNew.mk fun _ => ?_; (try refine sx_use ?_))))
  refine SxCall.sat [.blk b5 28 [.string ⟨#[]⟩, .int .i64 (leV (p2 s).1 : Nat), .int .i64 (sgn (leV (p3 s).1)), .int .i64 (sgn (leV (p4 s).1)), .slice none 0 0], rrE g ⟨s.toArray⟩ (p6 s).2.1 (p6 s).2.2, .blk b2 28 [.string ⟨#[]⟩, .int .i64 0, .int .i64 0, .int .i64 0, .slice none 0 0], .row none 0 0 42 1 []] (fun w hs => RRText_sat hs 1 g s hs0 _ le4 _ rfl) ?_
  ((try refine sx_use ?_); (repeat (refine SxNew.mk fun _ => ?_; (try refine sx_use ?_))))
  refine SxCall.sat [.blk b5 28 [txV (p6 s).1, .int .i64 (leV (p2 s).1 : Nat), .int .i64 (sgn (leV (p3 s).1)), .int .i64 (sgn (leV (p4 s).1)), .slice none 0 0], rrE g ⟨s.toArray⟩ (p7 s).2.1 (p7 s).2.2, .blk b2 28 [.string ⟨#[]⟩, .int .i64 0, .int .i64 0, .int .i64 0, .slice none 0 0], .row none 0 0 42 1 []] (fun w hs => RNum_sat hs 1 g ⟨s.toArray⟩ hss _ le6 _ rfl 2 (by decide)) ?_
  change leV (takeS 2 ⟨s.toArray⟩ (p6 s).2.1 (p6 s).2.2).1 = cntR s at hc7
  rw [hc7]
  ((try refine sx_use ?_); (repeat (refine SxNew.mk fun _ => ?_; (try refine sx_use ?_))))
  have hR : ∀ k, rdN k (s.drop (p7 s).2.1) (p7 s).2.2 = rdN k (q7 s).2.1 (q7 s).2.2 := fun k => by rw [eq7]
  refine SxCode.loop (σ := Nat × Nat × Int × Option Addr × Nat) [7] [30, 31, 32, 33, 34, 35, 36, 37, 38, 39, 42, 43, 44, 45, 46, 47, 48, 49, 40, 41, 7] (fun x => [.int .u64 (x.1 : Nat)]) (fun x => [.blk b5 28 [txV (p6 s).1, .int .i64 (leV (p2 s).1 : Nat), .int .i64 (sgn (leV (p3 s).1)), .int .i64 (sgn (leV (p4 s).1)), .slice x.2.2.2.1 x.1 x.2.2.2.2], rrE g ⟨s.toArray⟩ x.2.1 x.2.2.1, .blk b2 28 [.string ⟨#[]⟩, .int .i64 0, .int .i64 0, .int .i64 0, .slice none 0 0], .row x.2.2.2.1 x.1 x.2.2.2.2 42 1 ((rdN x.1 (q7 s).2.1 (q7 s).2.2).1.map u4V)]) (fun x => x.1 ≤ cntR s ∧ x.2.1 ≤ s.length ∧ (rdN x.1 (q7 s).2.1 (q7 s).2.2).2 = (s.drop x.2.1, x.2.2.1)) (fun x => cntR s - x.1) (0, (p7 s).2.1, (p7 s).2.2, none, 0) [0, 1, 2, 3] rfl rfl rfl rfl ⟨Nat.zero_le _, le7, by rw [eq7]; rfl⟩ ?_
  rintro ⟨k, a, e, ao, cap⟩ ⟨hk, ha, hst⟩
  dsimp only at hk ha hst ⊢
  ((try refine sx_use ?_); (repeat (refine SxNew.mk fun _ => ?_; (try refine sx_use ?_))))
  refine SxIf.dec (fun h => ?_) (fun h => ?_)
  · ((try refine sx_use ?_); (repeat (refine SxNew.mk fun _ => ?_; (try refine sx_use ?_))))
    refine SxIf.eq (fun he => ?_) (fun he => ?_)
    · subst he
      have hb4 := leV_take4 (s.drop a) 0
      have hT := takeS_R2 4 s a 0
      rw [hT] at hb4
      dsimp only at hb4
      have hle := takeS_le2 4 s a 0 ha
      have hnx : rdN (k + 1) (q7 s).2.1 (q7 s).2.2 = ((rdN k (q7 s).2.1 (q7 s).2.2).1 ++ [(leV (takeS 4 ⟨s.toArray⟩ a 0).1 : Int)], s.drop (takeS 4 ⟨s.toArray⟩ a 0).2.1, (takeS 4 ⟨s.toArray⟩ a 0).2.2) := by
        simp only [rdN]
        rw [hst]
        dsimp only
        rw [hT]
      ((try refine sx_use ?_); (repeat (refine SxNew.mk fun _ => ?_; (try refine sx_use ?_))))
      refine SxCode.draw rfl [.blk b5 28 [txV (p6 s).1, .int .i64 (leV (p2 s).1 : Nat), .int .i64 (sgn (leV (p3 s).1)), .int .i64 (sgn (leV (p4 s).1)), .slice ao k cap]] [8] [0] rfl rfl ?_
      ((try refine sx_use ?_); (repeat (refine SxNew.mk fun _ => ?_; (try refine sx_use ?_))))
      refine SxCall.sat [.blk b5 28 [txV (p6 s).1, .int .i64 (leV (p2 s).1 : Nat), .int .i64 (sgn (leV (p3 s).1)), .int .i64 (sgn (leV (p4 s).1)), .slice ao k cap], rrE g ⟨s.toArray⟩ (takeS 4 ⟨s.toArray⟩ a 0).2.1 (takeS 4 ⟨s.toArray⟩ a 0).2.2, .blk b2 28 [.string ⟨#[]⟩, .int .i64 0, .int .i64 0, .int .i64 0, .slice none 0 0], .row ao k cap 42 1 ((rdN k (q7 s).2.1 (q7 s).2.2).1.map u4V)] (fun w hs => RNum_sat hs 1 g ⟨s.toArray⟩ hss a ha 0 rfl 4 (by decide)) ?_
      ((try refine sx_use ?_); (repeat (refine SxNew.mk fun _ => ?_; (try refine sx_use ?_))))
      refine SxRng.u32 (by omega) (by omega) ?_
      ((try refine sx_use ?_); (repeat (refine SxNew.mk fun _ => ?_; (try refine sx_use ?_))))
      refine SxApp.mk 4 rfl 0 (.inr (.inr (.inr ⟨by decide, _, rfl⟩))) rfl rfl (by unfold maxLen; omega) (by omega) (cs' := (rdN (k + 1) (q7 s).2.1 (q7 s).2.2).1.map u4V) (by rw [hnx, List.map_append]; rfl) fun ao' cap' => ?_
      ((try refine sx_use ?_); (repeat (refine SxNew.mk fun _ => ?_; (try refine sx_use ?_))))
      refine SxRng.u64 (by omega) (by omega) ?_
      ((try refine sx_use ?_); (repeat (refine SxNew.mk fun _ => ?_; (try refine sx_use ?_))))
      exact SxRound.mk (k + 1, (takeS 4 ⟨s.toArray⟩ a 0).2.1, (takeS 4 ⟨s.toArray⟩ a 0).2.2, ao', cap') [1, 2, 3, 4] rfl rfl rfl ⟨by dsimp only; omega, hle, by rw [hnx]⟩ (by dsimp only; omega)
    · have hbad : ¬ isRc s := fun ⟨r, hr, hp⟩ => by
        have h1 := (hwhole r hr hp).2.1
        have h2 := rdN_err (q7 s).2.1 (q7 s).2.2 k (by rw [hst]; exact he) (cntR s - k)
        rw [show k + (cntR s - k) = cntR s by omega] at h2
        exact h2 h1
      ((try refine sx_use ?_); (repeat (refine SxNew.mk fun _ => ?_; (try refine sx_use ?_))))
      exact SxDone.mk fun w' hs => ⟨fun r hr h => absurd ⟨r, hr, h⟩ hbad, fun _ => ⟨rfl, hs.touch.below⟩⟩
  · obtain rfl : k = cntR s := by omega
    ((try refine sx_use ?_); (repeat (refine SxNew.mk fun _ => ?_; (try refine sx_use ?_))))
    refine SxIf.ne (fun he => ?_) (fun he => ?_)
    · have hbad : ¬ isRc s := fun ⟨r, hr, hp⟩ => by
        have h1 := (hwhole r hr hp).2.1
        unfold finR at h1
        rw [hst] at h1
        exact he h1
      ((try refine sx_use ?_); (repeat (refine SxNew.mk fun _ => ?_; (try refine sx_use ?_))))
      exact SxDone.mk fun w' hs => ⟨fun r hr h => absurd ⟨r, hr, h⟩ hbad, fun _ => ⟨rfl, hs.touch.below⟩⟩
    have hfl : (finR s).1.length = cntR s := rdN_len _ _ _
    have hlm : ((finR s).1.map u4V).length ≤ maxLen := by rw [List.length_map, hfl]; unfold maxLen; omega
    have hM := fun (w : World) (hs : Rd w ao ((finR s).1.map u4V)) => RMay_any (p6 s).1 (leV (p2 s).1 : Nat) (sgn (leV (p3 s).1)) (sgn (leV (p4 s).1)) (finR s).1 ao cap w hs
    have hpr : pRc s = ⟨(p6 s).1, leV (p2 s).1, sgn (leV (p3 s).1), sgn (leV (p4 s).1), (finR s).1⟩ := by unfold pRc; rw [eq6, eq2, eq3, eq4]
    rw [hfl] at hM
    ((try refine sx_use ?_); (repeat (refine SxNew.mk fun _ => ?_; (try refine sx_use ?_))))
    refine SxCall.quietS (fun w hs => hM w (hs.rowRd 3 rfl hlm)) ?_
    by_cases hmay : mayR (p6 s).1.length (leV (p2 s).1 : Nat) (sgn (leV (p3 s).1)) (sgn (leV (p4 s).1)) (finR s).1
    · have hP := fun (w : World) (hs : Rd w ao ((finR s).1.map u4V)) => RPut_any (p6 s).1 (leV (p2 s).1 : Nat) (sgn (leV (p3 s).1)) (sgn (leV (p4 s).1)) (finR s).1 hmay ao cap w hs
      rw [hfl] at hP
      rw [decide_eq_true hmay]
      ((try refine sx_use ?_); (repeat (refine SxNew.mk fun _ => ?_; (try refine sx_use ?_))))
      refine SxCall.quietS (fun w hs => hP w (hs.rowRd 3 rfl hlm)) ?_
      have hput : (pRc s).put = putL (p6 s).1 (leV (p2 s).1 : Nat) (sgn (leV (p3 s).1)) (sgn (leV (p4 s).1)) (finR s).1 := by rw [hpr]; rfl
      have hmay2 : (pRc s).may := by rw [hpr]; exact hmay
      rw [← hput]
      ((try refine sx_use ?_); (repeat (refine SxNew.mk fun _ => ?_; (try refine sx_use ?_))))
      refine SxIf.nt (SxIf.str (fun hq => ?_) (fun hq => ?_))
      · have hq := mkr_inj hq
        ((try refine sx_use ?_); (repeat (refine SxNew.mk fun _ => ?_; (try refine sx_use ?_))))
        refine SxDone.mk fun w' hs => ⟨fun r hr hp => ?_, fun hn => absurd ⟨pRc s, hmay2, hq⟩ hn⟩
        have h1 := (hwhole r hr hp).1
        subst h1
        refine ⟨ao, cap, ?_, ?_⟩
        · rw [hpr]
          unfold Rc.v
          dsimp only
          rw [hfl]
          rfl
        · rw [hpr]
          dsimp only
          rw [hfl]
          exact hs.newRow 3 rfl
      · have hbad : ¬ isRc s := fun ⟨r, hr, hp⟩ => hq (by rw [(hwhole r hr hp).1, hp])
        ((try refine sx_use ?_); (repeat (refine SxNew.mk fun _ => ?_; (try refine sx_use ?_))))
        exact SxDone.mk fun w' hs => ⟨fun r hr h => absurd ⟨r, hr, h⟩ hbad, fun _ => ⟨rfl, hs.touch.below⟩⟩
    · have hbad : ¬ isRc s := fun ⟨r, hr, hp⟩ => hmay (by
        have h1 := (hwhole r hr hp).1
        subst h1
        rw [hpr] at hr
        exact hr)
      rw [decide_eq_false hmay]
      ((try refine sx_use ?_); (repeat (refine SxNew.mk fun _ => ?_; (try refine sx_use ?_))))
      exact SxDone.mk fun w' hs => ⟨fun r hr h => absurd ⟨r, hr, h⟩ hbad, fun _ => ⟨rfl, hs.touch.below⟩⟩
end Go.Proofs.Ytbbngmlgpjepnaa
