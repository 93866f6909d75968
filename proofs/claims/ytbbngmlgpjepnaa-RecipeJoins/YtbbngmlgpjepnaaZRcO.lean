/- The walk of the document's Join: recipes in a row, joined one behind the other. -/
import Derived.Test.YtbbngmlgpjepnaaZRcN
namespace Go.Proofs.Ytbbngmlgpjepnaa
open Go.RowKit

set_option maxHeartbeats 4000000 in
theorem RJoin_any (nm : List UInt8) (li : List Rl) (hli : li.length ≤ 100) (hml : ∀ x ∈ li, x.1.ms.length ≤ 2000) (lo : Option Addr) (lc : Nat) (w : World) (hr : Rd w lo (rcs li)) (hR : ∀ x ∈ li, Rd w x.2.1 (x.1.ms.map u4V)) :
    Calls Try.prog 18 #[txV nm, .slice lo li.length lc] w fun e w' => (joinOk nm li → ∃ ao' cap', e = .returned (.tuple #[(joinR nm li).v ao' cap', .bool true]) ∧ NewRow w w' ao' (joinR nm li).ms.length cap' 42 1 ((joinR nm li).ms.map u4V)) ∧ (¬ joinOk nm li → e = .returned (.tuple #[zrc.v none 0, .bool false]) ∧ Below w.heap.size w w') := by
  have hlen := rcs_len li
  refine sx_fn (S := SX) (M := []) (N := 71) (H0 := [.row none 0 0 42 1 [], .rd lo (rcs li)]) Try.func18 rfl rfl rfl ((Sat.oneRd _ hr).nilRow 42 1) ?_
  ((try refine sx_use ?_); (repeat (refine SxNew.mk fun _ => ?_; (try refine sx_use ?_))))
  rename_i b4 b6 b7
  refine SxCode.loop (σ := Nat × Option Addr × Nat) [8] [12, 13, 14, 15, 18, 19, 20, 21, 22, 23, 24, 5, 25, 26, 27, 28, 29, 30, 31, 32, 33, 34, 35, 36, 37, 38, 39, 40, 41, 42, 43, 44, 45, 46, 47, 48, 49, 50, 51, 52, 53, 54, 55, 56, 57, 58, 59, 60, 61, 62, 63, 64, 65, 16, 17, 8] (fun s => [.int .i64 (s.1 : Nat)]) (fun s => [.row s.2.1 (jst (li.take s.1)).ms.length s.2.2 42 1 ((jst (li.take s.1)).ms.map u4V), .blk b4 28 (rcC (zrc, none, 0)), .blk b6 28 [.string ⟨nm.toArray⟩, .int .i64 ((jst (li.take s.1)).n : Nat), .int .i64 (jst (li.take s.1)).A, .int .i64 (jst (li.take s.1)).B, .slice s.2.1 (jst (li.take s.1)).ms.length s.2.2], .blk b7 58 [.int .i64 (jst (li.take s.1)).A, .int .i64 (jst (li.take s.1)).B], .rd lo (rcs li)]) (fun s => s.1 ≤ li.length ∧ ∀ (i : Nat) (x : Rl), i < s.1 → li[i]? = some x → x.1.may) (fun s => li.length - s.1) (0, none, 0) [3, 2, 1, 0, 4] rfl rfl rfl rfl ⟨Nat.zero_le _, fun i x hi => absurd hi (Nat.not_lt_zero _)⟩ ?_
  rintro ⟨k, ao, cap⟩ ⟨hk, hmay⟩
  dsimp only at hk hmay ⊢
  obtain ⟨hA, hB, hN, hM⟩ := jst_bd k li hk hmay
  ((try refine sx_use ?_); (repeat (refine SxNew.mk fun _ => ?_; (try refine sx_use ?_))))
  refine SxIf.dec (fun h => ?_) (fun h => ?_)
  · have hlt : k < li.length := by omega
    obtain ⟨x, hx⟩ : ∃ x, li[k]? = some x := ⟨li[k], by simp [hlt]⟩
    have hxm := List.mem_of_getElem? hx
    have hC := fun (w : World) (hs : Rd w x.2.1 (x.1.ms.map u4V)) => RMay_any x.1.nm x.1.sz x.1.re x.1.im x.1.ms x.2.1 x.2.2 w hs
    ((try refine sx_use ?_); (repeat (refine SxNew.mk fun _ => ?_; (try refine sx_use ?_))))
    refine SxIA.rd 4 _ rfl k rfl hlt (by rw [hlen]; omega) fun g off ha => ?_
    ((try refine sx_use ?_); (repeat (refine SxNew.mk fun _ => ?_; (try refine sx_use ?_))))
    refine SxLdN.rd 4 rfl ha rfl (vs := rcC x) rfl (rcs_at hx) ?_
    ((try refine sx_use ?_); (repeat (refine SxNew.mk fun _ => ?_; (try refine sx_use ?_))))
    by_cases hm : x.1.may
    · rw [decide_eq_true (show mayR x.1.nm.length x.1.sz x.1.re x.1.im x.1.ms from hm)] at hC
      refine SxCall.learn (hR x hxm) (fun w hs => hC w (hs.old (hR x hxm))) ?_
      obtain ⟨g1, g2, g3, g4, g5, ⟨g6, g7⟩, ⟨g8, g9⟩, g10⟩ := id hm
      have hbd := turnW_bd x.1.re x.1.im ((jst (li.take k)).n % 4)
      have hJ := jst_snoc hx
      obtain ⟨J, hJ0⟩ : ∃ J, J = jst (li.take k) := ⟨_, rfl⟩
      rw [← hJ0] at hJ hA hB hN hM hbd ⊢
      have hms := hml x hxm
      have e1 : (rcs li)[k * 5 + 1]? = some (.int .i64 x.1.sz) := rcs_cell hx rfl
      have e2 : (rcs li)[k * 5 + 2]? = some (.int .i64 x.1.re) := rcs_cell hx rfl
      have e3 : (rcs li)[k * 5 + 3]? = some (.int .i64 x.1.im) := rcs_cell hx rfl
      have e4 : (rcs li)[k * 5 + 4]? = some (.slice x.2.1 x.1.ms.length x.2.2) := rcs_cell hx rfl
      ((try refine sx_use ?_); (repeat (refine SxNew.mk fun _ => ?_; (try refine sx_use ?_))))
      refine SxCode.draw rfl [.blk b6 28 [.string ⟨nm.toArray⟩, .int .i64 (J.n : Nat), .int .i64 J.A, .int .i64 J.B, .slice ao J.ms.length cap], .blk b7 58 [.int .i64 J.A, .int .i64 J.B], .rd lo (rcs li)] [15] [3, 4, 5] rfl rfl ?_
      ((try refine sx_use ?_); (repeat (refine SxNew.mk fun _ => ?_; (try refine sx_use ?_))))
      refine SxIA.rd 2 _ rfl k rfl hlt (by rw [hlen]; omega) fun g off ha => ?_
      ((try refine sx_use ?_); (repeat (refine SxNew.mk fun _ => ?_; (try refine sx_use ?_))))
      refine SxLd.rd 2 rfl ha (Nat.add_assoc _ _ _) e2 ?_
      ((try refine sx_use ?_); (repeat (refine SxNew.mk fun _ => ?_; (try refine sx_use ?_))))
      refine SxIA.rd 2 _ rfl k rfl hlt (by rw [hlen]; omega) fun g off ha => ?_
      ((try refine sx_use ?_); (repeat (refine SxNew.mk fun _ => ?_; (try refine sx_use ?_))))
      refine SxLd.rd 2 rfl ha (Nat.add_assoc _ _ _) e3 ?_
      ((try refine sx_use ?_); (repeat (refine SxNew.mk fun _ => ?_; (try refine sx_use ?_))))
      refine SxCall.quiet (RJoin4_any J.A J.B x.1.re x.1.im (by omega) (by omega) (by omega) (by omega) J.n (by omega)) ?_
      ((try refine sx_use ?_); (repeat (refine SxNew.mk fun _ => ?_; (try refine sx_use ?_))))
      refine SxStable.mk [3, 4, 5] rfl rfl ?_
      ((try refine sx_use ?_); (repeat (refine SxNew.mk fun _ => ?_; (try refine sx_use ?_))))
      refine SxCode.draw rfl [.blk b6 28 [.string ⟨nm.toArray⟩, .int .i64 (J.n : Nat), .int .i64 J.A, .int .i64 J.B, .slice ao J.ms.length cap], .rd lo (rcs li)] [9] [3, 5] rfl rfl ?_
      ((try refine sx_use ?_); (repeat (refine SxNew.mk fun _ => ?_; (try refine sx_use ?_))))
      refine SxIA.rd 1 _ rfl k rfl hlt (by rw [hlen]; omega) fun g off ha => ?_
      ((try refine sx_use ?_); (repeat (refine SxNew.mk fun _ => ?_; (try refine sx_use ?_))))
      refine SxLd.rd 1 rfl ha (Nat.add_assoc _ _ _) e1 ?_
      ((try refine sx_use ?_); (repeat (refine SxNew.mk fun _ => ?_; (try refine sx_use ?_))))
      refine SxCode.draw rfl [.blk b6 28 [.string ⟨nm.toArray⟩, .int .i64 (J.n + x.1.sz), .int .i64 (J.A + (turnW x.1.re x.1.im (J.n % 4)).1), .int .i64 (J.B + (turnW x.1.re x.1.im (J.n % 4)).2), .slice ao J.ms.length cap], .rd lo (rcs li)] [11] [3, 5] rfl rfl ?_
      ((try refine sx_use ?_); (repeat (refine SxNew.mk fun _ => ?_; (try refine sx_use ?_))))
      refine SxIA.rd 1 _ rfl k rfl hlt (by rw [hlen]; omega) fun g off ha => ?_
      ((try refine sx_use ?_); (repeat (refine SxNew.mk fun _ => ?_; (try refine sx_use ?_))))
      refine SxLd.rd 1 rfl ha (Nat.add_assoc _ _ _) e4 ?_
      ((try refine sx_use ?_); (repeat (refine SxNew.mk fun _ => ?_; (try refine sx_use ?_))))
      refine SxStable.mk [4, 6] rfl rfl ?_
      ((try refine sx_use ?_); (repeat (refine SxNew.mk fun _ => ?_; (try refine sx_use ?_))))
      refine SxApp.mk 0 rfl 2 (.inr (.inr (.inr ⟨by decide, _, rfl⟩))) (by simp) (allOne_map u4V (fun _ => rfl) J.ms) (by unfold maxLen; omega) (by omega) (cs' := J.ms.map u4V) rfl fun ao1 cap1 => ?_
      ((try refine sx_use ?_); (repeat (refine SxNew.mk fun _ => ?_; (try refine sx_use ?_))))
      refine SxStable.mk [4, 6] rfl rfl ?_
      ((try refine sx_use ?_); (repeat (refine SxNew.mk fun _ => ?_; (try refine sx_use ?_))))
      refine SxApp.mk 0 rfl 1 (.inr (.inl rfl)) (by simp) (allOne_map u4V (fun _ => rfl) x.1.ms) (by unfold maxLen; omega) (by omega) (cs' := (J.ms ++ x.1.ms).map u4V) (by rw [List.map_append]) fun ao2 cap2 => ?_
      ((try refine sx_use ?_); (repeat (refine SxNew.mk fun _ => ?_; (try refine sx_use ?_))))
      refine SxStable.mk [4, 6] rfl rfl ?_
      ((try refine sx_use ?_); (repeat (refine SxNew.mk fun _ => ?_; (try refine sx_use ?_))))
      have hN2 : ((jstep J x.1).n : Int) = J.n + x.1.sz := by show ((J.n + x.1.sz.toNat : Nat) : Int) = _; omega
      have hL2 : (jstep J x.1).ms.length = 0 + J.ms.length + x.1.ms.length := by show (J.ms ++ x.1.ms).length = _; rw [List.length_append]; omega
      refine SxRound.mk (k + 1, ao2, cap2) [0, 3, 4, 5, 6] rfl ?_ rfl ⟨hlt, fun i y hi hy => ?_⟩ (by dsimp only; omega)
      · dsimp only
        rw [hJ, hN2, hL2]
        rfl
      · rcases Nat.lt_succ_iff_lt_or_eq.1 hi with h1 | rfl
        · exact hmay i y h1 hy
        · rw [hx] at hy
          exact Option.some.inj hy ▸ hm
    · rw [decide_eq_false (show ¬ mayR x.1.nm.length x.1.sz x.1.re x.1.im x.1.ms from hm)] at hC
      refine SxCall.learn (hR x hxm) (fun w hs => hC w (hs.old (hR x hxm))) ?_
      ((try refine sx_use ?_); (repeat (refine SxNew.mk fun _ => ?_; (try refine sx_use ?_))))
      exact SxDone.mk fun w' hs => ⟨fun h => absurd (h.1 x hxm) hm, fun _ => ⟨rfl, hs.touch.below⟩⟩
  · obtain rfl : k = li.length := by omega
    rw [List.take_length] at hA hB hN hM ⊢
    have hall : allMay li := fun x hx => by
      obtain ⟨i, hi, he⟩ := List.getElem_of_mem hx
      exact hmay i x hi (by rw [List.getElem?_eq_getElem hi, he])
    have hlm : ((jst li).ms.map u4V).length ≤ maxLen := by rw [List.length_map]; unfold maxLen; omega
    have hC := fun (w : World) (hs : Rd w ao ((jst li).ms.map u4V)) => RMay_any nm (jst li).n (jst li).A (jst li).B (jst li).ms ao cap w hs
    ((try refine sx_use ?_); (repeat (refine SxNew.mk fun _ => ?_; (try refine sx_use ?_))))
    by_cases hm : (joinR nm li).may
    · rw [decide_eq_true (show mayR nm.length (jst li).n (jst li).A (jst li).B (jst li).ms from hm)] at hC
      refine SxCall.quietS (fun w hs => hC w (hs.rowRd 0 rfl hlm)) ?_
      ((try refine sx_use ?_); (repeat (refine SxNew.mk fun _ => ?_; (try refine sx_use ?_))))
      exact SxDone.mk fun w' hs => ⟨fun _ => ⟨ao, cap, rfl, hs.newRow 0 rfl⟩, fun h => absurd ⟨hall, hm⟩ h⟩
    · rw [decide_eq_false (show ¬ mayR nm.length (jst li).n (jst li).A (jst li).B (jst li).ms from hm)] at hC
      refine SxCall.quietS (fun w hs => hC w (hs.rowRd 0 rfl hlm)) ?_
      ((try refine sx_use ?_); (repeat (refine SxNew.mk fun _ => ?_; (try refine sx_use ?_))))
      exact SxDone.mk fun w' hs => ⟨fun h => absurd h.2 hm, fun _ => ⟨rfl, hs.touch.below⟩⟩
end Go.Proofs.Ytbbngmlgpjepnaa
