/- The laws of layer 15: ManifestTurns, ManifestBack. -/
import Derived.Test.YtdbappehchgbcaaZMnM
namespace Go.Proofs.Ytdbappehchgbcaa
open Go.RowKit

theorem two_pls {w : World} {d : Nat} {cs : List Value} (h : FitR Try.prog w (d + 1) [.slice 45, .slice 45] cs) : ∃ (ao : Option Addr) (n ac : Nat) (bo : Option Addr) (m bc : Nat), cs = [.slice ao n ac, .slice bo m bc] ∧ n ≤ maxLen ∧ m ≤ maxLen ∧ (∃ l : List Pl, l.length = min n 1000 ∧ Rd w ao (plE.fl l)) ∧ ∃ l : List Pl, l.length = min m 1000 ∧ Rd w bo (plE.fl l) := by
  obtain ⟨hl, hf⟩ := h
  match cs, hl with
  | [x, y], _ =>
    obtain ⟨ao, n, ac, rfl, h1, h2⟩ := open_pls (hf 0 _ _ rfl rfl)
    obtain ⟨bo, m, bc, rfl, h3, h4⟩ := open_pls (hf 1 _ _ rfl rfl)
    exact ⟨ao, n, ac, bo, m, bc, rfl, h1, h3, h2, h4⟩
set_option maxHeartbeats 8000000 in
theorem ManifestTurns_law (w : World) (cs : List Value) (h : FitR Try.prog w 4 [.int .u32, .slice 55] cs) (ds : List Value) (h2 : FitR Try.prog w 4 [.slice 45, .slice 45] ds) :
    Calls Try.prog 5 #[.agg cs.toArray, .agg ds.toArray] w fun e w' => e = .returned (.bool true) ∧ Below w.heap.size w w' := by
  obtain ⟨id, ao, n, ac, he, hn, es, hes, hr⟩ := open_mn h
  obtain ⟨bo, m, bc, to, l, tc, rfl, hm, hl, ⟨fs, hfs, hr2⟩, ⟨ts, hts, hr3⟩⟩ := two_pls h2
  rw [he]
  clear h h2 he
  unfold maxLen at hn hm hl
  have hf1 := few15_any id ao n ac
  refine sx_fn (S := SX) (M := []) (N := 81) (H0 := [.row none 0 0 47 4 [], .rd ao (enE.fl es), .rd bo (plE.fl fs), .rd to (plE.fl ts)]) Try.func5 rfl rfl rfl (Sat.nilRow 47 4 (Sat.cons_rd (Sat.twoRd _ hr2 hr3) hr (by intro i e g hi ho; match i, hi with | 0, hi => (cases hi; cases ho) | 1, hi => (cases hi; cases ho)))) ?_
  by_cases hn1 : n ≤ 30
  rotate_left
  · rw [decide_eq_false hn1] at hf1
    ((try refine sx_use ?_); (repeat (refine SxNew.mk fun _ => ?_; (try refine sx_use ?_))))
    refine SxCall.quiet hf1 ?_
    ((try refine sx_use ?_); (repeat (refine SxNew.mk fun _ => ?_; (try refine sx_use ?_))))
    refine SxCall.quiet mn_awake ?_
    ((try refine sx_use ?_); (repeat (refine SxNew.mk fun _ => ?_; (try refine sx_use ?_))))
    exact SxDone.mk fun w' hs => ⟨rfl, hs.touch.below⟩
  rw [decide_eq_true hn1] at hf1
  obtain rfl : n = es.length := by omega
  ((try refine sx_use ?_); (repeat (refine SxNew.mk fun _ => ?_; (try refine sx_use ?_))))
  refine SxCall.quiet hf1 ?_
  ((try refine sx_use ?_); (repeat (refine SxNew.mk fun _ => ?_; (try refine sx_use ?_))))
  refine SxIf.dec (fun hm1 => ?_) (fun hm1 => ?_)
  · ((try refine sx_use ?_); (repeat (refine SxNew.mk fun _ => ?_; (try refine sx_use ?_))))
    refine SxCall.quiet mn_awake ?_
    ((try refine sx_use ?_); (repeat (refine SxNew.mk fun _ => ?_; (try refine sx_use ?_))))
    exact SxDone.mk fun w' hs => ⟨rfl, hs.touch.below⟩
  ((try refine sx_use ?_); (repeat (refine SxNew.mk fun _ => ?_; (try refine sx_use ?_))))
  refine SxIf.dec (fun hl1 => ?_) (fun hl1 => ?_)
  · ((try refine sx_use ?_); (repeat (refine SxNew.mk fun _ => ?_; (try refine sx_use ?_))))
    refine SxCall.quiet mn_awake ?_
    ((try refine sx_use ?_); (repeat (refine SxNew.mk fun _ => ?_; (try refine sx_use ?_))))
    exact SxDone.mk fun w' hs => ⟨rfl, hs.touch.below⟩
  obtain rfl : m = fs.length := by omega
  obtain rfl : l = ts.length := by omega
  have hml := mvZ_len fs ts
  ((try refine sx_use ?_); (repeat (refine SxNew.mk fun _ => ?_; (try refine sx_use ?_))))
  rename_i b2 b3
  refine SxCode.loop (σ := Nat × Option Addr × Nat) [6, 5] [27, 28, 29, 30, 31, 32, 33, 34, 35, 36, 37, 38, 41, 42, 43, 44, 45, 46, 47, 48, 49, 50, 51, 52, 53, 54, 5, 39, 40, 6] (fun x => [.int .i64 (x.1 : Nat), .slice x.2.1 x.1 x.2.2]) (fun x => [.row x.2.1 x.1 x.2.2 47 4 (mvE.fl ((mvZ fs ts).take x.1)), .blk b3 42 [.slice bo fs.length bc, .slice to ts.length tc], .blk b2 25 [.int .u32 id, .slice ao es.length ac], .rd ao (enE.fl es), .rd bo (plE.fl fs), .rd to (plE.fl ts)]) (fun x => x.1 ≤ fs.length ∧ x.1 ≤ ts.length) (fun x => fs.length - x.1) (0, none, 0) [2, 0, 1, 3, 4, 5] rfl rfl rfl rfl ⟨Nat.zero_le _, Nat.zero_le _⟩ ?_
  rintro ⟨k, mo, mc⟩ ⟨hk1, hk2⟩
  dsimp only at hk1 hk2 ⊢
  ((try refine sx_use ?_); (repeat (refine SxNew.mk fun _ => ?_; (try refine sx_use ?_))))
  by_cases hb : k < fs.length ∧ k < ts.length
  · obtain ⟨f, hf⟩ : ∃ f, fs[k]? = some f := ⟨fs[k]'(by omega), by simp [show k < fs.length by omega]⟩
    obtain ⟨t, ht⟩ : ∃ t, ts[k]? = some t := ⟨ts[k]'(by omega), by simp [show k < ts.length by omega]⟩
    have hz := mvZ_at hf ht
    refine SxIf.yes (by omega) ?_
    ((try refine sx_use ?_); (repeat (refine SxNew.mk fun _ => ?_; (try refine sx_use ?_))))
    refine SxCode.draw rfl [.blk b3 42 [.slice bo fs.length bc, .slice to ts.length tc], .rd bo (plE.fl fs), .rd to (plE.fl ts)] [] [1, 4, 5] rfl rfl ?_
    ((try refine sx_use ?_); (repeat (refine SxNew.mk fun _ => ?_; (try refine sx_use ?_))))
    refine SxIA.rd 1 (plE.fl fs) rfl k rfl (by omega) (by rw [rowPl_len]; omega) fun g off hga => ?_
    ((try refine sx_use ?_); (repeat (refine SxNew.mk fun _ => ?_; (try refine sx_use ?_))))
    refine SxLdN.rd 1 rfl hga rfl (vs := plC f) rfl (rowPl_at hf) ?_
    ((try refine sx_use ?_); (repeat (refine SxNew.mk fun _ => ?_; (try refine sx_use ?_))))
    refine SxIA.rd 2 (plE.fl ts) rfl k rfl (by omega) (by rw [rowPl_len]; omega) fun g off hga => ?_
    ((try refine sx_use ?_); (repeat (refine SxNew.mk fun _ => ?_; (try refine sx_use ?_))))
    refine SxLdN.rd 2 rfl hga rfl (vs := plC t) rfl (rowPl_at ht) ?_
    ((try refine sx_use ?_); (repeat (refine SxNew.mk fun _ => ?_; (try refine sx_use ?_))))
    refine SxStable.mk [2, 5, 6] rfl rfl ?_
    ((try refine sx_use ?_); (repeat (refine SxNew.mk fun _ => ?_; (try refine sx_use ?_))))
    refine SxApp.mk 1 rfl 0 (.inr (.inr (.inr ⟨by decide, _, rfl⟩))) (vs := mvC ⟨f, t⟩) (m := 1) rfl rfl (by unfold maxLen; omega) (by omega) (cs' := mvE.fl ((mvZ fs ts).take (k + 1))) (by rw [mvE.fl_snoc hz]; rfl) fun ao' cap' => ?_
    ((try refine sx_use ?_); (repeat (refine SxNew.mk fun _ => ?_; (try refine sx_use ?_))))
    refine SxStable.mk [2, 5, 6] rfl rfl ?_
    ((try refine sx_use ?_); (repeat (refine SxNew.mk fun _ => ?_; (try refine sx_use ?_))))
    exact SxRound.mk (k + 1, ao', cap') [1, 2, 3, 4, 5, 6] rfl rfl rfl ⟨by dsimp only; omega, by dsimp only; omega⟩ (by dsimp only; omega)
  · have hkl : k = (mvZ fs ts).length := by omega
    have htk : (mvZ fs ts).take k = mvZ fs ts := by rw [hkl, List.take_length]
    rw [htk]
    have hT := fun (w : World) (ha : Rd w ao (enE.fl es)) (hb : Rd w mo (mvE.fl (mvZ fs ts))) => MTurn_any id es (by omega) (mvZ fs ts) ao mo ac mc w ha hb
    rw [← hkl] at hT
    have hR := fun (w : World) (ha : Rd w ao (enE.fl es)) (hb : Rd w bo (plE.fl fs)) (ht : Rd w to (plE.fl ts)) => RMTurn_any id es (by omega) fs ts ao bo to ac bc tc w ha hb ht
    have hlen : (es.map (turn1 (mvZ fs ts))).length = es.length := List.length_map ..
    have hS : ∀ (a1 a2 : Option Addr) (c1 c2 : Nat) (w : World), Rd w a1 (enE.fl (es.map (turn1 (mvZ fs ts)))) → Rd w a2 (enE.fl (es.map (turn1 (mvZ fs ts)))) → Calls Try.prog 13 #[mnV id a1 es.length c1, mnV id a2 es.length c2] w fun e w' => e = .returned (.bool true) ∧ Below w.heap.size w w' := fun a1 a2 c1 c2 w ha hb => by
      have h := RMSame_any id id (es.map (turn1 (mvZ fs ts))) (es.map (turn1 (mvZ fs ts))) a1 a2 c1 c2 w ha hb
      rw [hlen, decide_eq_true ⟨rfl, rfl⟩] at h
      exact h
    rcases Nat.lt_or_ge k fs.length with h1 | h1
    case' inl =>
      refine SxIf.yes (by omega) ?_
    case' inr =>
      refine SxIf.no (by omega) ?_
    all_goals
      ((try refine sx_use ?_); (repeat (refine SxNew.mk fun _ => ?_; (try refine sx_use ?_))))
      refine SxCall.newRow (v := fun a c => .tuple #[mnV id a es.length c, .int .i64 (turnN (mvZ fs ts) es : Nat)]) (fun w hs => hT w (hs.rd 3 rfl) (hs.rowRd 0 rfl (by rw [rowMv_len, ← hkl]; unfold maxLen; omega))) fun ga gc => ?_
      ((try refine sx_use ?_); (repeat (refine SxNew.mk fun _ => ?_; (try refine sx_use ?_))))
      refine SxCall.newRow (v := fun a c => .tuple #[mnV id a es.length c, .int .i64 (turnN (mvZ fs ts) es : Nat)]) (fun w hs => hR w (hs.rd 5 rfl) (hs.rd 6 rfl) (hs.rd 7 rfl)) fun ra rc => ?_
      ((try refine sx_use ?_); (repeat (refine SxNew.mk fun _ => ?_; (try refine sx_use ?_))))
      refine SxCall.quietS (fun w hs => hS ga ra gc rc w (hs.rowRd 3 rfl (by rw [rowEn_len, hlen]; unfold maxLen; omega)) (hs.rowRd 1 rfl (by rw [rowEn_len, hlen]; unfold maxLen; omega))) ?_
      ((try refine sx_use ?_); (repeat (refine SxNew.mk fun _ => ?_; (try refine sx_use ?_))))
      refine SxCall.quiet mn_awake ?_
      ((try refine sx_use ?_); (repeat (refine SxNew.mk fun _ => ?_; (try refine sx_use ?_))))
      exact SxDone.mk fun w' hs => ⟨rfl, hs.touch.below⟩
end Go.Proofs.Ytdbappehchgbcaa
