/- The walk of layer 15: the document's Turn. -/
import Derived.Test.YtdififdnnpgjoaaZMnH
import Derived.Test.YtdififdnnpgjoaaZSlPl
namespace Go.Proofs.Ytdififdnnpgjoaa
open Go.RowKit

/-- Moves by two lists of places. -/
def mvZ (fs ts : List Pl) : List Mv := List.zipWith Mv.mk fs ts
theorem mvZ_len (fs ts : List Pl) : (mvZ fs ts).length = min fs.length ts.length := List.length_zipWith
theorem mvZ_at {fs ts : List Pl} {k : Nat} {f t : Pl} (hf : fs[k]? = some f) (ht : ts[k]? = some t) : (mvZ fs ts)[k]? = some ⟨f, t⟩ := by
  unfold mvZ
  rw [List.getElem?_zipWith, hf, ht]
theorem mvZ_fr {fs ts : List Pl} {k : Nat} {m : Mv} (h : (mvZ fs ts)[k]? = some m) : fs[k]? = some m.fr ∧ ts[k]? = some m.to := by
  unfold mvZ at h
  rw [List.getElem?_zipWith] at h
  split at h
  · rename_i a b ha hb
    obtain rfl := Option.some.inj h
    exact ⟨ha, hb⟩
  · cases h
set_option maxHeartbeats 4000000 in
theorem RMTurn_any (id : Int) (es : List En) (hes : es.length ≤ 1000000) (fs ts : List Pl) (ao bo to : Option Addr) (ac bc tc : Nat) (w : World) (ha : Rd w ao (enE.fl es)) (hb : Rd w bo (plE.fl fs)) (ht : Rd w to (plE.fl ts)) :
    Calls Try.prog 24 #[mnV id ao es.length ac, .slice bo fs.length bc, .slice to ts.length tc] w fun e w' => ∃ ao' cap', e = .returned (.tuple #[mnV id ao' es.length cap', .int .i64 (turnN (mvZ fs ts) es : Nat)]) ∧ NewRow w w' ao' es.length cap' 80 35 (enE.fl (es.map (turn1 (mvZ fs ts)))) := by
  have hfl : fs.length * 2 ≤ maxLen := by have := hb.1; rw [rowPl_len] at this; exact this
  have htl : ts.length * 2 ≤ maxLen := by have := ht.1; rw [rowPl_len] at this; exact this
  unfold maxLen at hfl htl
  have hml := mvZ_len fs ts
  refine sx_fn (S := SX) (M := []) (N := 88) (H0 := [.row none 0 0 80 35 [], .rd ao (enE.fl es), .rd bo (plE.fl fs), .rd to (plE.fl ts)]) Try.func24 rfl rfl rfl (Sat.nilRow 80 35 (Sat.cons_rd (Sat.twoRd _ hb ht) ha (by intro i e g hi ho; match i, hi with | 0, hi => (cases hi; cases ho) | 1, hi => (cases hi; cases ho)))) ?_
  ((try refine sx_use ?_); (repeat (refine SxNew.mk fun _ => ?_; (try refine sx_use ?_))))
  rename_i b3 b6 b8
  refine SxCode.loop (σ := Nat × Option Addr × Nat) [10, 9] [16, 17, 18, 19, 20, 23, 24, 25, 26, 27, 11, 12, 28, 29, 30, 31, 32, 33, 34, 35, 36, 37, 40, 41, 42, 43, 44, 45, 46, 47, 48, 49, 50, 51, 52, 53, 54, 55, 56, 57, 58, 59, 60, 61, 62, 63, 64, 65, 66, 67, 68, 69, 70, 71, 72, 73, 74, 75, 76, 77, 78, 79, 9, 38, 39, 80, 81, 82, 83, 84, 85, 21, 22, 10] (fun x => [.int .i64 (x.1 : Nat), .int .i64 (turnN (mvZ fs ts) (es.take x.1) : Nat)]) (fun x => [.blk b8 57 [.int .u32 id, .slice x.2.1 x.1 x.2.2], .blk b6 57 [.int .u32 0, .slice none 0 0], .blk b3 57 [.int .u32 id, .slice ao es.length ac], .row x.2.1 x.1 x.2.2 80 35 (enE.fl ((es.take x.1).map (turn1 (mvZ fs ts)))), .rd ao (enE.fl es), .rd bo (plE.fl fs), .rd to (plE.fl ts)]) (fun x => x.1 ≤ es.length) (fun x => es.length - x.1) (0, none, 0) [0, 1, 2, 3, 4, 5, 6] rfl rfl rfl rfl (Nat.zero_le _) ?_
  rintro ⟨k, ro, rc⟩ hk
  dsimp only at hk ⊢
  have htn := turnN_le (mvZ fs ts) (es.take k)
  rw [List.length_take] at htn
  ((try refine sx_use ?_); (repeat (refine SxNew.mk fun _ => ?_; (try refine sx_use ?_))))
  refine SxIf.dec (fun h => ?_) (fun h => ?_)
  · have hlt : k < es.length := by omega
    obtain ⟨x, hx⟩ : ∃ x, es[k]? = some x := ⟨es[k], by simp [hlt]⟩
    have hsn : turnN (mvZ fs ts) (es.take (k + 1)) = turnN (mvZ fs ts) (es.take k) + (if (hitM (mvZ fs ts) x.pl).isSome then 1 else 0) := by rw [take_snocE hx, turnN_snoc]
    have hsm : (es.take (k + 1)).map (turn1 (mvZ fs ts)) = (es.take k).map (turn1 (mvZ fs ts)) ++ [turn1 (mvZ fs ts) x] := by rw [take_snocE hx, List.map_append]; rfl
    have l1 : (enC x)[33]? = some (.int .u32 x.bx) := enC_tail x 1 _ rfl
    have l2 : (enC x)[34]? = some (.int .i64 x.sl) := enC_tail x 2 _ rfl
    ((try refine sx_use ?_); (repeat (refine SxNew.mk fun _ => ?_; (try refine sx_use ?_))))
    refine SxIA.rd 4 _ rfl k rfl hlt (by rw [rowEn_len]; omega) fun g off hga => ?_
    ((try refine sx_use ?_); (repeat (refine SxNew.mk fun _ => ?_; (try refine sx_use ?_))))
    refine SxLdN.rd 4 rfl hga rfl (vs := enC x) (enC_len x) (rowEn_at hx) ?_
    ((try refine sx_use ?_); (repeat (refine SxNew.mk fun _ => ?_; (try refine sx_use ?_))))
    rename_i b11
    refine SxSt.elem enE (x := x) 0 rfl rfl ?_
    ((try refine sx_use ?_); (repeat (refine SxNew.mk fun _ => ?_; (try refine sx_use ?_))))
    refine SxCode.loop (σ := Nat) [12, 9] [28, 29, 30, 31, 32, 33, 34, 35, 36, 37, 40, 41, 42, 43, 44, 45, 46, 47, 48, 49, 50, 51, 52, 53, 54, 55, 56, 57, 58, 59, 60, 61, 62, 63, 64, 65, 66, 67, 68, 69, 70, 71, 72, 73, 74, 75, 76, 77, 78, 79, 9, 38, 39, 12] (fun j => [.int .i64 (j : Nat), .int .i64 (turnN (mvZ fs ts) (es.take k) : Nat)]) (fun _ => [.blk b11 80 (enC x), .blk b8 57 [.int .u32 id, .slice ro k rc], .blk b6 57 [.int .u32 0, .slice none 0 0], .blk b3 57 [.int .u32 id, .slice ao es.length ac], .row ro k rc 80 35 (enE.fl ((es.take k).map (turn1 (mvZ fs ts)))), .rd ao (enE.fl es), .rd bo (plE.fl fs), .rd to (plE.fl ts)]) (fun j => j ≤ fs.length ∧ j ≤ ts.length ∧ ∀ i y, i < j → (mvZ fs ts)[i]? = some y → decide (y.fr = x.pl) = false) (fun j => fs.length - j) 0 [0, 1, 2, 3, 4, 5, 6, 7] rfl rfl rfl rfl ⟨Nat.zero_le _, Nat.zero_le _, fun i y hi => absurd hi (Nat.not_lt_zero _)⟩ ?_
    rintro j ⟨hj1, hj2, hall⟩
    have fin : (hitM (mvZ fs ts) x.pl = none → turnN (mvZ fs ts) (es.take (k + 1)) = turnN (mvZ fs ts) (es.take k) ∧ turn1 (mvZ fs ts) x = x) := fun h0 => ⟨by rw [hsn, h0]; rfl, turn1_none h0⟩
    ((try refine sx_use ?_); (repeat (refine SxNew.mk fun _ => ?_; (try refine sx_use ?_))))
    refine SxIf.dec (fun h1 => ?_) (fun h1 => ?_)
    · ((try refine sx_use ?_); (repeat (refine SxNew.mk fun _ => ?_; (try refine sx_use ?_))))
      refine SxIf.dec (fun h2 => ?_) (fun h2 => ?_)
      · obtain ⟨f, hf⟩ : ∃ f, fs[j]? = some f := ⟨fs[j]'(by omega), by simp [show j < fs.length by omega]⟩
        obtain ⟨t, ht⟩ : ∃ t, ts[j]? = some t := ⟨ts[j]'(by omega), by simp [show j < ts.length by omega]⟩
        have hz := mvZ_at hf ht
        ((try refine sx_use ?_); (repeat (refine SxNew.mk fun _ => ?_; (try refine sx_use ?_))))
        refine SxCode.drawAll rfl [] ?_
        ((try refine sx_use ?_); (repeat (refine SxNew.mk fun _ => ?_; (try refine sx_use ?_))))
        refine SxIA.rd 6 _ rfl j rfl (by omega) (by rw [rowPl_len]; omega) fun g off hga => ?_
        ((try refine sx_use ?_); (repeat (refine SxNew.mk fun _ => ?_; (try refine sx_use ?_))))
        refine SxLd.rd 6 rfl hga (by omega) (j := j * 2 + 0) (v := .int .u32 f.bx) (rowPl_cell (j := 0) hf rfl) ?_
        ((try refine sx_use ?_); (repeat (refine SxNew.mk fun _ => ?_; (try refine sx_use ?_))))
        refine SxIA.rd 5 _ rfl k rfl hlt (by rw [rowEn_len]; omega) fun g off hga => ?_
        ((try refine sx_use ?_); (repeat (refine SxNew.mk fun _ => ?_; (try refine sx_use ?_))))
        refine SxLd.rd 5 rfl hga (by omega) (j := k * 35 + 33) (v := .int .u32 x.bx) (rowEn_cell (j := 33) hx l1) ?_
        ((try refine sx_use ?_); (repeat (refine SxNew.mk fun _ => ?_; (try refine sx_use ?_))))
        have miss : ¬ f = x.pl → ∀ i y, i < j + 1 → (mvZ fs ts)[i]? = some y → decide (y.fr = x.pl) = false := fun h0 i y hi hy => by
          rcases Nat.lt_succ_iff_lt_or_eq.1 hi with h3 | h3
          · exact hall i y h3 hy
          · subst h3
            obtain rfl := Option.some.inj (hz.symm.trans hy)
            exact decide_eq_false h0
        refine SxIf.eq (fun g1 => ?_) (fun g1 => ?_)
        · ((try refine sx_use ?_); (repeat (refine SxNew.mk fun _ => ?_; (try refine sx_use ?_))))
          refine SxIA.rd 6 _ rfl j rfl (by omega) (by rw [rowPl_len]; omega) fun g off hga => ?_
          ((try refine sx_use ?_); (repeat (refine SxNew.mk fun _ => ?_; (try refine sx_use ?_))))
          refine SxLd.rd 6 rfl hga (by omega) (j := j * 2 + 1) (v := .int .i64 f.sl) (rowPl_cell (j := 1) hf rfl) ?_
          ((try refine sx_use ?_); (repeat (refine SxNew.mk fun _ => ?_; (try refine sx_use ?_))))
          refine SxIA.rd 5 _ rfl k rfl hlt (by rw [rowEn_len]; omega) fun g off hga => ?_
          ((try refine sx_use ?_); (repeat (refine SxNew.mk fun _ => ?_; (try refine sx_use ?_))))
          refine SxLd.rd 5 rfl hga (by omega) (j := k * 35 + 34) (v := .int .i64 x.sl) (rowEn_cell (j := 34) hx l2) ?_
          ((try refine sx_use ?_); (repeat (refine SxNew.mk fun _ => ?_; (try refine sx_use ?_))))
          refine SxIf.eq (fun g2 => ?_) (fun g2 => ?_)
          · have hfx : f = x.pl := by obtain ⟨a, b⟩ := f; dsimp only at g1 g2; unfold En.pl; rw [g1, g2]
            have hyes : hitM (mvZ fs ts) x.pl = some ⟨f, t⟩ := find_at hall hz (decide_eq_true hfx)
            have e1 := turn1_some hyes
            have e2 : turnN (mvZ fs ts) (es.take (k + 1)) = turnN (mvZ fs ts) (es.take k) + 1 := by rw [hsn, hyes]; rfl
            ((try refine sx_use ?_); (repeat (refine SxNew.mk fun _ => ?_; (try refine sx_use ?_))))
            refine SxIA.rd 7 _ rfl j rfl (by omega) (by rw [rowPl_len]; omega) fun g off hga => ?_
            ((try refine sx_use ?_); (repeat (refine SxNew.mk fun _ => ?_; (try refine sx_use ?_))))
            refine SxLd.rd 7 rfl hga (by omega) (j := j * 2 + 0) (v := .int .u32 t.bx) (rowPl_cell (j := 0) ht rfl) ?_
            ((try refine sx_use ?_); (repeat (refine SxNew.mk fun _ => ?_; (try refine sx_use ?_))))
            refine SxSt.blk 0 rfl (by rw [Nat.ble_eq, enC_len]; show 0 + 33 + 1 ≤ 35; decide) rfl (cs' := enC { x with bx := t.bx }) (enC_bx x _) ?_
            ((try refine sx_use ?_); (repeat (refine SxNew.mk fun _ => ?_; (try refine sx_use ?_))))
            refine SxIA.rd 7 _ rfl j rfl (by omega) (by rw [rowPl_len]; omega) fun g off hga => ?_
            ((try refine sx_use ?_); (repeat (refine SxNew.mk fun _ => ?_; (try refine sx_use ?_))))
            refine SxLd.rd 7 rfl hga (by omega) (j := j * 2 + 1) (v := .int .i64 t.sl) (rowPl_cell (j := 1) ht rfl) ?_
            ((try refine sx_use ?_); (repeat (refine SxNew.mk fun _ => ?_; (try refine sx_use ?_))))
            refine SxSt.blk 0 rfl (by rw [Nat.ble_eq, enC_len]; show 0 + 34 + 1 ≤ 35; decide) rfl (cs' := enC { x with bx := t.bx, sl := t.sl }) (enC_sl _ _) ?_
            ((try refine sx_use ?_); (repeat (refine SxNew.mk fun _ => ?_; (try refine sx_use ?_))))
            refine SxLdN.blk 0 rfl (vs := enC { x with bx := t.bx, sl := t.sl }) (enC_len _) (rowEn_all _) ?_
            ((try refine sx_use ?_); (repeat (refine SxNew.mk fun _ => ?_; (try refine sx_use ?_))))
            refine SxFill.one rfl (enC_len _) ?_
            ((try refine sx_use ?_); (repeat (refine SxNew.mk fun _ => ?_; (try refine sx_use ?_))))
            refine SxApp.mk 5 rfl 0 (.inr (.inr (.inr ⟨by decide, _, rfl⟩))) (vs := enE.enc { x with bx := t.bx, sl := t.sl }) (m := 1) (enC_len _) (enC_one _) (by unfold maxLen; omega) (by omega) (cs' := enE.fl ((es.take (k + 1)).map (turn1 (mvZ fs ts)))) (by rw [hsm, enE.fl_append, enE.fl_one, e1]) fun ao' cap' => ?_
            ((try refine sx_use ?_); (repeat (refine SxNew.mk fun _ => ?_; (try refine sx_use ?_))))
            exact SxRound.mk (k + 1, ao', cap') [2, 3, 4, 5, 6, 7, 8] (by dsimp only; rw [e2]; rfl) rfl rfl hlt (by dsimp only; omega)
          · ((try refine sx_use ?_); (repeat (refine SxNew.mk fun _ => ?_; (try refine sx_use ?_))))
            exact SxRound.mk (j + 1) [0, 1, 2, 3, 4, 5, 6, 7] rfl rfl rfl ⟨by omega, by omega, miss fun e => g2 (by rw [e]; rfl)⟩ (by omega)
        · ((try refine sx_use ?_); (repeat (refine SxNew.mk fun _ => ?_; (try refine sx_use ?_))))
          exact SxRound.mk (j + 1) [0, 1, 2, 3, 4, 5, 6, 7] rfl rfl rfl ⟨by omega, by omega, miss fun e => g1 (by rw [e]; rfl)⟩ (by omega)
      · have h0 : hitM (mvZ fs ts) x.pl = none := find_no fun i y hy => hall i y (by have := (List.getElem?_eq_some_iff.1 hy).1; omega) hy
        obtain ⟨e2, e1⟩ := fin h0
        ((try refine sx_use ?_); (repeat (refine SxNew.mk fun _ => ?_; (try refine sx_use ?_))))
        refine SxLdN.blk 0 rfl (vs := enC x) (enC_len _) (rowEn_all _) ?_
        ((try refine sx_use ?_); (repeat (refine SxNew.mk fun _ => ?_; (try refine sx_use ?_))))
        refine SxFill.one rfl (enC_len _) ?_
        ((try refine sx_use ?_); (repeat (refine SxNew.mk fun _ => ?_; (try refine sx_use ?_))))
        refine SxApp.mk 5 rfl 0 (.inr (.inr (.inr ⟨by decide, _, rfl⟩))) (vs := enE.enc x) (m := 1) (enC_len _) (enC_one _) (by unfold maxLen; omega) (by omega) (cs' := enE.fl ((es.take (k + 1)).map (turn1 (mvZ fs ts)))) (by rw [hsm, enE.fl_append, enE.fl_one, e1]) fun ao' cap' => ?_
        ((try refine sx_use ?_); (repeat (refine SxNew.mk fun _ => ?_; (try refine sx_use ?_))))
        exact SxRound.mk (k + 1, ao', cap') [2, 3, 4, 5, 6, 7, 8] (by dsimp only; rw [e2]; rfl) rfl rfl hlt (by dsimp only; omega)
    · have h0 : hitM (mvZ fs ts) x.pl = none := find_no fun i y hy => hall i y (by have := (List.getElem?_eq_some_iff.1 hy).1; omega) hy
      obtain ⟨e2, e1⟩ := fin h0
      ((try refine sx_use ?_); (repeat (refine SxNew.mk fun _ => ?_; (try refine sx_use ?_))))
      refine SxLdN.blk 0 rfl (vs := enC x) (enC_len _) (rowEn_all _) ?_
      ((try refine sx_use ?_); (repeat (refine SxNew.mk fun _ => ?_; (try refine sx_use ?_))))
      refine SxFill.one rfl (enC_len _) ?_
      ((try refine sx_use ?_); (repeat (refine SxNew.mk fun _ => ?_; (try refine sx_use ?_))))
      refine SxApp.mk 5 rfl 0 (.inr (.inr (.inr ⟨by decide, _, rfl⟩))) (vs := enE.enc x) (m := 1) (enC_len _) (enC_one _) (by unfold maxLen; omega) (by omega) (cs' := enE.fl ((es.take (k + 1)).map (turn1 (mvZ fs ts)))) (by rw [hsm, enE.fl_append, enE.fl_one, e1]) fun ao' cap' => ?_
      ((try refine sx_use ?_); (repeat (refine SxNew.mk fun _ => ?_; (try refine sx_use ?_))))
      exact SxRound.mk (k + 1, ao', cap') [2, 3, 4, 5, 6, 7, 8] (by dsimp only; rw [e2]; rfl) rfl rfl hlt (by dsimp only; omega)
  · obtain rfl : k = es.length := by omega
    rw [List.take_length]
    ((try refine sx_use ?_); (repeat (refine SxNew.mk fun _ => ?_; (try refine sx_use ?_))))
    exact SxDone.mk fun w' hs => ⟨ro, rc, rfl, hs.newRow 3 rfl⟩
end Go.Proofs.Ytdififdnnpgjoaa
