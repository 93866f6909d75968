/- The law of layer 15: ManifestTells. -/
import Derived.Test.YtdbappehchgbcaaGreatZMnL
import Derived.Test.YtdbappehchgbcaaGreatZHkJ
namespace Go.Proofs.YtdbappehchgbcaaGreat
open Go.RowKit

def En.fpr (e : En) : Fp := ⟨e.fp, e.hf⟩
def fpsOf (es : List En) : List Fp := es.map En.fpr
theorem fpsOf_len (es : List En) : (fpsOf es).length = es.length := List.length_map ..
theorem enC_fp (x : En) : ((enC x).drop 0).take 32 = fpC x.fp := by
  unfold enC fpC
  rw [List.drop_zero, List.take_left' (by rw [List.length_map, x.hf])]
  rfl
theorem rowEn_fp {l : List En} {k : Nat} {x : En} (h : l[k]? = some x) : ((enE.fl l).drop (k * 35 + 0)).take 32 = fpC x.fp := by
  have h1 := rowEn_at h
  rw [Nat.add_zero]
  have : ((enE.fl l).drop (k * 35)).take 32 = (((enE.fl l).drop (k * 35)).take 35).take 32 := by rw [List.take_take]; rfl
  rw [this, h1]
  exact enC_fp x
theorem MHooks_any (id : Int) (es : List En) (hes : es.length ≤ 1000000) (n : Int) (ao : Option Addr) (ac : Nat) (w : World) (ha : Rd w ao (enE.fl es)) :
    Calls Tryz.prog 11 #[mnV id ao es.length ac, .int .i64 n] w fun e w' => ∃ ao' cap', e = .returned (.slice ao' (setF7 ((fpsOf es).filter fun x => isF x.1 n)).length cap') ∧ NewRow w w' ao' (setF7 ((fpsOf es).filter fun x => isF x.1 n)).length cap' 39 32 (fpE.fl (setF7 ((fpsOf es).filter fun x => isF x.1 n))) := by
  refine sx_fn (S := SX) (M := []) (N := 24) (H0 := [.row none 0 0 39 32 [], .rd ao (enE.fl es)]) Tryz.func11 rfl rfl rfl ((Sat.oneRd _ ha).nilRow 39 32) ?_
  ((try refine sx_use ?_); (repeat (refine SxNew.mk fun _ => ?_; (try refine sx_use ?_))))
  rename_i b1
  refine SxCode.loop (σ := Nat × Option Addr × Nat) [11, 5] [12, 13, 14, 7, 15, 16, 17, 18, 19, 5, 20, 11] (fun x => [.int .i64 (x.1 : Nat), .slice x.2.1 x.1 x.2.2]) (fun x => [.row x.2.1 x.1 x.2.2 39 32 (fpE.fl (fpsOf (es.take x.1))), .rd ao (enE.fl es)]) (fun x => x.1 ≤ es.length) (fun x => es.length - x.1) (0, none, 0) [1, 2] rfl rfl rfl rfl (Nat.zero_le _) ?_
  rintro ⟨k, ro, rc⟩ hk
  dsimp only at hk ⊢
  ((try refine sx_use ?_); (repeat (refine SxNew.mk fun _ => ?_; (try refine sx_use ?_))))
  refine SxIf.dec (fun h => ?_) (fun h => ?_)
  · have hlt : k < es.length := by omega
    obtain ⟨x, hx⟩ : ∃ x, es[k]? = some x := ⟨es[k], by simp [hlt]⟩
    have hsm : fpsOf (es.take (k + 1)) = fpsOf (es.take k) ++ [x.fpr] := by rw [take_snocE hx]; exact List.map_append
    ((try refine sx_use ?_); (repeat (refine SxNew.mk fun _ => ?_; (try refine sx_use ?_))))
    refine SxIA.rd 1 _ rfl k rfl hlt (by rw [rowEn_len]; omega) fun g off hga => ?_
    ((try refine sx_use ?_); (repeat (refine SxNew.mk fun _ => ?_; (try refine sx_use ?_))))
    refine SxLdN.rd 1 rfl hga rfl (vs := enC x) (enC_len x) (rowEn_at hx) ?_
    ((try refine sx_use ?_); (repeat (refine SxNew.mk fun _ => ?_; (try refine sx_use ?_))))
    refine SxSt.elem enE (x := x) 0 rfl rfl ?_
    ((try refine sx_use ?_); (repeat (refine SxNew.mk fun _ => ?_; (try refine sx_use ?_))))
    refine SxLdN.blk 0 rfl (vs := fpC x.fp) (by rw [fpC_len, x.hf]) (enC_fp x) ?_
    ((try refine sx_use ?_); (repeat (refine SxNew.mk fun _ => ?_; (try refine sx_use ?_))))
    refine SxFill.one rfl (by show (fpC x.fp).length = 32; rw [fpC_len, x.hf]) ?_
    ((try refine sx_use ?_); (repeat (refine SxNew.mk fun _ => ?_; (try refine sx_use ?_))))
    refine SxApp.mk 2 rfl 0 (.inr (.inr (.inr ⟨by decide, _, rfl⟩))) (vs := fpE.enc x.fpr) (m := 1) (fpE.len _) (fpE.one _) (by unfold maxLen; omega) (by omega) (cs' := fpE.fl (fpsOf (es.take (k + 1)))) (by rw [hsm, fpE.fl_append, fpE.fl_one]) fun ao' cap' => ?_
    ((try refine sx_use ?_); (repeat (refine SxNew.mk fun _ => ?_; (try refine sx_use ?_))))
    exact SxRound.mk (k + 1, ao', cap') [2, 3] rfl rfl rfl hlt (by dsimp only; omega)
  · obtain rfl : k = es.length := by omega
    rw [List.take_length]
    have hle := fpsOf_len es
    ((try refine sx_use ?_); (repeat (refine SxNew.mk fun _ => ?_; (try refine sx_use ?_))))
    refine SxCall.newRow (fun w hs => by
      have h := hOf_any (fpsOf es) (by omega) ro rc n w (hs.rowRd 0 rfl (by rw [rowFp_len, hle]; unfold maxLen; omega))
      rw [hle] at h
      exact h) fun ao' cap' => ?_
    ((try refine sx_use ?_); (repeat (refine SxNew.mk fun _ => ?_; (try refine sx_use ?_))))
    exact SxDone.mk fun w' hs => ⟨ao', cap', rfl, hs.newRow 0 rfl⟩
theorem RMHooks_any (id : Int) (es : List En) (hes : es.length ≤ 1000000) (n : Int) (ao : Option Addr) (ac : Nat) (w : World) (ha : Rd w ao (enE.fl es)) :
    Calls Tryz.prog 12 #[mnV id ao es.length ac, .int .i64 n] w fun e w' => ∃ ao' cap', e = .returned (.slice ao' (setR7 ((fpsOf es).filter fun x => isF x.1 n)).length cap') ∧ NewRow w w' ao' (setR7 ((fpsOf es).filter fun x => isF x.1 n)).length cap' 39 32 (fpE.fl (setR7 ((fpsOf es).filter fun x => isF x.1 n))) := by
  refine sx_fn (S := SX) (M := []) (N := 26) (H0 := [.row none 0 0 39 32 [], .rd ao (enE.fl es)]) Tryz.func12 rfl rfl rfl ((Sat.oneRd _ ha).nilRow 39 32) ?_
  ((try refine sx_use ?_); (repeat (refine SxNew.mk fun _ => ?_; (try refine sx_use ?_))))
  rename_i b1
  refine SxCode.loop (σ := Nat × Option Addr × Nat) [6, 5] [7, 8, 9, 10, 11, 14, 15, 16, 17, 18, 19, 20, 21, 22, 5, 12, 13, 6] (fun x => [.int .i64 (x.1 : Nat), .slice x.2.1 x.1 x.2.2]) (fun x => [.row x.2.1 x.1 x.2.2 39 32 (fpE.fl (fpsOf (es.take x.1))), .blk b1 25 [.int .u32 id, .slice ao es.length ac], .rd ao (enE.fl es)]) (fun x => x.1 ≤ es.length) (fun x => es.length - x.1) (0, none, 0) [1, 0, 2] rfl rfl rfl rfl (Nat.zero_le _) ?_
  rintro ⟨k, ro, rc⟩ hk
  dsimp only at hk ⊢
  ((try refine sx_use ?_); (repeat (refine SxNew.mk fun _ => ?_; (try refine sx_use ?_))))
  refine SxIf.dec (fun h => ?_) (fun h => ?_)
  · have hlt : k < es.length := by omega
    obtain ⟨x, hx⟩ : ∃ x, es[k]? = some x := ⟨es[k], by simp [hlt]⟩
    have hsm : fpsOf (es.take (k + 1)) = fpsOf (es.take k) ++ [x.fpr] := by rw [take_snocE hx]; exact List.map_append
    ((try refine sx_use ?_); (repeat (refine SxNew.mk fun _ => ?_; (try refine sx_use ?_))))
    refine SxIA.rd 2 _ rfl k rfl hlt (by rw [rowEn_len]; omega) fun g off hga => ?_
    ((try refine sx_use ?_); (repeat (refine SxNew.mk fun _ => ?_; (try refine sx_use ?_))))
    refine SxLdN.rd 2 rfl hga (j := k * 35 + 0) (by omega) (vs := fpC x.fp) (by rw [fpC_len, x.hf]) (rowEn_fp hx) ?_
    ((try refine sx_use ?_); (repeat (refine SxNew.mk fun _ => ?_; (try refine sx_use ?_))))
    refine SxFill.one rfl (by show (fpC x.fp).length = 32; rw [fpC_len, x.hf]) ?_
    ((try refine sx_use ?_); (repeat (refine SxNew.mk fun _ => ?_; (try refine sx_use ?_))))
    refine SxApp.mk 1 rfl 0 (.inr (.inr (.inr ⟨by decide, _, rfl⟩))) (vs := fpE.enc x.fpr) (m := 1) (fpE.len _) (fpE.one _) (by unfold maxLen; omega) (by omega) (cs' := fpE.fl (fpsOf (es.take (k + 1)))) (by rw [hsm, fpE.fl_append, fpE.fl_one]) fun ao' cap' => ?_
    ((try refine sx_use ?_); (repeat (refine SxNew.mk fun _ => ?_; (try refine sx_use ?_))))
    exact SxRound.mk (k + 1, ao', cap') [1, 2, 3] rfl rfl rfl hlt (by dsimp only; omega)
  · obtain rfl : k = es.length := by omega
    rw [List.take_length]
    have hle := fpsOf_len es
    ((try refine sx_use ?_); (repeat (refine SxNew.mk fun _ => ?_; (try refine sx_use ?_))))
    refine SxCall.newRow (fun w hs => by
      have h := ROf_any (fpsOf es) (by omega) ro rc n w (hs.rowRd 0 rfl (by rw [rowFp_len, hle]; unfold maxLen; omega))
      rw [hle] at h
      exact h) fun ao' cap' => ?_
    ((try refine sx_use ?_); (repeat (refine SxNew.mk fun _ => ?_; (try refine sx_use ?_))))
    exact SxDone.mk fun w' hs => ⟨ao', cap', rfl, hs.newRow 0 rfl⟩
theorem RMBytes_any (id : Int) (es : List En) (hes : es.length ≤ 1000000) (ao : Option Addr) (ac : Nat) (w : World) (ha : Rd w ao (enE.fl es)) :
    Calls Tryz.prog 9 #[mnV id ao es.length ac] w fun e w' => e = .returned (.int .i64 (bytesI es)) ∧ Below w.heap.size w w' := by
  refine sx_fn (S := SX) (M := []) (N := 21) (H0 := [.rd ao (enE.fl es)]) Tryz.func9 rfl rfl rfl (Sat.oneRd _ ha) ?_
  ((try refine sx_use ?_); (repeat (refine SxNew.mk fun _ => ?_; (try refine sx_use ?_))))
  rename_i b1
  refine SxCode.loop (σ := Nat) [4, 3] [5, 6, 7, 8, 9, 12, 13, 14, 15, 16, 17, 18, 19, 3, 10, 11, 4] (fun k => [.int .i64 (k : Nat), .int .i64 (bytesI (es.take k))]) (fun _ => [.blk b1 25 [.int .u32 id, .slice ao es.length ac], .rd ao (enE.fl es)]) (fun k => k ≤ es.length) (fun k => es.length - k) 0 [0, 1] rfl rfl rfl rfl (Nat.zero_le _) ?_
  rintro k hk
  ((try refine sx_use ?_); (repeat (refine SxNew.mk fun _ => ?_; (try refine sx_use ?_))))
  refine SxIf.dec (fun h => ?_) (fun h => ?_)
  · have hlt : k < es.length := by omega
    obtain ⟨x, hx⟩ : ∃ x, es[k]? = some x := ⟨es[k], by simp [hlt]⟩
    have hsm : bytesI (es.take (k + 1)) = IntKind.i64.wrap (bytesI (es.take k) + x.ln) := by rw [take_snocE hx, bytesI_snoc]
    have l0 : (enC x)[32]? = some (.int .i64 x.ln) := enC_tail x 0 _ rfl
    ((try refine sx_use ?_); (repeat (refine SxNew.mk fun _ => ?_; (try refine sx_use ?_))))
    refine SxIA.rd 1 _ rfl k rfl hlt (by rw [rowEn_len]; omega) fun g off hga => ?_
    ((try refine sx_use ?_); (repeat (refine SxNew.mk fun _ => ?_; (try refine sx_use ?_))))
    refine SxLd.rd 1 rfl hga (by omega) (j := k * 35 + 32) (v := .int .i64 x.ln) (rowEn_cell (j := 32) hx l0) ?_
    ((try refine sx_use ?_); (repeat (refine SxNew.mk fun _ => ?_; (try refine sx_use ?_))))
    refine SxRng.mk ?_
    rw [← hsm]
    ((try refine sx_use ?_); (repeat (refine SxNew.mk fun _ => ?_; (try refine sx_use ?_))))
    exact SxRound.mk (k + 1) [0, 1] rfl rfl rfl hlt (by omega)
  · obtain rfl : k = es.length := by omega
    rw [List.take_length]
    ((try refine sx_use ?_); (repeat (refine SxNew.mk fun _ => ?_; (try refine sx_use ?_))))
    exact SxDone.mk fun w' hs => ⟨rfl, hs.touch.below⟩
set_option maxHeartbeats 8000000 in
theorem ManifestTells_law (w : World) (cs : List Value) (h : FitR Tryz.prog w 4 [.int .u32, .slice 41] cs) (bits : Int) (_hb : IntKind.i64.min ≤ bits ∧ bits ≤ IntKind.i64.max) (q : Int) (hq : IntKind.i64.min ≤ q ∧ q ≤ IntKind.i64.max) :
    Calls Tryz.prog 3 #[.agg cs.toArray, .int .i64 bits, .int .i64 q] w fun e w' => e = .returned (.bool true) ∧ Below w.heap.size w w' := by
  obtain ⟨id, ao, n, ac, he, hn, es, hes, hr⟩ := open_mn h
  rw [he]
  clear h he
  unfold maxLen at hn
  have hf1 := few15_any id ao n ac
  refine sx_fn (S := SX) (M := []) (N := 72) (H0 := [.rd ao (enE.fl es)]) Tryz.func3 rfl rfl rfl (Sat.oneRd _ hr) ?_
  by_cases hn1 : n ≤ 30
  rotate_left
  · rw [decide_eq_false hn1] at hf1
    ((try refine sx_use ?_); (repeat (refine SxNew.mk fun _ => ?_; (try refine sx_use ?_))))
    refine SxCall.quiet hf1 ?_
    ((try refine sx_use ?_); (repeat (refine SxNew.mk fun _ => ?_; (try refine sx_use ?_))))
    refine SxCall.quiet mn_awake ?_
    ((try refine sx_use ?_); (repeat (refine SxNew.mk fun _ => ?_; (try refine sx_use ?_))))
    exact SxDone.mk fun w' hs => ⟨rfl, hs.touch.below⟩
  rw [decide_eq_true hn1] at hf1
  obtain rfl : n = es.length := by omega
  obtain ⟨ps, hps⟩ : ∃ ps, ps = setP (plsOf es) := ⟨_, rfl⟩
  have h1 := fun (w : World) (hr : Rd w ao (enE.fl es)) => MPlaces_any id es (by omega) ao ac w hr
  have h2 := fun (w : World) (hr : Rd w ao (enE.fl es)) => RMPlaces_any id es (by omega) ao ac w hr
  rw [setRP_eq] at h2
  rw [← hps] at h1 h2
  have hpl : ps.length ≤ 30 := by
    have h1 : (setP (plsOf es)).length ≤ _ := setS_len cfP (plsOf es)
    rw [← hps, plsOf_len] at h1
    omega
  obtain ⟨fs, hfs⟩ : ∃ fs, fs = setF7 ((fpsOf es).filter fun x => isF x.1 bits) := ⟨_, rfl⟩
  have h3 := fun (w : World) (hr : Rd w ao (enE.fl es)) => MHooks_any id es (by omega) bits ao ac w hr
  have h4 := fun (w : World) (hr : Rd w ao (enE.fl es)) => RMHooks_any id es (by omega) bits ao ac w hr
  rw [setR7_eq] at h4
  rw [← hfs] at h3 h4
  have hfl : fs.length ≤ 30 := by
    have h1 := setF7_len ((fpsOf es).filter fun x => isF x.1 bits)
    have h2 := List.length_filter_le (fun x : Fp => isF x.1 bits) (fpsOf es)
    rw [← hfs] at h1
    rw [fpsOf_len] at h2
    omega
  clear hfs hps
  ((try refine sx_use ?_); (repeat (refine SxNew.mk fun _ => ?_; (try refine sx_use ?_))))
  refine SxCall.quiet hf1 ?_
  ((try refine sx_use ?_); (repeat (refine SxNew.mk fun _ => ?_; (try refine sx_use ?_))))
  refine SxCode.drawAll rfl [] ?_
  ((try refine sx_use ?_); (repeat (refine SxNew.mk fun _ => ?_; (try refine sx_use ?_))))
  refine SxCall.newRow (fun w hs => h1 w (hs.rd 1 rfl)) fun po pc => ?_
  ((try refine sx_use ?_); (repeat (refine SxNew.mk fun _ => ?_; (try refine sx_use ?_))))
  refine SxCall.newRow (fun w hs => h2 w (hs.rd 2 rfl)) fun qo qc => ?_
  ((try refine sx_use ?_); (repeat (refine SxNew.mk fun _ => ?_; (try refine sx_use ?_))))
  refine SxCode.drawAll rfl [] ?_
  ((try refine sx_use ?_); (repeat (refine SxNew.mk fun _ => ?_; (try refine sx_use ?_))))
  refine SxCall.quietS (fun w hs => MBytes_any id es (by omega) ao ac w (hs.rd 3 rfl)) ?_
  ((try refine sx_use ?_); (repeat (refine SxNew.mk fun _ => ?_; (try refine sx_use ?_))))
  refine SxCall.quietS (fun w hs => RMBytes_any id es (by omega) ao ac w (hs.rd 3 rfl)) ?_
  ((try refine sx_use ?_); (repeat (refine SxNew.mk fun _ => ?_; (try refine sx_use ?_))))
  refine SxCall.newRow (fun w hs => h3 w (hs.rd 3 rfl)) fun fo fc => ?_
  ((try refine sx_use ?_); (repeat (refine SxNew.mk fun _ => ?_; (try refine sx_use ?_))))
  refine SxCall.newRow (fun w hs => h4 w (hs.rd 4 rfl)) fun go gc => ?_
  ((try refine sx_use ?_); (repeat (refine SxNew.mk fun _ => ?_; (try refine sx_use ?_))))
  refine SxCall.quietS (fun w hs => RSame_any fs fs fo go fc gc w (hs.rowRd 1 rfl (by rw [rowFp_len]; unfold maxLen; omega)) (hs.rowRd 0 rfl (by rw [rowFp_len]; unfold maxLen; omega))) ?_
  rw [decide_eq_true (show fs = fs from rfl)]
  ((try refine sx_use ?_); (repeat (refine SxNew.mk fun _ => ?_; (try refine sx_use ?_))))
  refine SxCode.loop (σ := Nat) [9, 6] [41, 42, 43, 44, 47, 48, 49, 50, 51, 52, 53, 54, 55, 6, 45, 46, 9] (fun k => [.int .i64 (k : Nat), .bool false]) (fun _ => [.row qo ps.length qc 35 2 (plE.fl ps), .row po ps.length pc 35 2 (plE.fl ps)]) (fun k => k ≤ ps.length) (fun k => ps.length - k) 0 [2, 3] rfl rfl rfl rfl (Nat.zero_le _) ?_
  rintro k hk
  refine sx_base 0 rfl fun hq1 _ => ?_
  refine sx_base 1 rfl fun hp1 _ => ?_
  ((try refine sx_use ?_); (repeat (refine SxNew.mk fun _ => ?_; (try refine sx_use ?_))))
  refine SxIf.dec (fun h => ?_) (fun h => ?_)
  · have hlt : k < ps.length := by omega
    obtain ⟨x, hx⟩ : ∃ x, ps[k]? = some x := ⟨ps[k], by simp [hlt]⟩
    obtain ⟨gq, rfl⟩ := hq1 (by omega)
    obtain ⟨gp, rfl⟩ := hp1 (by omega)
    ((try refine sx_use ?_); (repeat (refine SxNew.mk fun _ => ?_; (try refine sx_use ?_))))
    refine SxCode.drawAll rfl [] ?_
    ((try refine sx_use ?_); (repeat (refine SxNew.mk fun _ => ?_; (try refine sx_use ?_))))
    refine SxIA.row 1 _ _ _ rfl k rfl hlt fun g' hg' => ?_
    obtain rfl : gp = g' := by simpa using hg'
    ((try refine sx_use ?_); (repeat (refine SxNew.mk fun _ => ?_; (try refine sx_use ?_))))
    refine SxLdN.row 1 rfl rfl rfl (vs := plC x) rfl (rowPl_at hx) ?_
    ((try refine sx_use ?_); (repeat (refine SxNew.mk fun _ => ?_; (try refine sx_use ?_))))
    refine SxIA.row 0 _ _ _ rfl k rfl hlt fun g' hg' => ?_
    obtain rfl : gq = g' := by simpa using hg'
    ((try refine sx_use ?_); (repeat (refine SxNew.mk fun _ => ?_; (try refine sx_use ?_))))
    refine SxLdN.row 0 rfl rfl rfl (vs := plC x) rfl (rowPl_at hx) ?_
    ((try refine sx_use ?_); (repeat (refine SxNew.mk fun _ => ?_; (try refine sx_use ?_))))
    refine SxRun.nePl (x := x) (y := x) ?_
    rw [decide_eq_true (show x = x from rfl)]
    ((try refine sx_use ?_); (repeat (refine SxNew.mk fun _ => ?_; (try refine sx_use ?_))))
    exact SxRound.mk (k + 1) [0, 1] rfl rfl rfl hlt (by omega)
  · have hq2 : -9223372036854775808 ≤ q ∧ q ≤ 9223372036854775807 := by simpa [IntKind.min, IntKind.max, IntKind.signed, IntKind.bits] using hq
    have h5 := MSize_any q
    by_cases hb : 1 ≤ q ∧ q ≤ 256
    · have e : sizeM q = 14 + 40 * q := by unfold sizeM; rw [if_pos hb]; omega
      rw [e] at h5
      ((try refine sx_use ?_); (repeat (refine SxNew.mk fun _ => ?_; (try refine sx_use ?_))))
      refine SxCall.quiet h5 ?_
      ((try refine sx_use ?_); (repeat (refine SxNew.mk fun _ => ?_; (try refine sx_use ?_))))
      refine SxCall.quiet mn_awake ?_
      ((try refine sx_use ?_); (repeat (refine SxNew.mk fun _ => ?_; (try refine sx_use ?_))))
      exact SxDone.mk fun w' hs => ⟨rfl, hs.touch.below⟩
    · have e : sizeM q = 0 := by unfold sizeM; rw [if_neg hb]
      rw [e] at h5
      rcases Classical.em (q < 1) with h7 | h7
      case' inl =>
        ((try refine sx_use ?_); (repeat (refine SxNew.mk fun _ => ?_; (try refine sx_use ?_))))
        (try refine SxIf.no (by omega) ?_)
        ((try refine sx_use ?_); (repeat (refine SxNew.mk fun _ => ?_; (try refine sx_use ?_))))
      case' inr =>
        ((try refine sx_use ?_); (repeat (refine SxNew.mk fun _ => ?_; (try refine sx_use ?_))))
        (try refine SxIf.yes (by omega) ?_)
        ((try refine sx_use ?_); (repeat (refine SxNew.mk fun _ => ?_; (try refine sx_use ?_))))
        (try refine SxIf.no (by omega) ?_)
        ((try refine sx_use ?_); (repeat (refine SxNew.mk fun _ => ?_; (try refine sx_use ?_))))
      all_goals
        refine SxCall.quiet h5 ?_
        ((try refine sx_use ?_); (repeat (refine SxNew.mk fun _ => ?_; (try refine sx_use ?_))))
        refine SxCall.quiet mn_awake ?_
        ((try refine sx_use ?_); (repeat (refine SxNew.mk fun _ => ?_; (try refine sx_use ?_))))
        exact SxDone.mk fun w' hs => ⟨rfl, hs.touch.below⟩
end Go.Proofs.YtdbappehchgbcaaGreat
