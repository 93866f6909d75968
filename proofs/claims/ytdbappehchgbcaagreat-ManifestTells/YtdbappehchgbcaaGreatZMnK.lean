/- The walks of layer 15: the document's Places, Bytes, the law's few, awake. -/
import Derived.Test.YtdbappehchgbcaaGreatZMnJ
import Derived.Test.YtdbappehchgbcaaGreatZMnF
import Derived.Test.YtdbappehchgbcaaGreatZMnI
import Derived.Test.YtdbappehchgbcaaGreatZGen
namespace Go.Proofs.YtdbappehchgbcaaGreat
open Go.RowKit

theorem open_mn {w : World} {d : Nat} {cs : List Value} (h : FitR Tryz.prog w (d + 1) [.int .u32, .slice 41] cs) : ∃ (id : Int) (ao : Option Addr) (n cap : Nat), Value.agg cs.toArray = mnV id ao n cap ∧ n ≤ maxLen ∧ ∃ l : List En, l.length = min n 1000 ∧ Rd w ao (enE.fl l) := by
  obtain ⟨hl, hf⟩ := h
  match cs, hl with
  | [x, y], _ =>
    obtain ⟨a, rfl, _⟩ := fitK_int (hf 0 _ _ rfl rfl)
    obtain ⟨ao, n, cap, rfl, h1, h2⟩ := open_ens (hf 1 _ _ rfl rfl)
    exact ⟨a, ao, n, cap, rfl, h1, h2⟩
set_option maxHeartbeats 4000000 in
theorem RMPlaces_any (id : Int) (es : List En) (hes : es.length ≤ 1000000) (ao : Option Addr) (ac : Nat) (w : World) (ha : Rd w ao (enE.fl es)) :
    Calls Tryz.prog 7 #[mnV id ao es.length ac] w fun e w' => ∃ ao' cap', e = .returned (.slice ao' (setRP (plsOf es)).length cap') ∧ NewRow w w' ao' (setRP (plsOf es)).length cap' 35 2 (plE.fl (setRP (plsOf es))) := by
  refine sx_fn (S := SX) (M := []) (N := 30) (H0 := [.row none 0 0 35 2 [], .rd ao (enE.fl es)]) Tryz.func7 rfl rfl rfl ((Sat.oneRd _ ha).nilRow 35 2) ?_
  ((try refine sx_use ?_); (repeat (refine SxNew.mk fun _ => ?_; (try refine sx_use ?_))))
  rename_i b1
  refine SxCode.loop (σ := Nat × Option Addr × Nat) [4, 3] [5, 6, 7, 8, 9, 12, 13, 14, 15, 16, 17, 18, 19, 20, 21, 22, 23, 24, 25, 26, 27, 3, 10, 11, 4] (fun x => [.int .i64 (x.1 : Nat), .slice x.2.1 x.1 x.2.2]) (fun x => [.row x.2.1 x.1 x.2.2 35 2 (plE.fl (plsOf (es.take x.1))), .blk b1 25 [.int .u32 id, .slice ao es.length ac], .rd ao (enE.fl es)]) (fun x => x.1 ≤ es.length) (fun x => es.length - x.1) (0, none, 0) [1, 0, 2] rfl rfl rfl rfl (Nat.zero_le _) ?_
  rintro ⟨k, ro, rc⟩ hk
  dsimp only at hk ⊢
  ((try refine sx_use ?_); (repeat (refine SxNew.mk fun _ => ?_; (try refine sx_use ?_))))
  refine SxIf.dec (fun h => ?_) (fun h => ?_)
  · have hlt : k < es.length := by omega
    obtain ⟨x, hx⟩ : ∃ x, es[k]? = some x := ⟨es[k], by simp [hlt]⟩
    have hsm : plsOf (es.take (k + 1)) = plsOf (es.take k) ++ [x.pl] := by rw [take_snocE hx]; exact List.map_append
    have l1 : (enC x)[33]? = some (.int .u32 x.bx) := enC_tail x 1 _ rfl
    have l2 : (enC x)[34]? = some (.int .i64 x.sl) := enC_tail x 2 _ rfl
    ((try refine sx_use ?_); (repeat (refine SxNew.mk fun _ => ?_; (try refine sx_use ?_))))
    refine SxCode.draw rfl [.blk b1 25 [.int .u32 id, .slice ao es.length ac], .rd ao (enE.fl es)] [] [1, 2] rfl rfl ?_
    ((try refine sx_use ?_); (repeat (refine SxNew.mk fun _ => ?_; (try refine sx_use ?_))))
    refine SxIA.rd 1 (enE.fl es) rfl k rfl hlt (by rw [rowEn_len]; omega) fun g off hga => ?_
    ((try refine sx_use ?_); (repeat (refine SxNew.mk fun _ => ?_; (try refine sx_use ?_))))
    refine SxLd.rd 1 rfl hga (by omega) (j := k * 35 + 33) (v := .int .u32 x.bx) (rowEn_cell (j := 33) hx l1) ?_
    ((try refine sx_use ?_); (repeat (refine SxNew.mk fun _ => ?_; (try refine sx_use ?_))))
    refine SxIA.rd 1 (enE.fl es) rfl k rfl hlt (by rw [rowEn_len]; omega) fun g off hga => ?_
    ((try refine sx_use ?_); (repeat (refine SxNew.mk fun _ => ?_; (try refine sx_use ?_))))
    refine SxLd.rd 1 rfl hga (by omega) (j := k * 35 + 34) (v := .int .i64 x.sl) (rowEn_cell (j := 34) hx l2) ?_
    ((try refine sx_use ?_); (repeat (refine SxNew.mk fun _ => ?_; (try refine sx_use ?_))))
    refine SxApp.mk 1 rfl 0 (.inr (.inr (.inr ⟨by decide, _, rfl⟩))) (vs := plC x.pl) (m := 1) rfl rfl (by unfold maxLen; omega) (by omega) (cs' := plE.fl (plsOf (es.take (k + 1)))) (by rw [hsm, plE.fl_append, plE.fl_one]; rfl) fun ao' cap' => ?_
    ((try refine sx_use ?_); (repeat (refine SxNew.mk fun _ => ?_; (try refine sx_use ?_))))
    exact SxRound.mk (k + 1, ao', cap') [1, 2, 3] rfl rfl rfl hlt (by dsimp only; omega)
  · obtain rfl : k = es.length := by omega
    rw [List.take_length]
    have hle : (plsOf es).length = es.length := plsOf_len es
    ((try refine sx_use ?_); (repeat (refine SxNew.mk fun _ => ?_; (try refine sx_use ?_))))
    refine SxCall.newRow (fun w hs => by
      have h := RSetP_any (plsOf es) (by omega) ro rc w (hs.rowRd 0 rfl (by rw [rowPl_len, hle]; unfold maxLen; omega))
      rw [hle] at h
      exact h) fun ao' cap' => ?_
    ((try refine sx_use ?_); (repeat (refine SxNew.mk fun _ => ?_; (try refine sx_use ?_))))
    exact SxDone.mk fun w' hs => ⟨ao', cap', rfl, hs.newRow 0 rfl⟩
theorem few15_any (id : Int) (ao : Option Addr) (n cap : Nat) (w : World) : Calls Tryz.prog 4 #[mnV id ao n cap] w fun e w' => e = .returned (.bool (decide (n ≤ 30))) ∧ Below w.heap.size w w' := by
  refine sx_fn (S := SX) (M := []) (N := 7) (H0 := []) Tryz.func4 rfl rfl rfl (Sat.nil _ _) ?_
  ((try refine sx_use ?_); (repeat (refine SxNew.mk fun _ => ?_; (try refine sx_use ?_))))
  refine SxDone.mk fun w' hs => ⟨?_, hs.touch.below⟩
  show Ending.returned (.bool (decide ((n : Int) ≤ 30))) = _
  congr 2
  rw [decide_eq_decide]
  omega
/-- All lengths together. -/
def bytesI (es : List En) : Int := es.foldl (fun n e => IntKind.i64.wrap (n + e.ln)) 0
theorem bytesI_snoc (es : List En) (e : En) : bytesI (es ++ [e]) = IntKind.i64.wrap (bytesI es + e.ln) := by unfold bytesI; rw [List.foldl_append]; rfl
theorem MBytes_any (id : Int) (es : List En) (hes : es.length ≤ 1000000) (ao : Option Addr) (ac : Nat) (w : World) (ha : Rd w ao (enE.fl es)) :
    Calls Tryz.prog 8 #[mnV id ao es.length ac] w fun e w' => e = .returned (.int .i64 (bytesI es)) ∧ Below w.heap.size w w' := by
  refine sx_fn (S := SX) (M := []) (N := 19) (H0 := [.rd ao (enE.fl es)]) Tryz.func8 rfl rfl rfl (Sat.oneRd _ ha) ?_
  ((try refine sx_use ?_); (repeat (refine SxNew.mk fun _ => ?_; (try refine sx_use ?_))))
  rename_i b1
  refine SxCode.loop (σ := Nat) [9, 3] [10, 11, 12, 5, 13, 14, 15, 16, 3, 17, 9] (fun k => [.int .i64 (k : Nat), .int .i64 (bytesI (es.take k))]) (fun _ => [.rd ao (enE.fl es)]) (fun k => k ≤ es.length) (fun k => es.length - k) 0 [1] rfl rfl rfl rfl (Nat.zero_le _) ?_
  rintro k hk
  ((try refine sx_use ?_); (repeat (refine SxNew.mk fun _ => ?_; (try refine sx_use ?_))))
  refine SxIf.dec (fun h => ?_) (fun h => ?_)
  · have hlt : k < es.length := by omega
    obtain ⟨x, hx⟩ : ∃ x, es[k]? = some x := ⟨es[k], by simp [hlt]⟩
    have hsm : bytesI (es.take (k + 1)) = IntKind.i64.wrap (bytesI (es.take k) + x.ln) := by rw [take_snocE hx, bytesI_snoc]
    have l0 : (enC x)[32]? = some (.int .i64 x.ln) := enC_tail x 0 _ rfl
    ((try refine sx_use ?_); (repeat (refine SxNew.mk fun _ => ?_; (try refine sx_use ?_))))
    refine SxIA.rd 0 _ rfl k rfl hlt (by rw [rowEn_len]; omega) fun g off hga => ?_
    ((try refine sx_use ?_); (repeat (refine SxNew.mk fun _ => ?_; (try refine sx_use ?_))))
    refine SxLdN.rd 0 rfl hga rfl (vs := enC x) (enC_len x) (rowEn_at hx) ?_
    ((try refine sx_use ?_); (repeat (refine SxNew.mk fun _ => ?_; (try refine sx_use ?_))))
    refine SxSt.elem enE (x := x) 0 rfl rfl ?_
    ((try refine sx_use ?_); (repeat (refine SxNew.mk fun _ => ?_; (try refine sx_use ?_))))
    refine SxLd.blk 0 rfl l0 ?_
    ((try refine sx_use ?_); (repeat (refine SxNew.mk fun _ => ?_; (try refine sx_use ?_))))
    refine SxRng.mk ?_
    rw [← hsm]
    ((try refine sx_use ?_); (repeat (refine SxNew.mk fun _ => ?_; (try refine sx_use ?_))))
    exact SxRound.mk (k + 1) [1] rfl rfl rfl hlt (by omega)
  · obtain rfl : k = es.length := by omega
    rw [List.take_length]
    ((try refine sx_use ?_); (repeat (refine SxNew.mk fun _ => ?_; (try refine sx_use ?_))))
    exact SxDone.mk fun w' hs => ⟨rfl, hs.touch.below⟩
end Go.Proofs.YtdbappehchgbcaaGreat
