/- The walk of layer 15's Turn. -/
import Derived.Test.YtdififdnnpgjoaaZMnG
import Derived.Test.YtdififdnnpgjoaaZGen
namespace Go.Proofs.Ytdififdnnpgjoaa
open Go.RowKit

theorem enC_bx (x : En) (b : Int) : splice 33 [.int .u32 b] (enC x) = enC { x with bx := b } := by
  unfold enC
  rw [show 33 = 32 + 1 from rfl, splice_past (by rw [List.length_map, x.hf])]
  rfl
theorem enC_sl (x : En) (b : Int) : splice 34 [.int .i64 b] (enC x) = enC { x with sl := b } := by
  unfold enC
  rw [show 34 = 32 + 2 from rfl, splice_past (by rw [List.length_map, x.hf])]
  rfl
/-- Entries of which the first k are turned. -/
def turnTo (ms : List Mv) (es : List En) (k : Nat) : List En := (es.take k).map (turn1 ms) ++ es.drop k
theorem turnTo_len (ms : List Mv) (es : List En) (k : Nat) (h : k ≤ es.length) : (turnTo ms es k).length = es.length := by unfold turnTo; rw [List.length_append, List.length_map, List.length_take, List.length_drop]; omega
theorem turnTo_at (ms : List Mv) {es : List En} {k : Nat} {x : En} (h : es[k]? = some x) : (turnTo ms es k)[k]? = some x := by
  have hl := (List.getElem?_eq_some_iff.1 h).1
  have e : ((es.take k).map (turn1 ms)).length = k := by rw [List.length_map, List.length_take]; omega
  unfold turnTo
  rw [List.getElem?_append_right (by omega), e, Nat.sub_self, List.getElem?_drop, Nat.add_zero, h]
theorem turnTo_succ (ms : List Mv) {es : List En} {k : Nat} {x : En} (h : es[k]? = some x) : turnTo ms es (k + 1) = (turnTo ms es k).set k (turn1 ms x) := by
  have hl := (List.getElem?_eq_some_iff.1 h).1
  have e : ((es.take k).map (turn1 ms)).length = k := by rw [List.length_map, List.length_take]; omega
  have hd : es.drop k = x :: es.drop (k + 1) := by rw [List.drop_eq_getElem_cons hl]; congr 1; exact (List.getElem?_eq_some_iff.1 h).2
  unfold turnTo
  rw [hd, List.set_append_right _ _ (by omega), e, Nat.sub_self, List.set_cons_zero, List.take_add_one, h, List.map_append, List.append_assoc]
  rfl
theorem turnTo_end (ms : List Mv) (es : List En) : turnTo ms es es.length = es.map (turn1 ms) := by unfold turnTo; rw [List.take_length, List.drop_length, List.append_nil]
theorem set_self {α : Type} {l : List α} {k : Nat} {x : α} (h : l[k]? = some x) : l.set k x = l := by
  obtain ⟨hl, he⟩ := List.getElem?_eq_some_iff.1 h
  rw [← he, List.set_getElem_self]
set_option maxHeartbeats 4000000 in
theorem MTurn_any (id : Int) (es : List En) (hes : es.length ≤ 1000000) (ms : List Mv) (ao bo : Option Addr) (ac bc : Nat) (w : World) (ha : Rd w ao (enE.fl es)) (hb : Rd w bo (mvE.fl ms)) :
    Calls Try.prog 40 #[mnV id ao es.length ac, .slice bo ms.length bc] w fun e w' => ∃ ao' cap', e = .returned (.tuple #[mnV id ao' es.length cap', .int .i64 (turnN ms es : Nat)]) ∧ NewRow w w' ao' es.length cap' 80 35 (enE.fl (es.map (turn1 ms))) := by
  refine sx_fn (S := SX) (M := []) (N := 63) (H0 := [.rd ao (enE.fl es), .rd bo (mvE.fl ms)]) Try.func40 rfl rfl rfl (Sat.twoRd _ ha hb) ?_
  ((try refine sx_use ?_); (repeat (refine SxNew.mk fun _ => ?_; (try refine sx_use ?_))))
  rename_i b2 b4
  refine SxCode.draw rfl [.blk b2 57 [.int .u32 id, .slice ao es.length ac]] [] [1] rfl rfl ?_
  ((try refine sx_use ?_); (repeat (refine SxNew.mk fun _ => ?_; (try refine sx_use ?_))))
  refine any_two rfl rfl rfl rfl rfl rfl rfl ?_ ?_
  case' refine_1 =>
    ((try refine sx_use ?_); (repeat (refine SxNew.mk fun _ => ?_; (try refine sx_use ?_))))
    refine SxCall.newRow (fun w hs => CloneEn_any es ao ac hes w (hs.rd 2 rfl)) fun co cc => ?_
    refine SxStable.mk [2] rfl rfl ?_
    ((try refine sx_use ?_); (repeat (refine SxNew.mk fun _ => ?_; (try refine sx_use ?_))))
    rename_i b6
    refine SxStable.mk [3] rfl rfl ?_
    ((try refine sx_use ?_); (repeat (refine SxNew.mk fun _ => ?_; (try refine sx_use ?_))))
    refine SxStable.mk [3] rfl rfl ?_
    ((try refine sx_use ?_); (repeat (refine SxNew.mk fun _ => ?_; (try refine sx_use ?_))))
    refine SxCode.loop (σ := Nat) [21, 7] [22, 23, 24, 25, 9, 8, 26, 27, 28, 29, 30, 10, 31, 32, 33, 11, 34, 35, 36, 37, 38, 39, 40, 41, 42, 43, 44, 45, 46, 47, 48, 49, 50, 51, 52, 53, 54, 55, 56, 57, 58, 59, 7, 60, 21] (fun k => [.int .i64 (k : Nat), .int .i64 (turnN ms (es.take k) : Nat)]) (fun k => [.row co es.length cc 80 35 (enE.fl (turnTo ms es k)), .blk b6 57 [.int .u32 id, .slice co es.length cc], .blk b4 57 [.int .u32 0, .slice none 0 0], .rd bo (mvE.fl ms)]) (fun k => k ≤ es.length) (fun k => es.length - k) 0 [1, 0, 2, 5] rfl rfl rfl rfl (Nat.zero_le _) ?_
  case' refine_2 =>
    ((try refine sx_use ?_); (repeat (refine SxNew.mk fun _ => ?_; (try refine sx_use ?_))))
    rename_i b6
    refine SxStable.mk [2] rfl rfl ?_
    ((try refine sx_use ?_); (repeat (refine SxNew.mk fun _ => ?_; (try refine sx_use ?_))))
    refine SxCall.newRow (fun w hs => CloneEn_any es ao ac hes w (hs.rd 3 rfl)) fun co cc => ?_
    refine SxStable.mk [3] rfl rfl ?_
    ((try refine sx_use ?_); (repeat (refine SxNew.mk fun _ => ?_; (try refine sx_use ?_))))
    refine SxStable.mk [3] rfl rfl ?_
    ((try refine sx_use ?_); (repeat (refine SxNew.mk fun _ => ?_; (try refine sx_use ?_))))
    refine SxCode.loop (σ := Nat) [21, 7] [22, 23, 24, 25, 9, 8, 26, 27, 28, 29, 30, 10, 31, 32, 33, 11, 34, 35, 36, 37, 38, 39, 40, 41, 42, 43, 44, 45, 46, 47, 48, 49, 50, 51, 52, 53, 54, 55, 56, 57, 58, 59, 7, 60, 21] (fun k => [.int .i64 (k : Nat), .int .i64 (turnN ms (es.take k) : Nat)]) (fun k => [.row co es.length cc 80 35 (enE.fl (turnTo ms es k)), .blk b6 57 [.int .u32 id, .slice co es.length cc], .blk b4 57 [.int .u32 0, .slice none 0 0], .rd bo (mvE.fl ms)]) (fun k => k ≤ es.length) (fun k => es.length - k) 0 [0, 1, 2, 5] rfl rfl rfl rfl (Nat.zero_le _) ?_
  all_goals
    rintro k hk
    have htl := turnTo_len ms es k hk
    have htn := turnN_le ms (es.take k)
    rw [List.length_take] at htn
    refine sx_base 0 rfl fun hco hcc => ?_
    ((try refine sx_use ?_); (repeat (refine SxNew.mk fun _ => ?_; (try refine sx_use ?_))))
    refine SxIf.dec (fun h => ?_) (fun h => ?_)
    · have hlt : k < es.length := by omega
      obtain ⟨x, hx⟩ : ∃ x, es[k]? = some x := ⟨es[k], by simp [hlt]⟩
      obtain ⟨gc, rfl⟩ := hco (by omega)
      have hat := turnTo_at ms hx
      have hsc := turnTo_succ ms hx
      have hsn : turnN ms (es.take (k + 1)) = turnN ms (es.take k) + (if (hitM ms x.pl).isSome then 1 else 0) := by rw [take_snocE hx, turnN_snoc]
      have l1 : (enC x)[33]? = some (.int .u32 x.bx) := enC_tail x 1 _ rfl
      have l2 : (enC x)[34]? = some (.int .i64 x.sl) := enC_tail x 2 _ rfl
      ((try refine sx_use ?_); (repeat (refine SxNew.mk fun _ => ?_; (try refine sx_use ?_))))
      refine SxIA.row 0 _ _ _ rfl k rfl hlt fun g' hg' => ?_
      obtain rfl : gc = g' := by simpa using hg'
      ((try refine sx_use ?_); (repeat (refine SxNew.mk fun _ => ?_; (try refine sx_use ?_))))
      refine SxLdN.row 0 rfl rfl rfl (vs := enC x) (enC_len x) (rowEn_at hat) ?_
      ((try refine sx_use ?_); (repeat (refine SxNew.mk fun _ => ?_; (try refine sx_use ?_))))
      refine SxSt.elem enE (x := x) 0 rfl rfl ?_
      ((try refine sx_use ?_); (repeat (refine SxNew.mk fun _ => ?_; (try refine sx_use ?_))))
      refine SxLd.blk 0 rfl l1 ?_
      ((try refine sx_use ?_); (repeat (refine SxNew.mk fun _ => ?_; (try refine sx_use ?_))))
      refine SxLd.blk 0 rfl l2 ?_
      ((try refine sx_use ?_); (repeat (refine SxNew.mk fun _ => ?_; (try refine sx_use ?_))))
      rename_i b9 b10
      refine SxCall.mk fun w hs => (IndexM_any ms x.pl b10 bo bc w (hs.rd 5 rfl) (Rd.of_blk (hs.blk 0 rfl) (by show 2 ≤ maxLen; decide))).mono ?_
      rintro e w' ⟨r, ⟨rfl, hr⟩, hbw⟩
      refine ⟨_, _, rfl, hs.below hbw, ?_⟩
      clear hbw hs w'
      ((try refine sx_use ?_); (repeat (refine SxNew.mk fun _ => ?_; (try refine sx_use ?_))))
      rcases hr with ⟨rfl, hno⟩ | ⟨j, m, rfl, hj, hyes⟩
      · have e1 : turnTo ms es (k + 1) = turnTo ms es k := by rw [hsc, turn1_none hno, set_self hat]
        have e2 : turnN ms (es.take (k + 1)) = turnN ms (es.take k) := by rw [hsn, hno]; rfl
        refine SxIf.no (by omega) ?_
        ((try refine sx_use ?_); (repeat (refine SxNew.mk fun _ => ?_; (try refine sx_use ?_))))
        exact SxRound.mk (k + 1) [2, 3, 4, 5] (by rw [e2]; rfl) (by rw [e1]; rfl) rfl hlt (by omega)
      · have e2 : turnN ms (es.take (k + 1)) = turnN ms (es.take k) + 1 := by rw [hsn, hyes]; rfl
        refine SxIf.yes (by omega) ?_
        ((try refine sx_use ?_); (repeat (refine SxNew.mk fun _ => ?_; (try refine sx_use ?_))))
        refine SxCode.draw rfl [.blk b6 57 [.int .u32 id, .slice (some ⟨gc, 0, none⟩) es.length cc], .rd bo (mvE.fl ms)] [] [3, 5] rfl rfl ?_
        ((try refine sx_use ?_); (repeat (refine SxNew.mk fun _ => ?_; (try refine sx_use ?_))))
        have hjl := (List.getElem?_eq_some_iff.1 hj).1
        refine SxIA.rd 1 (mvE.fl ms) rfl j rfl hjl (by rw [rowMv_len]; omega) fun g off ha => ?_
        ((try refine sx_use ?_); (repeat (refine SxNew.mk fun _ => ?_; (try refine sx_use ?_))))
        refine SxLd.rd 1 rfl ha (by omega) (j := j * 4 + 2) (v := .int .u32 m.to.bx) (rowMv_cell (j := 2) hj rfl) ?_
        ((try refine sx_use ?_); (repeat (refine SxNew.mk fun _ => ?_; (try refine sx_use ?_))))
        refine SxIA.rd 1 (mvE.fl ms) rfl j rfl hjl (by rw [rowMv_len]; omega) fun g off ha => ?_
        ((try refine sx_use ?_); (repeat (refine SxNew.mk fun _ => ?_; (try refine sx_use ?_))))
        refine SxLd.rd 1 rfl ha (by omega) (j := j * 4 + 3) (v := .int .i64 m.to.sl) (rowMv_cell (j := 3) hj rfl) ?_
        ((try refine sx_use ?_); (repeat (refine SxNew.mk fun _ => ?_; (try refine sx_use ?_))))
        refine SxIA.ptr gc 0 rfl k rfl hlt ?_
        ((try refine sx_use ?_); (repeat (refine SxNew.mk fun _ => ?_; (try refine sx_use ?_))))
        have hat2 : ((turnTo ms es k).set k { x with bx := m.to.bx })[k]? = some { x with bx := m.to.bx } := by rw [List.getElem?_set_self (by omega)]
        have e1 : ((turnTo ms es k).set k { x with bx := m.to.bx }).set k { x with bx := m.to.bx, sl := m.to.sl } = turnTo ms es (k + 1) := by rw [List.set_set, hsc, turn1_some hyes]
        refine SxSt.row 2 rfl rfl (j := k * 35 + 33) (by omega) (by rw [rowEn_len, htl]; show k * 35 + 33 + 1 ≤ _; omega) rfl (cs' := enE.fl ((turnTo ms es k).set k { x with bx := m.to.bx })) (enE.fl_splice hat (by show 33 + 1 ≤ 35; decide) (enC_bx x _)) ?_
        ((try refine sx_use ?_); (repeat (refine SxNew.mk fun _ => ?_; (try refine sx_use ?_))))
        refine SxStable.mk [3, 5] rfl rfl ?_
        ((try refine sx_use ?_); (repeat (refine SxNew.mk fun _ => ?_; (try refine sx_use ?_))))
        refine SxIA.ptr gc 0 rfl k rfl hlt ?_
        ((try refine sx_use ?_); (repeat (refine SxNew.mk fun _ => ?_; (try refine sx_use ?_))))
        refine SxSt.row 2 rfl rfl (j := k * 35 + 34) (by omega) (by rw [rowEn_len, List.length_set, htl]; show k * 35 + 34 + 1 ≤ _; omega) rfl (cs' := enE.fl (turnTo ms es (k + 1))) (by rw [← e1]; exact enE.fl_splice hat2 (by show 34 + 1 ≤ 35; decide) (enC_sl _ _)) ?_
        ((try refine sx_use ?_); (repeat (refine SxNew.mk fun _ => ?_; (try refine sx_use ?_))))
        refine SxStable.mk [3, 5] rfl rfl ?_
        ((try refine sx_use ?_); (repeat (refine SxNew.mk fun _ => ?_; (try refine sx_use ?_))))
        exact SxRound.mk (k + 1) [2, 3, 4, 5] (by rw [e2]; rfl) rfl rfl hlt (by omega)
    · obtain rfl : k = es.length := by omega
      rw [List.take_length, turnTo_end]
      ((try refine sx_use ?_); (repeat (refine SxNew.mk fun _ => ?_; (try refine sx_use ?_))))
      exact SxDone.mk fun w' hs => ⟨co, cc, rfl, hs.newRow 0 rfl⟩
end Go.Proofs.Ytdififdnnpgjoaa
