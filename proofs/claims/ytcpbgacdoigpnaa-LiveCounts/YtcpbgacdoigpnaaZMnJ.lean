/- The walks of layer 15: Places, Bytes; the document's. -/
import Derived.Test.YtcpbgacdoigpnaaZMnB
import Derived.Test.YtcpbgacdoigpnaaZPlB
import Derived.Test.YtcpbgacdoigpnaaZOr
import Derived.Test.YtcpbgacdoigpnaaZLyPl
import Derived.Test.YtcpbgacdoigpnaaZShelf
namespace Go.Proofs.Ytcpbgacdoigpnaa
open Go.RowKit

theorem NaNu_any (x : Int) (w : World) : Calls Try.prog 45 #[.int .u32 x] w fun e w' => e = .returned (.bool false) ∧ Below w.heap.size w w' := by
  refine sx_fn (S := SX) (M := []) (N := 6) (H0 := []) Try.func45 rfl rfl rfl (Sat.nil _ _) ?_
  ((try refine sx_use ?_); (repeat (refine SxNew.mk fun _ => ?_; (try refine sx_use ?_))))
  refine SxDone.mk fun w' hs => ⟨?_, hs.touch.below⟩
  show Ending.returned (.bool (x != x)) = _
  rw [bne_self_eq_false]
theorem CmpU_any (x y : Int) (w : World) : Calls Try.prog 36 #[.int .u32 x, .int .u32 y] w fun e w' => e = .returned (.int .i64 (cI x y)) ∧ Below w.heap.size w w' := by
  have h1 := NaNu_any x
  have h2 := NaNu_any y
  refine sx_fn (S := SX) (M := []) (N := 20) (H0 := []) Try.func36 rfl rfl rfl (Sat.nil _ _) ?_
  ((try refine sx_use ?_); (repeat (refine SxNew.mk fun _ => ?_; (try refine sx_use ?_))))
  refine SxCall.quiet h1 ?_
  ((try refine sx_use ?_); (repeat (refine SxNew.mk fun _ => ?_; (try refine sx_use ?_))))
  refine SxCall.quiet h2 ?_
  ((try refine sx_use ?_); (repeat (refine SxNew.mk fun _ => ?_; (try refine sx_use ?_))))
  refine SxIf.dec (fun h => ?_) (fun h => ?_)
  · ((try refine sx_use ?_); (repeat (refine SxNew.mk fun _ => ?_; (try refine sx_use ?_))))
    exact SxDone.mk fun w' hs => ⟨by unfold cI Go.Lib.compareInt; rw [if_pos h]; rfl, hs.touch.below⟩
  · ((try refine sx_use ?_); (repeat (refine SxNew.mk fun _ => ?_; (try refine sx_use ?_))))
    refine SxIf.dec (fun h3 => ?_) (fun h3 => ?_)
    · ((try refine sx_use ?_); (repeat (refine SxNew.mk fun _ => ?_; (try refine sx_use ?_))))
      exact SxDone.mk fun w' hs => ⟨by unfold cI Go.Lib.compareInt; rw [if_neg h, if_pos h3]; rfl, hs.touch.below⟩
    · ((try refine sx_use ?_); (repeat (refine SxNew.mk fun _ => ?_; (try refine sx_use ?_))))
      exact SxDone.mk fun w' hs => ⟨by unfold cI Go.Lib.compareInt; rw [if_neg h, if_neg h3]; rfl, hs.touch.below⟩
theorem Places1_any (a b : Pl) (w : World) : Calls Try.prog 39 #[.agg (plC a).toArray, .agg (plC b).toArray] w fun e w' => e = .returned (.int .i64 (cfP a b)) ∧ Below w.heap.size w w' := by
  refine sx_fn (S := SX) (M := []) (N := 17) (H0 := []) Try.func39 rfl rfl rfl (Sat.nil _ _) ?_
  ((try refine sx_use ?_); (repeat (refine SxNew.mk fun _ => ?_; (try refine sx_use ?_))))
  refine SxCode.drawAll rfl [] ?_
  ((try refine sx_use ?_); (repeat (refine SxNew.mk fun _ => ?_; (try refine sx_use ?_))))
  refine SxCall.quiet (CmpU_any a.bx b.bx) ?_
  ((try refine sx_use ?_); (repeat (refine SxNew.mk fun _ => ?_; (try refine sx_use ?_))))
  refine SxCall.pure (fun w => (Try.cmp_Compare_int a.sl b.sl w).mono fun e w' h => ⟨h.1, h.2.symm⟩) ?_
  ((try refine sx_use ?_); (repeat (refine SxNew.mk fun _ => ?_; (try refine sx_use ?_))))
  refine SxCall.quietS (fun w hs => Or2_any (cI a.bx b.bx) (cI a.sl b.sl) _ _ w (hs.rowRd 0 rfl (by show (2 : Nat) ≤ maxLen; decide))) ?_
  ((try refine sx_use ?_); (repeat (refine SxNew.mk fun _ => ?_; (try refine sx_use ?_))))
  exact SxDone.mk fun w' hs => ⟨rfl, hs.touch.below⟩
def plsOf (es : List En) : List Pl := es.map En.pl
theorem plsOf_len (es : List En) : (plsOf es).length = es.length := List.length_map ..
set_option maxHeartbeats 4000000 in
theorem MPlaces_any (id : Int) (es : List En) (hes : es.length ≤ 1000000) (ao : Option Addr) (ac : Nat) (w : World) (ha : Rd w ao (enE.fl es)) :
    Calls Try.prog 22 #[mnV id ao es.length ac] w fun e w' => ∃ ao' cap', e = .returned (.slice ao' (setP (plsOf es)).length cap') ∧ NewRow w w' ao' (setP (plsOf es)).length cap' 25 2 (plE.fl (setP (plsOf es))) := by
  refine sx_fn (S := SX) (M := []) (N := 26) (H0 := [.row none 0 0 25 2 [], .rd ao (enE.fl es)]) Try.func22 rfl rfl rfl ((Sat.oneRd _ ha).nilRow 25 2) ?_
  ((try refine sx_use ?_); (repeat (refine SxNew.mk fun _ => ?_; (try refine sx_use ?_))))
  rename_i b1
  refine SxCode.loop (σ := Nat × Option Addr × Nat) [9, 3] [10, 11, 12, 5, 13, 14, 15, 16, 17, 18, 19, 20, 3, 21, 9] (fun x => [.int .i64 (x.1 : Nat), .slice x.2.1 x.1 x.2.2]) (fun x => [.row x.2.1 x.1 x.2.2 25 2 (plE.fl (plsOf (es.take x.1))), .rd ao (enE.fl es)]) (fun x => x.1 ≤ es.length) (fun x => es.length - x.1) (0, none, 0) [1, 2] rfl rfl rfl rfl (Nat.zero_le _) ?_
  rintro ⟨k, ro, rc⟩ hk
  dsimp only at hk ⊢
  ((try refine sx_use ?_); (repeat (refine SxNew.mk fun _ => ?_; (try refine sx_use ?_))))
  refine SxIf.dec (fun h => ?_) (fun h => ?_)
  · have hlt : k < es.length := by omega
    obtain ⟨x, hx⟩ : ∃ x, es[k]? = some x := ⟨es[k], by simp [hlt]⟩
    have hsm : plsOf (es.take (k + 1)) = plsOf (es.take k) ++ [x.pl] := by rw [take_snocE hx]; exact List.map_append
    have l1 : (enC x)[33]? = some (.int .u32 x.bx) := enC_tail x 1 _ rfl
    have l2 : (enC x)[34]? = some (.int .i64 x.sl) := enC_tail x 2 _ rfl
    ((try refine sx_use ?_); (repeat (refine SxNew.mk fun _ => ?_; (try refine sx_use ?_))))
    refine SxIA.rd 1 _ rfl k rfl hlt (by rw [rowEn_len]; omega) fun g off hga => ?_
    ((try refine sx_use ?_); (repeat (refine SxNew.mk fun _ => ?_; (try refine sx_use ?_))))
    refine SxLdN.rd 1 rfl hga rfl (vs := enC x) (enC_len x) (rowEn_at hx) ?_
    ((try refine sx_use ?_); (repeat (refine SxNew.mk fun _ => ?_; (try refine sx_use ?_))))
    refine SxSt.elem enE (x := x) 0 rfl rfl ?_
    ((try refine sx_use ?_); (repeat (refine SxNew.mk fun _ => ?_; (try refine sx_use ?_))))
    refine SxLd.blk 0 rfl l1 ?_
    ((try refine sx_use ?_); (repeat (refine SxNew.mk fun _ => ?_; (try refine sx_use ?_))))
    refine SxLd.blk 0 rfl l2 ?_
    ((try refine sx_use ?_); (repeat (refine SxNew.mk fun _ => ?_; (try refine sx_use ?_))))
    refine SxApp.mk 2 rfl 0 (.inr (.inr (.inr ⟨by decide, _, rfl⟩))) (vs := plC x.pl) (m := 1) rfl rfl (by unfold maxLen; omega) (by omega) (cs' := plE.fl (plsOf (es.take (k + 1)))) (by rw [hsm, plE.fl_append, plE.fl_one]; rfl) fun ao' cap' => ?_
    ((try refine sx_use ?_); (repeat (refine SxNew.mk fun _ => ?_; (try refine sx_use ?_))))
    exact SxRound.mk (k + 1, ao', cap') [2, 3] rfl rfl rfl hlt (by dsimp only; omega)
  · obtain rfl : k = es.length := by omega
    rw [List.take_length]
    ((try refine sx_use ?_); (repeat (refine SxNew.mk fun _ => ?_; (try refine sx_use ?_))))
    refine SxCall.sort (S := SX) (cf := cfP) (g := 39) (cb := #[]) (l := plsOf es) (n := es.length) Try.layPl plE Try.isAgg25 Try.sizeOf25 (cmpOk_of ltP_ord cfP_iff) (enters_of Try.func39 (by kernel_rfl) rfl) 0 rfl (by omega) (fun x y w w' _ _ => Places1_any x y w') ?_
    ((try refine sx_use ?_); (repeat (refine SxNew.mk fun _ => ?_; (try refine sx_use ?_))))
    have e : es.length = (sorted cfP (plsOf es)).length := by rw [sorted_len, plsOf_len]
    rw [e]
    refine SxCall.mk fun w hs => (CompactPl_sat hs 0 (by rw [← e]; exact hes) rfl).mono fun en w' he => ⟨_, _, he.1, he.2, ?_⟩
    ((try refine sx_use ?_); (repeat (refine SxNew.mk fun _ => ?_; (try refine sx_use ?_))))
    exact SxDone.mk fun w' hs => ⟨ro, rc, rfl, hs.newRow 0 rfl⟩
end Go.Proofs.Ytcpbgacdoigpnaa
