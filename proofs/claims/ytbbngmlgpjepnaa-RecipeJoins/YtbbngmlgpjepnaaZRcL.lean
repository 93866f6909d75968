/- The walks: Fits of recipe and of the document, the document's Of; the law RecipeFits. -/
import Derived.Test.YtbbngmlgpjepnaaZRcK
import Derived.Test.YtbbngmlgpjepnaaZWi
namespace Go.Proofs.Ytbbngmlgpjepnaa
open Go.RowKit

theorem SxRun.bEq {P : Program} {A : Value → Prop} {t : Nat} {x y : Operand} {a b : Bool} (h : P.underlying t = some .bool) (hA : A (.bool (a == b))) : SxRun P (do eqGuard .eql t x y (.bool a) (.bool b); binOp .eql t (.bool a) (.bool b)) A :=
  ⟨_, fun w => by have : (Op.equal t (.bool a) (.bool b)).run P w = .ok (a == b) w := run_equalIn_bool' (P := P) w 9999 t a b h; simp [eqGuard, binOp, this], hA⟩
theorem cmp_eq (m n : Int) : (compare m n == Ordering.eq) = decide (m = n) := by
  simp only [compare, compareOfLessAndEq]
  by_cases h : m < n
  · rw [if_pos h, decide_eq_false (by omega)]; rfl
  · rw [if_neg h]
    by_cases h' : m = n
    · rw [if_pos h', decide_eq_true h']; rfl
    · rw [if_neg h', decide_eq_false h']; rfl
theorem SxRun.ceq {P : Program} {A : Value → Prop} {t : Nat} {x y : Operand} {a b c d : Nat} {m n m' n' : Int} (ha : IsW a m) (hb : IsW b n) (hc : IsW c m') (hd : IsW d n') (hA : A (.bool (decide (m = m') && decide (n = n')))) : SxRun P (do eqGuard .eql t x y (.complex .f64 a b) (.complex .f64 c d); binOp .eql t (.complex .f64 a b) (.complex .f64 c d)) A :=
  ⟨_, fun w => by
    have h1 := order_W ha hc
    have h2 := order_W hb hd
    simp [eqGuard, binOp, Op.complexOp, Op.Complex.cmp, Op.floatCmp, asBool, h1, h2, cmp_eq], hA⟩
def fitsB (r : Rc) (l : List UInt8) : Bool := decide (r.may) && (decide (r.sz = l.length) && (decide (r.re = reW l l.length) && decide (r.im = imW l l.length)))
theorem Fits_any (r : Rc) (hn : r.nm.length ≤ maxLen) (l : List UInt8) (hl : l.length ≤ 1000000) (ao : Option Addr) (cap : Nat) (w : World) (hr : Rd w ao (r.ms.map u4V)) :
    Calls Try.prog 14 #[r.v ao cap, txV l] w fun e w' => e = .returned (.bool (fitsB r l)) ∧ Below w.heap.size w w' := by
  have hsz : (⟨l.toArray⟩ : ByteArray).size = l.length := mk_size l
  have hbd := reW_bd l l.length
  have hC := fun (w : World) (hs : Rd w ao (r.ms.map u4V)) => Check_any r.nm r.sz r.re r.im r.ms hn ao cap w hs
  have hW := fun (w : World) (hs : Rd w ao (r.ms.map u4V)) => Weight_any r hn ao cap w hs
  refine sx_fn (S := SX) (M := []) (N := 22) (H0 := [.rd ao (r.ms.map u4V)]) Try.func14 rfl rfl rfl (Sat.oneRd _ hr) ?_
  unfold fitsB
  by_cases hm : mayR r.nm.length r.sz r.re r.im r.ms
  · rw [show chkR r.nm.length r.sz r.re r.im r.ms = 0 from if_pos hm] at hC
    rw [if_pos hm] at hW
    rw [decide_eq_true (show r.may from hm)]
    obtain ⟨g1, g2, g3, g4, g5, ⟨g6, g7⟩, ⟨g8, g9⟩, g10⟩ := hm
    ((try refine sx_use ?_); (repeat (refine SxNew.mk fun _ => ?_; (try refine sx_use ?_))))
    refine SxCall.quietS (fun w hs => hC w (hs.rd 1 rfl)) ?_
    ((try refine sx_use ?_); (repeat (refine SxNew.mk fun _ => ?_; (try refine sx_use ?_))))
    refine SxIf.eq (fun h1 => ?_) (fun h1 => ?_)
    · ((try refine sx_use ?_); (repeat (refine SxNew.mk fun _ => ?_; (try refine sx_use ?_))))
      refine SxCall.quietS (fun w hs => hW w (hs.rd 1 rfl)) ?_
      ((try refine sx_use ?_); (repeat (refine SxNew.mk fun _ => ?_; (try refine sx_use ?_))))
      refine SxCall.quiet (WOf_any l hl) ?_
      ((try refine sx_use ?_); (repeat (refine SxNew.mk fun _ => ?_; (try refine sx_use ?_))))
      refine SxRun.ceq (isW_fI r.re (by omega)) (isW_fI r.im (by omega)) (isW_fI (reW l l.length) (by omega)) (isW_fI (imW l l.length) (by omega)) ?_
      ((try refine sx_use ?_); (repeat (refine SxNew.mk fun _ => ?_; (try refine sx_use ?_))))
      exact SxDone.mk fun w' hs => ⟨by rw [decide_eq_true (show r.sz = l.length by omega)]; rfl, hs.touch.below⟩
    · ((try refine sx_use ?_); (repeat (refine SxNew.mk fun _ => ?_; (try refine sx_use ?_))))
      exact SxDone.mk fun w' hs => ⟨by rw [decide_eq_false (show ¬ r.sz = l.length by omega)]; rfl, hs.touch.below⟩
  · rw [show chkR r.nm.length r.sz r.re r.im r.ms = 1 from if_neg hm] at hC
    rw [decide_eq_false (show ¬ r.may from hm)]
    ((try refine sx_use ?_); (repeat (refine SxNew.mk fun _ => ?_; (try refine sx_use ?_))))
    refine SxCall.quietS (fun w hs => hC w (hs.rd 1 rfl)) ?_
    ((try refine sx_use ?_); (repeat (refine SxNew.mk fun _ => ?_; (try refine sx_use ?_))))
    exact SxDone.mk fun w' hs => ⟨rfl, hs.touch.below⟩
theorem RFits_any (r : Rc) (l : List UInt8) (hl : l.length ≤ 1000000) (ao : Option Addr) (cap : Nat) (w : World) (hr : Rd w ao (r.ms.map u4V)) :
    Calls Try.prog 15 #[r.v ao cap, txV l] w fun e w' => e = .returned (.bool (fitsB r l)) ∧ Below w.heap.size w w' := by
  have hsz : (⟨l.toArray⟩ : ByteArray).size = l.length := mk_size l
  have hM := fun (w : World) (hs : Rd w ao (r.ms.map u4V)) => RMay_any r.nm r.sz r.re r.im r.ms ao cap w hs
  refine sx_fn (S := SX) (M := []) (N := 24) (H0 := [.rd ao (r.ms.map u4V)]) Try.func15 rfl rfl rfl (Sat.oneRd _ hr) ?_
  unfold fitsB
  by_cases hm : mayR r.nm.length r.sz r.re r.im r.ms
  · rw [decide_eq_true hm] at hM
    rw [decide_eq_true (show r.may from hm)]
    ((try refine sx_use ?_); (repeat (refine SxNew.mk fun _ => ?_; (try refine sx_use ?_))))
    refine SxCode.drawAll rfl [] ?_
    ((try refine sx_use ?_); (repeat (refine SxNew.mk fun _ => ?_; (try refine sx_use ?_))))
    refine SxCall.quietS (fun w hs => hM w (hs.rd 1 rfl)) ?_
    ((try refine sx_use ?_); (repeat (refine SxNew.mk fun _ => ?_; (try refine sx_use ?_))))
    refine SxIf.eq (fun h1 => ?_) (fun h1 => ?_)
    · rw [decide_eq_true (show r.sz = l.length by omega)]
      ((try refine sx_use ?_); (repeat (refine SxNew.mk fun _ => ?_; (try refine sx_use ?_))))
      refine SxCall.quiet (ROf4_any l hl) ?_
      ((try refine sx_use ?_); (repeat (refine SxNew.mk fun _ => ?_; (try refine sx_use ?_))))
      refine SxRun.eq 3 rfl (ks := [.int .i64, .int .i64]) rfl rfl (by kernel_rfl) rfl rfl rfl ?_
      ((try refine sx_use ?_); (repeat (refine SxNew.mk fun _ => ?_; (try refine sx_use ?_))))
      refine SxDone.mk fun w' hs => ⟨?_, hs.touch.below⟩
      show Ending.returned (.bool (bif reW l l.length == r.re then (bif imW l l.length == r.im then true else false) else false)) = _
      congr 2
      by_cases h2 : r.re = reW l l.length
      · by_cases h3 : r.im = imW l l.length
        · rw [h2, h3]; simp
        · have : (imW l l.length == r.im) = false := by simpa using fun h => h3 h.symm
          rw [h2, this, decide_eq_false h3]; simp
      · have : (reW l l.length == r.re) = false := by simpa using fun h => h2 h.symm
        rw [this, decide_eq_false h2]; rfl
    · ((try refine sx_use ?_); (repeat (refine SxNew.mk fun _ => ?_; (try refine sx_use ?_))))
      exact SxDone.mk fun w' hs => ⟨by rw [decide_eq_false (show ¬ r.sz = l.length by omega)]; rfl, hs.touch.below⟩
  · rw [decide_eq_false hm] at hM
    rw [decide_eq_false (show ¬ r.may from hm)]
    ((try refine sx_use ?_); (repeat (refine SxNew.mk fun _ => ?_; (try refine sx_use ?_))))
    refine SxCode.drawAll rfl [] ?_
    ((try refine sx_use ?_); (repeat (refine SxNew.mk fun _ => ?_; (try refine sx_use ?_))))
    refine SxCall.quietS (fun w hs => hM w (hs.rd 1 rfl)) ?_
    ((try refine sx_use ?_); (repeat (refine SxNew.mk fun _ => ?_; (try refine sx_use ?_))))
    exact SxDone.mk fun w' hs => ⟨rfl, hs.touch.below⟩
set_option maxHeartbeats 2000000 in
theorem ROf_any (nm l : List UInt8) (hl : l.length ≤ 1000000) (ms : List Int) (ao : Option Addr) (cap : Nat) (w : World) (hr : Rd w ao (ms.map u4V)) :
    Calls Try.prog 12 #[txV nm, txV l, .slice ao ms.length cap] w fun e w' => e = .returned (if mayR nm.length l.length (reW l l.length) (imW l l.length) ms then .tuple #[rcV nm l.length (reW l l.length) (imW l l.length) ao ms.length cap, .bool true] else .tuple #[zrc.v none 0, .bool false]) ∧ Below w.heap.size w w' := by
  have hsz : (⟨l.toArray⟩ : ByteArray).size = l.length := mk_size l
  have hM := fun (w : World) (hs : Rd w ao (ms.map u4V)) => RMay_any nm l.length (reW l l.length) (imW l l.length) ms ao cap w hs
  refine sx_fn (S := SX) (M := []) (N := 26) (H0 := [.rd ao (ms.map u4V)]) Try.func12 rfl rfl rfl (Sat.oneRd _ hr) ?_
  ((try refine sx_use ?_); (repeat (refine SxNew.mk fun _ => ?_; (try refine sx_use ?_))))
  refine SxCall.quiet (ROf4_any l hl) ?_
  ((try refine sx_use ?_); (repeat (refine SxNew.mk fun _ => ?_; (try refine sx_use ?_))))
  by_cases hm : mayR nm.length l.length (reW l l.length) (imW l l.length) ms
  · rw [decide_eq_true hm] at hM
    refine SxCall.quietS (fun w hs => hM w (hs.rd 3 rfl)) ?_
    ((try refine sx_use ?_); (repeat (refine SxNew.mk fun _ => ?_; (try refine sx_use ?_))))
    exact SxDone.mk fun w' hs => ⟨by rw [if_pos hm]; rfl, hs.touch.below⟩
  · rw [decide_eq_false hm] at hM
    refine SxCall.quietS (fun w hs => hM w (hs.rd 3 rfl)) ?_
    ((try refine sx_use ?_); (repeat (refine SxNew.mk fun _ => ?_; (try refine sx_use ?_))))
    exact SxDone.mk fun w' hs => ⟨by rw [if_neg hm]; rfl, hs.touch.below⟩
def cutL (l : List UInt8) : List UInt8 := l.take 400
theorem cut_any (l : List UInt8) (w : World) : Calls Try.prog 10 #[txV l] w fun e w' => e = .returned (txV (cutL l)) ∧ Below w.heap.size w w' := by
  have hsz : (⟨l.toArray⟩ : ByteArray).size = l.length := mk_size l
  refine sx_fn (S := SX) (M := []) (N := 9) (H0 := []) Try.func10 rfl rfl rfl (Sat.nil _ _) ?_
  ((try refine sx_use ?_); (repeat (refine SxNew.mk fun _ => ?_; (try refine sx_use ?_))))
  refine SxIf.dec (fun h => ?_) (fun h => ?_)
  · ((try refine sx_use ?_); (repeat (refine SxNew.mk fun _ => ?_; (try refine sx_use ?_))))
    refine SxBnd.mk 0 400 rfl rfl (by omega) (by omega) ?_
    have hex : (⟨l.toArray⟩ : ByteArray).extract 0 400 = ⟨(l.take 400).toArray⟩ := by rw [mk_extract]; simp
    rw [hex]
    ((try refine sx_use ?_); (repeat (refine SxNew.mk fun _ => ?_; (try refine sx_use ?_))))
    exact SxDone.mk fun w' hs => ⟨rfl, hs.touch.below⟩
  · ((try refine sx_use ?_); (repeat (refine SxNew.mk fun _ => ?_; (try refine sx_use ?_))))
    exact SxDone.mk fun w' hs => ⟨by unfold cutL; rw [List.take_of_length_le (by omega)]; rfl, hs.touch.below⟩
end Go.Proofs.Ytbbngmlgpjepnaa
