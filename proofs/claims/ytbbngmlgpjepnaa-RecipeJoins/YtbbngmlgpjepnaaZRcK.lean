/- The law of layer 16: RecipePuts. -/
import Derived.Test.YtbbngmlgpjepnaaZRcJ
namespace Go.Proofs.Ytbbngmlgpjepnaa
open Go.RowKit

theorem SxRun.ceqT {P : Program} {A : Value → Prop} {t : Nat} {x y : Operand} {a b c d : Nat} {m n : Int} (ha : IsW a m) (hb : IsW b n) (hc : IsW c m) (hd : IsW d n) (hA : A (.bool true)) : SxRun P (do eqGuard .eql t x y (.complex .f64 a b) (.complex .f64 c d); binOp .eql t (.complex .f64 a b) (.complex .f64 c d)) A :=
  ⟨_, fun w => by
    have h1 := order_W ha hc
    have h2 := order_W hb hd
    have h3 : ∀ n : Int, compare n n = Ordering.eq := fun n => by simp [compare, compareOfLessAndEq]
    simp [eqGuard, binOp, Op.complexOp, Op.Complex.cmp, Op.floatCmp, asBool, h1, h2, h3], hA⟩
theorem u32_bd {ms : List Int} (h : ∀ s ∈ ms, (Lit.int .u32 s).wf = true) : ∀ x ∈ ms, 0 ≤ x ∧ x < 4294967296 := by
  intro x hx
  have := h x hx
  have h2 : IntKind.u32.min ≤ x ∧ x ≤ IntKind.u32.max := by simpa [Lit.wf] using this
  have h3 : IntKind.u32.min = 0 := rfl
  have h4 : IntKind.u32.max = 4294967295 := rfl
  omega
/-- A recipe that comes in. -/
theorem open_rc {w : World} {d : Nat} {cs : List Value} (h : FitR Try.prog w (d + 1) [.str, .int .i64, .int .i64, .int .i64, .slice 42] cs) :
    ∃ (r : Rc) (ao : Option Addr) (cap : Nat), Value.agg cs.toArray = r.v ao cap ∧ r.ms.length ≤ cap ∧ Rd w ao (r.ms.map u4V) ∧ r.nm.length ≤ maxLen := by
  obtain ⟨hl, hf⟩ := h
  match cs, hl, hf with
  | [c0, c1, c2, c3, c4], _, hf =>
    obtain ⟨s, rfl, hs⟩ := fitK_str (hf 0 _ _ rfl rfl)
    obtain ⟨n1, rfl, _⟩ := fitK_int (hf 1 _ _ rfl rfl)
    obtain ⟨n2, rfl, _⟩ := fitK_int (hf 2 _ _ rfl rfl)
    obtain ⟨n3, rfl, _⟩ := fitK_int (hf 3 _ _ rfl rfl)
    obtain ⟨ao, n, cap, ss, rfl, h1, h2, rfl, h4, h5⟩ := fitK_nums (kk := .u32) (hf 4 _ _ rfl rfl) (by kernel_rfl) (by kernel_rfl)
    exact ⟨⟨s.data.toList, n1, n2, n3, ss⟩, ao, cap, rfl, h1, h4, by dsimp only; exact hs⟩
  | [], hl, _ => simp at hl
  | [_], hl, _ => simp at hl
  | [_, _], hl, _ => simp at hl
  | [_, _, _], hl, _ => simp at hl
  | [_, _, _, _], hl, _ => simp at hl
  | _ :: _ :: _ :: _ :: _ :: _ :: _, hl, _ => simp at hl
def Rc.few (r : Rc) : Rc := ⟨r.nm.take 60, r.sz, r.re, r.im, r.ms.take 1030⟩
theorem fewv_any (r : Rc) (ao : Option Addr) (cap : Nat) (hc : r.ms.length ≤ cap) (w : World) : Calls Try.prog 16 #[r.v ao cap] w fun e w' => e = .returned (r.few.v ao cap) ∧ Below w.heap.size w w' := few_any r.nm r.sz r.re r.im r.ms ao cap hc w
theorem few_rd {r : Rc} {ao : Option Addr} {w : World} (h : Rd w ao (r.ms.map u4V)) : Rd w ao (r.few.ms.map u4V) := by
  have := Rd.take h 1030
  rw [← List.map_take] at this
  exact this
set_option maxHeartbeats 4000000 in
theorem RecipePuts_core (W0 : World) (r k : Rc) (ao bo : Option Addr) (cap bcap : Nat) (hc : r.ms.length ≤ cap) (hc2 : k.ms.length ≤ bcap) (hr : Rd W0 ao (r.ms.map u4V)) (hk : Rd W0 bo (k.ms.map u4V)) :
    Calls Try.prog 7 #[r.v ao cap, k.v bo bcap] W0 fun e w' => e = .returned (.bool true) ∧ Below W0.heap.size W0 w' := by
  refine sx_fn (S := SX) (M := []) (N := 99) (H0 := [.rd ao (r.few.ms.map u4V), .rd bo (k.few.ms.map u4V)]) Try.func7 rfl rfl rfl (Sat.twoRd _ (few_rd hr) (few_rd hk)) ?_
  have hF1 := fewv_any r ao cap hc
  have hF2 := fewv_any k bo bcap hc2
  have hn1 : r.few.nm.length ≤ 60 := by show (r.nm.take 60).length ≤ 60; rw [List.length_take]; omega
  have hm1 : r.few.ms.length ≤ 1030 := by show (r.ms.take 1030).length ≤ 1030; rw [List.length_take]; omega
  have hm2 : k.few.ms.length ≤ 1030 := by show (k.ms.take 1030).length ≤ 1030; rw [List.length_take]; omega
  generalize r.few = r1 at *
  generalize k.few = k1 at *
  have hnm : r1.nm.length ≤ maxLen := by unfold maxLen; omega
  have hP := fun (w : World) (hs : Rd w ao (r1.ms.map u4V)) => Put_any r1.nm r1.sz r1.re r1.im r1.ms hnm ao cap w hs
  have hC := fun (w : World) (hs : Rd w ao (r1.ms.map u4V)) => Check_any r1.nm r1.sz r1.re r1.im r1.ms hnm ao cap w hs
  have hMy := fun (w : World) (hs : Rd w ao (r1.ms.map u4V)) => RMay_any r1.nm r1.sz r1.re r1.im r1.ms ao cap w hs
  have hW := fun (w : World) (hs : Rd w ao (r1.ms.map u4V)) => Weight_any r1 hnm ao cap w hs
  have hlm : (r1.ms.map u4V).length ≤ maxLen := by rw [List.length_map]; unfold maxLen; omega
  ((try refine sx_use ?_); (repeat (refine SxNew.mk fun _ => ?_; (try refine sx_use ?_))))
  refine SxCall.quiet hF1 ?_
  ((try refine sx_use ?_); (repeat (refine SxNew.mk fun _ => ?_; (try refine sx_use ?_))))
  refine SxCall.quiet hF2 ?_
  ((try refine sx_use ?_); (repeat (refine SxNew.mk fun _ => ?_; (try refine sx_use ?_))))
  by_cases hmay : mayR r1.nm.length r1.sz r1.re r1.im r1.ms
  · rw [if_pos hmay] at hP hW
    have hml : r1.ms.length ≤ 1024 := hmay.2.2.1
    have hpl : r1.put.length = 26 + r1.nm.length + 4 * r1.ms.length := putL_len _ _ _ _ _
    rw [show chkR r1.nm.length r1.sz r1.re r1.im r1.ms = 0 from if_pos hmay] at hC
    rw [decide_eq_true hmay] at hMy
    refine SxCall.quietS (fun w hs => hP w (hs.rd 2 rfl)) ?_
    ((try refine sx_use ?_); (repeat (refine SxNew.mk fun _ => ?_; (try refine sx_use ?_))))
    refine SxCode.drawAll rfl [] ?_
    ((try refine sx_use ?_); (repeat (refine SxNew.mk fun _ => ?_; (try refine sx_use ?_))))
    refine SxCall.quietS (fun w hs => hC w (hs.rd 2 rfl)) ?_
    ((try refine sx_use ?_); (repeat (refine SxNew.mk fun _ => ?_; (try refine sx_use ?_))))
    refine SxCall.quietS (fun w hs => Same_any r1 k1 ao bo cap bcap w (hs.rd 2 rfl) (hs.rd 3 rfl)) ?_
    ((try refine sx_use ?_); (repeat (refine SxNew.mk fun _ => ?_; (try refine sx_use ?_))))
    refine SxCall.quietS (fun w hs => RRSame_any r1 k1 ao bo cap bcap w (hs.rd 2 rfl) (hs.rd 3 rfl) (by omega)) ?_
    ((try refine sx_use ?_); (repeat (refine SxNew.mk fun _ => ?_; (try refine sx_use ?_))))
    refine SxRun.bNe Try.underlying4 ?_
    ((try refine sx_use ?_); (repeat (refine SxNew.mk fun _ => ?_; (try refine sx_use ?_))))
    refine SxIf.af (bne_self_eq_false _) ?_
    ((try refine sx_use ?_); (repeat (refine SxNew.mk fun _ => ?_; (try refine sx_use ?_))))
    refine SxCall.quietS (v := .bool true) (fun w hs => by
      have h := Same_any r1 r1 ao ao cap cap w (hs.rd 2 rfl) (hs.rd 2 rfl)
      rw [decide_eq_true rfl] at h
      exact h) ?_
    ((try refine sx_use ?_); (repeat (refine SxNew.mk fun _ => ?_; (try refine sx_use ?_))))
    refine SxCall.quiet awake_any ?_
    ((try refine sx_use ?_); (repeat (refine SxNew.mk fun _ => ?_; (try refine sx_use ?_))))
    refine SxCall.quietS (fun w hs => hMy w (hs.rd 2 rfl)) ?_
    ((try refine sx_use ?_); (repeat (refine SxNew.mk fun _ => ?_; (try refine sx_use ?_))))
    refine SxCall.newRow (v := fun ao cap => .tuple #[r1.v ao cap, .int .i64 0]) (fun w _ => (Get_any r1.put (by omega) w).mono fun e w' h => h.1 r1 hmay rfl) fun co ccap => ?_
    ((try refine sx_use ?_); (repeat (refine SxNew.mk fun _ => ?_; (try refine sx_use ?_))))
    refine SxCall.quietS (fun w hs => RPut_any r1.nm r1.sz r1.re r1.im r1.ms hmay ao cap w (hs.rd 4 rfl)) ?_
    ((try refine sx_use ?_); (repeat (refine SxNew.mk fun _ => ?_; (try refine sx_use ?_))))
    refine SxIf.nt (SxIf.strT rfl ?_)
    ((try refine sx_use ?_); (repeat (refine SxNew.mk fun _ => ?_; (try refine sx_use ?_))))
    refine SxCall.quietS (v := .bool true) (fun w hs => by
      have h := RRSame_any r1 r1 co ao ccap cap w (hs.rowRd 1 rfl hlm) (hs.rd 4 rfl) (by omega)
      rw [decide_eq_true rfl] at h
      exact h) ?_
    ((try refine sx_use ?_); (repeat (refine SxNew.mk fun _ => ?_; (try refine sx_use ?_))))
    have hS := RSize_any r1.nm r1.ms.length hnm
    rw [show sizeR r1.nm.length r1.ms.length = 26 + r1.nm.length + 4 * r1.ms.length by
      obtain ⟨g1, g2, _⟩ := hmay
      unfold sizeR; rw [if_pos (by omega)]] at hS
    refine SxCall.quiet hS ?_
    have hps : (⟨(putL r1.nm r1.sz r1.re r1.im r1.ms).toArray⟩ : ByteArray).size = 26 + r1.nm.length + 4 * r1.ms.length := by rw [mk_size]; exact hpl
    ((try refine sx_use ?_); (repeat (refine SxNew.mk fun _ => ?_; (try refine sx_use ?_))))
    refine SxCode.drawAll rfl [] ?_
    ((try refine sx_use ?_); (repeat (refine SxNew.mk fun _ => ?_; (try refine sx_use ?_))))
    refine SxRun.i2f Try.underlying3 Try.underlying54 ?_
    ((try refine sx_use ?_); (repeat (refine SxNew.mk fun _ => ?_; (try refine sx_use ?_))))
    refine SxRun.i2f Try.underlying3 Try.underlying54 ?_
    ((try refine sx_use ?_); (repeat (refine SxNew.mk fun _ => ?_; (try refine sx_use ?_))))
    refine SxCall.quietS (fun w hs => hW w (hs.rd 4 rfl)) ?_
    ((try refine sx_use ?_); (repeat (refine SxNew.mk fun _ => ?_; (try refine sx_use ?_))))
    obtain ⟨g1, g2, g3, g4, g5, ⟨g6, g7⟩, ⟨g8, g9⟩, g10⟩ := hmay
    refine SxRun.ceqT (isW_fI r1.re (by omega)) (isW_fI r1.im (by omega)) (isW_fI r1.re (by omega)) (isW_fI r1.im (by omega)) ?_
    ((try refine sx_use ?_); (repeat (refine SxNew.mk fun _ => ?_; (try refine sx_use ?_))))
    exact SxDone.mk fun w' hs => ⟨rfl, hs.touch.below⟩
  · rw [if_neg hmay] at hP hW
    rw [show chkR r1.nm.length r1.sz r1.re r1.im r1.ms = 1 from if_neg hmay] at hC
    rw [decide_eq_false hmay] at hMy
    refine SxCall.quietS (fun w hs => hP w (hs.rd 2 rfl)) ?_
    ((try refine sx_use ?_); (repeat (refine SxNew.mk fun _ => ?_; (try refine sx_use ?_))))
    refine SxCode.drawAll rfl [] ?_
    ((try refine sx_use ?_); (repeat (refine SxNew.mk fun _ => ?_; (try refine sx_use ?_))))
    refine SxCall.quietS (fun w hs => hC w (hs.rd 2 rfl)) ?_
    ((try refine sx_use ?_); (repeat (refine SxNew.mk fun _ => ?_; (try refine sx_use ?_))))
    refine SxCall.quietS (fun w hs => Same_any r1 k1 ao bo cap bcap w (hs.rd 2 rfl) (hs.rd 3 rfl)) ?_
    ((try refine sx_use ?_); (repeat (refine SxNew.mk fun _ => ?_; (try refine sx_use ?_))))
    refine SxCall.quietS (fun w hs => RRSame_any r1 k1 ao bo cap bcap w (hs.rd 2 rfl) (hs.rd 3 rfl) (by omega)) ?_
    ((try refine sx_use ?_); (repeat (refine SxNew.mk fun _ => ?_; (try refine sx_use ?_))))
    refine SxRun.bNe Try.underlying4 ?_
    ((try refine sx_use ?_); (repeat (refine SxNew.mk fun _ => ?_; (try refine sx_use ?_))))
    refine SxIf.af (bne_self_eq_false _) ?_
    ((try refine sx_use ?_); (repeat (refine SxNew.mk fun _ => ?_; (try refine sx_use ?_))))
    refine SxCall.quietS (v := .bool true) (fun w hs => by
      have h := Same_any r1 r1 ao ao cap cap w (hs.rd 2 rfl) (hs.rd 2 rfl)
      rw [decide_eq_true rfl] at h
      exact h) ?_
    ((try refine sx_use ?_); (repeat (refine SxNew.mk fun _ => ?_; (try refine sx_use ?_))))
    refine SxCall.quiet awake_any ?_
    ((try refine sx_use ?_); (repeat (refine SxNew.mk fun _ => ?_; (try refine sx_use ?_))))
    refine SxCall.quietS (fun w hs => hMy w (hs.rd 2 rfl)) ?_
    ((try refine sx_use ?_); (repeat (refine SxNew.mk fun _ => ?_; (try refine sx_use ?_))))
    refine SxIf.strT rfl ?_
    ((try refine sx_use ?_); (repeat (refine SxNew.mk fun _ => ?_; (try refine sx_use ?_))))
    refine SxCall.quietS (fun w hs => hW w (hs.rd 2 rfl)) ?_
    ((try refine sx_use ?_); (repeat (refine SxNew.mk fun _ => ?_; (try refine sx_use ?_))))
    refine SxRun.ceqT (isW_fI 0 (by decide)) (isW_fI 0 (by decide)) W_0 W_0 ?_
    ((try refine sx_use ?_); (repeat (refine SxNew.mk fun _ => ?_; (try refine sx_use ?_))))
    exact SxDone.mk fun w' hs => ⟨rfl, hs.touch.below⟩
theorem RecipePuts_law (w : World) (cs : List Value) (h : FitR Try.prog w 4 [.str, .int .i64, .int .i64, .int .i64, .slice 42] cs) (ds : List Value) (h2 : FitR Try.prog w 4 [.str, .int .i64, .int .i64, .int .i64, .slice 42] ds) :
    Calls Try.prog 7 #[.agg cs.toArray, .agg ds.toArray] w fun e w' => e = .returned (.bool true) ∧ Below w.heap.size w w' := by
  obtain ⟨r, ao, cap, e1, h3, h4, _⟩ := open_rc h
  obtain ⟨k, bo, bcap, e2, h5, h6, _⟩ := open_rc h2
  rw [e1, e2]
  exact RecipePuts_core w r k ao bo cap bcap h3 h5 h4 h6
end Go.Proofs.Ytbbngmlgpjepnaa
