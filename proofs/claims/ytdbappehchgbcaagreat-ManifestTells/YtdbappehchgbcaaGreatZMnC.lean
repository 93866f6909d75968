/- The walks of layer 15: Put, and the document's. -/
import Derived.Test.YtdbappehchgbcaaGreatZMnB
import Derived.Test.YtdbappehchgbcaaGreatZPkA
namespace Go.Proofs.YtdbappehchgbcaaGreat
open Go.RowKit

def enB (e : En) : List UInt8 := e.fp ++ numL e.ln.toNat 2 ++ numL e.bx.toNat 4 ++ numL e.sl.toNat 2
theorem enB_len (e : En) : (enB e).length = 40 := by unfold enB; rw [List.length_append, List.length_append, List.length_append, numL_len, numL_len, numL_len, e.hf]
def preM (id : Int) (n : Nat) : List UInt8 := [77, 65, 78, 73] ++ numL id.toNat 4 ++ numL n 2
theorem preM_len (id : Int) (n : Nat) : (preM id n).length = 10 := by unfold preM; rw [List.length_append, List.length_append, numL_len, numL_len]; rfl
theorem flatE_len (es : List En) : (es.flatMap enB).length = 40 * es.length := by
  induction es with
  | nil => rfl
  | cons x l ih => rw [List.flatMap_cons, List.length_append, ih, enB_len, List.length_cons]; omega
theorem flatE_snoc (es : List En) (k : Nat) (x : En) (h : es[k]? = some x) : (es.take (k + 1)).flatMap enB = (es.take k).flatMap enB ++ enB x := by
  rw [List.take_add_one, h]; simp
def bodyM (id : Int) (es : List En) : List UInt8 := preM id es.length ++ es.flatMap enB
theorem bodyM_len (id : Int) (es : List En) : (bodyM id es).length = 10 + 40 * es.length := by unfold bodyM; rw [List.length_append, preM_len, flatE_len]
def putM (id : Int) (es : List En) : List UInt8 := sealL (bodyM id es)
theorem enC_sz (x : En) : (Value.agg (enC x).toArray).cells.size = 35 := by show (enC x).toArray.size = 35; rw [List.size_toArray]; exact enC_len x
theorem mag_eq : (⟨#[77, 65, 78, 73]⟩ : ByteArray) = ⟨([77, 65, 78, 73] : List UInt8).toArray⟩ := rfl
set_option maxHeartbeats 4000000 in
theorem MPut_any (id : Int) (es : List En) (ao : Option Addr) (cap : Nat) (w : World) (hr : Rd w ao (enE.fl es)) :
    Calls Tryz.prog 14 #[mnV id ao es.length cap] w fun e w' => e = .returned (if mayM id es then .tuple #[txV (putM id es), .int .i64 0] else .tuple #[txV [], .int .i64 1]) ∧ Below w.heap.size w w' := by
  refine sx_fn (S := SX) (M := []) (N := 52) (H0 := [.row none 0 0 5 1 [], .rd ao (enE.fl es)]) Tryz.func14 rfl rfl rfl ((Sat.oneRd _ hr).nilRow 5 1) ?_
  ((try refine sx_use ?_); (repeat (refine SxNew.mk fun _ => ?_; (try refine sx_use ?_))))
  refine SxCall.quietS (fun w hs => MCheck_any id es ao cap w (hs.rd 2 rfl)) ?_
  by_cases hm : mayM id es
  rotate_left
  · rw [if_neg hm]
    ((try refine sx_use ?_); (repeat (refine SxNew.mk fun _ => ?_; (try refine sx_use ?_))))
    exact SxDone.mk fun w' hs => ⟨by rw [if_neg hm]; rfl, hs.touch.below⟩
  rw [if_pos hm]
  obtain ⟨⟨i1, i2⟩, n1, n2, hall⟩ := hm
  have hm : mayM id es := ⟨⟨i1, i2⟩, n1, n2, hall⟩
  ((try refine sx_use ?_); (repeat (refine SxNew.mk fun _ => ?_; (try refine sx_use ?_))))
  rename_i bm b
  refine SxCode.draw rfl [.blk bm 25 [.int .u32 id, .slice ao es.length cap]] [] [1] rfl rfl ?_
  ((try refine sx_use ?_); (repeat (refine SxNew.mk fun _ => ?_; (try refine sx_use ?_))))
  refine SxRng.u16 (by omega) (by omega) ?_
  ((try refine sx_use ?_); (repeat (refine SxNew.mk fun _ => ?_; (try refine sx_use ?_))))
  refine SxCall.quiet (v := txV (numL id.toNat 4)) (fun w => rc32_any _ ⟨by omega, by omega⟩ w) ?_
  ((try refine sx_use ?_); (repeat (refine SxNew.mk fun _ => ?_; (try refine sx_use ?_))))
  refine SxLe.mk (by simp [mk_size, numL_len]) ?_
  rw [mag_eq, mkr_append]
  ((try refine sx_use ?_); (repeat (refine SxNew.mk fun _ => ?_; (try refine sx_use ?_))))
  refine SxCall.quiet (v := txV (numL es.length 2)) (fun w => rc16_any _ ⟨by omega, by omega⟩ w) ?_
  ((try refine sx_use ?_); (repeat (refine SxNew.mk fun _ => ?_; (try refine sx_use ?_))))
  refine SxLe.mk (by simp [mk_size, numL_len]) ?_
  rw [mkr_append]
  ((try refine sx_use ?_); (repeat (refine SxNew.mk fun _ => ?_; (try refine sx_use ?_))))
  refine SxCall.mk fun w hs => ?_
  refine Calls.mono (WS_list hs 0 2 b none 0 _ [] (preM id es.length) rfl (.inl rfl) (by decide) rfl (by rw [preM_len]; decide)) ?_
  rintro e w' ⟨ao1, cap1, rfl, hs'⟩
  refine ⟨_, [sbE b (.pointer (some ⟨b, 0, none⟩)) (.slice ao1 (preM id es.length).length cap1), .blk bm 25 [.int .u32 id, .slice ao es.length cap], .row ao1 (preM id es.length).length cap1 5 1 (Go.Lib.byteCells (preM id es.length)), .rd ao (enE.fl es)], rfl, hs', ?_⟩
  clear hs' hs w w'
  ((try refine sx_use ?_); (repeat (refine SxNew.mk fun _ => ?_; (try refine sx_use ?_))))
  (try refine SxStable.mk [1] rfl rfl ?_)
  (try ((try refine sx_use ?_); (repeat (refine SxNew.mk fun _ => ?_; (try refine sx_use ?_)))))
  refine SxCode.loop (σ := Nat × Option Addr × Nat) [27] [28, 29, 30, 7, 31, 32, 33, 34, 35, 36, 37, 38, 39, 40, 41, 42, 43, 44, 45, 46, 47, 48, 49, 27] (fun s => [.int .i64 (s.1 : Nat)]) (fun s => [sbE b (.pointer (some ⟨b, 0, none⟩)) (.slice s.2.1 (preM id es.length ++ (es.take s.1).flatMap enB).length s.2.2), .blk bm 25 [.int .u32 id, .slice ao es.length cap], .row s.2.1 (preM id es.length ++ (es.take s.1).flatMap enB).length s.2.2 5 1 (Go.Lib.byteCells (preM id es.length ++ (es.take s.1).flatMap enB)), .rd ao (enE.fl es)]) (fun s => s.1 ≤ es.length) (fun s => es.length - s.1) (0, ao1, cap1) [0, 1, 2, 3] rfl rfl (by rw [show (es.take 0).flatMap enB = [] from rfl, List.append_nil]; rfl) rfl (Nat.zero_le _) ?_
  rintro ⟨k, ko, kc⟩ hk
  dsimp only at hk ⊢
  have hpl : (preM id es.length ++ (es.take k).flatMap enB).length = 10 + 40 * k := by
    rw [List.length_append, preM_len, flatE_len, List.length_take, Nat.min_eq_left hk]
  ((try refine sx_use ?_); (repeat (refine SxNew.mk fun _ => ?_; (try refine sx_use ?_))))
  refine SxIf.dec (fun h => ?_) (fun h => ?_)
  · have hlt : k < es.length := by omega
    obtain ⟨x, hx⟩ : ∃ x, es[k]? = some x := ⟨es[k], by simp [hlt]⟩
    have hokx := hall x (List.mem_of_getElem? hx)
    obtain ⟨x1, x2, ⟨x3, x4⟩, x5, x6⟩ := hokx
    have hsn := flatE_snoc es k x hx
    have l0 : (enC x)[32]? = some (.int .i64 x.ln) := enC_tail x 0 _ rfl
    have l1 : (enC x)[33]? = some (.int .u32 x.bx) := enC_tail x 1 _ rfl
    have l2 : (enC x)[34]? = some (.int .i64 x.sl) := enC_tail x 2 _ rfl
    ((try refine sx_use ?_); (repeat (refine SxNew.mk fun _ => ?_; (try refine sx_use ?_))))
    refine SxIA.rd 3 _ rfl k rfl hlt (by rw [rowEn_len]; omega) fun g off ha => ?_
    ((try refine sx_use ?_); (repeat (refine SxNew.mk fun _ => ?_; (try refine sx_use ?_))))
    refine SxLdN.rd 3 rfl ha rfl (vs := enC x) (enC_len x) (rowEn_at hx) ?_
    ((try refine sx_use ?_); (repeat (refine SxNew.mk fun _ => ?_; (try refine sx_use ?_))))
    rename_i g2
    refine SxSt.elem enE (x := x) 0 rfl rfl ?_
    ((try refine sx_use ?_); (repeat (refine SxNew.mk fun _ => ?_; (try refine sx_use ?_))))
    refine SxCode.draw rfl [.blk g2 41 (enC x)] [] [0] rfl rfl ?_
    ((try refine sx_use ?_); (repeat (refine SxNew.mk fun _ => ?_; (try refine sx_use ?_))))
    refine SxBnd.mk 0 32 rfl rfl (by omega) (by omega) fun off' ho => ?_
    obtain rfl : off' = 0 := ho (by omega)
    ((try refine sx_use ?_); (repeat (refine SxNew.mk fun _ => ?_; (try refine sx_use ?_))))
    refine SxStr.blk 0 rfl rfl x.fp x.hf (by
      show ((enC x).drop 0).take 32 = x.fp.map u8V
      unfold enC
      rw [List.drop_zero, List.take_left' (by rw [List.length_map, x.hf])]) ?_
    ((try refine sx_use ?_); (repeat (refine SxNew.mk fun _ => ?_; (try refine sx_use ?_))))
    refine SxLd.blk 0 rfl l0 ?_
    ((try refine sx_use ?_); (repeat (refine SxNew.mk fun _ => ?_; (try refine sx_use ?_))))
    refine SxRng.u16 (by omega) (by omega) ?_
    ((try refine sx_use ?_); (repeat (refine SxNew.mk fun _ => ?_; (try refine sx_use ?_))))
    refine SxLd.blk 0 rfl l1 ?_
    ((try refine sx_use ?_); (repeat (refine SxNew.mk fun _ => ?_; (try refine sx_use ?_))))
    refine SxLd.blk 0 rfl l2 ?_
    ((try refine sx_use ?_); (repeat (refine SxNew.mk fun _ => ?_; (try refine sx_use ?_))))
    refine SxRng.u16 (by omega) (by omega) ?_
    ((try refine sx_use ?_); (repeat (refine SxNew.mk fun _ => ?_; (try refine sx_use ?_))))
    refine SxCall.quiet (v := txV (numL x.ln.toNat 2)) (fun w => rc16_any _ ⟨by omega, by omega⟩ w) ?_
    ((try refine sx_use ?_); (repeat (refine SxNew.mk fun _ => ?_; (try refine sx_use ?_))))
    refine SxLe.mk (by rw [mk_size, mk_size, numL_len, x.hf]; omega) ?_
    rw [mkr_append]
    ((try refine sx_use ?_); (repeat (refine SxNew.mk fun _ => ?_; (try refine sx_use ?_))))
    refine SxCall.quiet (v := txV (numL x.bx.toNat 4)) (fun w => rc32_any _ ⟨by omega, by omega⟩ w) ?_
    ((try refine sx_use ?_); (repeat (refine SxNew.mk fun _ => ?_; (try refine sx_use ?_))))
    refine SxLe.mk (by rw [mk_size, mk_size, List.length_append, numL_len, numL_len, x.hf]; omega) ?_
    rw [mkr_append]
    ((try refine sx_use ?_); (repeat (refine SxNew.mk fun _ => ?_; (try refine sx_use ?_))))
    refine SxCall.quiet (v := txV (numL x.sl.toNat 2)) (fun w => rc16_any _ ⟨by omega, by omega⟩ w) ?_
    ((try refine sx_use ?_); (repeat (refine SxNew.mk fun _ => ?_; (try refine sx_use ?_))))
    refine SxLe.mk (by rw [mk_size, mk_size, List.length_append, List.length_append, numL_len, numL_len, numL_len, x.hf]; omega) ?_
    rw [mkr_append]
    have hcat : preM id es.length ++ (es.take k).flatMap enB ++ enB x = preM id es.length ++ (es.take (k + 1)).flatMap enB := by rw [List.append_assoc, ← hsn]
    ((try refine sx_use ?_); (repeat (refine SxNew.mk fun _ => ?_; (try refine sx_use ?_))))
    refine SxCall.mk fun w hs => ?_
    refine Calls.mono (WS_list hs 1 3 b ko kc _ _ (enB x) rfl (.inr rfl) (by decide) rfl (by rw [hpl, enB_len]; omega)) ?_
    rintro e w' ⟨ao2, cap2, rfl, hs'⟩
    rw [hcat] at hs'
    refine ⟨_, [.blk g2 41 (enC x), sbE b (.pointer (some ⟨b, 0, none⟩)) (.slice ao2 (preM id es.length ++ (es.take (k + 1)).flatMap enB).length cap2), .blk bm 25 [.int .u32 id, .slice ao es.length cap], .row ao2 (preM id es.length ++ (es.take (k + 1)).flatMap enB).length cap2 5 1 (Go.Lib.byteCells (preM id es.length ++ (es.take (k + 1)).flatMap enB)), .rd ao (enE.fl es)], rfl, hs', ?_⟩
    clear hs' hs w w'
    ((try refine sx_use ?_); (repeat (refine SxNew.mk fun _ => ?_; (try refine sx_use ?_))))
    (try refine SxStable.mk [0] rfl rfl ?_)
    (try ((try refine sx_use ?_); (repeat (refine SxNew.mk fun _ => ?_; (try refine sx_use ?_)))))
    exact SxRound.mk (k + 1, ao2, cap2) [1, 2, 3, 4] rfl rfl rfl hlt (by dsimp only; omega)
  · obtain rfl : k = es.length := by omega
    rw [List.take_length]
    ((try refine sx_use ?_); (repeat (refine SxNew.mk fun _ => ?_; (try refine sx_use ?_))))
    refine SxCall.mk fun w hs => (String_list hs 0 2 b ko kc _ (bodyM id es) rfl (.inr rfl) (by decide) rfl).mono ?_
    rintro e w' ⟨rfl, hs'⟩
    refine ⟨_, [.rd ao (enE.fl es)], rfl, hs' _ (Sat.oneRd _ hr), ?_⟩
    clear hs' hs w'
    ((try refine sx_use ?_); (repeat (refine SxNew.mk fun _ => ?_; (try refine sx_use ?_))))
    refine SxCall.quiet (bcseal_any (bodyM id es) (by rw [bodyM_len]; omega)) ?_
    ((try refine sx_use ?_); (repeat (refine SxNew.mk fun _ => ?_; (try refine sx_use ?_))))
    exact SxDone.mk fun w' hs => ⟨by rw [if_pos hm]; rfl, hs.touch.below⟩
end Go.Proofs.YtdbappehchgbcaaGreat
