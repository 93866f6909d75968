/- The walks of layer 7: order, Less, Zeros, Is. -/
import Derived.Test.YtdbappehchgbcaaGreatZHkC
namespace Go.Proofs.YtdbappehchgbcaaGreat
open Go.RowKit

def fpK : List KD := List.replicate 32 (.int .u8)
theorem allK_rep : ∀ (f : List UInt8), allK (List.replicate f.length (.int .u8)) (fpC f) = true
  | [] => rfl
  | b :: f => by
    show (okK (.int .u8) (bV b) && allK (List.replicate f.length (.int .u8)) (fpC f)) = true
    rw [allK_rep f]; rfl
theorem allK_fp {f : List UInt8} (hf : f.length = 32) : allK fpK (fpC f) = true := by
  have := allK_rep f
  rw [hf] at this
  exact this
theorem bV_inj {a b : UInt8} (h : bV a = bV b) : a = b := by
  unfold bV at h
  simp only [Value.int.injEq, true_and] at h
  exact UInt8.toNat_inj.1 (by omega)
theorem fpC_inj : ∀ {f g : List UInt8}, fpC f = fpC g → f = g
  | [], [], _ => rfl
  | [], _ :: _, h => by simp [fpC] at h
  | _ :: _, [], h => by simp [fpC] at h
  | a :: f, b :: g, h => by
    simp only [fpC, List.map_cons, List.cons.injEq] at h
    rw [bV_inj h.1, fpC_inj h.2]
theorem fp_eq {f g : List UInt8} (hf : f.length = 32) (hg : g.length = 32) : cellsEq (fpC f) (fpC g) = decide (f = g) := by
  have h := cellsEq_iff (allK_fp hf) (allK_fp hg)
  by_cases he : f = g
  · rw [decide_eq_true he, he]
    exact (cellsEq_iff (allK_fp hg) (allK_fp hg)).2 rfl
  · rw [decide_eq_false he]
    cases hc : cellsEq (fpC f) (fpC g) with
    | false => rfl
    | true => exact absurd (fpC_inj (h.1 hc)) he
theorem SxRun.fpEq {f g : List UInt8} (hf : f.length = 32) (hg : g.length = 32) {x y : Operand} {A : Value → Prop} (h : A (.bool (decide (f = g)))) : SxRun SX.P (do eqGuard .eql 39 x y (fpV f) (fpV g); binOp .eql 39 (fpV f) (fpV g)) A :=
  SxRun.eq 2 rfl (ks := fpK) rfl rfl (by kernel_rfl) rfl (allK_fp hf) (allK_fp hg) (by
    show A (.bool (cellsEq (fpC f) (fpC g)))
    rw [fp_eq hf hg]; exact h)
theorem SxRun.fpNe {f g : List UInt8} (hf : f.length = 32) (hg : g.length = 32) {x y : Operand} {A : Value → Prop} (h : A (.bool (!decide (f = g)))) : SxRun SX.P (do eqGuard .neq 39 x y (fpV f) (fpV g); binOp .neq 39 (fpV f) (fpV g)) A :=
  SxRun.ne 2 rfl (ks := fpK) rfl rfl (by kernel_rfl) rfl (allK_fp hf) (allK_fp hg) (by
    show A (.bool (!cellsEq (fpC f) (fpC g)))
    rw [fp_eq hf hg]; exact h)
theorem Rd_blk {w : World} {g e : Nat} {cs : List Value} (h : Blk w g e cs) (hl : cs.length ≤ maxLen) : Rd w (some ⟨g, 0, none⟩) cs :=
  ⟨hl, fun _ => ⟨g, 0, rfl, Blk.lt h, fun j _ => by rw [Nat.zero_add, h.cell]⟩⟩
theorem order_any (f g : List UInt8) (hf : f.length = 32) (hg : g.length = 32) (w : World) : Calls Tryz.prog 79 #[fpV f, fpV g] w fun e w' => e = .returned (.int .i64 (cmpF f g)) ∧ Below w.heap.size w w' := by
  refine sx_fn (S := SX) (M := []) (N := 11) (H0 := []) Tryz.func79 rfl rfl rfl (Sat.nil _ _) ?_
  ((try refine sx_use ?_); (repeat (refine SxNew.mk fun _ => ?_; (try refine sx_use ?_))))
  rename_i a b
  refine SxLdN.blk 1 rfl (vs := fpC f) (by rw [fpC_len, hf]) (fp_vs hf) ?_
  ((try refine sx_use ?_); (repeat (refine SxNew.mk fun _ => ?_; (try refine sx_use ?_))))
  refine SxLdN.blk 0 rfl (vs := fpC g) (by rw [fpC_len, hg]) (fp_vs hg) ?_
  ((try refine sx_use ?_); (repeat (refine SxNew.mk fun _ => ?_; (try refine sx_use ?_))))
  refine SxRun.fpEq hf hg ?_
  ((try refine sx_use ?_); (repeat (refine SxNew.mk fun _ => ?_; (try refine sx_use ?_))))
  refine SxIf.dec (fun h => ?_) (fun h => ?_)
  · ((try refine sx_use ?_); (repeat (refine SxNew.mk fun _ => ?_; (try refine sx_use ?_))))
    exact SxDone.mk fun w' hs => ⟨by rw [h, cmpF_self]; rfl, hs.touch.below⟩
  · ((try refine sx_use ?_); (repeat (refine SxNew.mk fun _ => ?_; (try refine sx_use ?_))))
    refine SxCode.drawAll rfl [] ?_
    ((try refine sx_use ?_); (repeat (refine SxNew.mk fun _ => ?_; (try refine sx_use ?_))))
    refine SxBnd.mk 0 32 rfl rfl (by omega) (by omega) fun o1 h1 => ?_
    obtain rfl : o1 = 0 := h1 (by omega)
    ((try refine sx_use ?_); (repeat (refine SxNew.mk fun _ => ?_; (try refine sx_use ?_))))
    refine SxBnd.mk 0 32 rfl rfl (by omega) (by omega) fun o2 h2 => ?_
    obtain rfl : o2 = 0 := h2 (by omega)
    ((try refine sx_use ?_); (repeat (refine SxNew.mk fun _ => ?_; (try refine sx_use ?_))))
    refine SxCall.quietS (fun w hs => BCmp_any f g hf hg _ _ _ _ w (Rd_blk (hs.blk 1 rfl) (by show (fpC f).length ≤ _; rw [fpC_len, hf]; decide)) (Rd_blk (hs.blk 0 rfl) (by show (fpC g).length ≤ _; rw [fpC_len, hg]; decide))) ?_
    ((try refine sx_use ?_); (repeat (refine SxNew.mk fun _ => ?_; (try refine sx_use ?_))))
    exact SxDone.mk fun w' hs => ⟨rfl, hs.touch.below⟩
theorem Set1_any (f g : List UInt8) (hf : f.length = 32) (hg : g.length = 32) (w : World) : Calls Tryz.prog 78 #[fpV f, fpV g] w fun e w' => e = .returned (.int .i64 (cmpF f g)) ∧ Below w.heap.size w w' := by
  refine sx_fn (S := SX) (M := []) (N := 8) (H0 := []) Tryz.func78 rfl rfl rfl (Sat.nil _ _) ?_
  ((try refine sx_use ?_); (repeat (refine SxNew.mk fun _ => ?_; (try refine sx_use ?_))))
  refine SxLdN.blk 1 rfl (vs := fpC f) (by rw [fpC_len, hf]) (fp_vs hf) ?_
  ((try refine sx_use ?_); (repeat (refine SxNew.mk fun _ => ?_; (try refine sx_use ?_))))
  refine SxLdN.blk 0 rfl (vs := fpC g) (by rw [fpC_len, hg]) (fp_vs hg) ?_
  ((try refine sx_use ?_); (repeat (refine SxNew.mk fun _ => ?_; (try refine sx_use ?_))))
  refine SxCall.quiet (order_any f g hf hg) ?_
  ((try refine sx_use ?_); (repeat (refine SxNew.mk fun _ => ?_; (try refine sx_use ?_))))
  exact SxDone.mk fun w' hs => ⟨rfl, hs.touch.below⟩
/-- How many first bits of a byte are 0; of bytes. -/
def lz (b : UInt8) : Nat := 8 - Go.Lib.bitLen b.toNat
def zr : List UInt8 → Nat
  | [] => 0
  | b :: r => if b = 0 then 8 + zr r else lz b
theorem lz_le (b : UInt8) : Go.Lib.bitLen b.toNat ≤ 8 := by
  refine all_bytes (P := fun b => Go.Lib.bitLen b.toNat ≤ 8) ?_ b
  decide +kernel
theorem lz_zero : lz 0 = 8 := by decide +kernel
theorem zr_le : ∀ f : List UInt8, zr f ≤ 8 * f.length
  | [] => Nat.le_refl _
  | b :: f => by
    have := zr_le f
    unfold zr
    split
    · rw [List.length_cons]; omega
    · unfold lz; rw [List.length_cons]; omega
theorem zr_drop {f : List UInt8} {k : Nat} (h : k < f.length) : zr (f.drop k) = if f.getD k 0 = 0 then 8 + zr (f.drop (k + 1)) else lz (f.getD k 0) := by
  rw [List.drop_eq_getElem_cons h, List.getD_eq_getElem?_getD, List.getElem?_eq_getElem h]
  rfl
theorem lz8_any (b : UInt8) (w : World) : Calls Tryz.prog 91 #[bV b] w fun e w' => e = .returned (.int .i64 (lz b : Nat)) ∧ w = w' := by
  have hb := b.toNat_lt
  refine (Tryz.bits_LeadingZeros8 (b.toNat : Int) w (by omega) (by omega)).mono fun e w' h => ⟨?_, h.2.symm⟩
  rw [h.1, Int.toNat_natCast]
  have := lz_le b
  unfold lz
  congr 2
  omega
theorem Zeros_any (f : List UInt8) (hf : f.length = 32) (w : World) : Calls Tryz.prog 75 #[fpV f] w fun e w' => e = .returned (.int .i64 (zr f : Nat)) ∧ Below w.heap.size w w' := by
  refine sx_fn (S := SX) (M := []) (N := 18) (H0 := []) Tryz.func75 rfl rfl rfl (Sat.nil _ _) ?_
  ((try refine sx_use ?_); (repeat (refine SxNew.mk fun _ => ?_; (try refine sx_use ?_))))
  refine SxLdN.blk 0 rfl (vs := fpC f) (by rw [fpC_len, hf]) (fp_vs hf) ?_
  ((try refine sx_use ?_); (repeat (refine SxNew.mk fun _ => ?_; (try refine sx_use ?_))))
  refine SxCode.loop (σ := Nat) [7, 3] [8, 9, 5, 10, 11, 12, 13, 3, 14, 15, 16, 7] (fun k => [.int .i64 (k : Nat), .int .i64 ((8 * k : Nat) : Int)]) (fun _ => []) (fun k => k ≤ 32 ∧ zr f = 8 * k + zr (f.drop k)) (fun k => 32 - k) 0 [] rfl rfl rfl rfl ⟨Nat.zero_le _, by rw [List.drop_zero]; omega⟩ ?_
  rintro k ⟨hk, hz⟩
  dsimp only
  ((try refine sx_use ?_); (repeat (refine SxNew.mk fun _ => ?_; (try refine sx_use ?_))))
  refine SxIf.dec (fun h => ?_) (fun h => ?_)
  · have hlt : k < 32 := by omega
    have hzd := zr_drop (f := f) (k := k) (by omega)
    have hl := lz_le (f.getD k 0)
    have hl2 : lz (f.getD k 0) ≤ 8 := by unfold lz; omega
    ((try refine sx_use ?_); (repeat (refine SxNew.mk fun _ => ?_; (try refine sx_use ?_))))
    refine SxIdx.mk k rfl hlt ?_
    ((try refine sx_use ?_); (repeat (refine SxNew.mk fun _ => ?_; (try refine sx_use ?_))))
    refine SxNth.mk (v := bV (f.getD k 0)) (by rw [Nat.mul_one]; exact fpC_get (by omega)) ?_
    ((try refine sx_use ?_); (repeat (refine SxNew.mk fun _ => ?_; (try refine sx_use ?_))))
    refine SxCall.pure (lz8_any (f.getD k 0)) ?_
    ((try refine sx_use ?_); (repeat (refine SxNew.mk fun _ => ?_; (try refine sx_use ?_))))
    refine SxIf.ne (fun h1 => ?_) (fun h1 => ?_)
    · have hne : f.getD k 0 ≠ 0 := fun h => h1 (by rw [h]; rfl)
      rw [if_neg hne] at hzd
      ((try refine sx_use ?_); (repeat (refine SxNew.mk fun _ => ?_; (try refine sx_use ?_))))
      exact SxDone.mk fun w' hs => ⟨by rw [show ((zr f : Nat) : Int) = ((8 * k : Nat) : Int) + (lz (f.getD k 0) : Nat) by omega]; rfl, hs.touch.below⟩
    · have he : f.getD k 0 = 0 := UInt8.toNat_inj.1 (by rw [UInt8.toNat_zero]; omega)
      rw [if_pos he] at hzd
      have h8 : lz (f.getD k 0) = 8 := by rw [he]; exact lz_zero
      ((try refine sx_use ?_); (repeat (refine SxNew.mk fun _ => ?_; (try refine sx_use ?_))))
      exact SxRound.mk (k + 1) [] (by rw [show ((8 * (k + 1) : Nat) : Int) = ((8 * k : Nat) : Int) + (lz (f.getD k 0) : Nat) by omega]; rfl) rfl rfl ⟨by omega, by omega⟩ (by omega)
  · obtain rfl : k = 32 := by omega
    ((try refine sx_use ?_); (repeat (refine SxNew.mk fun _ => ?_; (try refine sx_use ?_))))
    exact SxDone.mk fun w' hs => ⟨by rw [show zr f = 8 * 32 by rw [hz, List.drop_of_length_le (by omega)]; rfl]; rfl, hs.touch.below⟩
end Go.Proofs.YtdbappehchgbcaaGreat
