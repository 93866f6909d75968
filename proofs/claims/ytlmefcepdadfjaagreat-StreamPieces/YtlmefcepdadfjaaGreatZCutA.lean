/- Texts of this claim, one behind the other. -/
import Derived.Test.YtlmefcepdadfjaaGreatZHkC
import Derived.Test.YtlmefcepdadfjaaGreatProg
import Derived.Test.YtlmefcepdadfjaaGreatZOwnF
import Derived.Deep.RegionWith
import Derived.RegionTactic
import Derived.ChangeAlike
import Derived.Deep.QuietTactic
import Derived.BigQuiet
/- The walks of layer 7: order, Less, Zeros, Is. -/
namespace Go.Proofs.YtlmefcepdadfjaaGreat
open Go.RowKit

def fpK : List KD := List.replicate 32 (.int .u8)
theorem allK_rep : ∀ (f : List UInt8), allK (List.replicate f.length (.int .u8)) (fpC f) = true
  | [] => rfl
  | b :: f => by
    show (okK (.int .u8) (bV b) && allK (List.replicate f.length (.int .u8)) (fpC f)) = true
    rw [allK_rep f]; rfl
theorem allK_fp {f : List UInt8} (hf : f.length = 32) : allK fpK (fpC f) = true := by
  have := allK_rep f
  rw [hf] at this
  exact this
theorem bV_inj {a b : UInt8} (h : bV a = bV b) : a = b := by
  unfold bV at h
  simp only [Value.int.injEq, true_and] at h
  exact UInt8.toNat_inj.1 (by omega)
theorem fpC_inj : ∀ {f g : List UInt8}, fpC f = fpC g → f = g
  | [], [], _ => rfl
  | [], _ :: _, h => by simp [fpC] at h
  | _ :: _, [], h => by simp [fpC] at h
  | a :: f, b :: g, h => by
    simp only [fpC, List.map_cons, List.cons.injEq] at h
    rw [bV_inj h.1, fpC_inj h.2]
theorem fp_eq {f g : List UInt8} (hf : f.length = 32) (hg : g.length = 32) : cellsEq (fpC f) (fpC g) = decide (f = g) := by
  have h := cellsEq_iff (allK_fp hf) (allK_fp hg)
  by_cases he : f = g
  · rw [decide_eq_true he, he]
    exact (cellsEq_iff (allK_fp hg) (allK_fp hg)).2 rfl
  · rw [decide_eq_false he]
    cases hc : cellsEq (fpC f) (fpC g) with
    | false => rfl
    | true => exact absurd (fpC_inj (h.1 hc)) he
theorem SxRun.fpEq {f g : List UInt8} (hf : f.length = 32) (hg : g.length = 32) {x y : Operand} {A : Value → Prop} (h : A (.bool (decide (f = g)))) : SxRun SX.P (do eqGuard .eql 69 x y (fpV f) (fpV g); binOp .eql 69 (fpV f) (fpV g)) A :=
  SxRun.eq 2 rfl (ks := fpK) rfl rfl (by kernel_rfl) rfl (allK_fp hf) (allK_fp hg) (by
    show A (.bool (cellsEq (fpC f) (fpC g)))
    rw [fp_eq hf hg]; exact h)
theorem SxRun.fpNe {f g : List UInt8} (hf : f.length = 32) (hg : g.length = 32) {x y : Operand} {A : Value → Prop} (h : A (.bool (!decide (f = g)))) : SxRun SX.P (do eqGuard .neq 69 x y (fpV f) (fpV g); binOp .neq 69 (fpV f) (fpV g)) A :=
  SxRun.ne 2 rfl (ks := fpK) rfl rfl (by kernel_rfl) rfl (allK_fp hf) (allK_fp hg) (by
    show A (.bool (!cellsEq (fpC f) (fpC g)))
    rw [fp_eq hf hg]; exact h)
theorem Rd_blk {w : World} {g e : Nat} {cs : List Value} (h : Blk w g e cs) (hl : cs.length ≤ maxLen) : Rd w (some ⟨g, 0, none⟩) cs :=
  ⟨hl, fun _ => ⟨g, 0, rfl, Blk.lt h, fun j _ => by rw [Nat.zero_add, h.cell]⟩⟩
theorem order_any (f g : List UInt8) (hf : f.length = 32) (hg : g.length = 32) (w : World) : Calls Tryz.prog 125 #[fpV f, fpV g] w fun e w' => e = .returned (.int .i64 (cmpF f g)) ∧ Below w.heap.size w w' := by
  refine sx_fn (S := SX) (M := []) (N := 11) (H0 := []) Tryz.func125 rfl rfl rfl (Sat.nil _ _) ?_
  ((try refine sU ?_);repeat(refine sN fun _=>?_;try refine sU ?_))
  rename_i a b
  refine SxLdN.blk 1 rfl (vs := fpC f) (by rw [fpC_len, hf]) (fp_vs hf) ?_
  ((try refine sU ?_);repeat(refine sN fun _=>?_;try refine sU ?_))
  refine SxLdN.blk 0 rfl (vs := fpC g) (by rw [fpC_len, hg]) (fp_vs hg) ?_
  ((try refine sU ?_);repeat(refine sN fun _=>?_;try refine sU ?_))
  refine SxRun.fpEq hf hg ?_
  ((try refine sU ?_);repeat(refine sN fun _=>?_;try refine sU ?_))
  refine SxIf.dec (fun h => ?_) (fun h => ?_)
  · ((try refine sU ?_);repeat(refine sN fun _=>?_;try refine sU ?_))
    exact SxDone.mk fun w' hs => ⟨by rw [h, cmpF_self]; rfl, hs.touch.below⟩
  · ((try refine sU ?_);repeat(refine sN fun _=>?_;try refine sU ?_))
    refine SxCode.drawAll rfl [] ?_
    ((try refine sU ?_);repeat(refine sN fun _=>?_;try refine sU ?_))
    refine SxBnd.mk 0 32 rfl rfl (by omega) (by omega) fun o1 h1 => ?_
    obtain rfl : o1 = 0 := h1 (by omega)
    ((try refine sU ?_);repeat(refine sN fun _=>?_;try refine sU ?_))
    refine SxBnd.mk 0 32 rfl rfl (by omega) (by omega) fun o2 h2 => ?_
    obtain rfl : o2 = 0 := h2 (by omega)
    ((try refine sU ?_);repeat(refine sN fun _=>?_;try refine sU ?_))
    refine SxCall.quietS (fun w hs => BCmp_any f g hf hg _ _ _ _ w (Rd_blk (hs.blk 1 rfl) (by show (fpC f).length ≤ _; rw [fpC_len, hf]; decide)) (Rd_blk (hs.blk 0 rfl) (by show (fpC g).length ≤ _; rw [fpC_len, hg]; decide))) ?_
    ((try refine sU ?_);repeat(refine sN fun _=>?_;try refine sU ?_))
    exact SxDone.mk fun w' hs => ⟨rfl, hs.touch.below⟩
theorem Set1_any (f g : List UInt8) (hf : f.length = 32) (hg : g.length = 32) (w : World) : Calls Tryz.prog 124 #[fpV f, fpV g] w fun e w' => e = .returned (.int .i64 (cmpF f g)) ∧ Below w.heap.size w w' := by
  refine sx_fn (S := SX) (M := []) (N := 8) (H0 := []) Tryz.func124 rfl rfl rfl (Sat.nil _ _) ?_
  ((try refine sU ?_);repeat(refine sN fun _=>?_;try refine sU ?_))
  refine SxLdN.blk 1 rfl (vs := fpC f) (by rw [fpC_len, hf]) (fp_vs hf) ?_
  ((try refine sU ?_);repeat(refine sN fun _=>?_;try refine sU ?_))
  refine SxLdN.blk 0 rfl (vs := fpC g) (by rw [fpC_len, hg]) (fp_vs hg) ?_
  ((try refine sU ?_);repeat(refine sN fun _=>?_;try refine sU ?_))
  refine SxCall.quiet (order_any f g hf hg) ?_
  ((try refine sU ?_);repeat(refine sN fun _=>?_;try refine sU ?_))
  exact SxDone.mk fun w' hs => ⟨rfl, hs.touch.below⟩
def lz (b : UInt8) : Nat := 8 - Go.Lib.bitLen b.toNat
def zr : List UInt8 → Nat
  | [] => 0
  | b :: r => if b = 0 then 8 + zr r else lz b
theorem lz_le (b : UInt8) : Go.Lib.bitLen b.toNat ≤ 8 := by
  refine all_bytes (P := fun b => Go.Lib.bitLen b.toNat ≤ 8) ?_ b
  decide +kernel
theorem lz_zero : lz 0 = 8 := by decide +kernel
theorem zr_le : ∀ f : List UInt8, zr f ≤ 8 * f.length
  | [] => Nat.le_refl _
  | b :: f => by
    have := zr_le f
    unfold zr
    split
    · rw [List.length_cons]; omega
    · unfold lz; rw [List.length_cons]; omega
theorem zr_drop {f : List UInt8} {k : Nat} (h : k < f.length) : zr (f.drop k) = if f.getD k 0 = 0 then 8 + zr (f.drop (k + 1)) else lz (f.getD k 0) := by
  rw [List.drop_eq_getElem_cons h, List.getD_eq_getElem?_getD, List.getElem?_eq_getElem h]
  rfl
theorem lz8_any (b : UInt8) (w : World) : Calls Tryz.prog 141 #[bV b] w fun e w' => e = .returned (.int .i64 (lz b : Nat)) ∧ w = w' := by
  have hb := b.toNat_lt
  refine (Tryz.bits_LeadingZeros8 (b.toNat : Int) w (by omega) (by omega)).mono fun e w' h => ⟨?_, h.2.symm⟩
  rw [h.1, Int.toNat_natCast]
  have := lz_le b
  unfold lz
  congr 2
  omega
theorem Zeros_any (f : List UInt8) (hf : f.length = 32) (w : World) : Calls Tryz.prog 122 #[fpV f] w fun e w' => e = .returned (.int .i64 (zr f : Nat)) ∧ Below w.heap.size w w' := by
  refine sx_fn (S := SX) (M := []) (N := 18) (H0 := []) Tryz.func122 rfl rfl rfl (Sat.nil _ _) ?_
  ((try refine sU ?_);repeat(refine sN fun _=>?_;try refine sU ?_))
  refine SxLdN.blk 0 rfl (vs := fpC f) (by rw [fpC_len, hf]) (fp_vs hf) ?_
  ((try refine sU ?_);repeat(refine sN fun _=>?_;try refine sU ?_))
  refine SxCode.loop (σ := Nat) [7, 3] [8, 9, 5, 10, 11, 12, 13, 3, 14, 15, 16, 7] (fun k => [.int .i64 (k : Nat), .int .i64 ((8 * k : Nat) : Int)]) (fun _ => []) (fun k => k ≤ 32 ∧ zr f = 8 * k + zr (f.drop k)) (fun k => 32 - k) 0 [] rfl rfl rfl rfl ⟨Nat.zero_le _, by rw [List.drop_zero]; omega⟩ ?_
  rintro k ⟨hk, hz⟩
  dsimp only
  ((try refine sU ?_);repeat(refine sN fun _=>?_;try refine sU ?_))
  refine SxIf.dec (fun h => ?_) (fun h => ?_)
  · have hlt : k < 32 := by omega
    have hzd := zr_drop (f := f) (k := k) (by omega)
    have hl := lz_le (f.getD k 0)
    have hl2 : lz (f.getD k 0) ≤ 8 := by unfold lz; omega
    ((try refine sU ?_);repeat(refine sN fun _=>?_;try refine sU ?_))
    refine SxIdx.mk k rfl hlt ?_
    ((try refine sU ?_);repeat(refine sN fun _=>?_;try refine sU ?_))
    refine SxNth.mk (v := bV (f.getD k 0)) (by rw [Nat.mul_one]; exact fpC_get (by omega)) ?_
    ((try refine sU ?_);repeat(refine sN fun _=>?_;try refine sU ?_))
    refine SxCall.pure (lz8_any (f.getD k 0)) ?_
    ((try refine sU ?_);repeat(refine sN fun _=>?_;try refine sU ?_))
    refine SxIf.ne (fun h1 => ?_) (fun h1 => ?_)
    · have hne : f.getD k 0 ≠ 0 := fun h => h1 (by rw [h]; rfl)
      rw [if_neg hne] at hzd
      ((try refine sU ?_);repeat(refine sN fun _=>?_;try refine sU ?_))
      exact SxDone.mk fun w' hs => ⟨by rw [show ((zr f : Nat) : Int) = ((8 * k : Nat) : Int) + (lz (f.getD k 0) : Nat) by omega]; rfl, hs.touch.below⟩
    · have he : f.getD k 0 = 0 := UInt8.toNat_inj.1 (by rw [UInt8.toNat_zero]; omega)
      rw [if_pos he] at hzd
      have h8 : lz (f.getD k 0) = 8 := by rw [he]; exact lz_zero
      ((try refine sU ?_);repeat(refine sN fun _=>?_;try refine sU ?_))
      exact SxRound.mk (k + 1) [] (by rw [show ((8 * (k + 1) : Nat) : Int) = ((8 * k : Nat) : Int) + (lz (f.getD k 0) : Nat) by omega]; rfl) rfl rfl ⟨by omega, by omega⟩ (by omega)
  · obtain rfl : k = 32 := by omega
    ((try refine sU ?_);repeat(refine sN fun _=>?_;try refine sU ?_))
    exact SxDone.mk fun w' hs => ⟨by rw [show zr f = 8 * 32 by rw [hz, List.drop_of_length_le (by omega)]; rfl]; rfl, hs.touch.below⟩
end Go.Proofs.YtlmefcepdadfjaaGreat
/- The walks of layer 7: the document's Zeros; Is. -/
namespace Go.Proofs.YtlmefcepdadfjaaGreat
open Go.RowKit

theorem lz_bits (b : UInt8) : ∀ j : Nat, j < 8 → (b.toNat / 2 ^ (8 - j) = 0 → b.toNat / 2 ^ (7 - j) % 2 = 1 → lz b = j) ∧ (b.toNat / 2 ^ (8 - j) = 0 → ¬ b.toNat / 2 ^ (7 - j) % 2 = 1 → b.toNat / 2 ^ (7 - j) = 0) := by
  refine all_bytes (P := fun b => ∀ j : Nat, j < 8 → (b.toNat / 2 ^ (8 - j) = 0 → b.toNat / 2 ^ (7 - j) % 2 = 1 → lz b = j) ∧ (b.toNat / 2 ^ (8 - j) = 0 → ¬ b.toNat / 2 ^ (7 - j) % 2 = 1 → b.toNat / 2 ^ (7 - j) = 0)) ?_ b
  decide +kernel
def wrt (j : Nat) : Int := if j < 8 then ((2 ^ (7 - j) : Nat) : Int) else 0
theorem wrt_step (j : Nat) (h : j < 8) : wrt j / 2 = wrt (j + 1) ∧ 0 < wrt j ∧ wrt j ≤ 128 ∧ wrt j = ((2 ^ (7 - j) : Nat) : Int) := by
  have : j = 0 ∨ j = 1 ∨ j = 2 ∨ j = 3 ∨ j = 4 ∨ j = 5 ∨ j = 6 ∨ j = 7 := by omega
  rcases this with h | h | h | h | h | h | h | h <;> subst h <;> decide
set_option maxHeartbeats 1000000 in
theorem RZeros_any (f : List UInt8) (hf : f.length = 32) (w : World) : Calls Tryz.prog 130 #[fpV f] w fun e w' => e = .returned (.int .i64 (zr f : Nat)) ∧ Below w.heap.size w w' := by
  refine sx_fn (S := SX) (M := []) (N := 26) (H0 := []) Tryz.func130 rfl rfl rfl (Sat.nil _ _) ?_
  ((try refine sU ?_);repeat(refine sN fun _=>?_;try refine sU ?_))
  rename_i b
  refine SxCode.loop (σ := Nat) [4, 3] [6, 7, 5, 10, 11, 12, 13, 14, 15, 16, 17, 18, 19, 20, 2, 21, 22, 3, 23, 24, 8, 9, 4] (fun k => [.int .i64 (k : Nat), .int .i64 ((8 * k : Nat) : Int)]) (fun _ => [.blk b 69 (fpC f)]) (fun k => k ≤ 32 ∧ zr f = 8 * k + zr (f.drop k)) (fun k => 32 - k) 0 [0] rfl rfl rfl rfl ⟨Nat.zero_le _, by rw [List.drop_zero]; omega⟩ ?_
  rintro k ⟨hk, hz⟩
  dsimp only
  ((try refine sU ?_);repeat(refine sN fun _=>?_;try refine sU ?_))
  refine SxIf.dec (fun h => ?_) (fun h => ?_)
  · have hlt : k < 32 := by omega
    have hzd := zr_drop (f := f) (k := k) (by omega)
    have hgl := getD_lt f k
    ((try refine sU ?_);repeat(refine sN fun _=>?_;try refine sU ?_))
    refine SxCode.loop (σ := Nat) [5, 3] [10, 11, 12, 13, 14, 15, 16, 17, 18, 19, 20, 2, 21, 22, 3, 23, 24, 5] (fun j => [.int .i64 (wrt j), .int .i64 ((8 * k + j : Nat) : Int)]) (fun _ => [.blk b 69 (fpC f)]) (fun j => j ≤ 8 ∧ (f.getD k 0).toNat / 2 ^ (8 - j) = 0) (fun j => 8 - j) 0 [0] rfl rfl rfl rfl ⟨Nat.zero_le _, by omega⟩ ?_
    rintro j ⟨hj, hb⟩
    dsimp only
    ((try refine sU ?_);repeat(refine sN fun _=>?_;try refine sU ?_))
    refine SxIf.dec (fun h1 => ?_) (fun h1 => ?_)
    · have hj8 : j < 8 := by
        rcases Nat.lt_or_ge j 8 with h2 | h2
        · exact h2
        · exact absurd h1 (by unfold wrt; rw [if_neg (by omega)]; omega)
      obtain ⟨hw1, hw2, hw3, hw4⟩ := wrt_step j hj8
      obtain ⟨l1, l2⟩ := lz_bits (f.getD k 0) j hj8
      have hdl := Nat.div_le_self (f.getD k 0).toNat (2 ^ (7 - j))
      obtain ⟨q, hq⟩ : ∃ q : Nat, q = (f.getD k 0).toNat / 2 ^ (7 - j) := ⟨_, rfl⟩
      have hdq : ((f.getD k 0).toNat : Int) / wrt j = (q : Nat) := by rw [hw4, hq]; rfl
      have hdiv : ((f.getD k 0).toNat : Int) / wrt j % 2 = ((q % 2 : Nat) : Int) := by rw [hdq]; rfl
      rw [← hq] at hdl l1 l2
      ((try refine sU ?_);repeat(refine sN fun _=>?_;try refine sU ?_))
      refine SxIdx.mk k rfl hlt ?_
      ((try refine sU ?_);repeat(refine sN fun _=>?_;try refine sU ?_))
      refine SxLd.blk 0 rfl (v := bV (f.getD k 0)) (by rw [Nat.zero_add, Nat.mul_one]; exact fpC_get (by omega)) ?_
      ((try refine sU ?_);repeat(refine sN fun _=>?_;try refine sU ?_))
      rw [hdiv]
      refine SxIf.eq (fun h2 => ?_) (fun h2 => ?_)
      · have hl := l1 hb (by omega)
        have hne : f.getD k 0 ≠ 0 := fun h => by rw [h, lz_zero] at hl; omega
        rw [if_neg hne] at hzd
        ((try refine sU ?_);repeat(refine sN fun _=>?_;try refine sU ?_))
        exact SxDone.mk fun w' hs => ⟨by rw [show zr f = 8 * k + j by omega]; rfl, hs.touch.below⟩
      · have hb2 := l2 hb (by omega)
        ((try refine sU ?_);repeat(refine sN fun _=>?_;try refine sU ?_))
        exact SxRound.mk (j + 1) [0] (by rw [← hw1]; rfl) rfl rfl ⟨by omega, by rw [show 8 - (j + 1) = 7 - j by omega, ← hq]; exact hb2⟩ (by omega)
    · have hj8 : j = 8 := by
        rcases Nat.lt_or_ge j 8 with h2 | h2
        · have := (wrt_step j h2).2.1; omega
        · omega
      subst hj8
      have he : f.getD k 0 = 0 := UInt8.toNat_inj.1 (by rw [UInt8.toNat_zero]; omega)
      rw [if_pos he] at hzd
      ((try refine sU ?_);repeat(refine sN fun _=>?_;try refine sU ?_))
      exact SxRound.mk (k + 1) [0] rfl rfl rfl ⟨by omega, by omega⟩ (by omega)
  · obtain rfl : k = 32 := by omega
    ((try refine sU ?_);repeat(refine sN fun _=>?_;try refine sU ?_))
    exact SxDone.mk fun w' hs => ⟨by rw [show zr f = 8 * 32 by rw [hz, List.drop_of_length_le (by omega)]; rfl]; rfl, hs.touch.below⟩
def clampN (n : Int) : Int := if 256 < (if n < 0 then 0 else n) then 256 else (if n < 0 then 0 else n)
def hooksV (g : Nat) : Value := .func (.func 121) #[] #[.pointer (some ⟨g, 0, none⟩)]
theorem hooks_sat {W : World} {M : List Nat} {H : Hp} {w : World} (hs : Sat W M H w) (n : Int) : Calls Tryz.prog 96 #[.int .i64 n] w fun e w' => ∃ g, e = .returned (hooksV g) ∧ Sat W M (.blk g 3 [.int .i64 (clampN n)] :: H) w' := by
  refine sx_fn (S := SX) (N := 8) Tryz.func96 rfl rfl rfl hs ?_
  ((try refine sU ?_);repeat(refine sN fun _=>?_;try refine sU ?_))
  exact SxDone.mk fun w' hs => ⟨_, rfl, hs⟩
def isF (f : List UInt8) (n : Int) : Bool := decide (((zr f : Nat) : Int) ≥ clampN n)
theorem hooks1_any (f : List UInt8) (hf : f.length = 32) (g : Nat) (m : Int) (w : World) (hb : Blk w g 3 [.int .i64 m]) : Calls Tryz.prog 121 #[fpV f, .pointer (some ⟨g, 0, none⟩)] w fun e w' => e = .returned (.bool (decide (((zr f : Nat) : Int) ≥ m))) ∧ Below w.heap.size w w' := by
  refine sx_fn (S := SX) (M := []) (N := 8) (H0 := [.rd (some ⟨g, 0, none⟩) [.int .i64 m]]) Tryz.func121 rfl rfl rfl (Sat.oneRd _ (Rd_blk hb (by simp [maxLen]))) ?_
  ((try refine sU ?_);repeat(refine sN fun _=>?_;try refine sU ?_))
  refine SxCode.drawAll rfl [] ?_
  ((try refine sU ?_);repeat(refine sN fun _=>?_;try refine sU ?_))
  refine SxLdN.blk 0 rfl (vs := fpC f) (by rw [fpC_len, hf]) (fp_vs hf) ?_
  ((try refine sU ?_);repeat(refine sN fun _=>?_;try refine sU ?_))
  refine SxLd.rd 1 rfl rfl (j := 0) rfl rfl ?_
  ((try refine sU ?_);repeat(refine sN fun _=>?_;try refine sU ?_))
  refine SxCall.quiet (Zeros_any f hf) ?_
  ((try refine sU ?_);repeat(refine sN fun _=>?_;try refine sU ?_))
  exact SxDone.mk fun w' hs => ⟨rfl, hs.touch.below⟩
theorem RIs_any (f : List UInt8) (hf : f.length = 32) (n : Int) (w : World) : Calls Tryz.prog 108 #[fpV f, .int .i64 n] w fun e w' => e = .returned (.bool (isF f n)) ∧ Below w.heap.size w w' := by
  have hz := zr_le f
  refine sx_fn (S := SX) (M := []) (N := 11) (H0 := []) Tryz.func108 rfl rfl rfl (Sat.nil _ _) ?_
  ((try refine sU ?_);repeat(refine sN fun _=>?_;try refine sU ?_))
  refine SxIf.dec (fun h => ?_) (fun h => ?_)
  · ((try refine sU ?_);repeat(refine sN fun _=>?_;try refine sU ?_))
    refine SxLdN.blk 0 rfl (vs := fpC f) (by rw [fpC_len, hf]) (fp_vs hf) ?_
    ((try refine sU ?_);repeat(refine sN fun _=>?_;try refine sU ?_))
    refine SxCall.quiet (RZeros_any f hf) ?_
    ((try refine sU ?_);repeat(refine sN fun _=>?_;try refine sU ?_))
    exact SxDone.mk fun w' hs => ⟨by unfold isF clampN; rw [if_neg (show ¬ n < 0 by omega), if_pos (by omega)]; rfl, hs.touch.below⟩
  · ((try refine sU ?_);repeat(refine sN fun _=>?_;try refine sU ?_))
    refine SxLdN.blk 0 rfl (vs := fpC f) (by rw [fpC_len, hf]) (fp_vs hf) ?_
    ((try refine sU ?_);repeat(refine sN fun _=>?_;try refine sU ?_))
    refine SxCall.quiet (RZeros_any f hf) ?_
    ((try refine sU ?_);repeat(refine sN fun _=>?_;try refine sU ?_))
    refine SxDone.mk fun w' hs => ⟨?_, hs.touch.below⟩
    show Ending.returned (.bool (decide (((zr f : Nat) : Int) ≥ n))) = _
    unfold isF clampN
    congr 2
    rw [decide_eq_decide]
    by_cases h0 : n < 0
    · rw [if_pos h0]; omega
    · rw [if_neg h0]; omega
end Go.Proofs.YtlmefcepdadfjaaGreat
/- The walks over package roll: top, add, drop, Sum, Slide; and the document's Sum, Slide. -/
namespace Go.Proofs.YtlmefcepdadfjaaGreat
open Go.RowKit
set_option maxRecDepth 20000

def addN (h b : Nat) : Nat := (h * 257 + b + 1) % 2147483647
def dropN (h o : Nat) : Nat := (h + 2147483647 - (o + 1) * 1079017218 % 2147483647) % 2147483647
theorem addN_lt (h b : Nat) : addN h b < 2147483647 := Nat.mod_lt _ (by omega)
theorem dropN_lt (h b : Nat) : dropN h b < 2147483647 := Nat.mod_lt _ (by omega)
def powP (k : Nat) : Nat := 257 ^ k % 2147483647
theorem powP_succ (k : Nat) : powP (k + 1) = powP k * 257 % 2147483647 := by
  unfold powP; rw [Nat.pow_succ, Nat.mod_mul_mod]
theorem powP_lt (k : Nat) : powP k < 2147483647 := Nat.mod_lt _ (by omega)
theorem powP_top : powP 15 = 1079017218 := by decide
set_option maxHeartbeats 400000 in
theorem top_any (w : World) : Calls Tryz.prog 145 #[] w fun e w' => e = .returned (.int .u64 1079017218) ∧ w = w' := by
  go_enter Tryz.func145, Tryz.ntmps145
  go_wp2
  go_loop [1, 2] (fun p i => ∃ k : Nat, k ≤ 15 ∧ i = .int .i64 k ∧ p = .int .u64 (powP k : Nat)) (fun _ i => 15 - (intOf i).toNat)
  case atStart => exact ⟨0, by omega, rfl, rfl⟩
  case round =>
    obtain ⟨k, hk, rfl, rfl⟩ := hrel
    by_cases hlt : k < 15
    · have hp := powP_lt k
      have HS := Go.Lib.hid (powP_succ k)
      generalize powP k = p at hp HS
      go_wp2
      go_round
      case rel => exact ⟨k + 1, by omega, by go_num, by rw [HS.out]; go_num⟩
      case measure => simp [intOf]; omega
    · obtain rfl : k = 15 := by omega
      go_wp2
      go_ret
      exact ⟨ret_int (by rw [powP_top]; rfl), rfl⟩
set_option maxHeartbeats 400000 in
theorem add_any (h b : Nat) (hh : h < 4294967296) (hb : b < 256) (w : World) :
    Calls Tryz.prog 136 #[.int .u64 h, .int .u8 b] w fun e w' => e = .returned (.int .u64 (addN h b : Nat)) ∧ w = w' := by
  have hv : ((addN h b : Nat) : Int) = ((h : Int) * 257 + b + 1) % 2147483647 := by unfold addN; omega
  have HV := Go.Lib.hid hv; clear hv
  go_enter Tryz.func136, Tryz.ntmps136
  go_wp2
  go_ret
  exact ⟨ret_int HV.out.symm, rfl⟩
set_option maxHeartbeats 400000 in
theorem drop_any (h o : Nat) (hh : h < 4294967296) (ho : o < 256) (w : World) :
    Calls Tryz.prog 135 #[.int .u64 h, .int .u8 o] w fun e w' => e = .returned (.int .u64 (dropN h o : Nat)) ∧ w = w' := by
  have hv : ((dropN h o : Nat) : Int) = ((h : Int) + 2147483647 - ((o : Int) + 1) * 1079017218 % 2147483647) % 2147483647 := by unfold dropN; omega
  have HV := Go.Lib.hid hv; clear hv
  go_enter Tryz.func135, Tryz.ntmps135
  go_wp2_with (go_at_call 145; refine (top_any _).mono ?_; rintro e w' ⟨rfl, rfl⟩)
  go_ret
  exact ⟨ret_int HV.out.symm, rfl⟩

def hashL (l : List UInt8) : Nat := l.foldl (fun h b => addN h b.toNat) 0
def lastL (l : List UInt8) : List UInt8 := l.drop (l.length - 16)
def rollL (l : List UInt8) : Nat := hashL (lastL l)
theorem hashL_snoc (l : List UInt8) (b : UInt8) : hashL (l ++ [b]) = addN (hashL l) b.toNat := by simp [hashL]
theorem hashL_lt (l : List UInt8) : hashL l < 2147483647 := by
  rcases List.eq_nil_or_concat l with h | ⟨l', b, h⟩
  · subst h; simp [hashL]
  · rw [h, List.concat_eq_append, hashL_snoc]; exact addN_lt _ _
theorem rollL_lt (l : List UInt8) : rollL l < 2147483647 := hashL_lt _
theorem hash_take (s : ByteArray) (k : Nat) (h : k < s.size) : hashL (s.data.toList.take (k + 1)) = addN (hashL (s.data.toList.take k)) s[k].toNat := by
  rw [take_snoc s k h, hashL_snoc]
theorem drop_take_snoc (s : ByteArray) (f k : Nat) (hf : f ≤ k) (h : k < s.size) : hashL ((s.data.toList.take (k + 1)).drop f) = addN (hashL ((s.data.toList.take k).drop f)) s[k].toNat := by
  rw [take_snoc s k h, List.drop_append_of_le_length (by simp; omega), hashL_snoc]
set_option maxHeartbeats 400000 in
theorem RSum_anyCt (s : ByteArray) (hs : s.size ≤ maxLen) (w : World) :
    Calls Tryz.prog 129 #[.string s] w fun e w' => e = .returned (.int .u32 (rollL s.data.toList : Nat)) ∧ w = w' := by
  unfold maxLen at hs
  have hsl : s.data.toList.length = s.size := by simp
  obtain ⟨f, hf⟩ : ∃ f, s.size - 16 = f := ⟨_, rfl⟩
  have hfs : f ≤ s.size := by omega
  have hv : hashL ((s.data.toList.take s.size).drop f) = rollL s.data.toList := by
    rw [List.take_of_length_le (by omega), rollL, lastL, hsl, hf]
  have HV := Go.Lib.hid hv
  clear hv hsl
  by_cases h16 : s.size < 16
  · have h0 : f = 0 := by omega
    subst h0
    rw [List.drop_zero] at HV
    have hlt16 : (s.size : Int) - 16 < 0 := by omega
    clear hf
    go_enter Tryz.func129, Tryz.ntmps129
    go_wp2
    go_loop [4, 5] (fun h i => ∃ k : Nat, 0 ≤ k ∧ k ≤ s.size ∧ i = .int .i64 k ∧ h = .int .u64 (hashL (s.data.toList.take k) : Nat)) (fun _ i => s.size - (intOf i).toNat)
    case atStart => exact ⟨0, by omega, by omega, rfl, rfl⟩
    case round =>
      obtain ⟨k, hfk, hk, rfl, rfl⟩ := hrel
      have hl := hashL_lt (s.data.toList.take k)
      by_cases hlt : k < s.size
      · have HS := Go.Lib.hid (hash_take s k hlt)
        generalize hashL (s.data.toList.take k) = h at hl HS
        have hb : s[k].toNat < 256 := s[k].toNat_lt
        have hv : ((addN h s[k].toNat : Nat) : Int) = ((h : Int) * 257 + s[k].toNat + 1) % 2147483647 := by unfold addN; omega
        have HA := Go.Lib.hid hv; clear hv
        go_wp2
        go_round
        case rel => exact ⟨k + 1, by omega, by omega, by go_num, by rw [HS.out, HA.out]⟩
        case measure => simp [intOf]; omega
      · obtain rfl : k = s.size := by omega
        go_wp2
        go_ret
        exact ⟨ret_int (by rw [HV.out]), rfl⟩
  · have e1 : ((s.size : Int) - 16) = f := by omega
    have hge : 0 ≤ (f : Int) := by omega
    clear hf
    go_enter Tryz.func129, Tryz.ntmps129
    go_wp2
    go_loop [4, 5] (fun h i => ∃ k : Nat, f ≤ k ∧ k ≤ s.size ∧ i = .int .i64 k ∧ h = .int .u64 (hashL ((s.data.toList.take k).drop f) : Nat)) (fun _ i => s.size - (intOf i).toNat)
    case atStart => exact ⟨f, by omega, by omega, rfl, by rw [List.drop_of_length_le (by simp; omega)]; rfl⟩
    case round =>
      obtain ⟨k, hfk, hk, rfl, rfl⟩ := hrel
      have hl := hashL_lt ((s.data.toList.take k).drop f)
      by_cases hlt : k < s.size
      · have HS := Go.Lib.hid (drop_take_snoc s f k hfk hlt)
        generalize hashL ((s.data.toList.take k).drop f) = h at hl HS
        have hb : s[k].toNat < 256 := s[k].toNat_lt
        have hv : ((addN h s[k].toNat : Nat) : Int) = ((h : Int) * 257 + s[k].toNat + 1) % 2147483647 := by unfold addN; omega
        have HA := Go.Lib.hid hv; clear hv
        go_wp2
        go_round
        case rel => exact ⟨k + 1, by omega, by omega, by go_num, by rw [HS.out, HA.out]⟩
        case measure => simp [intOf]; omega
      · obtain rfl : k = s.size := by omega
        go_wp2
        go_ret
        exact ⟨ret_int (by rw [HV.out]), rfl⟩
end Go.Proofs.YtlmefcepdadfjaaGreat
/- The walks over package roll: Slide, and the roll that keeps its bytes: New, Push, Reset, Sum, Len. -/
namespace Go.Proofs.YtlmefcepdadfjaaGreat
open Go.RowKit
set_option maxRecDepth 20000

def ringAt (l : List UInt8) (j : Nat) : UInt8 := if j < l.length then l.getD (l.length - 1 - (l.length - 1 - j) % 16) 0 else 0
def rollAt (l : List UInt8) (j : Nat) : Value := if j < 16 then .int .u8 ((ringAt l j).toNat : Int) else if j = 16 then .int .i64 (l.length : Nat) else .int .u64 (rollL l : Nat)
theorem Only.setCell' {g : Nat} {w w' : World} (h : Only g w w') (j : Nat) (u : Value) : Only g w (w'.setCell ⟨g, j, none⟩ u) := h.trans (Only.setCell j u)
theorem Only.drewCt' {g : Nat} {w w' : World} (h : Only g w w') : Only g w w'.drew := ⟨h.os, h.tape, h.output, h.size, h.block⟩
theorem ring_snoc (l : List UInt8) (b : UInt8) (j : Nat) (hj : j < 16) : ringAt (l ++ [b]) j = if j = l.length % 16 then b else ringAt l j := by
  unfold ringAt
  simp only [List.length_append, List.length_singleton]
  by_cases h : j = l.length % 16
  · rw [if_pos h, if_pos (by omega)]
    have : l.length + 1 - 1 - (l.length + 1 - 1 - j) % 16 = l.length := by omega
    rw [this]
    simp [List.getD]
  · rw [if_neg h]
    by_cases hl : j < l.length
    · rw [if_pos (by omega), if_pos hl]
      have : l.length + 1 - 1 - (l.length + 1 - 1 - j) % 16 = l.length - 1 - (l.length - 1 - j) % 16 := by omega
      rw [this, List.getD, List.getD, List.getElem?_append_left (by omega)]
    · rw [if_neg (by omega), if_neg hl]
theorem ring_old (l : List UInt8) (h : 16 ≤ l.length) : ringAt l (l.length % 16) = l.getD (l.length - 16) 0 := by
  unfold ringAt
  rw [if_pos (by omega)]
  congr 1
  omega
theorem mod_in (A Y P M : Nat) : (A + Y % M * P) % M = (A + Y * P) % M := by
  rw [Nat.add_mod, Nat.mod_mul_mod, ← Nat.add_mod]
theorem hash_from (r : List UInt8) : ∀ h0, h0 < 2147483647 → r.foldl (fun h b => addN h b.toNat) h0 = (h0 * 257 ^ r.length + hashL r) % 2147483647 := by
  induction r with
  | nil => intro h0 hh; simp [hashL]; omega
  | cons b r ih =>
    intro h0 hh
    show r.foldl _ (addN h0 b.toNat) = _
    have h1 : hashL (b :: r) = r.foldl (fun h b => addN h b.toNat) (addN 0 b.toNat) := rfl
    rw [ih _ (addN_lt _ _), h1, ih _ (addN_lt _ _)]
    unfold addN
    generalize hashL r = H
    generalize hP : 257 ^ r.length = P
    have hP2 : 257 ^ (b :: r).length = 257 * P := by rw [List.length_cons, Nat.pow_succ, hP, Nat.mul_comm]
    rw [hP2, Nat.add_comm _ H, mod_in, Nat.add_mod_mod, ← Nat.add_assoc (h0 * _), Nat.add_right_comm _ _ H, Nat.add_comm _ H, mod_in]
    congr 1
    rw [Nat.zero_mul, Nat.zero_add, Nat.add_mul, Nat.add_mul, Nat.add_mul, Nat.mul_assoc]
    omega
theorem drop_hash (o : UInt8) (r : List UInt8) (hr : r.length = 15) : dropN (hashL (o :: r)) o.toNat = hashL r := by
  have h1 : hashL (o :: r) = r.foldl (fun h b => addN h b.toNat) (addN 0 o.toNat) := rfl
  have ho : addN 0 o.toNat = o.toNat + 1 := by have := o.toNat_lt; unfold addN; omega
  have hlt := hashL_lt r
  have hon := o.toNat_lt
  rw [h1, hash_from _ _ (addN_lt _ _), ho, hr]
  generalize hashL r = H at hlt
  unfold dropN
  have e : (o.toNat + 1) * 1079017218 % 2147483647 = (o.toNat + 1) * 257 ^ 15 % 2147483647 := by
    rw [← powP_top]; unfold powP
    rw [Nat.mul_mod, Nat.mod_mod, ← Nat.mul_mod]
  rw [e]
  generalize (o.toNat + 1) * 257 ^ 15 = X
  omega
theorem lastL_snoc (l : List UInt8) (b : UInt8) : lastL (l ++ [b]) = (if 16 ≤ l.length then (lastL l).drop 1 else lastL l) ++ [b] := by
  unfold lastL
  simp only [List.length_append, List.length_singleton]
  by_cases h : 16 ≤ l.length
  · rw [if_pos h, List.drop_append_of_le_length (by omega), List.drop_drop]
    congr 2
    omega
  · rw [if_neg h, List.drop_append_of_le_length (by omega)]
    congr 2
    omega
theorem lastL_cons (l : List UInt8) (h : 16 ≤ l.length) : lastL l = l.getD (l.length - 16) 0 :: (lastL l).drop 1 := by
  unfold lastL
  rw [List.drop_drop, List.drop_eq_getElem_cons (by omega)]
  simp [List.getD, show l.length - 16 < l.length by omega]
theorem roll_snoc (l : List UInt8) (b : UInt8) : rollL (l ++ [b]) = addN (if 16 ≤ l.length then dropN (rollL l) (l.getD (l.length - 16) 0).toNat else rollL l) b.toNat := by
  unfold rollL
  rw [lastL_snoc, hashL_snoc]
  by_cases h : 16 ≤ l.length
  · rw [if_pos h, if_pos h]
    congr 1
    have h15 : ((lastL l).drop 1).length = 15 := by simp [lastL]; omega
    have := drop_hash (l.getD (l.length - 16) 0) ((lastL l).drop 1) h15
    rw [← lastL_cons l h] at this
    exact this.symm
  · rw [if_neg h, if_neg h]
set_option maxHeartbeats 400000 in
theorem New_anyCt (w : World) :
    Calls Tryz.prog 114 #[] w fun e w' => e = .returned (.pointer (some ⟨w.heap.size, 0, none⟩)) ∧ Blk w' w.heap.size 204 (tab 18 (rollAt [])) ∧ Below w.heap.size w w' := by
  go_enter Tryz.func114, Tryz.ntmps114
  go_wp2
  go_ret
  exact ⟨rfl, (Blk.new w _ _).congr rfl, (Below.refl _ _).alloc (Nat.le_refl _) _⟩
set_option maxHeartbeats 1000000 in
theorem Push_any (g : Nat) (l : List UInt8) (hl : l.length ≤ 1000000) (b : UInt8) (w : World) (hb : Blk w g 204 (tab 18 (rollAt l))) :
    Calls Tryz.prog 115 #[.pointer (some ⟨g, 0, none⟩), .int .u8 b.toNat] w fun e w' => e = .returned (.int .u32 (rollL (l ++ [b]) : Nat)) ∧ Blk w' g 204 (tab 18 (rollAt (l ++ [b]))) ∧ Only g w w' := by
  obtain ⟨n, hn⟩ : ∃ n, l.length = n := ⟨_, rfl⟩
  have hnb : n ≤ 1000000 := by omega
  have hh := rollL_lt l
  have hh' : rollL l < 4294967296 := by omega
  have hbb : b.toNat < 256 := b.toNat_lt
  have hs := roll_snoc l b
  have hr := rollL_lt (l ++ [b])
  have hr' : rollL (l ++ [b]) < 4294967296 := by omega
  have c16 : w.cell? ⟨g, 16, none⟩ = some (.int .i64 n) := by rw [hb.at 16 (by omega), ← hn]; rfl
  have c17 : w.cell? ⟨g, 17, none⟩ = some (.int .u64 (rollL l : Nat)) := hb.at 17 (by omega)
  have f16 := hb.freeAt 16 (by omega)
  have f17 := hb.freeAt 17 (by omega)
  obtain ⟨a, ha⟩ : ∃ a, n % 16 = a := ⟨_, rfl⟩
  have ha16 : a < 16 := by omega
  have hai : (n : Int) % 16 = a := by omega
  have ca : w.cell? ⟨g, a, none⟩ = some (.int .u8 ((ringAt l a).toNat : Int)) := by rw [hb.at a (by omega)]; unfold rollAt; rw [if_pos ha16]
  have fa := hb.freeAt a (by omega)
  have hre : (ringAt l a).toNat < 256 := (ringAt l a).toNat_lt
  have hfin : ∀ v1 : Value, ((((tab 18 (rollAt l)).set 17 v1).set 17 (.int .u64 (rollL (l ++ [b]) : Nat))).set a (.int .u8 (b.toNat : Int))).set 16 (.int .i64 (n + 1 : Nat)) = tab 18 (rollAt (l ++ [b])) := by
    intro v1
    rw [tab_set, tab_set, tab_set, tab_set]
    refine tab_congr fun j hj => ?_
    unfold rollAt
    by_cases h16 : j = 16
    · subst h16; simp [hn]
    · by_cases h17 : j = 17
      · subst h17; simp [show ¬ 17 = a by omega]
      · have hj16 : j < 16 := by omega
        rw [if_neg h16, if_pos hj16, if_pos hj16, ring_snoc l b j hj16, hn, ha]
        by_cases hja : j = a
        · rw [if_pos hja, if_pos hja]
        · rw [if_neg hja, if_neg hja, if_neg h17, if_neg h17]
  have HFIN := Go.Lib.hid hfin; clear hfin
  have HS := Go.Lib.hid hs; clear hs
  generalize hR : rollL (l ++ [b]) = R at hr hr' HS HFIN ⊢
  have HR := Go.Lib.hid hR; clear hR hr
  by_cases h16 : 16 ≤ n
  · have hro : ringAt l a = l.getD (l.length - 16) 0 := by rw [← ha, ← hn]; exact ring_old l (by omega)
    have hs2 : R = addN (dropN (rollL l) (ringAt l a).toNat) b.toNat := by rw [HS.out, if_pos (by omega), hro]
    have HS2 := Go.Lib.hid hs2
    have hd := dropN_lt (rollL l) (ringAt l a).toNat
    have hd' : dropN (rollL l) (ringAt l a).toNat < 4294967296 := by omega
    have HN := Go.Lib.hid hn; have HA := Go.Lib.hid ha
    clear hn ha hro hs2 hd hh hl
    have hne : (16 : Nat) ≠ a := by omega
    go_enter Tryz.func115, Tryz.ntmps115
    go_wp2_with fail
    go_region_with (go_at_call 135; refine (drop_any (rollL l) (ringAt l a).toNat hh' hre _).mono ?_; rintro e w1 ⟨rfl, rfl⟩)
    all_goals
      go_wp2_with (go_at_call 136; refine (add_any _ b.toNat hd' hbb _).mono ?_; rw [← HS2.out]; rintro e w1 ⟨rfl, rfl⟩)
      go_ret
      refine ⟨rfl, ?_, ?_⟩
      · exact ((((hb.set 17 _).set 17 _).set a _).set 16 _).congr (HFIN.out _)
      · exact ((((Only.refl.setCell' 17 _).setCell' 17 _).setCell' a _).setCell' 16 _).drewCt'
  · have hs2 : R = addN (rollL l) b.toNat := by rw [HS.out, if_neg (by omega)]
    have HS2 := Go.Lib.hid hs2
    have HN := Go.Lib.hid hn; have HA := Go.Lib.hid ha
    clear hn ha hs2 hh hl
    have hne : (16 : Nat) ≠ a := by omega
    go_enter Tryz.func115, Tryz.ntmps115
    go_wp2_with (go_at_call 136; refine (add_any _ b.toNat hh' hbb _).mono ?_; rw [← HS2.out]; rintro e w1 ⟨rfl, rfl⟩)
    go_ret
    refine ⟨rfl, ?_, ?_⟩
    · refine (((hb.set 17 _).set a _).set 16 _).congr ?_
      have := HFIN.out (.int .u64 0)
      rw [List.set_set] at this
      exact this
    · exact (((Only.refl.setCell' 17 _).setCell' a _).setCell' 16 _)

end Go.Proofs.YtlmefcepdadfjaaGreat
/- The walks over package roll: All, Places; the document's; same, awake. -/
namespace Go.Proofs.YtlmefcepdadfjaaGreat
open Go.RowKit
set_option maxRecDepth 20000

def allV (l : List UInt8) (k : Nat) : List Value := tab k fun i => .int .u32 (rollL (l.take (i + 1)) : Nat)
theorem allV_snoc (l : List UInt8) (k : Nat) : allV l (k + 1) = allV l k ++ [.int .u32 (rollL (l.take (k + 1)) : Nat)] := by
  unfold allV; simp [tab, List.range_succ]
set_option maxHeartbeats 1000000 in
theorem RAll_any (s : ByteArray) (hs : s.size ≤ 1000000) (w : World) :
    Calls Tryz.prog 106 #[.string s] w fun e w' => ∃ v, e = .returned v ∧ w'.ownsRow w.heap.size 24 1 v s.size (allV s.data.toList s.size) ∧ Below w.heap.size w w' := by
  obtain ⟨g, hg⟩ : ∃ g, w.heap.size = g := ⟨_, rfl⟩
  have HG := Go.Lib.hid hg
  clear hg
  go_enter Tryz.func106, Tryz.ntmps106
  go_wp2_with fail
  go_loopw [3, 4] (fun v i wr => ∃ k : Nat, k ≤ s.size ∧ i = .int .i64 (k + 1 : Nat) ∧ wr.ownsRow g 24 1 v k (allV s.data.toList k) ∧ Below g w wr) (fun _ i _ => s.size + 1 - (intOf i).toNat)
  case atStart => exact ⟨0, Nat.zero_le _, rfl, World.ownsRow_nil _ _ _ _, Below.refl _ _⟩
  case round =>
    obtain ⟨k, hk, rfl, hown, hbel⟩ := hrel
    by_cases hlt : k < s.size
    · have hx : (s.extract 0 (k + 1)).size ≤ maxLen := by rw [ByteArray.size_extract]; unfold maxLen; omega
      have hxl : (s.extract 0 (k + 1)).data.toList = s.data.toList.take (k + 1) := by rw [Go.Lib.extract_data]; simp
      have HX := Go.Lib.hid hxl; clear hxl
      have hsz : g ≤ wr.heap.size := by have := hbel.size; have := HG.out; omega
      have HB := Go.Lib.hid hbel; have HO := Go.Lib.hid hown
      clear hbel hown
      go_wp2_with (first
        | (go_at_call 129; refine (RSum_anyCt _ hx _).mono ?_; rw [HX.out]; rintro e w2 ⟨rfl, rfl⟩)
        | (at_builtin; refine wpList_append_one _ rfl _ _ 34 rfl g 24 (.int .u32 0) 4 Tryz.underlying34 (by kernel_rfl) rfl _ k _ rfl HO.out (.int .u32 (rollL (s.data.toList.take (k + 1)) : Nat)) rfl rfl (by unfold maxLen; omega) (by omega) hsz ?_))
      intro v' w3 hown3 hbel3 _
      have hbel4 := HB.out.trans hbel3
      clear hbel3
      go_wp2_with fail
      go_roundw
      case rel => exact ⟨k + 1, by omega, by go_num, by rw [allV_snoc]; exact hown3, hbel4⟩
      case measure => simp [intOf]; omega
    · obtain rfl : k = s.size := by omega
      go_wp2
      go_ret
      exact ⟨_, rfl, by rw [HG.out]; exact hown, by rw [HG.out]; exact hbel⟩
end Go.Proofs.YtlmefcepdadfjaaGreat
/- The walks: May of cut and of the document; New. -/
namespace Go.Proofs.YtlmefcepdadfjaaGreat
open Go.RowKit
set_option maxRecDepth 20000

def confV (c : Nat → Int) (i : Nat) : Value := .int .i64 (c i)
def confA (c : Nat → Int) : Value := .agg (tab 13 (confV c)).toArray
def mayC (c : Nat → Int) : Bool := decide (1 ≤ c 0 ∧ c 0 ≤ c 1 ∧ c 1 ≤ 4096 ∧ 1 ≤ c 2 ∧ c 2 ≤ 1048576 ∧ 1 ≤ c 3 ∧ c 3 ≤ 1048576)
theorem mayC_iff (c : Nat → Int) : mayC c = true ↔ (1 ≤ c 0 ∧ c 0 ≤ c 1 ∧ c 1 ≤ 4096 ∧ 1 ≤ c 2 ∧ c 2 ≤ 1048576 ∧ 1 ≤ c 3 ∧ c 3 ≤ 1048576) := by unfold mayC; rw [decide_eq_true_iff]
def divC (n : Int) : Bool := decide (1 ≤ n ∧ n ≤ 1048576)
set_option maxHeartbeats 400000 in
theorem div_any (n : Int) (w : World) : Calls Tryz.prog 78 #[.int .i64 n] w fun e w' => e = .returned (.bool (divC n)) ∧ w = w' := by
  by_cases h1 : 1 ≤ n
  · by_cases h2 : n ≤ 1048576
    · have hv : true = divC n := by unfold divC; rw [decide_eq_true ⟨h1, h2⟩]
      have HV := Go.Lib.hid hv; clear hv
      go_enter Tryz.func78, Tryz.ntmps78
      go_wp2
      go_ret
      exact ⟨ret_bool HV.out, rfl⟩
    · have hv : false = divC n := by unfold divC; rw [decide_eq_false (fun h => h2 h.2)]
      have HV := Go.Lib.hid hv; clear hv
      go_enter Tryz.func78, Tryz.ntmps78
      go_wp2
      go_ret
      exact ⟨ret_bool HV.out, rfl⟩
  · have hv : false = divC n := by unfold divC; rw [decide_eq_false (fun h => h1 h.1)]
    have HV := Go.Lib.hid hv; clear hv
    go_enter Tryz.func78, Tryz.ntmps78
    go_wp2
    go_ret
    exact ⟨ret_bool HV.out, rfl⟩
set_option maxHeartbeats 1000000 in
theorem May_any (c : Nat → Int) (w : World) :
    Calls Tryz.prog 51 #[confA c] w fun e w' => e = .returned (.bool (mayC c)) ∧ Below w.heap.size w w' := by
  have hv : mayC c = (decide (1 ≤ c 0) && decide (c 0 ≤ c 1) && decide (c 1 ≤ 4096) && divC (c 2) && divC (c 3)) := by
    unfold mayC divC
    simp only [Bool.decide_and]
    cases decide (1 ≤ c 0) <;> cases decide (c 0 ≤ c 1) <;> cases decide (c 1 ≤ 4096) <;> cases decide (1 ≤ c 2) <;> cases decide (c 2 ≤ 1048576) <;> cases decide (1 ≤ c 3) <;> cases decide (c 3 ≤ 1048576) <;> rfl
  have HV := Go.Lib.hid hv; clear hv
  unfold confA
  go_enter Tryz.func51, Tryz.ntmps51
  go_wp2_with (with_reducible refine wpList_box_tab (o := ⟨some 1, _, _, _, _, _⟩) rfl 23 _ rfl 13 (confV c) rfl ?_)
  intro w1 hb1 hbel1 hsz1
  have c0 : w1.cell? ⟨w.heap.size, 0, none⟩ = some (.int .i64 (c 0)) := hb1.at 0 (by omega)
  have c1 : w1.cell? ⟨w.heap.size, 1, none⟩ = some (.int .i64 (c 1)) := hb1.at 1 (by omega)
  have c2 : w1.cell? ⟨w.heap.size, 2, none⟩ = some (.int .i64 (c 2)) := hb1.at 2 (by omega)
  have c3 : w1.cell? ⟨w.heap.size, 3, none⟩ = some (.int .i64 (c 3)) := hb1.at 3 (by omega)
  go_wp2_with (go_at_call 78; refine (div_any _ _).mono ?_; rintro e w2 ⟨rfl, rfl⟩)
  all_goals
    go_ret
    refine ⟨ret_bool ?_, hbel1⟩
    rw [HV.out]
    first
      | (have h : ¬ divC (c 2) = true := by assumption
         simp [h])
      | (have h : ¬ (1 ≤ c 0) := by omega
         simp [h])
      | (have h : ¬ (c 0 ≤ c 1) := by omega
         simp [h])
      | (have h : ¬ (c 1 ≤ 4096) := by omega
         simp [h])
      | (have h : divC (c 2) = true := by assumption
         have h1 : 1 ≤ c 0 := by omega
         have h2 : c 0 ≤ c 1 := by omega
         have h3 : c 1 ≤ 4096 := by omega
         simp [h, h1, h2, h3])
set_option maxHeartbeats 1000000 in
theorem RMay_anyCt (c : Nat → Int) (w : World) :
    Calls Tryz.prog 105 #[confA c] w fun e w' => e = .returned (.bool (mayC c)) ∧ Below w.heap.size w w' := by
  have hv : ∀ b : Bool, (b = true ↔ (1 ≤ c 0 ∧ c 0 ≤ c 1 ∧ c 1 ≤ 4096 ∧ 1 ≤ c 2 ∧ c 2 ≤ 1048576 ∧ 1 ≤ c 3 ∧ c 3 ≤ 1048576)) → b = mayC c := by
    intro b hb; rw [Bool.eq_iff_iff, mayC_iff]; exact hb
  have HV := Go.Lib.hid hv; clear hv
  unfold confA
  go_enter Tryz.func105, Tryz.ntmps105
  go_wp2_with (with_reducible refine wpList_box_tab (o := ⟨some 1, _, _, _, _, _⟩) rfl 23 _ rfl 13 (confV c) rfl ?_)
  intro w1 hb1 hbel1 hsz1
  have c0 : w1.cell? ⟨w.heap.size, 0, none⟩ = some (.int .i64 (c 0)) := hb1.at 0 (by omega)
  have c1 : w1.cell? ⟨w.heap.size, 1, none⟩ = some (.int .i64 (c 1)) := hb1.at 1 (by omega)
  have c2 : w1.cell? ⟨w.heap.size, 2, none⟩ = some (.int .i64 (c 2)) := hb1.at 2 (by omega)
  have c3 : w1.cell? ⟨w.heap.size, 3, none⟩ = some (.int .i64 (c 3)) := hb1.at 3 (by omega)
  go_wp2
  all_goals
    go_ret
    refine ⟨ret_bool ?_, hbel1⟩
    apply HV.out
    simp only [decide_eq_true_eq, Bool.false_eq_true, false_iff]
    omega
end Go.Proofs.YtlmefcepdadfjaaGreat
