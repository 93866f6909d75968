/- Fingerprints: their cells, whether they are the same, which one is ahead. -/
import Derived.Test.YtdififdnnpgjoaaZEnA
import Derived.Test.YtdififdnnpgjoaaZSxP
import Derived.Test.YtdififdnnpgjoaaZOpnR
import Derived.Test.YtdififdnnpgjoaaZCb
namespace Go.Proofs.Ytdififdnnpgjoaa
open Go.RowKit

abbrev Fq := {f : List UInt8 // f.length = 32}
instance instFq : Inhabited Fq := ⟨⟨List.replicate 32 0, rfl⟩⟩
def fqC (f : Fq) : List Value := f.1.map u8V
def fqV (f : Fq) : Value := .agg (fqC f).toArray
theorem fqC_len (f : Fq) : (fqC f).length = 32 := by unfold fqC; rw [List.length_map, f.2]
theorem fqC_one (f : Fq) : allOne (fqC f) = true := by
  have := allOne_u8 f.1 []
  rw [List.append_nil] at this
  exact this
def fqE : Enc Fq := ⟨fqC, 32, by decide, fqC_len, fqC_one⟩
theorem fqC_inj {f g : Fq} (h : fqC f = fqC g) : f = g := Subtype.ext (u8V_inj h)
theorem fqV_inj {f g : Fq} (h : fqV f = fqV g) : f = g := by
  unfold fqV at h
  simp only [Value.agg.injEq] at h
  exact fqC_inj (by simpa using congrArg Array.toList h)
def fqK : List KD := List.replicate 32 (.int .u8)
theorem fqK_all (f : Fq) : allK fqK (fqC f) = true := by
  have := allK_u8 [] [] f.1
  rw [f.2, List.append_nil, List.append_nil] at this
  exact this
def fqKey : KeyT SX 31 := ⟨3, fqK, _, rfl, rfl, rfl⟩
theorem fqKey_ok (f : Fq) : fqKey.ok (fqV f) := ⟨fqK_all f, rfl⟩
theorem fq_eq (x y : Fq) : cellsEq (fqC x) (fqC y) = decide (x = y) := by
  have h := cellsEq_iff (ks := fqK) (us := fqC x) (vs := fqC y) (fqK_all x) (fqK_all y)
  by_cases he : x = y
  · rw [decide_eq_true he, he]
    exact (cellsEq_iff (ks := fqK) (us := fqC y) (vs := fqC y) (fqK_all y) (fqK_all y)).2 rfl
  · rw [decide_eq_false he]
    cases hc : cellsEq (fqC x) (fqC y) with
    | false => rfl
    | true => exact absurd (fqC_inj (h.1 hc)) he
theorem SxRun.eqFq {x y : Fq} {o1 o2 : Operand} {A : Value → Prop} (h : A (.bool (decide (x = y)))) : SxRun SX.P (do eqGuard .eql 31 o1 o2 (.agg (fqC x).toArray) (.agg (fqC y).toArray); binOp .eql 31 (.agg (fqC x).toArray) (.agg (fqC y).toArray)) A :=
  SxRun.eq 2 rfl (ks := fqK) rfl rfl (by kernel_rfl) rfl (fqK_all x) (fqK_all y) (by show A (.bool (cellsEq (fqC x) (fqC y))); rw [fq_eq]; exact h)
theorem SxRun.neFq {x y : Fq} {o1 o2 : Operand} {A : Value → Prop} (h : A (.bool (!decide (x = y)))) : SxRun SX.P (do eqGuard .neq 31 o1 o2 (.agg (fqC x).toArray) (.agg (fqC y).toArray); binOp .neq 31 (.agg (fqC x).toArray) (.agg (fqC y).toArray)) A :=
  SxRun.ne 2 rfl (ks := fqK) rfl rfl (by kernel_rfl) rfl (fqK_all x) (fqK_all y) (by show A (.bool (!cellsEq (fqC x) (fqC y))); rw [fq_eq]; exact h)
theorem fqE_len (l : List Fq) : (fqE.fl l).length = l.length * 32 := fqE.fl_len l
theorem fqE_at {l : List Fq} {k : Nat} {x : Fq} (h : l[k]? = some x) : ((fqE.fl l).drop (k * 32)).take 32 = fqC x := fqE.fl_at h
theorem fqC_take (q : Fq) : ((fqC q).drop 0).take 32 = fqC q := by rw [List.drop_zero, List.take_of_length_le (by rw [fqC_len]; exact Nat.le_refl _)]
theorem fqC_get {f : Fq} {k : Nat} {x : UInt8} (h : f.1[k]? = some x) : (fqC f)[k]? = some (u8V x) := by unfold fqC; rw [List.getElem?_map, h]; rfl
theorem u8_get {f : List UInt8} {k : Nat} {x : UInt8} (h : f[k]? = some x) : (f.map u8V)[k]? = some (u8V x) := by rw [List.getElem?_map, h]; rfl
/-- Two texts of which the first bytes are the same. -/
theorem cB_drop {f g : List UInt8} {k : Nat} {x y : UInt8} (hx : f[k]? = some x) (hy : g[k]? = some y) : cB (f.drop k) (g.drop k) = if x < y then -1 else if y < x then 1 else cB (f.drop (k + 1)) (g.drop (k + 1)) := by
  have e1 : f.drop k = x :: f.drop (k + 1) := by
    obtain ⟨h1, h2⟩ := List.getElem?_eq_some_iff.1 hx
    rw [List.drop_eq_getElem_cons h1, h2]
  have e2 : g.drop k = y :: g.drop (k + 1) := by
    obtain ⟨h1, h2⟩ := List.getElem?_eq_some_iff.1 hy
    rw [List.drop_eq_getElem_cons h1, h2]
  rw [e1, e2, cB_cons]
theorem RLessQ_any (f g : Fq) (w : World) : Calls Try.prog 48 #[fqV f, fqV g] w fun e w' => e = .returned (.bool (decide (cB f.1 g.1 < 0))) ∧ Below w.heap.size w w' := by
  have hf := f.2
  have hg := g.2
  refine sx_fn (S := SX) (M := []) (N := 24) (H0 := []) Try.func48 rfl rfl rfl (Sat.nil _ _) ?_
  ((try refine sx_use ?_); (repeat (refine SxNew.mk fun _ => ?_; (try refine sx_use ?_))))
  rename_i a b
  refine SxCode.loop (σ := Nat) [5] [6, 7, 10, 11, 12, 13, 14, 15, 16, 17, 18, 19, 20, 21, 22, 23, 4, 8, 9, 5] (fun k => [.int .i64 (k : Nat)]) (fun _ => [.blk b 31 (fqC g), .blk a 31 (fqC f)]) (fun k => k ≤ 32 ∧ cB f.1 g.1 = cB (f.1.drop k) (g.1.drop k)) (fun k => 32 - k) 0 [0, 1] rfl rfl rfl rfl ⟨Nat.zero_le _, rfl⟩ ?_
  rintro k ⟨hk, he⟩
  dsimp only
  ((try refine sx_use ?_); (repeat (refine SxNew.mk fun _ => ?_; (try refine sx_use ?_))))
  refine SxIf.dec (fun h => ?_) (fun h => ?_)
  · have hlt : k < 32 := by omega
    obtain ⟨x, hx⟩ : ∃ x, f.1[k]? = some x := ⟨f.1[k]'(by omega), by simp [show k < f.1.length by omega]⟩
    obtain ⟨y, hy⟩ : ∃ y, g.1[k]? = some y := ⟨g.1[k]'(by omega), by simp [show k < g.1.length by omega]⟩
    rw [cB_drop hx hy] at he
    have hxy : x < y ↔ x.toNat < y.toNat := UInt8.lt_iff_toNat_lt
    have hyx : y < x ↔ y.toNat < x.toNat := UInt8.lt_iff_toNat_lt
    ((try refine sx_use ?_); (repeat (refine SxNew.mk fun _ => ?_; (try refine sx_use ?_))))
    refine SxCode.drawAll rfl [] ?_
    ((try refine sx_use ?_); (repeat (refine SxNew.mk fun _ => ?_; (try refine sx_use ?_))))
    refine SxIdx.mk k rfl hlt ?_
    ((try refine sx_use ?_); (repeat (refine SxNew.mk fun _ => ?_; (try refine sx_use ?_))))
    refine SxLd.blk 1 rfl (v := u8V x) (by rw [Nat.zero_add, Nat.mul_one]; exact fqC_get hx) ?_
    ((try refine sx_use ?_); (repeat (refine SxNew.mk fun _ => ?_; (try refine sx_use ?_))))
    refine SxIdx.mk k rfl hlt ?_
    ((try refine sx_use ?_); (repeat (refine SxNew.mk fun _ => ?_; (try refine sx_use ?_))))
    refine SxLd.blk 0 rfl (v := u8V y) (by rw [Nat.zero_add, Nat.mul_one]; exact fqC_get hy) ?_
    ((try refine sx_use ?_); (repeat (refine SxNew.mk fun _ => ?_; (try refine sx_use ?_))))
    refine SxIf.ne (fun h1 => ?_) (fun h1 => ?_)
    · ((try refine sx_use ?_); (repeat (refine SxNew.mk fun _ => ?_; (try refine sx_use ?_))))
      refine SxCode.drawAll rfl [] ?_
      ((try refine sx_use ?_); (repeat (refine SxNew.mk fun _ => ?_; (try refine sx_use ?_))))
      refine SxIdx.mk k rfl hlt ?_
      ((try refine sx_use ?_); (repeat (refine SxNew.mk fun _ => ?_; (try refine sx_use ?_))))
      refine SxLd.blk 1 rfl (v := u8V x) (by rw [Nat.zero_add, Nat.mul_one]; exact fqC_get hx) ?_
      ((try refine sx_use ?_); (repeat (refine SxNew.mk fun _ => ?_; (try refine sx_use ?_))))
      refine SxIdx.mk k rfl hlt ?_
      ((try refine sx_use ?_); (repeat (refine SxNew.mk fun _ => ?_; (try refine sx_use ?_))))
      refine SxLd.blk 0 rfl (v := u8V y) (by rw [Nat.zero_add, Nat.mul_one]; exact fqC_get hy) ?_
      ((try refine sx_use ?_); (repeat (refine SxNew.mk fun _ => ?_; (try refine sx_use ?_))))
      exact SxDone.mk fun w' hs => ⟨by
        show Ending.returned (.bool (decide ((x.toNat : Int) < (y.toNat : Int)))) = _
        congr 2
        rw [decide_eq_decide, he]
        by_cases h2 : x < y
        · rw [if_pos h2]; have := hxy.1 h2; constructor <;> intro _ <;> omega
        · have h4 : ¬ x.toNat < y.toNat := fun h => h2 (hxy.2 h)
          have h3 : y < x := hyx.2 (by omega)
          rw [if_neg h2, if_pos h3]; have := hyx.1 h3; constructor <;> intro _ <;> omega, hs.touch.below⟩
    · have h2 : ¬ x < y := fun h => by have := hxy.1 h; omega
      have h3 : ¬ y < x := fun h => by have := hyx.1 h; omega
      rw [if_neg h2, if_neg h3] at he
      ((try refine sx_use ?_); (repeat (refine SxNew.mk fun _ => ?_; (try refine sx_use ?_))))
      exact SxRound.mk (k + 1) [0, 1] rfl rfl rfl ⟨by omega, he⟩ (by omega)
  · obtain rfl : k = 32 := by omega
    rw [List.drop_of_length_le (by omega), List.drop_of_length_le (by omega)] at he
    ((try refine sx_use ?_); (repeat (refine SxNew.mk fun _ => ?_; (try refine sx_use ?_))))
    exact SxDone.mk fun w' hs => ⟨by rw [he]; rfl, hs.touch.below⟩
theorem NaNb_any (x : UInt8) (w : World) : Calls Try.prog 86 #[u8V x] w fun e w' => e = .returned (.bool false) ∧ Below w.heap.size w w' := by
  refine sx_fn (S := SX) (M := []) (N := 6) (H0 := []) Try.func86 rfl rfl rfl (Sat.nil _ _) ?_
  ((try refine sx_use ?_); (repeat (refine SxNew.mk fun _ => ?_; (try refine sx_use ?_))))
  refine SxDone.mk fun w' hs => ⟨?_, hs.touch.below⟩
  show Ending.returned (.bool ((x.toNat : Int) != x.toNat)) = _
  rw [bne_self_eq_false]
theorem CmpB_any (x y : UInt8) (w : World) : Calls Try.prog 68 #[u8V x, u8V y] w fun e w' => e = .returned (.int .i64 (if x < y then -1 else if y < x then 1 else 0)) ∧ Below w.heap.size w w' := by
  have hxy : x < y ↔ x.toNat < y.toNat := UInt8.lt_iff_toNat_lt
  have hyx : y < x ↔ y.toNat < x.toNat := UInt8.lt_iff_toNat_lt
  refine sx_fn (S := SX) (M := []) (N := 20) (H0 := []) Try.func68 rfl rfl rfl (Sat.nil _ _) ?_
  ((try refine sx_use ?_); (repeat (refine SxNew.mk fun _ => ?_; (try refine sx_use ?_))))
  refine SxCall.quiet (NaNb_any x) ?_
  ((try refine sx_use ?_); (repeat (refine SxNew.mk fun _ => ?_; (try refine sx_use ?_))))
  refine SxCall.quiet (NaNb_any y) ?_
  ((try refine sx_use ?_); (repeat (refine SxNew.mk fun _ => ?_; (try refine sx_use ?_))))
  refine SxIf.dec (fun h => ?_) (fun h => ?_)
  · ((try refine sx_use ?_); (repeat (refine SxNew.mk fun _ => ?_; (try refine sx_use ?_))))
    exact SxDone.mk fun w' hs => ⟨by rw [if_pos (hxy.2 (by omega))]; rfl, hs.touch.below⟩
  · have h2 : ¬ x < y := fun h' => by have := hxy.1 h'; omega
    ((try refine sx_use ?_); (repeat (refine SxNew.mk fun _ => ?_; (try refine sx_use ?_))))
    refine SxIf.dec (fun h3 => ?_) (fun h3 => ?_)
    · ((try refine sx_use ?_); (repeat (refine SxNew.mk fun _ => ?_; (try refine sx_use ?_))))
      exact SxDone.mk fun w' hs => ⟨by rw [if_neg h2, if_pos (hyx.2 (by omega))]; rfl, hs.touch.below⟩
    · ((try refine sx_use ?_); (repeat (refine SxNew.mk fun _ => ?_; (try refine sx_use ?_))))
      exact SxDone.mk fun w' hs => ⟨by rw [if_neg h2, if_neg fun h' => by have := hyx.1 h'; omega]; rfl, hs.touch.below⟩
theorem CmpBs_any (f g : Fq) (ao bo : Option Addr) (ac bc : Nat) (w : World) (ha : Rd w ao (fqC f)) (hb : Rd w bo (fqC g)) :
    Calls Try.prog 44 #[.slice ao 32 ac, .slice bo 32 bc] w fun e w' => e = .returned (.int .i64 (cB f.1 g.1)) ∧ Below w.heap.size w w' := by
  have hf := f.2
  have hg := g.2
  refine sx_fn (S := SX) (M := []) (N := 36) (H0 := [.rd ao (fqC f), .rd bo (fqC g)]) Try.func44 rfl rfl rfl (Sat.twoRd _ ha hb) ?_
  ((try refine sx_use ?_); (repeat (refine SxNew.mk fun _ => ?_; (try refine sx_use ?_))))
  refine SxCode.loop (σ := Nat) [11] [12, 13, 14, 15, 5, 6, 16, 17, 18, 19, 4, 20, 21, 22, 23, 7, 24, 25, 26, 8, 27, 28, 29, 30, 11] (fun k => [.int .i64 (k : Nat)]) (fun _ => [.rd ao (fqC f), .rd bo (fqC g)]) (fun k => k ≤ 32 ∧ cB f.1 g.1 = cB (f.1.drop k) (g.1.drop k)) (fun k => 32 - k) 0 [0, 1] rfl rfl rfl rfl ⟨Nat.zero_le _, rfl⟩ ?_
  rintro k ⟨hk, he⟩
  dsimp only
  by_cases hlt : k < 32
  · obtain ⟨x, hx⟩ : ∃ x, f.1[k]? = some x := ⟨f.1[k]'(by omega), by simp [show k < f.1.length by omega]⟩
    obtain ⟨y, hy⟩ : ∃ y, g.1[k]? = some y := ⟨g.1[k]'(by omega), by simp [show k < g.1.length by omega]⟩
    rw [cB_drop hx hy] at he
    ((try refine sx_use ?_); (repeat (refine SxNew.mk fun _ => ?_; (try refine sx_use ?_))))
    refine SxIA.rd 0 _ rfl k rfl hlt (by rw [fqC_len]; omega) fun g off ha => ?_
    ((try refine sx_use ?_); (repeat (refine SxNew.mk fun _ => ?_; (try refine sx_use ?_))))
    refine SxLd.rd 0 rfl ha rfl (j := k * 1) (v := u8V x) (by rw [Nat.mul_one]; exact fqC_get hx) ?_
    ((try refine sx_use ?_); (repeat (refine SxNew.mk fun _ => ?_; (try refine sx_use ?_))))
    refine SxIA.rd 1 _ rfl k rfl hlt (by rw [fqC_len]; omega) fun g off ha => ?_
    ((try refine sx_use ?_); (repeat (refine SxNew.mk fun _ => ?_; (try refine sx_use ?_))))
    refine SxLd.rd 1 rfl ha rfl (j := k * 1) (v := u8V y) (by rw [Nat.mul_one]; exact fqC_get hy) ?_
    ((try refine sx_use ?_); (repeat (refine SxNew.mk fun _ => ?_; (try refine sx_use ?_))))
    refine SxCall.quiet (CmpB_any x y) ?_
    ((try refine sx_use ?_); (repeat (refine SxNew.mk fun _ => ?_; (try refine sx_use ?_))))
    refine SxIf.ne (fun h => ?_) (fun h => ?_)
    · ((try refine sx_use ?_); (repeat (refine SxNew.mk fun _ => ?_; (try refine sx_use ?_))))
      refine SxDone.mk fun w' hs => ⟨?_, hs.touch.below⟩
      rw [he]
      show Ending.returned (.int .i64 (if x < y then -1 else if y < x then 1 else 0)) = _
      by_cases h1 : x < y
      · rw [if_pos h1, if_pos h1]
      · by_cases h2 : y < x
        · rw [if_neg h1, if_pos h2, if_neg h1, if_pos h2]
        · rw [if_neg h1, if_neg h2] at h; exact absurd rfl h
    · have h1 : ¬ x < y := fun h1 => by rw [if_pos h1] at h; omega
      have h2 : ¬ y < x := fun h2 => by rw [if_neg h1, if_pos h2] at h; omega
      rw [if_neg h1, if_neg h2] at he
      ((try refine sx_use ?_); (repeat (refine SxNew.mk fun _ => ?_; (try refine sx_use ?_))))
      exact SxRound.mk (k + 1) [0, 1] rfl rfl rfl ⟨by omega, he⟩ (by omega)
  · obtain rfl : k = 32 := by omega
    rw [List.drop_of_length_le (by omega), List.drop_of_length_le (by omega)] at he
    ((try refine sx_use ?_); (repeat (refine SxNew.mk fun _ => ?_; (try refine sx_use ?_))))
    exact SxDone.mk fun w' hs => ⟨by rw [he]; rfl, hs.touch.below⟩
end Go.Proofs.Ytdififdnnpgjoaa
