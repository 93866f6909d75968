/- The walks of package weigh, and of the document's: weights as two whole numbers. -/
import Derived.Test.YtbbngmlgpjepnaaZSxT
import Derived.Test.YtbbngmlgpjepnaaZSxb
import Derived.Test.YtbbngmlgpjepnaaZFl
import Derived.Test.YtbbngmlgpjepnaaZRead
namespace Go.Proofs.Ytbbngmlgpjepnaa
open Go.RowKit

section
variable {P : Program} {A : Value → Prop} {t : Nat} {x y : Operand}
theorem SxRun.cadd {a b c d re im : Nat} (h : cSumBits .add .f64 a b c d = some (re, im)) (hA : A (.complex .f64 re im)) : SxRun P (do eqGuard .add t x y (.complex .f64 a b) (.complex .f64 c d); binOp .add t (.complex .f64 a b) (.complex .f64 c d)) A :=
  ⟨_, fun w => by have := run_complex_sum (P := P) w .add (.inl rfl) t .f64 a b c d re im h; simp [eqGuard, this], hA⟩
theorem SxRun.cmul {a b c d re im : Nat} (h : cMulBits a b c d = some (re, im)) (hA : A (.complex .f64 re im)) : SxRun P (do eqGuard .mul t x y (.complex .f64 a b) (.complex .f64 c d); binOp .mul t (.complex .f64 a b) (.complex .f64 c d)) A :=
  ⟨_, fun w => by have := run_complex_mul (P := P) w t a b c d re im h; simp [eqGuard, this], hA⟩
theorem SxRun.fadd {a b r : Nat} (h : floatBits .add .f64 a b = some r) (hA : A (.float .f64 r)) : SxRun P (do eqGuard .add t x y (.float .f64 a) (.float .f64 b); binOp .add t (.float .f64 a) (.float .f64 b)) A :=
  ⟨_, fun w => by have := run_float_arith (P := P) w .add t .f64 a b r h; simp [eqGuard, this], hA⟩
theorem SxRun.fgeq {a b : Nat} {m n : Int} (ha : IsW a m) (hb : IsW b n) (hA : A (.bool (decide (m ≥ n)))) : SxRun P (do eqGuard .geq t x y (.float .f64 a) (.float .f64 b); binOp .geq t (.float .f64 a) (.float .f64 b)) A :=
  ⟨_, fun w => by
    have ho := order_W ha hb
    have : (some (compare m n) == some Ordering.gt || some (compare m n) == some Ordering.eq) = decide (m ≥ n) := by
      simp only [compare, compareOfLessAndEq]
      by_cases h : m < n
      · rw [if_pos h, decide_eq_false (by omega)]; rfl
      · rw [if_neg h]
        by_cases h' : m = n
        · rw [if_pos h', decide_eq_true (by omega)]; rfl
        · rw [if_neg h', decide_eq_true (by omega)]; rfl
    simp [eqGuard, binOp, Op.floatCmp, ho]; simpa using this, hA⟩
theorem SxRun.fleq {a b : Nat} {m n : Int} (ha : IsW a m) (hb : IsW b n) (hA : A (.bool (decide (m ≤ n)))) : SxRun P (do eqGuard .leq t x y (.float .f64 a) (.float .f64 b); binOp .leq t (.float .f64 a) (.float .f64 b)) A :=
  ⟨_, fun w => by
    have ho := order_W ha hb
    have : (some (compare m n) == some Ordering.lt || some (compare m n) == some Ordering.eq) = decide (m ≤ n) := by
      simp only [compare, compareOfLessAndEq]
      by_cases h : m < n
      · rw [if_pos h, decide_eq_true (by omega)]; rfl
      · rw [if_neg h]
        by_cases h' : m = n
        · rw [if_pos h', decide_eq_true (by omega)]; rfl
        · rw [if_neg h', decide_eq_false (by omega)]; rfl
    simp [eqGuard, binOp, Op.floatCmp, ho]; simpa using this, hA⟩
theorem SxRun.feql {a b : Nat} {m n : Int} (ha : IsW a m) (hb : IsW b n) (hA : A (.bool (decide (m = n)))) : SxRun P (do eqGuard .eql t x y (.float .f64 a) (.float .f64 b); binOp .eql t (.float .f64 a) (.float .f64 b)) A :=
  ⟨_, fun w => by
    have ho := order_W ha hb
    have : (some (compare m n) == some Ordering.eq) = decide (m = n) := by
      simp only [compare, compareOfLessAndEq]
      by_cases h : m < n
      · rw [if_pos h, decide_eq_false (by omega)]; rfl
      · rw [if_neg h]
        by_cases h' : m = n
        · rw [if_pos h', decide_eq_true (by omega)]; rfl
        · rw [if_neg h', decide_eq_false (by omega)]; rfl
    simp [eqGuard, binOp, Op.floatCmp, ho, this], hA⟩
theorem SxRun.i2f {src dst : Nat} {k : IntKind} {n : Int} {u : TypeDesc} (hs : P.underlying src = some u) (hd : P.underlying dst = some (.float .f64)) (hA : A (.float .f64 (fI n))) : SxRun P (convert src dst (.int k n)) A :=
  ⟨_, fun w => run_convert_int_float (P := P) w src dst k .f64 n (by rw [hs]; rfl) hd, hA⟩
theorem SxRun.f2i {src dst : Nat} {a : Nat} {n : Int} {u : TypeDesc} (ha : IsW a n) (hs : P.underlying src = some u) (hd : P.underlying dst = some (.int .i64)) (hA : A (.int .i64 n)) : SxRun P (convert src dst (.float .f64 a)) A :=
  ⟨_, fun w => run_convert_float_int (P := P) w src dst .f64 .i64 a n (by rw [hs]; rfl) hd (by
    unfold floatToIntVal
    rw [show (FloatKind.f64.decode a).toInt .zero = some n from toInt_isD ha.1]
    have h1 : IntKind.i64.min = -9223372036854775808 := rfl
    have h2 : IntKind.i64.max = 9223372036854775807 := rfl
    have := ha.2.1
    exact if_pos ⟨by omega, by omega⟩), hA⟩
theorem SxRun.fneg {a r : Nat} (h : (Op.unary .neg (.float .f64 a) : Sem Value) = pure (.float .f64 r)) (hA : A (.float .f64 r)) : SxRun P (Op.unary .neg (.float .f64 a)) A :=
  ⟨_, fun w => by rw [h]; rfl, hA⟩
end
theorem cmul_W {a b c d : Nat} {A B C D : Int} (ha : IsW a A) (hb : IsW b B) (hc : IsW c C) (hd : IsW d D) (h1 : (A * C).natAbs < 9007199254740992) (h2 : (B * D).natAbs < 9007199254740992) (h3 : (A * D).natAbs < 9007199254740992) (h4 : (B * C).natAbs < 9007199254740992) (h5 : (A * C - B * D).natAbs < 9007199254740992) (h6 : (A * D + B * C).natAbs < 9007199254740992) :
    ∃ re im, cMulBits a b c d = some (re, im) ∧ IsW re (A * C - B * D) ∧ IsW im (A * D + B * C) := by
  obtain ⟨ac, e1, w1⟩ := mul_W ha hc h1
  obtain ⟨bd, e2, w2⟩ := mul_W hb hd h2
  obtain ⟨re, e3, w3⟩ := sub_W w1 w2 h5
  obtain ⟨ad, e4, w4⟩ := mul_W ha hd h3
  obtain ⟨bc, e5, w5⟩ := mul_W hb hc h4
  obtain ⟨im, e6, w6, _⟩ := add_W w4 w5 h6
  exact ⟨re, im, by simp [cMulBits, e1, e2, e3, e4, e5, e6], w3, w6⟩
theorem cadd_W {a b c d : Nat} {A B C D : Int} (ha : IsW a A) (hb : IsW b B) (hc : IsW c C) (hd : IsW d D) (h1 : (A + C).natAbs < 9007199254740992) (h2 : (B + D).natAbs < 9007199254740992) (ha' : a = fI A ∨ c = fI C) (hb' : b = fI B ∨ d = fI D) :
    cSumBits .add .f64 a b c d = some (fI (A + C), fI (B + D)) := by
  obtain ⟨r, e1, w1, p1⟩ := add_W ha hc h1
  obtain ⟨i, e2, w2, p2⟩ := add_W hb hd h2
  rw [← p1 ha', ← p2 hb']
  simp [cSumBits, e1, e2]
theorem fI_0 : fI 0 = 0 := by decide
theorem fI_1 : fI 1 = 4607182418800017408 := by decide +kernel
theorem W_0 : IsW 0 0 := by have := isW_fI 0 (by decide); rwa [fI_0] at this
theorem W_1 : IsW 4607182418800017408 1 := by have := isW_fI 1 (by decide); rwa [fI_1] at this
/-- The sum of the bytes at the places j, j + 4, .. ahead of k. -/
def wAt (l : List UInt8) (j : Nat) : Nat → Int
  | 0 => 0
  | k + 1 => wAt l j k + (if k % 4 = j then ((l.getD k 0).toNat : Int) else 0)
theorem wAt_bd (l : List UInt8) (j : Nat) : ∀ k : Nat, 0 ≤ wAt l j k ∧ wAt l j k ≤ 255 * k
  | 0 => by simp [wAt]
  | k + 1 => by
    have h := wAt_bd l j k
    have hb := (l.getD k 0).toNat_lt
    simp only [wAt]
    split <;> omega
def reW (l : List UInt8) (k : Nat) : Int := wAt l 0 k - wAt l 2 k
def imW (l : List UInt8) (k : Nat) : Int := wAt l 1 k - wAt l 3 k
/-- i to the k-th power. -/
def unR (k : Nat) : Int := if k % 4 = 0 then 1 else if k % 4 = 2 then -1 else 0
def unI (k : Nat) : Int := if k % 4 = 1 then 1 else if k % 4 = 3 then -1 else 0
theorem W_u0 : IsW 4607182418800017408 (unR 0) := W_1
theorem W_v0 : IsW 0 (unI 0) := W_0
theorem unR_succ (k : Nat) : unR (k + 1) = -unI k := by unfold unR unI; split <;> split <;> (try split) <;> (try split) <;> omega
theorem unI_succ (k : Nat) : unI (k + 1) = unR k := by unfold unR unI; split <;> split <;> (try split) <;> (try split) <;> omega
theorem un_bd (k : Nat) : -1 ≤ unR k ∧ unR k ≤ 1 ∧ -1 ≤ unI k ∧ unI k ≤ 1 := by unfold unR unI; refine ⟨?_, ?_, ?_, ?_⟩ <;> split <;> (try split) <;> omega
theorem un_mul (k : Nat) (c : Int) : c * unR k = (if k % 4 = 0 then c else 0) - (if k % 4 = 2 then c else 0) ∧ c * unI k = (if k % 4 = 1 then c else 0) - (if k % 4 = 3 then c else 0) := by
  have h : k % 4 = 0 ∨ k % 4 = 1 ∨ k % 4 = 2 ∨ k % 4 = 3 := by omega
  unfold unR unI
  rcases h with h | h | h | h <;> simp [h]
theorem reW_succ (l : List UInt8) (k : Nat) : reW l (k + 1) = reW l k + ((l.getD k 0).toNat : Int) * unR k := by
  rw [(un_mul k _).1]; simp only [reW, wAt]; omega
theorem imW_succ (l : List UInt8) (k : Nat) : imW l (k + 1) = imW l k + ((l.getD k 0).toNat : Int) * unI k := by
  rw [(un_mul k _).2]; simp only [imW, wAt]; omega
def txV (l : List UInt8) : Value := .string ⟨l.toArray⟩
def wv (a b : Int) : Value := .complex .f64 (fI a) (fI b)
theorem plain_any (a b : Nat) (A B : Int) (ha : IsW a A) (hb : IsW b B) (w : World) :
    Calls Try.prog 57 #[.complex .f64 a b] w fun e w' => e = .returned (wv A B) ∧ Below w.heap.size w w' := by
  refine sx_fn (S := SX) (M := []) (N := 10) (H0 := []) Try.func57 rfl rfl rfl (Sat.nil _ _) ?_
  obtain ⟨r, e1, w1, p1⟩ := add_W ha W_0 (by have := ha.2.1; simpa using this)
  obtain ⟨i, e2, w2, p2⟩ := add_W hb W_0 (by have := hb.2.1; simpa using this)
  ((try refine sx_use ?_); (repeat (refine SxNew.mk fun _ => ?_; (try refine sx_use ?_))))
  refine SxRun.fadd e1 ?_
  ((try refine sx_use ?_); (repeat (refine SxNew.mk fun _ => ?_; (try refine sx_use ?_))))
  refine SxRun.fadd e2 ?_
  ((try refine sx_use ?_); (repeat (refine SxNew.mk fun _ => ?_; (try refine sx_use ?_))))
  refine SxDone.mk fun w' hs => ⟨?_, hs.touch.below⟩
  rw [p1 (.inr fI_0.symm), p2 (.inr fI_0.symm), Int.add_zero, Int.add_zero]
  rfl
theorem WOf_any (l : List UInt8) (hl : l.length ≤ 1000000) (w : World) :
    Calls Try.prog 28 #[txV l] w fun e w' => e = .returned (wv (reW l l.length) (imW l l.length)) ∧ Below w.heap.size w w' := by
  have hsz : (⟨l.toArray⟩ : ByteArray).size = l.length := mk_size l
  refine sx_fn (S := SX) (M := []) (N := 25) (H0 := []) Try.func28 rfl rfl rfl (Sat.nil _ _) ?_
  ((try refine sx_use ?_); (repeat (refine SxNew.mk fun _ => ?_; (try refine sx_use ?_))))
  refine SxCode.scope (σ := Nat × Nat × Nat) [5, 3, 4] [2, 3, 4, 5, 6, 7, 8, 9, 10, 11, 12, 13, 14, 15, 16, 17, 18, 19, 20, 21, 22, 23, 24] (fun _ => 0) (fun s => [.int .i64 (s.1 : Nat), wv (reW l s.1) (imW l s.1), .complex .f64 s.2.1 s.2.2]) (fun _ => []) (fun s => s.1 ≤ l.length ∧ IsW s.2.1 (unR s.1) ∧ IsW s.2.2 (unI s.1)) (fun s => l.length - s.1) rfl ?_ ?_
  · have hz : Value.complex .f64 0 0 = wv (reW l 0) (imW l 0) := by unfold wv; rw [show reW l 0 = 0 from rfl, show imW l 0 = 0 from rfl, fI_0]
    rw [hz]
    have hb0 := wAt_bd l 0 0
    have hb1 := wAt_bd l 1 0
    have hb2 := wAt_bd l 2 0
    have hb3 := wAt_bd l 3 0
    have hre : reW l 0 = wAt l 0 0 - wAt l 2 0 := rfl
    have him : imW l 0 = wAt l 1 0 - wAt l 3 0 := rfl
    ((try refine sx_use ?_); (repeat (refine SxNew.mk fun _ => ?_; (try refine sx_use ?_))))
    refine SxIf.eq (fun h => ?_) (fun h => ?_)
    · ((try refine sx_use ?_); (repeat (refine SxNew.mk fun _ => ?_; (try refine sx_use ?_))))
      have hlen : l.length = 0 := by omega
      refine SxCall.quiet (plain_any (fI (reW l 0)) (fI (imW l 0)) (reW l 0) (imW l 0) (isW_fI _ (by omega)) (isW_fI _ (by omega))) ?_
      ((try refine sx_use ?_); (repeat (refine SxNew.mk fun _ => ?_; (try refine sx_use ?_))))
      exact SxDone.mk fun w' hs => ⟨by rw [hlen]; rfl, hs.touch.below⟩
    · have hlt : 0 < l.length := by omega
      have hc := (l.getD 0 0).toNat_lt
      have hun := un_bd 0
      have hmu := un_mul 0 ((l.getD 0 0).toNat : Int)
      have hcR : (((l.getD 0 0).toNat : Int) * unR 0).natAbs < 1000 := by rw [hmu.1]; split <;> split <;> omega
      have hcI : (((l.getD 0 0).toNat : Int) * unI 0).natAbs < 1000 := by rw [hmu.2]; split <;> split <;> omega
      obtain ⟨re, im, e1, w1, w2⟩ := cmul_W (isW_fI ((l.getD 0 0).toNat : Int) (by omega)) W_0 W_u0 W_v0 (by omega) (by rw [Int.zero_mul]; decide) (by omega) (by rw [Int.zero_mul]; decide) (by rw [Int.zero_mul]; omega) (by rw [Int.zero_mul]; omega)
      rw [Int.zero_mul, Int.sub_zero] at w1
      rw [Int.zero_mul, Int.add_zero] at w2
      have e2 := cadd_W (isW_fI (reW l 0) (by omega)) (isW_fI (imW l 0) (by omega)) w1 w2 (by omega) (by omega) (.inl rfl) (.inl rfl)
      rw [← reW_succ, ← imW_succ] at e2
      obtain ⟨U', V', e3, w3, w4⟩ := cmul_W W_u0 W_v0 W_0 W_1 (by rw [Int.mul_zero]; decide) (by rw [Int.mul_one]; omega) (by rw [Int.mul_one]; omega) (by rw [Int.mul_zero]; decide) (by rw [Int.mul_zero, Int.mul_one]; omega) (by rw [Int.mul_zero, Int.mul_one]; omega)
      rw [Int.mul_zero, Int.mul_one, Int.zero_sub, ← unR_succ] at w3
      rw [Int.mul_one, Int.mul_zero, Int.add_zero, ← unI_succ] at w4
      ((try refine sx_use ?_); (repeat (refine SxNew.mk fun _ => ?_; (try refine sx_use ?_))))
      refine SxIdx.mk 0 rfl (by omega) ?_
      ((try refine sx_use ?_); (repeat (refine SxNew.mk fun _ => ?_; (try refine sx_use ?_))))
      refine SxRun.i2f Try.underlying5 Try.underlying54 ?_
      ((try refine sx_use ?_); (repeat (refine SxNew.mk fun _ => ?_; (try refine sx_use ?_))))
      refine SxRun.cmul e1 ?_
      ((try refine sx_use ?_); (repeat (refine SxNew.mk fun _ => ?_; (try refine sx_use ?_))))
      refine SxRun.cadd e2 ?_
      ((try refine sx_use ?_); (repeat (refine SxNew.mk fun _ => ?_; (try refine sx_use ?_))))
      refine SxRun.cmul e3 ?_
      ((try refine sx_use ?_); (repeat (refine SxNew.mk fun _ => ?_; (try refine sx_use ?_))))
      exact SxJump.mk (0 + 1, U', V') [] rfl rfl rfl rfl ⟨by dsimp only; omega, w3, w4⟩ (by intro b hb; cases hb)
  · rintro ⟨k, U, V⟩ ⟨hk, hU, hV⟩
    dsimp only at hk hU hV ⊢
    refine ⟨_, rfl, rfl, ?_⟩
    have hb0 := wAt_bd l 0 k
    have hb1 := wAt_bd l 1 k
    have hb2 := wAt_bd l 2 k
    have hb3 := wAt_bd l 3 k
    have hre : reW l k = wAt l 0 k - wAt l 2 k := rfl
    have him : imW l k = wAt l 1 k - wAt l 3 k := rfl
    ((try refine sx_use ?_); (repeat (refine SxNew.mk fun _ => ?_; (try refine sx_use ?_))))
    refine SxIf.eq (fun h => ?_) (fun h => ?_)
    · ((try refine sx_use ?_); (repeat (refine SxNew.mk fun _ => ?_; (try refine sx_use ?_))))
      have hlen : l.length = k := by omega
      refine SxCall.quiet (plain_any (fI (reW l k)) (fI (imW l k)) (reW l k) (imW l k) (isW_fI _ (by omega)) (isW_fI _ (by omega))) ?_
      ((try refine sx_use ?_); (repeat (refine SxNew.mk fun _ => ?_; (try refine sx_use ?_))))
      exact SxDone.mk fun w' hs => ⟨by rw [hlen]; rfl, hs.touch.below⟩
    · have hlt : k < l.length := by omega
      have hc := (l.getD k 0).toNat_lt
      have hun := un_bd k
      have hmu := un_mul k ((l.getD k 0).toNat : Int)
      have hcR : (((l.getD k 0).toNat : Int) * unR k).natAbs < 1000 := by rw [hmu.1]; split <;> split <;> omega
      have hcI : (((l.getD k 0).toNat : Int) * unI k).natAbs < 1000 := by rw [hmu.2]; split <;> split <;> omega
      obtain ⟨re, im, e1, w1, w2⟩ := cmul_W (isW_fI ((l.getD k 0).toNat : Int) (by omega)) W_0 hU hV (by omega) (by rw [Int.zero_mul]; decide) (by omega) (by rw [Int.zero_mul]; decide) (by rw [Int.zero_mul]; omega) (by rw [Int.zero_mul]; omega)
      rw [Int.zero_mul, Int.sub_zero] at w1
      rw [Int.zero_mul, Int.add_zero] at w2
      have e2 := cadd_W (isW_fI (reW l k) (by omega)) (isW_fI (imW l k) (by omega)) w1 w2 (by omega) (by omega) (.inl rfl) (.inl rfl)
      rw [← reW_succ, ← imW_succ] at e2
      obtain ⟨U', V', e3, w3, w4⟩ := cmul_W hU hV W_0 W_1 (by rw [Int.mul_zero]; decide) (by rw [Int.mul_one]; omega) (by rw [Int.mul_one]; omega) (by rw [Int.mul_zero]; decide) (by rw [Int.mul_zero, Int.mul_one]; omega) (by rw [Int.mul_zero, Int.mul_one]; omega)
      rw [Int.mul_zero, Int.mul_one, Int.zero_sub, ← unR_succ] at w3
      rw [Int.mul_one, Int.mul_zero, Int.add_zero, ← unI_succ] at w4
      ((try refine sx_use ?_); (repeat (refine SxNew.mk fun _ => ?_; (try refine sx_use ?_))))
      refine SxIdx.mk k rfl (by omega) ?_
      ((try refine sx_use ?_); (repeat (refine SxNew.mk fun _ => ?_; (try refine sx_use ?_))))
      refine SxRun.i2f Try.underlying5 Try.underlying54 ?_
      ((try refine sx_use ?_); (repeat (refine SxNew.mk fun _ => ?_; (try refine sx_use ?_))))
      refine SxRun.cmul e1 ?_
      ((try refine sx_use ?_); (repeat (refine SxNew.mk fun _ => ?_; (try refine sx_use ?_))))
      refine SxRun.cadd e2 ?_
      ((try refine sx_use ?_); (repeat (refine SxNew.mk fun _ => ?_; (try refine sx_use ?_))))
      refine SxRun.cmul e3 ?_
      ((try refine sx_use ?_); (repeat (refine SxNew.mk fun _ => ?_; (try refine sx_use ?_))))
      exact SxJump.mk (k + 1, U', V') [] rfl rfl rfl rfl ⟨by dsimp only; omega, w3, w4⟩ (by intro b hb; cases hb; show l.length - (k + 1) < l.length - k; omega)
theorem order_most {x : Nat} {n : Int} (hx : IsW x n) : FloatKind.f64.format.order x 4845873199050653696 = some .lt ∧ FloatKind.f64.format.order x 14069245235905429504 = some .gt := by
  have hm : Ieee.double.read 4845873199050653696 = .number false 4503599627370496 1 := by decide +kernel
  have hm' : Ieee.double.read 14069245235905429504 = .number true 4503599627370496 1 := by decide +kernel
  obtain ⟨s, k, hd, h1, h2⟩ := hx.1
  have hb := hx.2.1
  have hbase : min (-(k : Int)) (1 : Int) = -(k : Int) := by omega
  have e1 : Ieee.signed s (n.natAbs * 2 ^ k) (-(k : Int) - -(k : Int)).toNat = n * 2 ^ k := by
    rw [signed_val s n k _ h1 h2]; congr 2; omega
  have hp : (0 : Int) < 2 ^ k := by exact_mod_cast Nat.two_pow_pos k
  have e2 : Ieee.signed false 4503599627370496 (1 - -(k : Int)).toNat = 9007199254740992 * 2 ^ k := by
    unfold Ieee.signed
    rw [show (1 - -(k : Int)).toNat = k + 1 by omega, Nat.shiftLeft_eq, Nat.pow_succ]
    simp only [Bool.false_eq_true, if_false, Int.natCast_mul, Int.natCast_pow]
    have hc : ((2 : Nat) : Int) ^ k = 2 ^ k := rfl
    rw [hc]
    omega
  have e3 : Ieee.signed true 4503599627370496 (1 - -(k : Int)).toNat = -(9007199254740992 * 2 ^ k) := by
    rw [← e2]; rfl
  have l1 : n * 2 ^ k < 9007199254740992 * 2 ^ k := Int.mul_lt_mul_of_pos_right (by omega) hp
  have l2 : -(9007199254740992 * 2 ^ k) < n * 2 ^ k := by rw [← Int.neg_mul]; exact Int.mul_lt_mul_of_pos_right (by omega) hp
  constructor
  · show (Ieee.double.read x).order (Ieee.double.read 4845873199050653696) = _
    rw [hd, hm]
    simp only [Ieee.Datum.order, hbase, e1, e2]
    congr 1
    simp only [compare, compareOfLessAndEq]
    rw [if_pos l1]
  · show (Ieee.double.read x).order (Ieee.double.read 14069245235905429504) = _
    rw [hd, hm']
    simp only [Ieee.Datum.order, hbase, e1, e3]
    congr 1
    simp only [compare, compareOfLessAndEq]
    rw [if_neg (by omega), if_neg (by omega)]
theorem SxRun.fgeqT {P : Program} {A : Value → Prop} {t : Nat} {x y : Operand} {a b : Nat} (h : FloatKind.f64.format.order a b = some .gt) (hA : A (.bool true)) : SxRun P (do eqGuard .geq t x y (.float .f64 a) (.float .f64 b); binOp .geq t (.float .f64 a) (.float .f64 b)) A :=
  ⟨_, fun w => by simp [eqGuard, binOp, Op.floatCmp, h], hA⟩
theorem SxRun.fleqT {P : Program} {A : Value → Prop} {t : Nat} {x y : Operand} {a b : Nat} (h : FloatKind.f64.format.order a b = some .lt) (hA : A (.bool true)) : SxRun P (do eqGuard .leq t x y (.float .f64 a) (.float .f64 b); binOp .leq t (.float .f64 a) (.float .f64 b)) A :=
  ⟨_, fun w => by simp [eqGuard, binOp, Op.floatCmp, h], hA⟩
theorem whole_any (a : Nat) (n : Int) (ha : IsW a n) (w : World) :
    Calls Try.prog 71 #[.float .f64 a] w fun e w' => e = .returned (.bool true) ∧ Below w.heap.size w w' := by
  obtain ⟨h1, h2⟩ := order_most ha
  refine sx_fn (S := SX) (M := []) (N := 16) (H0 := []) Try.func71 rfl rfl rfl (Sat.nil _ _) ?_
  ((try refine sx_use ?_); (repeat (refine SxNew.mk fun _ => ?_; (try refine sx_use ?_))))
  refine SxRun.fgeqT h2 ?_
  ((try refine sx_use ?_); (repeat (refine SxNew.mk fun _ => ?_; (try refine sx_use ?_))))
  refine SxRun.fleqT h1 ?_
  ((try refine sx_use ?_); (repeat (refine SxNew.mk fun _ => ?_; (try refine sx_use ?_))))
  refine SxRun.f2i ha Try.underlying54 Try.underlying3 ?_
  ((try refine sx_use ?_); (repeat (refine SxNew.mk fun _ => ?_; (try refine sx_use ?_))))
  refine SxRun.i2f Try.underlying3 Try.underlying54 ?_
  ((try refine sx_use ?_); (repeat (refine SxNew.mk fun _ => ?_; (try refine sx_use ?_))))
  refine SxRun.feql (isW_fI n ha.2.1) ha ?_
  ((try refine sx_use ?_); (repeat (refine SxNew.mk fun _ => ?_; (try refine sx_use ?_))))
  exact SxDone.mk fun w' hs => ⟨by rw [decide_eq_true rfl]; rfl, hs.touch.below⟩
theorem may_any (a b : Nat) (m n : Int) (ha : IsW a m) (hb : IsW b n) (w : World) :
    Calls Try.prog 58 #[.complex .f64 a b] w fun e w' => e = .returned (.bool true) ∧ Below w.heap.size w w' := by
  refine sx_fn (S := SX) (M := []) (N := 11) (H0 := []) Try.func58 rfl rfl rfl (Sat.nil _ _) ?_
  ((try refine sx_use ?_); (repeat (refine SxNew.mk fun _ => ?_; (try refine sx_use ?_))))
  refine SxCall.quiet (whole_any a m ha) ?_
  ((try refine sx_use ?_); (repeat (refine SxNew.mk fun _ => ?_; (try refine sx_use ?_))))
  refine SxCall.quiet (whole_any b n hb) ?_
  ((try refine sx_use ?_); (repeat (refine SxNew.mk fun _ => ?_; (try refine sx_use ?_))))
  exact SxDone.mk fun w' hs => ⟨rfl, hs.touch.below⟩
theorem Parts_any (a b : Nat) (m n : Int) (ha : IsW a m) (hb : IsW b n) (w : World) :
    Calls Try.prog 55 #[.complex .f64 a b] w fun e w' => e = .returned (.tuple #[.int .i64 m, .int .i64 n, .int .i64 0]) ∧ Below w.heap.size w w' := by
  refine sx_fn (S := SX) (M := []) (N := 14) (H0 := []) Try.func55 rfl rfl rfl (Sat.nil _ _) ?_
  ((try refine sx_use ?_); (repeat (refine SxNew.mk fun _ => ?_; (try refine sx_use ?_))))
  refine SxCall.quiet (may_any a b m n ha hb) ?_
  ((try refine sx_use ?_); (repeat (refine SxNew.mk fun _ => ?_; (try refine sx_use ?_))))
  refine SxRun.f2i ha Try.underlying54 Try.underlying3 ?_
  ((try refine sx_use ?_); (repeat (refine SxNew.mk fun _ => ?_; (try refine sx_use ?_))))
  refine SxRun.f2i hb Try.underlying54 Try.underlying3 ?_
  ((try refine sx_use ?_); (repeat (refine SxNew.mk fun _ => ?_; (try refine sx_use ?_))))
  exact SxDone.mk fun w' hs => ⟨rfl, hs.touch.below⟩
end Go.Proofs.Ytbbngmlgpjepnaa
