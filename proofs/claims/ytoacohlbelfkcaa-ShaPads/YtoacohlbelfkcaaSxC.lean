/- A symbolic walk: what it says of one operation is so: numbers, texts, addresses. No program is named here. -/
import Derived.Test.YtoacohlbelfkcaaSxB
namespace Go.Proofs.Ytoacohlbelfkcaa
open Go.RowKit

theorem SxRng.i64 {x : Int} {A : Int → Prop} (h1 : -9223372036854775808 ≤ x) (h2 : x ≤ 9223372036854775807) (h : A x) : SxRng .i64 x A := ⟨by rw [IntWalk.i64_in x (by omega)]; exact h⟩
theorem SxRng.u8 {x : Int} {A : Int → Prop} (h1 : 0 ≤ x) (h2 : x < 256) (h : A x) : SxRng .u8 x A := ⟨by
  have : IntKind.u8.wrap x = x := by simp [IntKind.wrap, IntKind.signed, IntKind.bits]; omega
  rw [this]; exact h⟩
theorem SxRng.u16 {x : Int} {A : Int → Prop} (h1 : 0 ≤ x) (h2 : x < 65536) (h : A x) : SxRng .u16 x A := ⟨by
  have : IntKind.u16.wrap x = x := by simp [IntKind.wrap, IntKind.signed, IntKind.bits]; omega
  rw [this]; exact h⟩
theorem SxRng.u32 {x : Int} {A : Int → Prop} (h1 : 0 ≤ x) (h2 : x < 4294967296) (h : A x) : SxRng .u32 x A := ⟨by
  have : IntKind.u32.wrap x = x := by simp [IntKind.wrap, IntKind.signed, IntKind.bits]; omega
  rw [this]; exact h⟩
theorem SxRng.u64 {x : Int} {A : Int → Prop} (h1 : 0 ≤ x) (h2 : x < 18446744073709551616) (h : A x) : SxRng .u64 x A := ⟨by
  have : IntKind.u64.wrap x = x := by simp [IntKind.wrap, IntKind.signed, IntKind.bits]; omega
  rw [this]; exact h⟩
theorem SxRng.u8w {x : Int} {A : Int → Prop} (h : A (x % 256)) : SxRng .u8 x A := ⟨by
  have : IntKind.u8.wrap x = x % 256 := by simp [IntKind.wrap, IntKind.signed, IntKind.bits]
  rw [this]; exact h⟩
theorem SxRng.u16w {x : Int} {A : Int → Prop} (h : A (x % 65536)) : SxRng .u16 x A := ⟨by
  have : IntKind.u16.wrap x = x % 65536 := by simp [IntKind.wrap, IntKind.signed, IntKind.bits]
  rw [this]; exact h⟩
theorem SxRng.u32w {x : Int} {A : Int → Prop} (h : A (x % 4294967296)) : SxRng .u32 x A := ⟨by
  have : IntKind.u32.wrap x = x % 4294967296 := by simp [IntKind.wrap, IntKind.signed, IntKind.bits]
  rw [this]; exact h⟩
theorem SxRng.u64w {x : Int} {A : Int → Prop} (h : A (x % 18446744073709551616)) : SxRng .u64 x A := ⟨by
  have : IntKind.u64.wrap x = x % 18446744073709551616 := by simp [IntKind.wrap, IntKind.signed, IntKind.bits]
  rw [this]; exact h⟩

theorem SxQ.rem {x y : Int} {A : Int → Prop} (hx : 0 ≤ x) (hy : 0 ≤ y) (h : A (x % y)) : SxQ (x.tmod y) A := ⟨_, Int.tmod_eq_emod_of_nonneg hx, h⟩
theorem SxQ.quo {x y : Int} {A : Int → Prop} (hx : 0 ≤ x) (hy : 0 ≤ y) (h : A (x / y)) : SxQ (x.tdiv y) A := ⟨_, Int.tdiv_eq_ediv_of_nonneg hx, h⟩
theorem SxQ.shr {x e : Int} {A : Int → Prop} (d : Int) (he : e = d) (hd : 0 ≤ d) (h : A (x / d)) : SxQ (x.fdiv e) A := ⟨_, by rw [he]; exact Int.fdiv_eq_ediv_of_nonneg x hd, h⟩
theorem SxQ.shl {x e : Int} {A : Int → Prop} (d : Int) (he : e = d) (h : A (x * d)) : SxQ (x * e) A := ⟨_, by rw [he], h⟩
theorem SxSh.lit {n : Nat} {A : Nat → Prop} (h : A n) : SxSh (n : Int) A := ⟨n, rfl, h⟩
theorem SxSh.ofn {n : Nat} {A : Nat → Prop} (h : A n) : SxSh (Int.ofNat n) A := ⟨n, rfl, h⟩
def OpK (W : World) (M : List Nat) (o : Oper) (a : Act) (A : Value → Hp → Prop) : Act → World → Prop := fun a' w' => ∃ v H', a' = a.put o.dst v ∧ Sat W M H' w' ∧ A v H'
section
variable {P : Program} {W : World} {M : List Nat} {o : Oper} {a : Act} {w w' : World} {A : Value → Hp → Prop} {H H' : Hp} {Q : Exit → Act → World → Prop}
theorem op_value {v : Value} (hr : (execOp a.eval o).run P w = .ok (.value v) w') (hs : Sat W M H' w') (h : A v H') : o.wp P a w (OpK W M o a A) Q := by
  unfold Oper.wp; rw [hr]; exact ⟨v, H', rfl, hs, h⟩
theorem op_skip (hr : (execOp a.eval o).run P w = .ok .skip w') (hs : Sat W M H' w') (h : A undef H') : o.wp P a w (OpK W M o a A) Q := by
  unfold Oper.wp; rw [hr]; exact ⟨undef, H', rfl, hs, h⟩
end

theorem sxInt_run {P : Program} {op : BinOp} {k : IntKind} {m n : Int} {A : Value → Prop} (hsh : isShift op = false) (t : TypeId) (x y : Operand) (h : sxInt op k m n A) :
    ∃ v, A v ∧ ∀ w, (do eqGuard op t x y (.int k m) (.int k n); binOp op t (.int k m) (.int k n)).run P w = .ok v w := by
  cases op <;> simp only [isShift, Bool.true_eq_false] at hsh <;> simp only [sxInt] at h
  case add => cases h with | mk h => exact ⟨_, h, fun w => by simp [eqGuard, binOp, Op.intArith]⟩
  case sub => cases h with | mk h => exact ⟨_, h, fun w => by simp [eqGuard, binOp, Op.intArith]⟩
  case mul => cases h with | mk h => exact ⟨_, h, fun w => by simp [eqGuard, binOp, Op.intArith]⟩
  case quo => cases h with | mk h0 h => cases h with | mk q hq h => subst hq; cases h with | mk h => exact ⟨_, h, fun w => by simp [eqGuard, binOp, Op.intDiv, h0]⟩
  case rem => cases h with | mk h0 h => cases h with | mk q hq h => subst hq; exact ⟨_, h, fun w => by simp [eqGuard, binOp, Op.intDiv, h0]⟩
  case and => exact ⟨_, h, fun w => by simp [eqGuard, binOp, Op.intBits, bitI]⟩
  case or => exact ⟨_, h, fun w => by simp [eqGuard, binOp, Op.intBits, bitI]⟩
  case xor => exact ⟨_, h, fun w => by simp [eqGuard, binOp, Op.intBits, bitI]⟩
  case andNot => exact ⟨_, h, fun w => by simp [eqGuard, binOp, Op.intBits, bitI]⟩
  case eql => exact ⟨_, h, fun w => by simp [eqGuard, binOp, Op.intCmp]⟩
  case neq => exact ⟨_, h, fun w => by simp [eqGuard, binOp, Op.intCmp]⟩
  case lss => exact ⟨_, h, fun w => by simp [eqGuard, binOp, Op.intCmp]⟩
  case leq => exact ⟨_, h, fun w => by simp [eqGuard, binOp, Op.intCmp]⟩
  case gtr => exact ⟨_, h, fun w => by simp [eqGuard, binOp, Op.intCmp]⟩
  case geq => exact ⟨_, h, fun w => by simp [eqGuard, binOp, Op.intCmp]⟩
theorem sxString_run {P : Program} {op : BinOp} {m n : ByteArray} {A : Value → Prop} (t : TypeId) (x y : Operand) (h : sxString op m n A) :
    ∃ v, A v ∧ ∀ w, (do eqGuard op t x y (.string m) (.string n); binOp op t (.string m) (.string n)).run P w = .ok v w := by
  cases op <;> simp only [sxString] at h
  case add =>
    cases h with
    | mk h0 h =>
      have hn : ¬ (((m.size + n.size : Nat) : Int) > IntKind.i64.max) := by
        have : IntKind.i64.max = 9223372036854775807 := by decide
        rw [this]; omega
      exact ⟨_, h, fun w => by simp only [eqGuard, binOp, Op.stringOp]; rw [if_neg hn]; simp⟩
  case eql => exact ⟨_, h, fun w => by simp [eqGuard, binOp, Op.stringOp, strEq]⟩
  case neq => exact ⟨_, h, fun w => by simp [eqGuard, binOp, Op.stringOp, strEq]⟩
  case lss => exact ⟨_, h, fun w => by simp [eqGuard, binOp, Op.stringOp, strLt]⟩
  case leq => exact ⟨_, h, fun w => by simp [eqGuard, binOp, Op.stringOp, strLt, strEq]⟩
  case gtr => exact ⟨_, h, fun w => by simp [eqGuard, binOp, Op.stringOp, strLt, strEq]⟩
  case geq => exact ⟨_, h, fun w => by simp [eqGuard, binOp, Op.stringOp, strLt]⟩
theorem sxBin_run {S : Sx} {op : BinOp} {t : TypeId} {x y : Operand} {u v : Value} {A : Value → Prop} (h : sxBin S op t x y u v A) :
    ∃ r, A r ∧ ∀ w, (do eqGuard op t x y u v; binOp op t u v).run S.P w = .ok r w := by
  unfold sxBin at h
  split at h
  · rename_i k m k' n
    cases hsh : isShift op with
    | true =>
      rw [hsh] at h
      simp only [cond_true] at h
      cases h with
      | mk j hj h =>
        subst hj
        have hj : ¬ ((j : Int) < 0) := by omega
        cases op <;> simp only [isShift, Bool.false_eq_true] at hsh
        · cases h with | mk q hq h => subst hq; cases h with | mk h => exact ⟨_, h, fun w => by simp [eqGuard, binOp, Op.shift, hj]⟩
        · cases h with | mk q hq h => subst hq; exact ⟨_, h, fun w => by simp [eqGuard, binOp, Op.shift, hj]⟩
    | false =>
      rw [hsh] at h
      simp only [cond_false] at h
      cases hk : sameK k k' with
      | true =>
        rw [hk] at h
        obtain rfl := sameK_eq hk
        exact sxInt_run hsh t x y h
      | false => rw [hk] at h; exact h.elim
  · exact sxString_run t x y h
  · cases h with | mk r hr h => exact ⟨r, h, hr⟩
theorem nthV_eq : ∀ (l : List Value) (n : Nat), nthV l n = l[n]?
  | [], n => by simp [nthV]
  | v :: r, 0 => by simp [nthV]
  | v :: r, n + 1 => by simp [nthV, nthV_eq r n]
theorem nthF_eq : ∀ (l : List (Nat × Nat)) (n : Nat), nthF l n = l[n]?
  | [], n => by simp [nthF]
  | v :: r, 0 => by simp [nthF]
  | v :: r, n + 1 => by simp [nthF, nthF_eq r n]
section
variable {S : Sx}
theorem Sx.und0 {t : Nat} {d : TD} (h : S.desc t = some d) : ∃ x, S.P.underlying t = some x ∧ tdOf x = d := by
  unfold Sx.desc at h
  split at h
  · rename_i d0 n0 b0 z0 hi
    obtain ⟨x, h1, h2⟩ := Option.map_eq_some_iff.1 (S.ty t ⟨d0, n0, b0, z0⟩ hi).1
    exact ⟨x, h1, h2.trans (Option.some.inj h)⟩
  · cases h
theorem tdOf_bool {x : TypeDesc} (h : tdOf x = .bool) : x = .bool := by cases x <;> first | rfl | cases h
theorem tdOf_int {x : TypeDesc} {k : IntKind} (h : tdOf x = .int k) : x = .int k := by cases x <;> first | (simp only [tdOf, TD.int.injEq] at h; rw [h]) | cases h
theorem tdOf_string {x : TypeDesc} (h : tdOf x = .string) : x = .string := by cases x <;> first | rfl | cases h
theorem tdOf_slice {x : TypeDesc} {e : Nat} (h : tdOf x = .slice e) : x = .slice e := by cases x <;> first | (simp only [tdOf, TD.slice.injEq] at h; rw [h]) | cases h
theorem tdOf_array {x : TypeDesc} {n e : Nat} (h : tdOf x = .array n e) : x = .array n e := by cases x <;> first | (simp only [tdOf, TD.array.injEq] at h; rw [h.1, h.2]) | cases h
theorem tdOf_struct {x : TypeDesc} {fs : List (Nat × Nat)} (h : tdOf x = .struct fs) : ∃ l, x = .struct l ∧ (l.toList.map fun (f : Field) => (f.offset, f.type)) = fs := by
  cases x <;> first | (simp only [tdOf, TD.struct.injEq] at h; exact ⟨_, rfl, h⟩) | cases h
theorem tdOf_agg {x : TypeDesc} : isAggD (tdOf x) = (match x with | .struct _ | .array _ _ => true | _ => false) := by cases x <;> rfl
theorem Sx.uint {t : Nat} {k : IntKind} (h : S.desc t = some (.int k)) : S.P.underlying t = some (.int k) := by obtain ⟨x, h1, h2⟩ := Sx.und0 h; rw [h1, tdOf_int h2]
theorem Sx.ustr {t : Nat} (h : S.desc t = some .string) : S.P.underlying t = some .string := by obtain ⟨x, h1, h2⟩ := Sx.und0 h; rw [h1, tdOf_string h2]
theorem Sx.usl {t e : Nat} (h : S.desc t = some (.slice e)) : S.P.underlying t = some (.slice e) := by obtain ⟨x, h1, h2⟩ := Sx.und0 h; rw [h1, tdOf_slice h2]
theorem Sx.uarr {t n e : Nat} (h : S.desc t = some (.array n e)) : S.P.underlying t = some (.array n e) := by obtain ⟨x, h1, h2⟩ := Sx.und0 h; rw [h1, tdOf_array h2]
theorem Sx.ustruct {t : Nat} {fs : List (Nat × Nat)} (h : S.desc t = some (.struct fs)) : ∃ l, S.P.underlying t = some (.struct l) ∧ (l.toList.map fun (f : Field) => (f.offset, f.type)) = fs := by
  obtain ⟨x, h1, h2⟩ := Sx.und0 h
  obtain ⟨l, h3, h4⟩ := tdOf_struct h2
  exact ⟨l, by rw [h1, h3], h4⟩
theorem Sx.descOf {t : Nat} {i : TInf} (h : tl S.T t = some i) : S.desc t = some i.d := by unfold Sx.desc; rw [h]
theorem Sx.info {t : Nat} {i : TInf} (h : tl S.T t = some i) : ∃ x, S.P.info? t = some x ∧ x.zero = some i.zero ∧ x.size = i.size ∧ x.bytes = i.bytes := by
  obtain ⟨x, hx, he⟩ := Option.map_eq_some_iff.1 (S.ty t i h).2
  simp only [Prod.mk.injEq] at he
  exact ⟨x, hx, he.1, he.2.1, he.2.2⟩
theorem Sx.siz {t n : Nat} (h : S.sz t = some n) : ∃ x, S.P.info? t = some x ∧ x.size = n := by
  unfold Sx.sz at h
  split at h
  · rename_i d0 n0 b0 z0 hi
    obtain ⟨x, h1, _, h2, _⟩ := Sx.info hi
    exact ⟨x, h1, by rw [h2]; exact Option.some.inj h⟩
  · cases h
theorem run_int {t : Nat} {k : IntKind} (h : S.desc t = some (.int k)) (w : World) : (underlying t).run S.P w = .ok (.int k) w := run_underlying (Sx.uint h) w
theorem run_str {t : Nat} (h : S.desc t = some .string) (w : World) : (underlying t).run S.P w = .ok .string w := run_underlying (Sx.ustr h) w
theorem run_sl {t e : Nat} (h : S.desc t = some (.slice e)) (w : World) : (underlying t).run S.P w = .ok (.slice e) w := run_underlying (Sx.usl h) w
theorem run_arr {t n e : Nat} (h : S.desc t = some (.array n e)) (w : World) : (underlying t).run S.P w = .ok (.array n e) w := run_underlying (Sx.uarr h) w
theorem run_size {t n : Nat} (h : S.sz t = some n) (w : World) : (sizeOf t).run S.P w = .ok n w := by
  obtain ⟨x, h1, h2⟩ := Sx.siz h
  simp [sizeOf, typeInfo, h1, h2]
theorem run_zero {t : Nat} {i : TInf} (h : tl S.T t = some i) (w : World) : (zeroValue t).run S.P w = .ok i.zero w := by
  obtain ⟨x, h1, h2, _⟩ := Sx.info h
  simp [zeroValue, typeInfo, h1, h2]
theorem run_size' {t : Nat} {i : TInf} (h : tl S.T t = some i) (w : World) : (sizeOf t).run S.P w = .ok i.size w := by
  obtain ⟨x, h1, _, h2, _⟩ := Sx.info h
  simp [sizeOf, typeInfo, h1, h2]
theorem run_agg {t : Nat} {i : TInf} (h : tl S.T t = some i) (w : World) : (isAgg t).run S.P w = .ok (isAggD i.d) w := by
  obtain ⟨x, h1, h2⟩ := Sx.und0 (Sx.descOf h)
  unfold isAgg
  rw [Sem.run_bind, run_underlying h1 w, ← h2]
  cases x <;> simp [isAggD, tdOf]
end
theorem sxOpt_get {S : Sx} {N : Nat} {F : Fr} {a : Act} (ha : Agree N F a) {x : Option Operand} {d i : Int} (h : sxOpt S F x d = some i) :
    (x = none ∧ i = d) ∨ ∃ k, x.map a.eval = some (.int k i) := by
  unfold sxOpt at h
  cases x with
  | none => exact .inl ⟨rfl, (Option.some.inj h).symm⟩
  | some x =>
    right
    simp only at h
    split at h
    · rename_i k j hv
      obtain rfl := Option.some.inj h
      exact ⟨k, by simp [ev_eval ha hv]⟩
    · cases h
theorem run_sliceBounds {P : Program} (b : Bool) (len cap : Nat) (lo hi : Option Value) (l h : Nat) (hl : (lo = none ∧ l = 0) ∨ ∃ k, lo = some (.int k l)) (hh : (hi = none ∧ h = len) ∨ ∃ k, hi = some (.int k h)) (h1 : l ≤ h) (h2 : h ≤ cap) (w : World) :
    (Instr.sliceBounds b len cap lo hi none).run P w = .ok (l, h, cap) w := by
  rcases hl with ⟨rfl, rfl⟩ | ⟨k, rfl⟩ <;> rcases hh with ⟨rfl, rfl⟩ | ⟨k', rfl⟩ <;> simp [Instr.sliceBounds, Instr.sliceBound, asIntOf, h1, h2]
theorem opt_nat {x : Option Operand} {a : Act} {d : Nat} {i : Int} {n : Nat} (h : (x = none ∧ i = (d : Int)) ∨ ∃ k, x.map a.eval = some (.int k i)) (hi : i = (n : Int)) : (x.map a.eval = none ∧ n = d) ∨ ∃ k, x.map a.eval = some (.int k (n : Int)) := by
  subst hi
  rcases h with ⟨rfl, h⟩ | h
  · exact .inl ⟨rfl, by omega⟩
  · exact .inr h
end Go.Proofs.Ytoacohlbelfkcaa
