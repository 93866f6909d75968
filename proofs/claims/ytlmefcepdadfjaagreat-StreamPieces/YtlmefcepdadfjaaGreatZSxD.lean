/- Texts of this claim, one behind the other. -/
import Derived.Test.YtlmefcepdadfjaaGreatZSxB
import Derived.Lib.AppendStr
import Derived.Maps.AppendAt
/- A symbolic walk: what it says of one operation is so: numbers, texts, addresses. No program is named here. -/
namespace Go.Proofs.YtlmefcepdadfjaaGreat
open Go.RowKit

theorem SxRng.i64 {x : Int} {A : Int → Prop} (h1 : -9223372036854775808 ≤ x) (h2 : x ≤ 9223372036854775807) (h : A x) : SxRng .i64 x A := ⟨by rw [IntWalk.i64_in x (by omega)]; exact h⟩
theorem SxRng.u32 {x : Int} {A : Int → Prop} (h1 : 0 ≤ x) (h2 : x < 4294967296) (h : A x) : SxRng .u32 x A := ⟨by
  have : IntKind.u32.wrap x = x := by simp [IntKind.wrap, IntKind.signed, IntKind.bits]; omega
  rw [this]; exact h⟩
theorem SxRng.u64 {x : Int} {A : Int → Prop} (h1 : 0 ≤ x) (h2 : x < 18446744073709551616) (h : A x) : SxRng .u64 x A := ⟨by
  have : IntKind.u64.wrap x = x := by simp [IntKind.wrap, IntKind.signed, IntKind.bits]; omega
  rw [this]; exact h⟩
theorem SxRng.u32w {x : Int} {A : Int → Prop} (h : A (x % 4294967296)) : SxRng .u32 x A := ⟨by
  have : IntKind.u32.wrap x = x % 4294967296 := by simp [IntKind.wrap, IntKind.signed, IntKind.bits]
  rw [this]; exact h⟩
theorem SxQ.rem {x y : Int} {A : Int → Prop} (hx : 0 ≤ x) (_hy : 0 ≤ y) (h : A (x % y)) : SxQ (x.tmod y) A := ⟨_, Int.tmod_eq_emod_of_nonneg hx, h⟩
theorem SxQ.quo {x y : Int} {A : Int → Prop} (hx : 0 ≤ x) (_hy : 0 ≤ y) (h : A (x / y)) : SxQ (x.tdiv y) A := ⟨_, Int.tdiv_eq_ediv_of_nonneg hx, h⟩
theorem SxQ.shl {x e : Int} {A : Int → Prop} (d : Int) (he : e = d) (h : A (x * d)) : SxQ (x * e) A := ⟨_, by rw [he], h⟩
theorem SxSh.ofn {n : Nat} {A : Nat → Prop} (h : A n) : SxSh (Int.ofNat n) A := ⟨n, rfl, h⟩
def OpK (W : World) (M : List Nat) (o : Oper) (a : Act) (A : Value → Hp → Prop) : Act → World → Prop := fun a' w' => ∃ v H', a' = a.put o.dst v ∧ Sat W M H' w' ∧ A v H'
section
variable {P : Program} {W : World} {M : List Nat} {o : Oper} {a : Act} {w w' : World} {A : Value → Hp → Prop} {H H' : Hp} {Q : Exit → Act → World → Prop}
theorem op_value {v : Value} (hr : (execOp a.eval o).run P w = .ok (.value v) w') (hs : Sat W M H' w') (h : A v H') : o.wp P a w (OpK W M o a A) Q := by
  unfold Oper.wp; rw [hr]; exact ⟨v, H', rfl, hs, h⟩
theorem op_skip (hr : (execOp a.eval o).run P w = .ok .skip w') (hs : Sat W M H' w') (h : A undef H') : o.wp P a w (OpK W M o a A) Q := by
  unfold Oper.wp; rw [hr]; exact ⟨undef, H', rfl, hs, h⟩
end

theorem sxInt_run {P : Program} {op : BinOp} {k : IntKind} {m n : Int} {A : Value → Prop} (hsh : isShift op = false) (t : TypeId) (x y : Operand) (h : sxInt op k m n A) :
    ∃ v, A v ∧ ∀ w, (do eqGuard op t x y (.int k m) (.int k n); binOp op t (.int k m) (.int k n)).run P w = .ok v w := by
  cases op <;> simp only [isShift, Bool.true_eq_false] at hsh <;> simp only [sxInt] at h
  case add => cases h with | mk h => exact ⟨_, h, fun w => by simp [eqGuard, binOp, Op.intArith]⟩
  case sub => cases h with | mk h => exact ⟨_, h, fun w => by simp [eqGuard, binOp, Op.intArith]⟩
  case mul => cases h with | mk h => exact ⟨_, h, fun w => by simp [eqGuard, binOp, Op.intArith]⟩
  case quo => cases h with | mk h0 h => cases h with | mk q hq h => subst hq; cases h with | mk h => exact ⟨_, h, fun w => by simp [eqGuard, binOp, Op.intDiv, h0]⟩
  case rem => cases h with | mk h0 h => cases h with | mk q hq h => subst hq; exact ⟨_, h, fun w => by simp [eqGuard, binOp, Op.intDiv, h0]⟩
  case and => exact ⟨_, h, fun w => by simp [eqGuard, binOp, Op.intBits, bitI]⟩
  case or => exact ⟨_, h, fun w => by simp [eqGuard, binOp, Op.intBits, bitI]⟩
  case xor => exact ⟨_, h, fun w => by simp [eqGuard, binOp, Op.intBits, bitI]⟩
  case andNot => exact ⟨_, h, fun w => by simp [eqGuard, binOp, Op.intBits, bitI]⟩
  case eql => exact ⟨_, h, fun w => by simp [eqGuard, binOp, Op.intCmp]⟩
  case neq => exact ⟨_, h, fun w => by simp [eqGuard, binOp, Op.intCmp]⟩
  case lss => exact ⟨_, h, fun w => by simp [eqGuard, binOp, Op.intCmp]⟩
  case leq => exact ⟨_, h, fun w => by simp [eqGuard, binOp, Op.intCmp]⟩
  case gtr => exact ⟨_, h, fun w => by simp [eqGuard, binOp, Op.intCmp]⟩
  case geq => exact ⟨_, h, fun w => by simp [eqGuard, binOp, Op.intCmp]⟩
theorem sxString_run {P : Program} {op : BinOp} {m n : ByteArray} {A : Value → Prop} (t : TypeId) (x y : Operand) (h : sxString op m n A) :
    ∃ v, A v ∧ ∀ w, (do eqGuard op t x y (.string m) (.string n); binOp op t (.string m) (.string n)).run P w = .ok v w := by
  cases op <;> simp only [sxString] at h
  case add =>
    cases h with
    | mk h0 h =>
      have hn : ¬ (((m.size + n.size : Nat) : Int) > IntKind.i64.max) := by
        have : IntKind.i64.max = 9223372036854775807 := by decide
        rw [this]; omega
      exact ⟨_, h, fun w => by simp only [eqGuard, binOp, Op.stringOp]; rw [if_neg hn]; simp⟩
  case eql => exact ⟨_, h, fun w => by simp [eqGuard, binOp, Op.stringOp, strEq]⟩
  case neq => exact ⟨_, h, fun w => by simp [eqGuard, binOp, Op.stringOp, strEq]⟩
  case lss => exact ⟨_, h, fun w => by simp [eqGuard, binOp, Op.stringOp, strLt]⟩
  case leq => exact ⟨_, h, fun w => by simp [eqGuard, binOp, Op.stringOp, strLt, strEq]⟩
  case gtr => exact ⟨_, h, fun w => by simp [eqGuard, binOp, Op.stringOp, strLt, strEq]⟩
  case geq => exact ⟨_, h, fun w => by simp [eqGuard, binOp, Op.stringOp, strLt]⟩
theorem sxBin_run {S : Sx} {op : BinOp} {t : TypeId} {x y : Operand} {u v : Value} {A : Value → Prop} (h : sxBin S op t x y u v A) :
    ∃ r, A r ∧ ∀ w, (do eqGuard op t x y u v; binOp op t u v).run S.P w = .ok r w := by
  unfold sxBin at h
  split at h
  · rename_i k m k' n
    cases hsh : isShift op with
    | true =>
      rw [hsh] at h
      simp only [cond_true] at h
      cases h with
      | mk j hj h =>
        subst hj
        have hj : ¬ ((j : Int) < 0) := by omega
        cases op <;> simp only [isShift, Bool.false_eq_true] at hsh
        · cases h with | mk q hq h => subst hq; cases h with | mk h => exact ⟨_, h, fun w => by simp [eqGuard, binOp, Op.shift, hj]⟩
        · cases h with | mk q hq h => subst hq; exact ⟨_, h, fun w => by simp [eqGuard, binOp, Op.shift, hj]⟩
    | false =>
      rw [hsh] at h
      simp only [cond_false] at h
      cases hk : sameK k k' with
      | true =>
        rw [hk] at h
        obtain rfl := sameK_eq hk
        exact sxInt_run hsh t x y h
      | false => rw [hk] at h; exact h.elim
  · exact sxString_run t x y h
  · cases h with | mk r hr h => exact ⟨r, h, hr⟩
theorem nthV_eq : ∀ (l : List Value) (n : Nat), nthV l n = l[n]?
  | [], n => by simp [nthV]
  | v :: r, 0 => by simp [nthV]
  | v :: r, n + 1 => by simp [nthV, nthV_eq r n]
theorem nthF_eq : ∀ (l : List (Nat × Nat)) (n : Nat), nthF l n = l[n]?
  | [], n => by simp [nthF]
  | v :: r, 0 => by simp [nthF]
  | v :: r, n + 1 => by simp [nthF, nthF_eq r n]
section
variable {S : Sx}
theorem Sx.und0 {t : Nat} {d : TD} (h : S.desc t = some d) : ∃ x, S.P.underlying t = some x ∧ tdOf x = d := by
  unfold Sx.desc at h
  split at h
  · rename_i d0 n0 b0 z0 hi
    obtain ⟨x, h1, h2⟩ := Option.map_eq_some_iff.1 (S.ty t ⟨d0, n0, b0, z0⟩ hi).1
    exact ⟨x, h1, h2.trans (Option.some.inj h)⟩
  · cases h
theorem tdOf_bool {x : TypeDesc} (h : tdOf x = .bool) : x = .bool := by cases x <;> first | rfl | cases h
theorem tdOf_int {x : TypeDesc} {k : IntKind} (h : tdOf x = .int k) : x = .int k := by cases x <;> first | (simp only [tdOf, TD.int.injEq] at h; rw [h]) | cases h
theorem tdOf_string {x : TypeDesc} (h : tdOf x = .string) : x = .string := by cases x <;> first | rfl | cases h
theorem tdOf_slice {x : TypeDesc} {e : Nat} (h : tdOf x = .slice e) : x = .slice e := by cases x <;> first | (simp only [tdOf, TD.slice.injEq] at h; rw [h]) | cases h
theorem tdOf_array {x : TypeDesc} {n e : Nat} (h : tdOf x = .array n e) : x = .array n e := by cases x <;> first | (simp only [tdOf, TD.array.injEq] at h; rw [h.1, h.2]) | cases h
theorem tdOf_struct {x : TypeDesc} {fs : List (Nat × Nat)} (h : tdOf x = .struct fs) : ∃ l, x = .struct l ∧ (l.toList.map fun (f : Field) => (f.offset, f.type)) = fs := by
  cases x <;> first | (simp only [tdOf, TD.struct.injEq] at h; exact ⟨_, rfl, h⟩) | cases h
theorem Sx.uint {t : Nat} {k : IntKind} (h : S.desc t = some (.int k)) : S.P.underlying t = some (.int k) := by obtain ⟨x, h1, h2⟩ := Sx.und0 h; rw [h1, tdOf_int h2]
theorem Sx.ustr {t : Nat} (h : S.desc t = some .string) : S.P.underlying t = some .string := by obtain ⟨x, h1, h2⟩ := Sx.und0 h; rw [h1, tdOf_string h2]
theorem Sx.usl {t e : Nat} (h : S.desc t = some (.slice e)) : S.P.underlying t = some (.slice e) := by obtain ⟨x, h1, h2⟩ := Sx.und0 h; rw [h1, tdOf_slice h2]
theorem Sx.uarr {t n e : Nat} (h : S.desc t = some (.array n e)) : S.P.underlying t = some (.array n e) := by obtain ⟨x, h1, h2⟩ := Sx.und0 h; rw [h1, tdOf_array h2]
theorem Sx.ustruct {t : Nat} {fs : List (Nat × Nat)} (h : S.desc t = some (.struct fs)) : ∃ l, S.P.underlying t = some (.struct l) ∧ (l.toList.map fun (f : Field) => (f.offset, f.type)) = fs := by
  obtain ⟨x, h1, h2⟩ := Sx.und0 h
  obtain ⟨l, h3, h4⟩ := tdOf_struct h2
  exact ⟨l, by rw [h1, h3], h4⟩
theorem Sx.descOf {t : Nat} {i : TInf} (h : tl S.T t = some i) : S.desc t = some i.d := by unfold Sx.desc; rw [h]
theorem Sx.info {t : Nat} {i : TInf} (h : tl S.T t = some i) : ∃ x, S.P.info? t = some x ∧ x.zero = some i.zero ∧ x.size = i.size ∧ x.bytes = i.bytes := by
  obtain ⟨x, hx, he⟩ := Option.map_eq_some_iff.1 (S.ty t i h).2
  simp only [Prod.mk.injEq] at he
  exact ⟨x, hx, he.1, he.2.1, he.2.2⟩
theorem Sx.siz {t n : Nat} (h : S.sz t = some n) : ∃ x, S.P.info? t = some x ∧ x.size = n := by
  unfold Sx.sz at h
  split at h
  · rename_i d0 n0 b0 z0 hi
    obtain ⟨x, h1, _, h2, _⟩ := Sx.info hi
    exact ⟨x, h1, by rw [h2]; exact Option.some.inj h⟩
  · cases h
theorem run_int {t : Nat} {k : IntKind} (h : S.desc t = some (.int k)) (w : World) : (underlying t).run S.P w = .ok (.int k) w := run_underlying (Sx.uint h) w
theorem run_str {t : Nat} (h : S.desc t = some .string) (w : World) : (underlying t).run S.P w = .ok .string w := run_underlying (Sx.ustr h) w
theorem run_sl {t e : Nat} (h : S.desc t = some (.slice e)) (w : World) : (underlying t).run S.P w = .ok (.slice e) w := run_underlying (Sx.usl h) w
theorem run_arr {t n e : Nat} (h : S.desc t = some (.array n e)) (w : World) : (underlying t).run S.P w = .ok (.array n e) w := run_underlying (Sx.uarr h) w
theorem run_size {t n : Nat} (h : S.sz t = some n) (w : World) : (sizeOf t).run S.P w = .ok n w := by
  obtain ⟨x, h1, h2⟩ := Sx.siz h
  simp [sizeOf, typeInfo, h1, h2]
theorem run_zero {t : Nat} {i : TInf} (h : tl S.T t = some i) (w : World) : (zeroValue t).run S.P w = .ok i.zero w := by
  obtain ⟨x, h1, h2, _⟩ := Sx.info h
  simp [zeroValue, typeInfo, h1, h2]
theorem run_size' {t : Nat} {i : TInf} (h : tl S.T t = some i) (w : World) : (sizeOf t).run S.P w = .ok i.size w := by
  obtain ⟨x, h1, _, h2, _⟩ := Sx.info h
  simp [sizeOf, typeInfo, h1, h2]
theorem run_agg {t : Nat} {i : TInf} (h : tl S.T t = some i) (w : World) : (isAgg t).run S.P w = .ok (isAggD i.d) w := by
  obtain ⟨x, h1, h2⟩ := Sx.und0 (Sx.descOf h)
  unfold isAgg
  rw [Sem.run_bind, run_underlying h1 w, ← h2]
  cases x <;> simp [isAggD, tdOf]
end
theorem sxOpt_get {S : Sx} {N : Nat} {F : Fr} {a : Act} (ha : Agree N F a) {x : Option Operand} {d i : Int} (h : sxOpt S F x d = some i) :
    (x = none ∧ i = d) ∨ ∃ k, x.map a.eval = some (.int k i) := by
  unfold sxOpt at h
  cases x with
  | none => exact .inl ⟨rfl, (Option.some.inj h).symm⟩
  | some x =>
    right
    simp only at h
    split at h
    · rename_i k j hv
      obtain rfl := Option.some.inj h
      exact ⟨k, by simp [ev_eval ha hv]⟩
    · cases h
theorem run_sliceBounds {P : Program} (b : Bool) (len cap : Nat) (lo hi : Option Value) (l h : Nat) (hl : (lo = none ∧ l = 0) ∨ ∃ k, lo = some (.int k l)) (hh : (hi = none ∧ h = len) ∨ ∃ k, hi = some (.int k h)) (h1 : l ≤ h) (h2 : h ≤ cap) (w : World) :
    (Instr.sliceBounds b len cap lo hi none).run P w = .ok (l, h, cap) w := by
  rcases hl with ⟨rfl, rfl⟩ | ⟨k, rfl⟩ <;> rcases hh with ⟨rfl, rfl⟩ | ⟨k', rfl⟩ <;> simp [Instr.sliceBounds, Instr.sliceBound, asIntOf, h1, h2]
theorem opt_nat {x : Option Operand} {a : Act} {d : Nat} {i : Int} {n : Nat} (h : (x = none ∧ i = (d : Int)) ∨ ∃ k, x.map a.eval = some (.int k i)) (hi : i = (n : Int)) : (x.map a.eval = none ∧ n = d) ∨ ∃ k, x.map a.eval = some (.int k (n : Int)) := by
  subst hi
  rcases h with ⟨rfl, h⟩ | h
  · exact .inl ⟨rfl, by omega⟩
  · exact .inr h
end Go.Proofs.YtlmefcepdadfjaaGreat
/- A symbolic walk: what it says of memory is so: loads, stores, new blocks, rows that grow. No program is named here. -/
namespace Go.Proofs.YtlmefcepdadfjaaGreat
open Go.RowKit

theorem SxLd.get {W : World} {M : List Nat} {H : Hp} {w : World} {g off : Nat} {A : Value → Prop} (h : SxLd H g off A) (hs : Sat W M H w) : ∃ v, A v ∧ w.cell? ⟨g, off, none⟩ = some v := by
  cases h with
  | blk p hp hv h => exact ⟨_, h, by rw [(hs.blk p hp).cell, hv]⟩
  | rd p hp ha hj hv h =>
    rename_i j v
    have hr := hs.rd p hp
    have hjl : j < _ := (List.getElem?_eq_some_iff.1 hv).1
    obtain ⟨g', o', he, _, h3⟩ := hr.2 (by omega)
    rw [ha] at he
    simp only [Option.some.injEq, Addr.mk.injEq, and_true] at he
    obtain ⟨rfl, rfl⟩ := he
    exact ⟨v, h, by rw [hj, h3 j hjl, hv]⟩
  | row p hp ha hj hv h =>
    subst ha
    subst hj
    have hr := hs.row p hp
    have hjl := (List.getElem?_eq_some_iff.1 hv).1
    refine ⟨_, h, ?_⟩
    have := hr.1
    rw [Nat.zero_add, World.ownsRow.cellAt hr _ (by omega), hv]
  | from_ hx ha hj hv h =>
    rename_i j v
    have hr := hx W M w hs
    have hjl : j < _ := (List.getElem?_eq_some_iff.1 hv).1
    obtain ⟨g', o', he, _, h3⟩ := hr.2 (by omega)
    rw [ha] at he
    simp only [Option.some.injEq, Addr.mk.injEq, and_true] at he
    obtain ⟨rfl, rfl⟩ := he
    exact ⟨v, h, by rw [hj, h3 j hjl, hv]⟩
theorem SxLdN.get {W : World} {M : List Nat} {H : Hp} {w : World} {g off n : Nat} {A : List Value → Prop} (h : SxLdN H g off n A) (hs : Sat W M H w) :
    ∃ vs, A vs ∧ vs.length = n ∧ ∀ j v, vs[j]? = some v → w.cell? ⟨g, off + j, none⟩ = some v := by
  have sub : ∀ {cs vs : List Value} {o j : Nat} {v : Value}, (cs.drop o).take n = vs → vs[j]? = some v → cs[o + j]? = some v := by
    intro cs vs o j v hv hj
    subst hv
    rw [List.getElem?_take] at hj
    split at hj
    · rw [List.getElem?_drop] at hj; exact hj
    · cases hj
  cases h with
  | blk p hp hl hv h => exact ⟨_, h, hl, fun j v hj => by rw [(hs.blk p hp).cell]; exact sub hv hj⟩
  | rd p hp ha hj hl hv h =>
    rename_i o i
    refine ⟨_, h, hl, fun j v hjv => ?_⟩
    have hc := sub hv hjv
    have hr := hs.rd p hp
    have hjl := (List.getElem?_eq_some_iff.1 hc).1
    obtain ⟨g', o', he, _, h3⟩ := hr.2 (by omega)
    rw [ha] at he
    simp only [Option.some.injEq, Addr.mk.injEq, and_true] at he
    obtain ⟨rfl, rfl⟩ := he
    rw [hj, Nat.add_assoc, h3 _ hjl, hc]
  | row p hp ha hj hl hv h =>
    subst ha
    refine ⟨_, h, hl, fun j v hjv => ?_⟩
    have hc := sub hv hjv
    have hr := hs.row p hp
    have hjl := (List.getElem?_eq_some_iff.1 hc).1
    have h1 := hr.1
    rw [hj, Nat.zero_add, World.ownsRow.cellAt hr _ (by omega), hc]
  | from_ hx ha hj hl hv h =>
    rename_i o i
    refine ⟨_, h, hl, fun j v hjv => ?_⟩
    have hc := sub hv hjv
    have hr := hx W M w hs
    have hjl := (List.getElem?_eq_some_iff.1 hc).1
    obtain ⟨g', o', he, _, h3⟩ := hr.2 (by omega)
    rw [ha] at he
    simp only [Option.some.injEq, Addr.mk.injEq, and_true] at he
    obtain ⟨rfl, rfl⟩ := he
    rw [hj, Nat.add_assoc, h3 _ hjl, hc]
theorem run_loadVar_one {P : Program} {t : TypeId} {ad : Addr} {v : Value} {w : World} (hagg : (isAgg t).run P w = .ok false w) (hc : w.cell? ad = some v) : (loadVar t ad).run P w = .ok v w := by
  simp [loadVar, Sem.run_bind, hagg, run_load, hc]
theorem run_loadVar_many {P : Program} {t : TypeId} {g off n : Nat} {vs : List Value} {w : World} (hagg : (isAgg t).run P w = .ok true w) (hsz : (sizeOf t).run P w = .ok n w) (hl : vs.length = n)
    (hc : ∀ j v, vs[j]? = some v → w.cell? ⟨g, off + j, none⟩ = some v) : (loadVar t ⟨g, off, none⟩).run P w = .ok (.agg vs.toArray) w := by
  have h := run_loadCells_list (P := P) w ⟨g, off, none⟩ vs (fun j v hv => by rw [Addr.add_lit]; exact hc j v hv)
  rw [hl] at h
  simp [loadVar, Sem.run_bind, hagg, hsz, h]
theorem splice_step (cs : List Value) (k : Nat) (v : Value) (rest : List Value) (h : k + (v :: rest).length ≤ cs.length) : splice (k + 1) rest (cs.set k v) = splice k (v :: rest) cs := by
  have := put_step cs k v rest h
  unfold splice
  exact this
theorem run_storeCells_raw {P : Program} (g o e lo hi : Nat) : ∀ (vs : List Value) (i : Nat) (cur : Array Value) (w : World), w.heap[g]? = some (.cells cur e (lo, hi)) → (hi ≤ lo ∨ cur.size ≤ lo) → o + i + vs.length ≤ cur.size → (∀ v ∈ vs, v.oneCell' = true) →
    ∃ w' cur', (storeCells ⟨g, o, none⟩ vs i).run P w = .ok () w' ∧ w'.heap[g]? = some (.cells cur' e (lo, hi)) ∧ cur'.toList = splice (o + i) vs cur.toList ∧ Only g w w'
  | [], i, cur, w, hb, _, _, _ => ⟨w, cur, rfl, hb, by simp [splice], Only.refl⟩
  | v :: rest, i, cur, w, hb, hf, hl, h1 => by
    have hi' : o + i < cur.size := by simp at hl; omega
    have hcell : w.cell? ⟨g, o + i, none⟩ = some cur[o + i] := by simp [World.cell?, hb, hi']
    have hfro : w.frozen? ⟨g, o + i, none⟩ = false := by
      simp only [World.frozen?, hb, Bool.and_eq_false_iff, decide_eq_false_iff_not]
      omega
    have hst : (store ((⟨g, o, none⟩ : Addr).add i) v).run P w = .ok () (w.setCell ⟨g, o + i, none⟩ v) := by
      rw [Addr.add_lit, run_store P w _ v _ (h1 v (by simp)), hcell]
      simp [hfro]
    have hb2 : (w.setCell ⟨g, o + i, none⟩ v).heap[g]? = some (.cells (cur.setIfInBounds (o + i) v) e (lo, hi)) := by simp [World.setCell, Array.getElem?_modify, hb]
    obtain ⟨w', cur', hr, hb', hc', ho⟩ := run_storeCells_raw (P := P) g o e lo hi rest (i + 1) (cur.setIfInBounds (o + i) v) (w.setCell ⟨g, o + i, none⟩ v) hb2 (by simpa using hf) (by simp at hl ⊢; omega) (fun x hx => h1 x (by simp [hx]))
    refine ⟨w', cur', ?_, hb', ?_, (Only.setCell _ _).trans ho⟩
    · simp only [storeCells, Sem.run_bind, hst, Result.andThen_ok, hr]
    · rw [hc', Array.toList_setIfInBounds]
      have := splice_step cur.toList (o + i) v rest (by simp at hl ⊢; omega)
      rw [← this, Nat.add_assoc]
theorem splice_length (off : Nat) (vs cs : List Value) (h : off + vs.length ≤ cs.length) : (splice off vs cs).length = cs.length := by simp [splice]; omega
theorem splice_take (off : Nat) (vs cs : List Value) (m : Nat) (h : off + vs.length ≤ m) (hm : m ≤ cs.length) : (splice off vs cs).take m = splice off vs (cs.take m) := by
  unfold splice
  rw [List.append_assoc, List.take_append, List.append_assoc, List.length_take, List.take_append, Nat.min_eq_left (by omega), List.take_take, Nat.min_eq_right (by omega), List.take_of_length_le (by omega : vs.length ≤ m - off)]
  rw [List.take_take, Nat.min_eq_left (by omega)]
  congr 2
  rw [List.drop_take, Nat.sub_sub]
theorem SxSt.get {P : Program} {W : World} {M : List Nat} {H : Hp} {w : World} {g off : Nat} {vs : List Value} {A : Hp → Prop} (h : SxSt H g off vs A) (hs : Sat W M H w) :
    ∃ w' H', (storeCells ⟨g, off, none⟩ vs 0).run P w = .ok () w' ∧ Sat W M H' w' ∧ A H' := by
  cases h with
  | blk p hp hl h1 hc h =>
    replace hl := Nat.le_of_ble_eq_true hl
    replace h1 := allOne_mem h1
    obtain ⟨cur, lo, hi, hb, hcur, hf⟩ := hs.blk p hp
    subst hcur
    obtain ⟨w', cur', hr, hb', hc', ho⟩ := run_storeCells_raw (P := P) g off _ lo hi vs 0 cur w hb (by simpa using hf) (by simpa using hl) h1
    rename_i e' cs'
    have hh : (Ent.blk g e' cs').Holds w' := by
      refine ⟨cur', lo, hi, hb', ?_, ?_⟩
      · rw [hc', Nat.add_zero, hc]
      · rw [← hc, splice_length _ _ _ hl]; exact hf
    refine ⟨w', _, hr, hs.set hp (Only.toGrown ho) hh (fun x hx => .inl ?_), h⟩
    simp only [Ent.uses] at hx
    simp [Ent.own, hx]
  | row p hp ha hj hl h1 hc h =>
    replace h1 := allOne_mem h1
    subst ha
    subst hj
    rename_i n cap e k cs j cs'
    have hr := hs.row p hp
    rcases hr.2 with ⟨hv, _⟩ | ⟨g', cap', cur, hv, hbg, hh, hnc, hcm, hcs, htake⟩
    · simp at hv
    · simp only [Value.slice.injEq, Option.some.injEq, Addr.mk.injEq, and_true, true_and] at hv
      obtain ⟨rfl, rfl⟩ := hv
      have hlen : cs.length = n * k := hr.1
      have hnk : n * k ≤ cap * k := Nat.mul_le_mul_right _ hnc
      have hrest : j + vs.length ≤ cur.size := by omega
      obtain ⟨w', cur', hr2, hb', hc', ho⟩ := run_storeCells_raw (P := P) g j e 0 0 vs 0 cur w hh (.inl (Nat.le_refl _)) (by simpa using hrest) h1
      have hh' : (Ent.row (some ⟨g, 0, none⟩) n cap e k cs').Holds w' := by
        refine ⟨?_, .inr ⟨g, cap, cur', rfl, Nat.zero_le _, hb', hnc, hcm, ?_, ?_⟩⟩
        · rw [← hc, splice_length _ _ _ hl, hlen]
        · rw [← hcs, ← Array.length_toList, hc', splice_length _ _ _ (by simpa using hrest), Array.length_toList]
        · rw [hc', Nat.add_zero, splice_take _ _ _ _ (by omega) (by simp; omega), htake, hc]
      refine ⟨w', _, by rw [Nat.zero_add]; exact hr2, hs.set hp (Only.toGrown ho) hh' (fun x hx => .inl ?_), h⟩
      simpa [Ent.uses, Ent.own] using hx
theorem run_storeVar_of {P : Program} {t : TypeId} {v : Value} {ad : Addr} {w w' : World} {k : Nat} (hsz : (sizeOf t).run P w = .ok k w) (hv : v.cells.size = k) (h : (storeCells ad v.cells.toList 0).run P w = .ok () w') : (storeVar t ad v).run P w = .ok () w' := by
  simp [storeVar, hsz, hv, h]
theorem SxStr.get {P : Program} {W : World} {M : List Nat} {H : Hp} {w : World} {ao : Option Addr} {n cap : Nat} {A : List UInt8 → Prop} (h : SxStr H ao n A) (hs : Sat W M H w) (src dst e : TypeId) (h1 : P.underlying src = some (.slice e)) (h2 : P.underlying e = some (.int .u8)) (h3 : P.underlying dst = some .string) :
    ∃ l, A l ∧ (convert src dst (.slice ao n cap)).run P w = .ok (.string ⟨l.toArray⟩) w := by
  have key : ∀ (l : List UInt8), l.length = n → (0 < n → ∃ g o, ao = some ⟨g, o, none⟩ ∧ ∀ j, j < n → w.cell? ⟨g, o + j, none⟩ = (l.map fun b => Value.int .u8 (b.toNat : Int))[j]?) → (convert src dst (.slice ao n cap)).run P w = .ok (.string ⟨l.toArray⟩) w := by
    intro l hl hh
    cases ao with
    | none =>
      have : n = 0 := by
        rcases Nat.eq_zero_or_pos n with h | h
        · exact h
        · obtain ⟨g, o, h, _⟩ := hh h; cases h
      subst this
      have : l = [] := List.eq_nil_of_length_eq_zero hl
      subst this
      rw [run_convert_bytes_string w src dst e _ 0 cap h1 h2 h3]
      simp [Conv.bytesToString]
      rfl
    | some ad =>
      subst hl
      refine run_convert_bytes_back w src dst e ad cap l h1 h2 h3 fun j hj => ?_
      obtain ⟨g, o, he, hc⟩ := hh (by omega)
      obtain rfl := Option.some.inj he
      rw [Addr.add_lit, hc j hj]
      simp [hj]
  cases h with
  | rd p hp l hn hl h =>
    refine ⟨l, h, key l hn fun h0 => ?_⟩
    have hr := hs.rd p hp
    rename_i cs
    have hlen : n ≤ cs.length := by
      have := congrArg List.length hl
      simp at this
      omega
    obtain ⟨g, o, he, _, hc⟩ := hr.2 (by omega)
    refine ⟨g, o, he, fun j hj => ?_⟩
    rw [hc j (by omega), ← hl, List.getElem?_take, if_pos hj]
  | blk p ha hp l hn hl h =>
    refine ⟨l, h, key l hn fun h0 => ?_⟩
    rename_i g o e' cs
    refine ⟨g, o, ha, fun j hj => ?_⟩
    rw [(hs.blk p hp).cell, ← hl, List.getElem?_take, if_pos hj, List.getElem?_drop]
  | row p hp l hn hl h =>
    refine ⟨l, h, key l hn fun h0 => ?_⟩
    rename_i m cap' e' cs
    have hr := hs.row p hp
    have hlen : n ≤ cs.length := by
      have := congrArg List.length hl
      simp at this
      omega
    have h1 := hr.1
    rcases hr.2 with ⟨hv, h0⟩ | ⟨g, cap2, cur, hv, _⟩
    · simp [h0] at h1; subst h1; simp at hlen; omega
    · simp only [Value.slice.injEq] at hv
      refine ⟨g, 0, hv.1, fun j hj => ?_⟩
      have hr2 := hr
      rw [hv.1] at hr2
      rw [Nat.zero_add, World.ownsRow.cellAt hr2 j (by omega), ← hl, List.getElem?_take, if_pos hj]
theorem run_append_nothing {P : Program} {w : World} {t ty e : TypeId} {i : TypeInfo} {z : Value} {n k cap xcap : Nat} {ao : Option Addr} {xs : List Value} (ht : P.underlying t = some (.slice e)) (hi : P.info? e = some i) (hz : i.zero = some z) (hown : w.ownsRow 0 e k (.slice ao n cap) n xs) :
    (Builtin.append_ #[t, t] ty #[.slice ao n cap, .slice none 0 xcap]).run P w = .ok (.slice ao n cap) w := by
  have hc : n ≤ cap := by
    rcases hown.2 with ⟨h, rfl⟩ | ⟨g, cap', cur, h, _, _, hc, _⟩
    · omega
    · simp only [Value.slice.injEq] at h; omega
  simp [Builtin.append_, run_underlying ht, sizeOf, typeInfo, zeroValue, hi, hz, Builtin.lenOf, hc, Builtin.firstCells]
  cases ao <;> simp [storeCells]
theorem SxApp.get {S : Sx} {W : World} {M : List Nat} {H : Hp} {w : World} {ao xo : Option Addr} {n cap e m xcap : Nat} {i : TInf} {A : Option Addr → Nat → Hp → Prop} (h : SxApp H ao n cap e i.size i.bytes xo m xcap A) (hs : Sat W M H w)
    (t ty : TypeId) (ht : S.P.underlying t = some (.slice e)) (hi : tl S.T e = some i) (hz : i.zero.cells.size = i.size) (hk : 0 < i.size) :
    ∃ ao' cap' H' w', A ao' cap' H' ∧ (Builtin.append_ #[t, t] ty #[.slice ao n cap, .slice xo m xcap]).run S.P w = .ok (.slice ao' (n + m) cap') w' ∧ Sat W M H' w' := by
  obtain ⟨x, hx0, hx1, hx2, hx3⟩ := Sx.info hi
  have main : ∀ (p : Nat) (cs vs cs' : List Value) (_hp : H[p]? = some (.row ao n cap e i.size cs)) (_hm : vs.length = m * i.size) (_h1 : ∀ v ∈ vs, v.oneCell' = true) (_h63 : n + m ≤ maxLen) (_hb : (n + m) * i.bytes ≤ 140737488355328) (_hc : cs ++ vs = cs') (_h : ∀ ao' cap', A ao' cap' (H.set p (.row ao' (n + m) cap' e i.size cs'))) (ad : Addr), xo = some ad → (∀ j u, vs[j]? = some u → w.cell? (ad.add j) = some u) → ∃ ao' cap' H' w', A ao' cap' H' ∧ (Builtin.append_ #[t, t] ty #[.slice ao n cap, .slice xo m xcap]).run S.P w = .ok (.slice ao' (n + m) cap') w' ∧ Sat W M H' w' := by
    rintro p cs vs cs' hp hm h1 h63 hb hc hA ad rfl hnews
    have hr := hs.row p hp
    obtain ⟨v', w', hrun, hown, hgr, _, hat⟩ := run_append_own_at (P := S.P) w 0 t ty e x i.zero i.size i.bytes ht hx0 hx1 hx2 hx3 hz hk _ n cs hr ad m xcap vs hm hnews h1 h63 hb (Nat.zero_le _)
    have form : ∃ ao' cap', v' = .slice ao' (n + m) cap' := by
      rcases hown.2 with ⟨rfl, h0⟩ | ⟨g, c, cur, rfl, _⟩
      · exact ⟨none, 0, by rw [h0]⟩
      · exact ⟨_, _, rfl⟩
    obtain ⟨ao', cap', rfl⟩ := form
    refine ⟨ao', cap', _, w', hA ao' cap', hrun, hs.set hp ?_ (by rw [← hc]; exact hown) ?_⟩
    · have : (Value.slice ao n cap).ownBlock = (Ent.row ao n cap e i.size cs).own := by cases ao <;> rfl
      rw [← this]; exact hgr
    · intro g hg
      have h1 : (Value.slice ao' (n + m) cap').ownBlock = some g := by
        cases ao' with
        | none => cases hg
        | some a => simpa [Ent.uses, Value.ownBlock] using hg
      rcases hat with h2 | h2
      · left
        rw [h1] at h2
        cases ao with
        | none => cases h2
        | some a => simpa [Ent.own, Value.ownBlock] using h2.symm
      · right
        rw [h1] at h2
        have := Option.some.inj h2
        omega
  have nothing : ∀ (p : Nat) (cs vs cs' : List Value) (_hp : H[p]? = some (.row ao n cap e i.size cs)) (_hm : vs.length = m * i.size) (_hc : cs ++ vs = cs') (_h : ∀ ao' cap', A ao' cap' (H.set p (.row ao' (n + m) cap' e i.size cs'))), xo = none → vs = [] → ∃ ao' cap' H' w', A ao' cap' H' ∧ (Builtin.append_ #[t, t] ty #[.slice ao n cap, .slice xo m xcap]).run S.P w = .ok (.slice ao' (n + m) cap') w' ∧ Sat W M H' w' := by
    rintro p cs vs cs' hp hm hc hA rfl rfl
    have hr := hs.row p hp
    have hm0 : m = 0 := by
      rcases Nat.eq_zero_or_pos m with h | h
      · exact h
      · have := Nat.mul_pos h hk; simp at hm; omega
    subst hm0
    refine ⟨ao, cap, _, w, hA ao cap, run_append_nothing ht hx0 hx1 hr, ?_⟩
    refine hs.set hp ⟨rfl, rfl, rfl, Nat.le_refl _, fun _ _ _ => rfl⟩ (by rw [← hc, List.append_nil]; exact hr) fun g hg => .inl hg
  have read : ∀ (p : Nat) (cs vs cs' : List Value) (_hp : H[p]? = some (.row ao n cap e i.size cs)) (_hm : vs.length = m * i.size) (_h1 : ∀ v ∈ vs, v.oneCell' = true) (_h63 : n + m ≤ maxLen) (_hb : (n + m) * i.bytes ≤ 140737488355328) (_hc : cs ++ vs = cs') (_h : ∀ ao' cap', A ao' cap' (H.set p (.row ao' (n + m) cap' e i.size cs'))) (_hrd : Rd w xo vs), ∃ ao' cap' H' w', A ao' cap' H' ∧ (Builtin.append_ #[t, t] ty #[.slice ao n cap, .slice xo m xcap]).run S.P w = .ok (.slice ao' (n + m) cap') w' ∧ Sat W M H' w' := by
    intro p cs vs cs' hp hm h1 h63 hb hc h hrd
    cases hxo : xo with
    | none =>
      refine hxo ▸ nothing p cs vs cs' hp hm hc h hxo ?_
      cases vs with
      | nil => rfl
      | cons v vs => obtain ⟨g, off, h, _⟩ := hrd.2 (by simp); rw [hxo] at h; cases h
    | some ad =>
      refine hxo ▸ main p cs vs cs' hp hm h1 h63 hb hc h ad hxo fun j u hj => ?_
      have hjl := (List.getElem?_eq_some_iff.1 hj).1
      obtain ⟨g, off, he, _, h3⟩ := hrd.2 (by omega)
      rw [hxo] at he
      obtain rfl := Option.some.inj he
      rw [Addr.add_lit, h3 j hjl, hj]
  cases h with
  | sem h => exact h S.P W M w t ty x i.zero hs ht hx0 hx1 hx2 hx3 hz hk
  | from_ p hp hx hm h1 h63 hb hc h => exact read p _ _ _ hp hm (allOne_mem h1) h63 hb hc h (hx W M w hs)
  | mk p hp q hx hm h1 h63 hb hc h =>
    replace h1 := allOne_mem h1
    rename_i cs vs cs'
    have hr := hs.row p hp
    replace main := main p cs vs cs' hp hm h1 h63 hb hc h
    replace nothing := nothing p cs vs cs' hp hm hc h
    rcases hx with ⟨h1, h3, _⟩ | hq | ⟨g, e', rfl, all, hq, hall⟩ | ⟨_, e', hq⟩
    · exact nothing h1 h3
    · have hrd := hs.rd q hq
      cases xo with
      | none =>
        refine nothing rfl ?_
        cases vs with
        | nil => rfl
        | cons v vs => obtain ⟨g, off, h, _⟩ := hrd.2 (by simp); cases h
      | some ad =>
        refine main ad rfl fun j u hj => ?_
        have hjl := (List.getElem?_eq_some_iff.1 hj).1
        obtain ⟨g, off, he, _, h3⟩ := hrd.2 (by omega)
        obtain rfl := Option.some.inj he
        rw [Addr.add_lit, h3 j hjl, hj]
    · refine main ⟨g, 0, none⟩ rfl fun j u hj => ?_
      rw [Addr.add_lit, Nat.zero_add, (hs.blk q hq).cell]
      rw [← hall, List.getElem?_take] at hj
      split at hj
      · exact hj
      · cases hj
    · have hrq := hs.row q hq
      cases xo with
      | none =>
        rcases hrq.2 with ⟨hv, h0⟩ | ⟨g, c, cur, hv, _⟩
        · have hl := hrq.1
          simp only [Value.slice.injEq] at hv
          subst h0
          exact nothing rfl (List.eq_nil_of_length_eq_zero (by simpa using hl))
        · cases hv
      | some ad =>
        refine main ad rfl fun j u hj => ?_
        have hjl := (List.getElem?_eq_some_iff.1 hj).1
        have hl := hrq.1
        rcases hrq.2 with ⟨hv, h0⟩ | ⟨g, c, cur, hv, _⟩
        · cases hv
        · simp only [Value.slice.injEq, Option.some.injEq] at hv
          obtain ⟨rfl, _, rfl⟩ := hv
          rw [Addr.add_lit, Nat.zero_add, World.ownsRow.cellAt hrq j (by omega), hj]
theorem SxAppS.get {S : Sx} {W : World} {M : List Nat} {H : Hp} {w : World} {ao : Option Addr} {n cap e : Nat} {s : ByteArray} {A : Option Addr → Nat → Hp → Prop} (h : SxAppS H ao n cap e s A) (hs : Sat W M H w)
    (t u ty : TypeId) (ht : S.P.underlying t = some (.slice e)) (hu : S.P.underlying u = some .string) (hi : tl S.T e = some ⟨.int .u8, 1, 1, .int .u8 0⟩) :
    ∃ ao' cap' H' w', A ao' cap' H' ∧ (Builtin.append_ #[t, u] ty #[.slice ao n cap, .string s]).run S.P w = .ok (.slice ao' (n + s.size) cap') w' ∧ Sat W M H' w' := by
  obtain ⟨x, hx0, hx1, hx2, hx3⟩ := Sx.info hi
  cases h with
  | mk p hp h63 hc h =>
    rename_i cs cs'
    replace hx1 : x.zero = some (.int .u8 0) := hx1
    replace hx2 : x.size = 1 := hx2
    replace hx3 : x.bytes = 1 := hx3
    have hr := hs.row p hp
    obtain ⟨v', w', hrun, hown, hgr, _⟩ := Go.Lib.run_append_own_string (P := S.P) (w := w) 0 t u ty e x ht hu hx0 hx1 hx2 hx3 _ n _ hr s (by unfold maxLen; omega) h63 (Nat.zero_le _)
    have form : ∃ ao' cap', v' = .slice ao' (n + s.size) cap' := by
      rcases hown.2 with ⟨rfl, h0⟩ | ⟨g, c, cur, rfl, _⟩
      · exact ⟨none, 0, by rw [h0]⟩
      · exact ⟨_, _, rfl⟩
    have hat : v'.ownBlock = (Value.slice ao n cap).ownBlock ∨ ∀ b, v'.ownBlock = some b → w.heap.size ≤ b := by
      rcases hr.2 with ⟨hv, rfl⟩ | ⟨g, c, cur, hv, _, hg, hnc, _, hcs, _⟩
      · right
        rw [hv] at hrun
        have hcs0 : cs = [] := List.eq_nil_of_length_eq_zero (by simpa using hr.1)
        obtain ⟨v2, w2, hrun2, hown2, _⟩ := Go.Lib.run_append_own_string (P := S.P) (w := w) w.heap.size t u ty e x ht hu hx0 hx1 hx2 hx3 _ 0 [] (World.ownsRow_nil w _ e 1) s (by unfold maxLen; omega) h63 (Nat.le_refl _)
        rw [hrun] at hrun2
        injection hrun2 with e1 e2
        subst e1 e2
        exact fun b hb => (World.ownsRow.lt hown2 b hb).1
      · simp only [Value.slice.injEq] at hv
        obtain ⟨rfl, _, rfl⟩ := hv
        by_cases hroom : n + s.size ≤ cap
        · left
          have h2 := Go.Lib.run_append_room_string (P := S.P) w t u ty e x ht hu hx0 hx2 g n cap cur hg s hroom (by rw [Nat.mul_one] at hcs; omega)
          rw [hrun] at h2
          injection h2 with e1 e2
          rw [e1]; rfl
        · right
          have h2 := Go.Lib.run_append_grow_string (P := S.P) w t u ty e x _ ht hu hx0 hx1 ⟨g, 0, none⟩ n cap cs (by rw [hx2]; exact hr.1) (hr.cells (g := g) rfl) s (by omega) (by omega) (by rw [hx3]; exact growslice_fits (by omega) (by omega))
          rw [hrun] at h2
          injection h2 with e1 e2
          rw [e1]
          intro b hb
          simp only [Value.ownBlock, Option.some.injEq] at hb
          omega
    obtain ⟨ao', cap', rfl⟩ := form
    refine ⟨ao', cap', _, w', h ao' cap', hrun, hs.set hp ?_ (by rw [← hc]; exact hown) ?_⟩
    · have : (Value.slice ao n cap).ownBlock = (Ent.row ao n cap e 1 cs).own := by cases ao <;> rfl
      rw [← this]; exact hgr
    · intro g hg
      have h1 : (Value.slice ao' (n + s.size) cap').ownBlock = some g := by
        cases ao' with
        | none => cases hg
        | some a => simpa [Ent.uses, Value.ownBlock] using hg
      rcases hat with h2 | h2
      · left
        rw [h1] at h2
        cases ao with
        | none => cases h2
        | some a => simpa [Ent.own, Value.ownBlock] using h2.symm
      · exact .inr (h2 g h1)
end Go.Proofs.YtlmefcepdadfjaaGreat
