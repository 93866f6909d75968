/- Texts of this claim, one behind the other. -/
import Derived.Test.YtlmefcepdadfjaaGreatZSxA
/- A symbolic walk: what holds of memory is kept. No program is named here. -/
namespace Go.Proofs.YtlmefcepdadfjaaGreat
open Go.RowKit

theorem ev_eval {N : Nat} {F : Fr} {a : Act} (h : Agree N F a) {x : Operand} {v : Value} (hx : ev F x = some v) : a.eval x = v := by
  cases x with
  | tmp t => exact h.slots t v hx
  | const c => exact Option.some.inj hx
  | global g => exact Option.some.inj hx
  | func f => exact Option.some.inj hx
theorem evs_eval {N : Nat} {F : Fr} {a : Act} (h : Agree N F a) : ∀ {xs : List Operand} {vs : List Value}, evs F xs = some vs → xs.map a.eval = vs
  | [], vs, hx => by simp only [evs, Option.some.injEq] at hx; simp [hx]
  | x :: r, vs, hx => by
    unfold evs at hx
    split at hx
    · rename_i v hv
      split at hx
      · rename_i us hu
        simp only [Option.some.injEq] at hx
        subst hx
        rw [List.map_cons, ev_eval h hv, evs_eval h hu]
      · cases hx
    · cases hx
theorem evParts_eval {N : Nat} {F : Fr} {a : Act} (h : Agree N F a) : ∀ {xs : List (Nat × Operand)} {vs : List (Nat × List Value)}, evParts F xs = some vs → xs.map (fun p => (p.1, (a.eval p.2).cells.toList)) = vs
  | [], vs, hx => by simp only [evParts, Option.some.injEq] at hx; simp [hx]
  | (i, x) :: r, vs, hx => by
    unfold evParts at hx
    split at hx
    · rename_i v hv
      split at hx
      · rename_i us hu
        simp only [Option.some.injEq] at hx
        subst hx
        rw [List.map_cons, evParts_eval h hu]
        simp [ev_eval h hv]
      · cases hx
    · cases hx
theorem Agree.put {N : Nat} {F : Fr} {a : Act} (h : Agree N F a) {d : Option Nat} (hd : dstOk N d = true) (v : Value) : Agree N (upd d v F) (a.put d v) := by
  cases d with
  | none => exact h
  | some d =>
    have hlt : d < a.tmps.size := by rw [h.size]; simpa [dstOk] using hd
    refine ⟨by simp [Act.put, h.size], h.defers, fun t u hu => ?_⟩
    simp only [upd, look] at hu
    rw [put_getD a d v t hlt]
    cases hb : Nat.beq d t with
    | true =>
      rw [hb] at hu
      have : d = t := Nat.eq_of_beq_eq_true hb
      subst this
      simp only [cond_true, Option.some.injEq] at hu
      simp [hu]
    | false =>
      rw [hb] at hu
      have : d ≠ t := fun e => by subst e; simp at hb
      rw [if_neg (Ne.symm this)]
      exact h.slots t u hu
theorem Ent.own_uses {e : Ent} {g : Nat} (h : e.own = some g) : e.uses g := by
  cases e with
  | blk b t cs => simp only [Ent.own, Option.some.injEq] at h; exact h.symm
  | rd ao cs => cases h
  | row ao n cap t k cs => exact h
  | gen x => exact x.own_uses g h
theorem Ent.uses_lt {e : Ent} {w : World} {g : Nat} (h : e.Holds w) (hu : e.uses g) : g < w.heap.size := by
  cases e with
  | blk b t cs => rw [show g = b from hu]; exact Blk.lt h
  | rd ao cs =>
    obtain ⟨h1, h2⟩ := hu
    have hl : 0 < cs.length := List.length_pos_iff.2 h1
    obtain ⟨b, off, rfl, hb, _⟩ := h.2 hl
    simp only [Option.map_some, Option.some.injEq] at h2
    exact h2 ▸ hb
  | row ao n cap t k cs =>
    cases ao with
    | none => cases hu
    | some a =>
      simp only [Ent.uses, Option.map_some, Option.some.injEq] at hu
      exact (World.ownsRow.lt h g (by simp [Value.ownBlock, hu])).2
  | gen x => exact x.uses_lt w g h hu
theorem Ent.Holds.kept {e : Ent} {w w' : World} {row : Option Nat} (h : e.Holds w) (hg : w.grownBy w' row) (hr : ∀ g, row = some g → ¬ e.uses g) : e.Holds w' := by
  cases e with
  | blk b t cs => exact Blk.grown h hg (fun hb => hr b hb.symm rfl)
  | rd ao cs =>
    refine ⟨h.1, fun hn => ?_⟩
    obtain ⟨g, off, rfl, h2, h3⟩ := h.2 hn
    refine ⟨g, off, rfl, Nat.lt_of_lt_of_le h2 hg.size, fun j hj => ?_⟩
    rw [← h3 j hj]
    refine World.cell?_of_block (w := w) (hg.block g h2 fun e => hr g e.symm ⟨List.ne_nil_of_length_pos hn, rfl⟩)
  | row ao n cap t k cs =>
    refine World.ownsRow.kept h hg ?_
    cases ao with
    | none => exact .inl rfl
    | some a =>
      right
      intro he
      exact hr a.block (by rw [← he]; rfl) rfl
  | gen x => exact x.kept w w' row h hg hr
theorem Below.toGrown {w w' : World} (h : Below w.heap.size w w') : w.grownBy w' none := ⟨h.os, h.tape, h.output, h.size, fun k hk _ => h.block k hk⟩
theorem Only.toGrown {g : Nat} {w w' : World} (h : Only g w w') : w.grownBy w' (some g) := ⟨h.os, h.tape, h.output, Nat.le_of_eq h.size.symm, fun k _ hk => h.block k fun e => hk (by rw [e])⟩
section
variable {W : World} {M : List Nat} {H : Hp} {w w' : World}
theorem Sat.grow (hs : Sat W M H w) (hb : w.grownBy w' none) : Sat W M H w' := by
  refine ⟨⟨hb.os.trans hs.touch.os, hb.tape.trans hs.touch.tape, hb.output.trans hs.touch.output, Nat.le_trans hs.touch.size hb.size, fun k hk hm => ?_⟩, fun i e hi => (hs.holds i e hi).kept hb (by simp), hs.own, hs.sep⟩
  rw [hb.block k (Nat.lt_of_lt_of_le hk hs.touch.size) (by simp)]
  exact hs.touch.block k hk hm
theorem Sat.below (hs : Sat W M H w) (hb : Below w.heap.size w w') : Sat W M H w' := hs.grow (Below.toGrown hb)
theorem Sat.cons (hs : Sat W M H w) (hb : w.grownBy w' none) {e : Ent} (he : e.Holds w') (hu : ∀ g, e.uses g → w.heap.size ≤ g) : Sat W M (e :: H) w' := by
  have h' := hs.grow hb
  refine ⟨h'.touch, fun i x hi => ?_, fun i x hi g hg => ?_, fun i j a b hij hi hj g hg => ?_⟩
  · cases i with
    | zero => simp at hi; exact hi ▸ he
    | succ i => exact h'.holds i x (by simpa using hi)
  · cases i with
    | zero =>
      simp at hi
      subst hi
      exact .inl (Nat.le_trans hs.touch.size (hu g (Ent.own_uses hg)))
    | succ i => exact hs.own i x (by simpa using hi) g hg
  · cases i with
    | zero =>
      cases j with
      | zero => exact absurd rfl hij
      | succ j =>
        simp at hi hj
        subst hi
        intro hbu
        have h1 := Ent.uses_lt (hs.holds j b hj) hbu
        have h2 := hu g (Ent.own_uses hg)
        omega
    | succ i =>
      cases j with
      | zero =>
        simp at hi hj
        subst hj
        intro hbu
        have h1 := Ent.uses_lt (hs.holds i a hi) (Ent.own_uses hg)
        have h2 := hu g hbu
        omega
      | succ j => exact hs.sep i j a b (fun e => hij (by rw [e])) (by simpa using hi) (by simpa using hj) g hg
theorem Sat.set (hs : Sat W M H w) {p : Nat} {e : Ent} (hp : H[p]? = some e) (hg : w.grownBy w' e.own) {e' : Ent} (he' : e'.Holds w') (hu : ∀ g, e'.uses g → e.own = some g ∨ w.heap.size ≤ g) : Sat W M (H.set p e') w' := by
  have hpl : p < H.length := (List.getElem?_eq_some_iff.1 hp).1
  have get : ∀ i x, (H.set p e')[i]? = some x → (i = p ∧ x = e') ∨ (i ≠ p ∧ H[i]? = some x) := by
    intro i x hi
    rw [List.getElem?_set] at hi
    by_cases h : p = i
    · subst h; simp [hpl] at hi; exact .inl ⟨rfl, hi.symm⟩
    · rw [if_neg h] at hi; exact .inr ⟨fun e => h e.symm, hi⟩
  refine ⟨⟨hg.os.trans hs.touch.os, hg.tape.trans hs.touch.tape, hg.output.trans hs.touch.output, Nat.le_trans hs.touch.size hg.size, fun k hk hm => ?_⟩, fun i x hi => ?_, fun i x hi g hxg => ?_, fun i j a b hij hi hj g hag => ?_⟩
  · rw [hg.block k (Nat.lt_of_lt_of_le hk hs.touch.size) (fun he => by
      rcases hs.own p e hp k he.symm with h | h
      · omega
      · exact hm h)]
    exact hs.touch.block k hk hm
  · rcases get i x hi with ⟨_, rfl⟩ | ⟨hne, hi'⟩
    · exact he'
    · exact (hs.holds i x hi').kept hg fun g hr => hs.sep p i e x (fun e => hne e.symm) hp hi' g hr
  · rcases get i x hi with ⟨_, rfl⟩ | ⟨hne, hi'⟩
    · rcases hu g (Ent.own_uses hxg) with h | h
      · exact hs.own p e hp g h
      · exact .inl (Nat.le_trans hs.touch.size h)
    · exact hs.own i x hi' g hxg
  · rcases get i a hi with ⟨hip, rfl⟩ | ⟨hip, hi'⟩
    · rcases get j b hj with ⟨hjp, rfl⟩ | ⟨hjp, hj'⟩
      · exact absurd (hip.trans hjp.symm) hij
      · intro hbu
        rcases hu g (Ent.own_uses hag) with h | h
        · exact hs.sep p j e b (fun e => hjp e.symm) hp hj' g h hbu
        · have := Ent.uses_lt (hs.holds j b hj') hbu
          omega
    · rcases get j b hj with ⟨hjp, rfl⟩ | ⟨hjp, hj'⟩
      · intro hbu
        rcases hu g hbu with h | h
        · exact hs.sep i p a e hip hi' hp g hag (Ent.own_uses h)
        · have := Ent.uses_lt (hs.holds i a hi') (Ent.own_uses hag)
          omega
      · exact hs.sep i j a b hij hi' hj' g hag
theorem Sat.blk (hs : Sat W M H w) (p : Nat) {g e : Nat} {cs : List Value} (hp : H[p]? = some (.blk g e cs)) : Blk w g e cs := hs.holds p _ hp
theorem Sat.rd (hs : Sat W M H w) (p : Nat) {ao : Option Addr} {cs : List Value} (hp : H[p]? = some (.rd ao cs)) : Rd w ao cs := hs.holds p _ hp
theorem Sat.row (hs : Sat W M H w) (p : Nat) {ao : Option Addr} {n cap e k : Nat} {cs : List Value} (hp : H[p]? = some (.row ao n cap e k cs)) : w.ownsRow 0 e k (.slice ao n cap) n cs := hs.holds p _ hp
def pickH (H : Hp) : List Nat → Option Hp
  | [] => some []
  | i :: r => match H[i]? with
    | some e => match pickH H r with
      | some es => some (e :: es)
      | none => none
    | none => none
theorem pickH_get : ∀ {ks : List Nat} {H' : Hp}, pickH H ks = some H' → ∀ (i : Nat) (e : Ent), H'[i]? = some e → ∃ k : Nat, ks[i]? = some k ∧ H[k]? = some e
  | [], H', h, i, e, hi => by simp only [pickH, Option.some.injEq] at h; subst h; simp at hi
  | k :: r, H', h, i, e, hi => by
    unfold pickH at h
    split at h
    · rename_i x hx
      split at h
      · rename_i es hes
        simp only [Option.some.injEq] at h
        subst h
        cases i with
        | zero => simp at hi; subst hi; exact ⟨k, by simp, hx⟩
        | succ i =>
          obtain ⟨k', h1, h2⟩ := pickH_get hes i e (by simpa using hi)
          exact ⟨k', by simpa using h1, h2⟩
      · cases h
    · cases h
def nodupB : List Nat → Bool
  | [] => true
  | k :: r => !(r.any (Nat.beq k)) && nodupB r
theorem nodupB_get : ∀ {ks : List Nat}, nodupB ks = true → ∀ (i j k : Nat), i ≠ j → ks[i]? = some k → ks[j]? = some k → False
  | [], _, i, j, k, _, hi, _ => by simp at hi
  | x :: r, h, i, j, k, hij, hi, hj => by
    simp only [nodupB, Bool.and_eq_true, Bool.not_eq_true', List.any_eq_false] at h
    cases i with
    | zero =>
      cases j with
      | zero => exact hij rfl
      | succ j =>
        simp at hi hj
        subst hi
        exact h.1 x (List.mem_of_getElem? hj) (by simp)
    | succ i =>
      cases j with
      | zero =>
        simp at hi hj
        subst hj
        exact h.1 x (List.mem_of_getElem? hi) (by simp)
      | succ j => exact nodupB_get h.2 i j k (fun e => hij (by rw [e])) (by simpa using hi) (by simpa using hj)
theorem Sat.pick (hs : Sat W M H w) {ks : List Nat} {H' : Hp} (hk : pickH H ks = some H') (hn : nodupB ks = true) : Sat W M H' w := by
  refine ⟨hs.touch, fun i e hi => ?_, fun i e hi => ?_, fun i j a b hij hi hj => ?_⟩
  · obtain ⟨k, _, h⟩ := pickH_get hk i e hi
    exact hs.holds k e h
  · obtain ⟨k, _, h⟩ := pickH_get hk i e hi
    exact hs.own k e h
  · obtain ⟨k, h1, h2⟩ := pickH_get hk i a hi
    obtain ⟨l, h3, h4⟩ := pickH_get hk j b hj
    exact hs.sep k l a b (fun e => nodupB_get hn i j k hij h1 (e ▸ h3)) h2 h4
end
theorem new_grown (w : World) (o : Obj) : w.grownBy (w.alloc o) none := World.grownBy_alloc w o none
theorem drew_grown (w : World) : w.grownBy w.drew none := ⟨rfl, rfl, rfl, Nat.le_refl _, fun _ _ _ => rfl⟩
end Go.Proofs.YtlmefcepdadfjaaGreat
/- A symbolic walk: what it says of one operation is so: numbers, texts, addresses. No program is named here. -/
namespace Go.Proofs.YtlmefcepdadfjaaGreat
open Go.RowKit

theorem SxRng.i64 {x : Int} {A : Int → Prop} (h1 : -9223372036854775808 ≤ x) (h2 : x ≤ 9223372036854775807) (h : A x) : SxRng .i64 x A := ⟨by rw [IntWalk.i64_in x (by omega)]; exact h⟩
theorem SxRng.u32 {x : Int} {A : Int → Prop} (h1 : 0 ≤ x) (h2 : x < 4294967296) (h : A x) : SxRng .u32 x A := ⟨by
  have : IntKind.u32.wrap x = x := by simp [IntKind.wrap, IntKind.signed, IntKind.bits]; omega
  rw [this]; exact h⟩
theorem SxRng.u64 {x : Int} {A : Int → Prop} (h1 : 0 ≤ x) (h2 : x < 18446744073709551616) (h : A x) : SxRng .u64 x A := ⟨by
  have : IntKind.u64.wrap x = x := by simp [IntKind.wrap, IntKind.signed, IntKind.bits]; omega
  rw [this]; exact h⟩
theorem SxRng.u32w {x : Int} {A : Int → Prop} (h : A (x % 4294967296)) : SxRng .u32 x A := ⟨by
  have : IntKind.u32.wrap x = x % 4294967296 := by simp [IntKind.wrap, IntKind.signed, IntKind.bits]
  rw [this]; exact h⟩
theorem SxQ.rem {x y : Int} {A : Int → Prop} (hx : 0 ≤ x) (_hy : 0 ≤ y) (h : A (x % y)) : SxQ (x.tmod y) A := ⟨_, Int.tmod_eq_emod_of_nonneg hx, h⟩
theorem SxQ.quo {x y : Int} {A : Int → Prop} (hx : 0 ≤ x) (_hy : 0 ≤ y) (h : A (x / y)) : SxQ (x.tdiv y) A := ⟨_, Int.tdiv_eq_ediv_of_nonneg hx, h⟩
theorem SxQ.shl {x e : Int} {A : Int → Prop} (d : Int) (he : e = d) (h : A (x * d)) : SxQ (x * e) A := ⟨_, by rw [he], h⟩
theorem SxSh.ofn {n : Nat} {A : Nat → Prop} (h : A n) : SxSh (Int.ofNat n) A := ⟨n, rfl, h⟩
def OpK (W : World) (M : List Nat) (o : Oper) (a : Act) (A : Value → Hp → Prop) : Act → World → Prop := fun a' w' => ∃ v H', a' = a.put o.dst v ∧ Sat W M H' w' ∧ A v H'
section
variable {P : Program} {W : World} {M : List Nat} {o : Oper} {a : Act} {w w' : World} {A : Value → Hp → Prop} {H H' : Hp} {Q : Exit → Act → World → Prop}
theorem op_value {v : Value} (hr : (execOp a.eval o).run P w = .ok (.value v) w') (hs : Sat W M H' w') (h : A v H') : o.wp P a w (OpK W M o a A) Q := by
  unfold Oper.wp; rw [hr]; exact ⟨v, H', rfl, hs, h⟩
theorem op_skip (hr : (execOp a.eval o).run P w = .ok .skip w') (hs : Sat W M H' w') (h : A undef H') : o.wp P a w (OpK W M o a A) Q := by
  unfold Oper.wp; rw [hr]; exact ⟨undef, H', rfl, hs, h⟩
end

theorem sxInt_run {P : Program} {op : BinOp} {k : IntKind} {m n : Int} {A : Value → Prop} (hsh : isShift op = false) (t : TypeId) (x y : Operand) (h : sxInt op k m n A) :
    ∃ v, A v ∧ ∀ w, (do eqGuard op t x y (.int k m) (.int k n); binOp op t (.int k m) (.int k n)).run P w = .ok v w := by
  cases op <;> simp only [isShift, Bool.true_eq_false] at hsh <;> simp only [sxInt] at h
  case add => cases h with | mk h => exact ⟨_, h, fun w => by simp [eqGuard, binOp, Op.intArith]⟩
  case sub => cases h with | mk h => exact ⟨_, h, fun w => by simp [eqGuard, binOp, Op.intArith]⟩
  case mul => cases h with | mk h => exact ⟨_, h, fun w => by simp [eqGuard, binOp, Op.intArith]⟩
  case quo => cases h with | mk h0 h => cases h with | mk q hq h => subst hq; cases h with | mk h => exact ⟨_, h, fun w => by simp [eqGuard, binOp, Op.intDiv, h0]⟩
  case rem => cases h with | mk h0 h => cases h with | mk q hq h => subst hq; exact ⟨_, h, fun w => by simp [eqGuard, binOp, Op.intDiv, h0]⟩
  case and => exact ⟨_, h, fun w => by simp [eqGuard, binOp, Op.intBits, bitI]⟩
  case or => exact ⟨_, h, fun w => by simp [eqGuard, binOp, Op.intBits, bitI]⟩
  case xor => exact ⟨_, h, fun w => by simp [eqGuard, binOp, Op.intBits, bitI]⟩
  case andNot => exact ⟨_, h, fun w => by simp [eqGuard, binOp, Op.intBits, bitI]⟩
  case eql => exact ⟨_, h, fun w => by simp [eqGuard, binOp, Op.intCmp]⟩
  case neq => exact ⟨_, h, fun w => by simp [eqGuard, binOp, Op.intCmp]⟩
  case lss => exact ⟨_, h, fun w => by simp [eqGuard, binOp, Op.intCmp]⟩
  case leq => exact ⟨_, h, fun w => by simp [eqGuard, binOp, Op.intCmp]⟩
  case gtr => exact ⟨_, h, fun w => by simp [eqGuard, binOp, Op.intCmp]⟩
  case geq => exact ⟨_, h, fun w => by simp [eqGuard, binOp, Op.intCmp]⟩
theorem sxString_run {P : Program} {op : BinOp} {m n : ByteArray} {A : Value → Prop} (t : TypeId) (x y : Operand) (h : sxString op m n A) :
    ∃ v, A v ∧ ∀ w, (do eqGuard op t x y (.string m) (.string n); binOp op t (.string m) (.string n)).run P w = .ok v w := by
  cases op <;> simp only [sxString] at h
  case add =>
    cases h with
    | mk h0 h =>
      have hn : ¬ (((m.size + n.size : Nat) : Int) > IntKind.i64.max) := by
        have : IntKind.i64.max = 9223372036854775807 := by decide
        rw [this]; omega
      exact ⟨_, h, fun w => by simp only [eqGuard, binOp, Op.stringOp]; rw [if_neg hn]; simp⟩
  case eql => exact ⟨_, h, fun w => by simp [eqGuard, binOp, Op.stringOp, strEq]⟩
  case neq => exact ⟨_, h, fun w => by simp [eqGuard, binOp, Op.stringOp, strEq]⟩
  case lss => exact ⟨_, h, fun w => by simp [eqGuard, binOp, Op.stringOp, strLt]⟩
  case leq => exact ⟨_, h, fun w => by simp [eqGuard, binOp, Op.stringOp, strLt, strEq]⟩
  case gtr => exact ⟨_, h, fun w => by simp [eqGuard, binOp, Op.stringOp, strLt, strEq]⟩
  case geq => exact ⟨_, h, fun w => by simp [eqGuard, binOp, Op.stringOp, strLt]⟩
theorem sxBin_run {S : Sx} {op : BinOp} {t : TypeId} {x y : Operand} {u v : Value} {A : Value → Prop} (h : sxBin S op t x y u v A) :
    ∃ r, A r ∧ ∀ w, (do eqGuard op t x y u v; binOp op t u v).run S.P w = .ok r w := by
  unfold sxBin at h
  split at h
  · rename_i k m k' n
    cases hsh : isShift op with
    | true =>
      rw [hsh] at h
      simp only [cond_true] at h
      cases h with
      | mk j hj h =>
        subst hj
        have hj : ¬ ((j : Int) < 0) := by omega
        cases op <;> simp only [isShift, Bool.false_eq_true] at hsh
        · cases h with | mk q hq h => subst hq; cases h with | mk h => exact ⟨_, h, fun w => by simp [eqGuard, binOp, Op.shift, hj]⟩
        · cases h with | mk q hq h => subst hq; exact ⟨_, h, fun w => by simp [eqGuard, binOp, Op.shift, hj]⟩
    | false =>
      rw [hsh] at h
      simp only [cond_false] at h
      cases hk : sameK k k' with
      | true =>
        rw [hk] at h
        obtain rfl := sameK_eq hk
        exact sxInt_run hsh t x y h
      | false => rw [hk] at h; exact h.elim
  · exact sxString_run t x y h
  · cases h with | mk r hr h => exact ⟨r, h, hr⟩
theorem nthV_eq : ∀ (l : List Value) (n : Nat), nthV l n = l[n]?
  | [], n => by simp [nthV]
  | v :: r, 0 => by simp [nthV]
  | v :: r, n + 1 => by simp [nthV, nthV_eq r n]
theorem nthF_eq : ∀ (l : List (Nat × Nat)) (n : Nat), nthF l n = l[n]?
  | [], n => by simp [nthF]
  | v :: r, 0 => by simp [nthF]
  | v :: r, n + 1 => by simp [nthF, nthF_eq r n]
section
variable {S : Sx}
theorem Sx.und0 {t : Nat} {d : TD} (h : S.desc t = some d) : ∃ x, S.P.underlying t = some x ∧ tdOf x = d := by
  unfold Sx.desc at h
  split at h
  · rename_i d0 n0 b0 z0 hi
    obtain ⟨x, h1, h2⟩ := Option.map_eq_some_iff.1 (S.ty t ⟨d0, n0, b0, z0⟩ hi).1
    exact ⟨x, h1, h2.trans (Option.some.inj h)⟩
  · cases h
theorem tdOf_bool {x : TypeDesc} (h : tdOf x = .bool) : x = .bool := by cases x <;> first | rfl | cases h
theorem tdOf_int {x : TypeDesc} {k : IntKind} (h : tdOf x = .int k) : x = .int k := by cases x <;> first | (simp only [tdOf, TD.int.injEq] at h; rw [h]) | cases h
theorem tdOf_string {x : TypeDesc} (h : tdOf x = .string) : x = .string := by cases x <;> first | rfl | cases h
theorem tdOf_slice {x : TypeDesc} {e : Nat} (h : tdOf x = .slice e) : x = .slice e := by cases x <;> first | (simp only [tdOf, TD.slice.injEq] at h; rw [h]) | cases h
theorem tdOf_array {x : TypeDesc} {n e : Nat} (h : tdOf x = .array n e) : x = .array n e := by cases x <;> first | (simp only [tdOf, TD.array.injEq] at h; rw [h.1, h.2]) | cases h
theorem tdOf_struct {x : TypeDesc} {fs : List (Nat × Nat)} (h : tdOf x = .struct fs) : ∃ l, x = .struct l ∧ (l.toList.map fun (f : Field) => (f.offset, f.type)) = fs := by
  cases x <;> first | (simp only [tdOf, TD.struct.injEq] at h; exact ⟨_, rfl, h⟩) | cases h
theorem Sx.uint {t : Nat} {k : IntKind} (h : S.desc t = some (.int k)) : S.P.underlying t = some (.int k) := by obtain ⟨x, h1, h2⟩ := Sx.und0 h; rw [h1, tdOf_int h2]
theorem Sx.ustr {t : Nat} (h : S.desc t = some .string) : S.P.underlying t = some .string := by obtain ⟨x, h1, h2⟩ := Sx.und0 h; rw [h1, tdOf_string h2]
theorem Sx.usl {t e : Nat} (h : S.desc t = some (.slice e)) : S.P.underlying t = some (.slice e) := by obtain ⟨x, h1, h2⟩ := Sx.und0 h; rw [h1, tdOf_slice h2]
theorem Sx.uarr {t n e : Nat} (h : S.desc t = some (.array n e)) : S.P.underlying t = some (.array n e) := by obtain ⟨x, h1, h2⟩ := Sx.und0 h; rw [h1, tdOf_array h2]
theorem Sx.ustruct {t : Nat} {fs : List (Nat × Nat)} (h : S.desc t = some (.struct fs)) : ∃ l, S.P.underlying t = some (.struct l) ∧ (l.toList.map fun (f : Field) => (f.offset, f.type)) = fs := by
  obtain ⟨x, h1, h2⟩ := Sx.und0 h
  obtain ⟨l, h3, h4⟩ := tdOf_struct h2
  exact ⟨l, by rw [h1, h3], h4⟩
theorem Sx.descOf {t : Nat} {i : TInf} (h : tl S.T t = some i) : S.desc t = some i.d := by unfold Sx.desc; rw [h]
theorem Sx.info {t : Nat} {i : TInf} (h : tl S.T t = some i) : ∃ x, S.P.info? t = some x ∧ x.zero = some i.zero ∧ x.size = i.size ∧ x.bytes = i.bytes := by
  obtain ⟨x, hx, he⟩ := Option.map_eq_some_iff.1 (S.ty t i h).2
  simp only [Prod.mk.injEq] at he
  exact ⟨x, hx, he.1, he.2.1, he.2.2⟩
theorem Sx.siz {t n : Nat} (h : S.sz t = some n) : ∃ x, S.P.info? t = some x ∧ x.size = n := by
  unfold Sx.sz at h
  split at h
  · rename_i d0 n0 b0 z0 hi
    obtain ⟨x, h1, _, h2, _⟩ := Sx.info hi
    exact ⟨x, h1, by rw [h2]; exact Option.some.inj h⟩
  · cases h
theorem run_int {t : Nat} {k : IntKind} (h : S.desc t = some (.int k)) (w : World) : (underlying t).run S.P w = .ok (.int k) w := run_underlying (Sx.uint h) w
theorem run_str {t : Nat} (h : S.desc t = some .string) (w : World) : (underlying t).run S.P w = .ok .string w := run_underlying (Sx.ustr h) w
theorem run_sl {t e : Nat} (h : S.desc t = some (.slice e)) (w : World) : (underlying t).run S.P w = .ok (.slice e) w := run_underlying (Sx.usl h) w
theorem run_arr {t n e : Nat} (h : S.desc t = some (.array n e)) (w : World) : (underlying t).run S.P w = .ok (.array n e) w := run_underlying (Sx.uarr h) w
theorem run_size {t n : Nat} (h : S.sz t = some n) (w : World) : (sizeOf t).run S.P w = .ok n w := by
  obtain ⟨x, h1, h2⟩ := Sx.siz h
  simp [sizeOf, typeInfo, h1, h2]
theorem run_zero {t : Nat} {i : TInf} (h : tl S.T t = some i) (w : World) : (zeroValue t).run S.P w = .ok i.zero w := by
  obtain ⟨x, h1, h2, _⟩ := Sx.info h
  simp [zeroValue, typeInfo, h1, h2]
theorem run_size' {t : Nat} {i : TInf} (h : tl S.T t = some i) (w : World) : (sizeOf t).run S.P w = .ok i.size w := by
  obtain ⟨x, h1, _, h2, _⟩ := Sx.info h
  simp [sizeOf, typeInfo, h1, h2]
theorem run_agg {t : Nat} {i : TInf} (h : tl S.T t = some i) (w : World) : (isAgg t).run S.P w = .ok (isAggD i.d) w := by
  obtain ⟨x, h1, h2⟩ := Sx.und0 (Sx.descOf h)
  unfold isAgg
  rw [Sem.run_bind, run_underlying h1 w, ← h2]
  cases x <;> simp [isAggD, tdOf]
end
theorem sxOpt_get {S : Sx} {N : Nat} {F : Fr} {a : Act} (ha : Agree N F a) {x : Option Operand} {d i : Int} (h : sxOpt S F x d = some i) :
    (x = none ∧ i = d) ∨ ∃ k, x.map a.eval = some (.int k i) := by
  unfold sxOpt at h
  cases x with
  | none => exact .inl ⟨rfl, (Option.some.inj h).symm⟩
  | some x =>
    right
    simp only at h
    split at h
    · rename_i k j hv
      obtain rfl := Option.some.inj h
      exact ⟨k, by simp [ev_eval ha hv]⟩
    · cases h
theorem run_sliceBounds {P : Program} (b : Bool) (len cap : Nat) (lo hi : Option Value) (l h : Nat) (hl : (lo = none ∧ l = 0) ∨ ∃ k, lo = some (.int k l)) (hh : (hi = none ∧ h = len) ∨ ∃ k, hi = some (.int k h)) (h1 : l ≤ h) (h2 : h ≤ cap) (w : World) :
    (Instr.sliceBounds b len cap lo hi none).run P w = .ok (l, h, cap) w := by
  rcases hl with ⟨rfl, rfl⟩ | ⟨k, rfl⟩ <;> rcases hh with ⟨rfl, rfl⟩ | ⟨k', rfl⟩ <;> simp [Instr.sliceBounds, Instr.sliceBound, asIntOf, h1, h2]
theorem opt_nat {x : Option Operand} {a : Act} {d : Nat} {i : Int} {n : Nat} (h : (x = none ∧ i = (d : Int)) ∨ ∃ k, x.map a.eval = some (.int k i)) (hi : i = (n : Int)) : (x.map a.eval = none ∧ n = d) ∨ ∃ k, x.map a.eval = some (.int k (n : Int)) := by
  subst hi
  rcases h with ⟨rfl, h⟩ | h
  · exact .inl ⟨rfl, by omega⟩
  · exact .inr h
end Go.Proofs.YtlmefcepdadfjaaGreat
