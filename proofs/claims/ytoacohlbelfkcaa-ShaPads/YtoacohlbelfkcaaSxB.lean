/- A symbolic walk: what holds of memory is kept. No program is named here. -/
import Derived.Test.YtoacohlbelfkcaaSxA
namespace Go.Proofs.Ytoacohlbelfkcaa
open Go.RowKit

theorem ev_eval {N : Nat} {F : Fr} {a : Act} (h : Agree N F a) {x : Operand} {v : Value} (hx : ev F x = some v) : a.eval x = v := by
  cases x with
  | tmp t => exact h.slots t v hx
  | const c => exact Option.some.inj hx
  | global g => exact Option.some.inj hx
  | func f => exact Option.some.inj hx
theorem evs_eval {N : Nat} {F : Fr} {a : Act} (h : Agree N F a) : ∀ {xs : List Operand} {vs : List Value}, evs F xs = some vs → xs.map a.eval = vs
  | [], vs, hx => by simp only [evs, Option.some.injEq] at hx; simp [hx]
  | x :: r, vs, hx => by
    unfold evs at hx
    split at hx
    · rename_i v hv
      split at hx
      · rename_i us hu
        simp only [Option.some.injEq] at hx
        subst hx
        rw [List.map_cons, ev_eval h hv, evs_eval h hu]
      · cases hx
    · cases hx
theorem evParts_eval {N : Nat} {F : Fr} {a : Act} (h : Agree N F a) : ∀ {xs : List (Nat × Operand)} {vs : List (Nat × List Value)}, evParts F xs = some vs → xs.map (fun p => (p.1, (a.eval p.2).cells.toList)) = vs
  | [], vs, hx => by simp only [evParts, Option.some.injEq] at hx; simp [hx]
  | (i, x) :: r, vs, hx => by
    unfold evParts at hx
    split at hx
    · rename_i v hv
      split at hx
      · rename_i us hu
        simp only [Option.some.injEq] at hx
        subst hx
        rw [List.map_cons, evParts_eval h hu]
        simp [ev_eval h hv]
      · cases hx
    · cases hx
theorem Agree.put {N : Nat} {F : Fr} {a : Act} (h : Agree N F a) {d : Option Nat} (hd : dstOk N d = true) (v : Value) : Agree N (upd d v F) (a.put d v) := by
  cases d with
  | none => exact h
  | some d =>
    have hlt : d < a.tmps.size := by rw [h.size]; simpa [dstOk] using hd
    refine ⟨by simp [Act.put, h.size], h.defers, fun t u hu => ?_⟩
    simp only [upd, look] at hu
    rw [put_getD a d v t hlt]
    cases hb : Nat.beq d t with
    | true =>
      rw [hb] at hu
      have : d = t := Nat.eq_of_beq_eq_true hb
      subst this
      simp only [cond_true, Option.some.injEq] at hu
      simp [hu]
    | false =>
      rw [hb] at hu
      have : d ≠ t := fun e => by subst e; simp at hb
      rw [if_neg (Ne.symm this)]
      exact h.slots t u hu
theorem Ent.own_uses {e : Ent} {g : Nat} (h : e.own = some g) : e.uses g := by
  cases e with
  | blk b t cs => simp only [Ent.own, Option.some.injEq] at h; exact h.symm
  | rd ao cs => cases h
  | row ao n cap t k cs => exact h
theorem Ent.uses_lt {e : Ent} {w : World} {g : Nat} (h : e.Holds w) (hu : e.uses g) : g < w.heap.size := by
  cases e with
  | blk b t cs => rw [show g = b from hu]; exact Blk.lt h
  | rd ao cs =>
    obtain ⟨h1, h2⟩ := hu
    have hl : 0 < cs.length := List.length_pos_iff.2 h1
    obtain ⟨b, off, rfl, hb, _⟩ := h.2 hl
    simp only [Option.map_some, Option.some.injEq] at h2
    exact h2 ▸ hb
  | row ao n cap t k cs =>
    cases ao with
    | none => cases hu
    | some a =>
      simp only [Ent.uses, Option.map_some, Option.some.injEq] at hu
      exact (World.ownsRow.lt h g (by simp [Value.ownBlock, hu])).2
theorem Ent.Holds.kept {e : Ent} {w w' : World} {row : Option Nat} (h : e.Holds w) (hg : w.grownBy w' row) (hr : ∀ g, row = some g → ¬ e.uses g) : e.Holds w' := by
  cases e with
  | blk b t cs => exact Blk.grown h hg (fun hb => hr b hb.symm rfl)
  | rd ao cs =>
    refine ⟨h.1, fun hn => ?_⟩
    obtain ⟨g, off, rfl, h2, h3⟩ := h.2 hn
    refine ⟨g, off, rfl, Nat.lt_of_lt_of_le h2 hg.size, fun j hj => ?_⟩
    rw [← h3 j hj]
    refine World.cell?_of_block (w := w) (hg.block g h2 fun e => hr g e.symm ⟨List.ne_nil_of_length_pos hn, rfl⟩)
  | row ao n cap t k cs =>
    refine World.ownsRow.kept h hg ?_
    cases ao with
    | none => exact .inl rfl
    | some a =>
      right
      intro he
      exact hr a.block (by rw [← he]; rfl) rfl
theorem Below.toGrown {w w' : World} (h : Below w.heap.size w w') : w.grownBy w' none := ⟨h.os, h.tape, h.output, h.size, fun k hk _ => h.block k hk⟩
theorem Only.toGrown {g : Nat} {w w' : World} (h : Only g w w') : w.grownBy w' (some g) := ⟨h.os, h.tape, h.output, Nat.le_of_eq h.size.symm, fun k _ hk => h.block k fun e => hk (by rw [e])⟩
section
variable {W : World} {M : List Nat} {H : Hp} {w w' : World}
theorem Sat.grow (hs : Sat W M H w) (hb : w.grownBy w' none) : Sat W M H w' := by
  refine ⟨⟨hb.os.trans hs.touch.os, hb.tape.trans hs.touch.tape, hb.output.trans hs.touch.output, Nat.le_trans hs.touch.size hb.size, fun k hk hm => ?_⟩, fun i e hi => (hs.holds i e hi).kept hb (by simp), hs.own, hs.sep⟩
  rw [hb.block k (Nat.lt_of_lt_of_le hk hs.touch.size) (by simp)]
  exact hs.touch.block k hk hm
theorem Sat.below (hs : Sat W M H w) (hb : Below w.heap.size w w') : Sat W M H w' := hs.grow (Below.toGrown hb)
theorem Sat.cons (hs : Sat W M H w) (hb : w.grownBy w' none) {e : Ent} (he : e.Holds w') (hu : ∀ g, e.uses g → w.heap.size ≤ g) : Sat W M (e :: H) w' := by
  have h' := hs.grow hb
  refine ⟨h'.touch, fun i x hi => ?_, fun i x hi g hg => ?_, fun i j a b hij hi hj g hg => ?_⟩
  · cases i with
    | zero => simp at hi; exact hi ▸ he
    | succ i => exact h'.holds i x (by simpa using hi)
  · cases i with
    | zero =>
      simp at hi
      subst hi
      exact .inl (Nat.le_trans hs.touch.size (hu g (Ent.own_uses hg)))
    | succ i => exact hs.own i x (by simpa using hi) g hg
  · cases i with
    | zero =>
      cases j with
      | zero => exact absurd rfl hij
      | succ j =>
        simp at hi hj
        subst hi
        intro hbu
        have h1 := Ent.uses_lt (hs.holds j b hj) hbu
        have h2 := hu g (Ent.own_uses hg)
        omega
    | succ i =>
      cases j with
      | zero =>
        simp at hi hj
        subst hj
        intro hbu
        have h1 := Ent.uses_lt (hs.holds i a hi) (Ent.own_uses hg)
        have h2 := hu g hbu
        omega
      | succ j => exact hs.sep i j a b (fun e => hij (by rw [e])) (by simpa using hi) (by simpa using hj) g hg
theorem Sat.set (hs : Sat W M H w) {p : Nat} {e : Ent} (hp : H[p]? = some e) (hg : w.grownBy w' e.own) {e' : Ent} (he' : e'.Holds w') (hu : ∀ g, e'.uses g → e.own = some g ∨ w.heap.size ≤ g) : Sat W M (H.set p e') w' := by
  have hpl : p < H.length := (List.getElem?_eq_some_iff.1 hp).1
  have get : ∀ i x, (H.set p e')[i]? = some x → (i = p ∧ x = e') ∨ (i ≠ p ∧ H[i]? = some x) := by
    intro i x hi
    rw [List.getElem?_set] at hi
    by_cases h : p = i
    · subst h; simp [hpl] at hi; exact .inl ⟨rfl, hi.symm⟩
    · rw [if_neg h] at hi; exact .inr ⟨fun e => h e.symm, hi⟩
  refine ⟨⟨hg.os.trans hs.touch.os, hg.tape.trans hs.touch.tape, hg.output.trans hs.touch.output, Nat.le_trans hs.touch.size hg.size, fun k hk hm => ?_⟩, fun i x hi => ?_, fun i x hi g hxg => ?_, fun i j a b hij hi hj g hag => ?_⟩
  · rw [hg.block k (Nat.lt_of_lt_of_le hk hs.touch.size) (fun he => by
      rcases hs.own p e hp k he.symm with h | h
      · omega
      · exact hm h)]
    exact hs.touch.block k hk hm
  · rcases get i x hi with ⟨_, rfl⟩ | ⟨hne, hi'⟩
    · exact he'
    · exact (hs.holds i x hi').kept hg fun g hr => hs.sep p i e x (fun e => hne e.symm) hp hi' g hr
  · rcases get i x hi with ⟨_, rfl⟩ | ⟨hne, hi'⟩
    · rcases hu g (Ent.own_uses hxg) with h | h
      · exact hs.own p e hp g h
      · exact .inl (Nat.le_trans hs.touch.size h)
    · exact hs.own i x hi' g hxg
  · rcases get i a hi with ⟨hip, rfl⟩ | ⟨hip, hi'⟩
    · rcases get j b hj with ⟨hjp, rfl⟩ | ⟨hjp, hj'⟩
      · exact absurd (hip.trans hjp.symm) hij
      · intro hbu
        rcases hu g (Ent.own_uses hag) with h | h
        · exact hs.sep p j e b (fun e => hjp e.symm) hp hj' g h hbu
        · have := Ent.uses_lt (hs.holds j b hj') hbu
          omega
    · rcases get j b hj with ⟨hjp, rfl⟩ | ⟨hjp, hj'⟩
      · intro hbu
        rcases hu g hbu with h | h
        · exact hs.sep i p a e hip hi' hp g hag (Ent.own_uses h)
        · have := Ent.uses_lt (hs.holds i a hi') (Ent.own_uses hag)
          omega
      · exact hs.sep i j a b hij hi' hj' g hag
theorem Sat.blk (hs : Sat W M H w) (p : Nat) {g e : Nat} {cs : List Value} (hp : H[p]? = some (.blk g e cs)) : Blk w g e cs := hs.holds p _ hp
theorem Sat.rd (hs : Sat W M H w) (p : Nat) {ao : Option Addr} {cs : List Value} (hp : H[p]? = some (.rd ao cs)) : Rd w ao cs := hs.holds p _ hp
theorem Sat.row (hs : Sat W M H w) (p : Nat) {ao : Option Addr} {n cap e k : Nat} {cs : List Value} (hp : H[p]? = some (.row ao n cap e k cs)) : w.ownsRow 0 e k (.slice ao n cap) n cs := hs.holds p _ hp
/-- Some of what is known, in whatever order. -/
def pickH (H : Hp) : List Nat → Option Hp
  | [] => some []
  | i :: r => match H[i]? with
    | some e => match pickH H r with
      | some es => some (e :: es)
      | none => none
    | none => none
theorem pickH_get : ∀ {ks : List Nat} {H' : Hp}, pickH H ks = some H' → ∀ (i : Nat) (e : Ent), H'[i]? = some e → ∃ k : Nat, ks[i]? = some k ∧ H[k]? = some e
  | [], H', h, i, e, hi => by simp only [pickH, Option.some.injEq] at h; subst h; simp at hi
  | k :: r, H', h, i, e, hi => by
    unfold pickH at h
    split at h
    · rename_i x hx
      split at h
      · rename_i es hes
        simp only [Option.some.injEq] at h
        subst h
        cases i with
        | zero => simp at hi; subst hi; exact ⟨k, by simp, hx⟩
        | succ i =>
          obtain ⟨k', h1, h2⟩ := pickH_get hes i e (by simpa using hi)
          exact ⟨k', by simpa using h1, h2⟩
      · cases h
    · cases h
def nodupB : List Nat → Bool
  | [] => true
  | k :: r => !(r.any (Nat.beq k)) && nodupB r
theorem nodupB_get : ∀ {ks : List Nat}, nodupB ks = true → ∀ (i j k : Nat), i ≠ j → ks[i]? = some k → ks[j]? = some k → False
  | [], _, i, j, k, _, hi, _ => by simp at hi
  | x :: r, h, i, j, k, hij, hi, hj => by
    simp only [nodupB, Bool.and_eq_true, Bool.not_eq_true', List.any_eq_false] at h
    cases i with
    | zero =>
      cases j with
      | zero => exact hij rfl
      | succ j =>
        simp at hi hj
        subst hi
        exact h.1 x (List.mem_of_getElem? hj) (by simp)
    | succ i =>
      cases j with
      | zero =>
        simp at hi hj
        subst hj
        exact h.1 x (List.mem_of_getElem? hi) (by simp)
      | succ j => exact nodupB_get h.2 i j k (fun e => hij (by rw [e])) (by simpa using hi) (by simpa using hj)
theorem Sat.pick (hs : Sat W M H w) {ks : List Nat} {H' : Hp} (hk : pickH H ks = some H') (hn : nodupB ks = true) : Sat W M H' w := by
  refine ⟨hs.touch, fun i e hi => ?_, fun i e hi => ?_, fun i j a b hij hi hj => ?_⟩
  · obtain ⟨k, _, h⟩ := pickH_get hk i e hi
    exact hs.holds k e h
  · obtain ⟨k, _, h⟩ := pickH_get hk i e hi
    exact hs.own k e h
  · obtain ⟨k, h1, h2⟩ := pickH_get hk i a hi
    obtain ⟨l, h3, h4⟩ := pickH_get hk j b hj
    exact hs.sep k l a b (fun e => nodupB_get hn i j k hij h1 (e ▸ h3)) h2 h4
end
theorem new_grown (w : World) (o : Obj) : w.grownBy (w.alloc o) none := World.grownBy_alloc w o none
theorem drew_grown (w : World) : w.grownBy w.drew none := ⟨rfl, rfl, rfl, Nat.le_refl _, fun _ _ _ => rfl⟩
end Go.Proofs.Ytoacohlbelfkcaa
