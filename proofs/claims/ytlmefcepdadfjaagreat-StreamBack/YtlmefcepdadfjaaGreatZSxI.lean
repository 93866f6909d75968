/- Texts of this claim, one behind the other. -/
import Derived.Test.YtlmefcepdadfjaaGreatZSxG
/- A symbolic walk: a function. No program is named here. -/
namespace Go.Proofs.YtlmefcepdadfjaaGreat
open Go.RowKit

inductive TAll (Q : Nat → TInf → Prop) : List (Nat × TInf) → Prop
  | nil : TAll Q []
  | cons {t : Nat} {i : TInf} {r : List (Nat × TInf)} (h : Q t i) (h' : TAll Q r) : TAll Q ((t, i) :: r)
theorem tl_all {Q : Nat → TInf → Prop} : ∀ {l : List (Nat × TInf)}, TAll Q l → ∀ t i, tl l t = some i → Q t i
  | [], _, t, i, h => by cases h
  | (s, u) :: r, hq, t, i, h => by
    cases hq with
    | cons h1 h2 =>
      unfold tl at h
      cases hb : Nat.beq s t with
      | true =>
        rw [hb] at h
        obtain rfl := Nat.eq_of_beq_eq_true hb
        obtain rfl := Option.some.inj h
        exact h1
      | false => rw [hb] at h; exact tl_all h2 t i h
def sxRes (S : Sx) (F : Fr) (H : Hp) : List ResultVar → (List Value → Prop) → Prop
  | [], A => A []
  | .tmp t :: r, A => match look F t with
    | some v => sxRes S F H r fun vs => A (v :: vs)
    | none => False
  | .cell t ty :: r, A => match look F t, tl S.T ty with
    | some (.pointer (some ⟨g, off, none⟩)), some i => bif isAggD i.d then SxLdN H g off i.size fun vs => sxRes S F H r fun us => A (.agg vs.toArray :: us) else SxLd H g off fun v => sxRes S F H r fun us => A (v :: us)
    | _, _ => False
def resV : List Value → Value
  | [v] => v
  | vs => .tuple vs.toArray
inductive SxDone (W : World) (M : List Nat) (R : Ending → World → Prop) (v : Value) (H : Hp) : Prop
  | mk (h : ∀ w, Sat W M H w → R (.returned v) w)
def argF (i : Nat) : List Value → Fr
  | [] => []
  | v :: r => (i, some v) :: argF (i + 1) r
theorem argF_get : ∀ (l : List Value) (i t : Nat) (v : Value), look (argF i l) t = some v → i ≤ t ∧ l[t - i]? = some v
  | [], i, t, v, h => by simp [argF, look] at h
  | u :: r, i, t, v, h => by
    simp only [argF, look] at h
    cases hb : Nat.beq i t with
    | true =>
      rw [hb] at h
      have : i = t := Nat.eq_of_beq_eq_true hb
      subst this
      simpa using h
    | false =>
      rw [hb] at h
      obtain ⟨h1, h2⟩ := argF_get r (i + 1) t v h
      refine ⟨by omega, ?_⟩
      rw [show t - i = (t - (i + 1)) + 1 by omega]
      simpa using h2
section
variable {S : Sx} {W : World} {M : List Nat} {N : Nat}
theorem sxRes_get {F : Fr} {H : Hp} {a : Act} {w : World} (ha : Agree N F a) (hs : Sat W M H w) : ∀ (rs : List ResultVar) (A : List Value → Prop), sxRes S F H rs A →
    ∃ vs, A vs ∧ (rs.mapM fun (r : ResultVar) => match r with
      | .tmp t => (pure (a.tmps.getD t undef) : Sem Value)
      | .cell x t => do loadVar t (← asAddr (a.tmps.getD x undef))).run S.P w = .ok vs w
  | [], A, h => ⟨[], h, rfl⟩
  | .tmp t :: r, A, h => by
    simp only [sxRes] at h
    split at h
    · rename_i v hv
      obtain ⟨vs, hA, hr⟩ := sxRes_get ha hs r _ h
      have hv' := ha.slots t v hv
      refine ⟨v :: vs, hA, ?_⟩
      rw [List.mapM_cons]
      simp only [Sem.run_bind, Sem.run_pure, Result.andThen_ok, hv', hr]
    · exact h.elim
  | .cell t ty :: r, A, h => by
    simp only [sxRes] at h
    split at h
    · rename_i g off i hv hi
      have hv' := ha.slots t _ hv
      have has : asAddr (Value.pointer (some ⟨g, off, none⟩)) = pure ⟨g, off, none⟩ := rfl
      cases hag : isAggD i.d with
      | true =>
        rw [hag] at h
        simp only [cond_true] at h
        obtain ⟨us, h, hl, hc⟩ := h.get hs
        obtain ⟨vs, hA, hr⟩ := sxRes_get ha hs r _ h
        have hload := run_loadVar_many (P := S.P) (by rw [run_agg hi w, hag]) (run_size' hi w) hl hc
        refine ⟨_ :: vs, hA, ?_⟩
        rw [List.mapM_cons]
        simp only [Sem.run_bind, Sem.run_pure, Result.andThen_ok, hv', has, hload, hr]
      | false =>
        rw [hag] at h
        simp only [cond_false] at h
        obtain ⟨u, h, hc⟩ := h.get hs
        obtain ⟨vs, hA, hr⟩ := sxRes_get ha hs r _ h
        have hload := run_loadVar_one (P := S.P) (by rw [run_agg hi w, hag]) hc
        refine ⟨u :: vs, hA, ?_⟩
        rw [List.mapM_cons]
        simp only [Sem.run_bind, Sem.run_pure, Result.andThen_ok, hv', has, hload, hr]
    · exact h.elim
def finQ (S : Sx) (W : World) (M : List Nat) (rs : Array ResultVar) (R : Ending → World → Prop) : Exit → Fr → Hp → Prop := fun e F H => match e with
  | .normal => sxRes S F H rs.toList fun vs => SxDone W M R (resV vs) H
  | .ret => sxRes S F H rs.toList fun vs => SxDone W M R (resV vs) H
  | _ => False
section
variable {R : Ending → World → Prop} {F : Fr} {H : Hp} {rs : Array ResultVar} {l : List ResultVar} {A : List Value → Prop}
theorem finQ_n (hl : rs = ⟨l⟩) (h : sxRes S F H l fun vs => SxDone W M R (resV vs) H) : finQ S W M rs R .normal F H := by subst hl; exact h
theorem finQ_r (hl : rs = ⟨l⟩) (h : sxRes S F H l fun vs => SxDone W M R (resV vs) H) : finQ S W M rs R .ret F H := by subst hl; exact h
theorem res_nil (h : A []) : sxRes S F H [] A := h
theorem res_tmp {t : Nat} {v : Value} {r : List ResultVar} (hv : look F t = some v) (h : sxRes S F H r fun vs => A (v :: vs)) : sxRes S F H (.tmp t :: r) A := by simp only [sxRes, hv]; exact h
theorem res_agg {t ty : Nat} {g off : Nat} {i : TInf} {r : List ResultVar} (hv : look F t = some (.pointer (some ⟨g, off, none⟩))) (hi : tl S.T ty = some i) (ha : isAggD i.d = true) (h : SxLdN H g off i.size fun vs => sxRes S F H r fun us => A (.agg vs.toArray :: us)) : sxRes S F H (.cell t ty :: r) A := by
  simp only [sxRes, hv, hi, ha, cond_true]; exact h
theorem res_one {t ty : Nat} {g off : Nat} {i : TInf} {r : List ResultVar} (hv : look F t = some (.pointer (some ⟨g, off, none⟩))) (hi : tl S.T ty = some i) (ha : isAggD i.d = false) (h : SxLd H g off fun v => sxRes S F H r fun us => A (v :: us)) : sxRes S F H (.cell t ty :: r) A := by
  simp only [sxRes, hv, hi, ha, cond_false]; exact h
end
theorem results_of {fn : Func} {tmps : Array Value} {w : World} {P : Program} {vs : List Value} (h : (fn.results.toList.mapM fun (r : ResultVar) => match r with
      | .tmp t => (pure (tmps.getD t undef) : Sem Value)
      | .cell x t => do loadVar t (← asAddr (tmps.getD x undef))).run P w = .ok vs w) : (results fn tmps).run P w = .ok (resV vs) w := by
  have : (results fn tmps).run P w = ((fn.results.toList.mapM fun (r : ResultVar) => match r with
      | .tmp t => (pure (tmps.getD t undef) : Sem Value)
      | .cell x t => do loadVar t (← asAddr (tmps.getD x undef))) >>= fun (us : List Value) => (pure (resV us) : Sem Value)).run P w := by
    unfold results
    rw [Array.mapM_eq_mapM_toList]
    have hv : ∀ us : List Value, (if h : us.toArray.size = 1 then us.toArray[0] else .tuple us.toArray) = resV us := by
      intro us
      cases us with
      | nil => rfl
      | cons u us => cases us with
        | nil => rfl
        | cons x us => simp [resV]
    simp only [bind_map_left, hv]
    rfl
  rw [this, Sem.run_bind, h]
  rfl
theorem sx_fn {f : Nat} {fn : Func} {c : Code} {args : Array Value} {R : Ending → World → Prop} {H0 : Hp} (hf : S.P.funcs[f]? = some fn) (hb : fn.body = some c) (hN : fn.ntmps = N) (hl : Nat.ble args.size N = true) {w : World} (hs : Sat W M H0 w)
    (h : sx S W M N c (finQ S W M fn.results R) (argF 0 args.toList) H0) : Calls S.P f args w R := by
  have hle : args.size ≤ N := by simpa using hl
  refine calls_of_wp hf hb ?_
  have ha : Agree N (argF 0 args.toList) { tmps := args ++ Array.replicate (fn.ntmps - args.size) undef, defers := [] } := by
    refine ⟨by simp [hN]; omega, rfl, fun t v hl => ?_⟩
    obtain ⟨_, h2⟩ := argF_get _ 0 t v hl
    rw [Nat.sub_zero, Array.getElem?_toList] at h2
    have hlt := (Array.getElem?_eq_some_iff.1 h2).1
    rw [Array.getElem?_eq_getElem hlt] at h2
    simp [Array.getElem?_append, hlt]
    exact Option.some.inj h2
  refine wp_mono (sx_sound c _ _ _ h _ w ha hs) fun e a w hq => ?_
  obtain ⟨F, H, hq, ha', hs', _⟩ := hq
  cases e with
  | normal =>
    obtain ⟨vs, hA, hr⟩ := sxRes_get (S := S) ha' hs' _ _ hq
    cases hA with | mk hA => exact ⟨ha'.defers, _, results_of hr, hA w hs'⟩
  | ret =>
    obtain ⟨vs, hA, hr⟩ := sxRes_get (S := S) ha' hs' _ _ hq
    cases hA with | mk hA => exact ⟨ha'.defers, _, results_of hr, hA w hs'⟩
  | exit id => exact hq.elim
  | goto l => exact hq.elim
  | panic ch => exact hq.elim
  | outgrown => exact hq.elim
end
section
variable {W : World} {M : List Nat} {H : Hp} {w : World}
theorem Touch.refl (M : List Nat) (W : World) : Touch M W W := ⟨rfl, rfl, rfl, Nat.le_refl _, fun _ _ _ => rfl⟩
theorem Touch.below (h : Touch [] W w) : Below W.heap.size W w := ⟨h.os, h.tape, h.output, h.size, fun k hk => h.block k hk (by simp)⟩
theorem Sat.nil (M : List Nat) (W : World) : Sat W M [] W := ⟨Touch.refl _ _, fun i e h => by simp at h, fun i e h => by simp at h, fun i j a b _ h => by simp at h⟩
theorem Sat.cons_rd (hs : Sat W M H w) {ao : Option Addr} {cs : List Value} (h : Rd w ao cs) (hd : ∀ (i : Nat) (e : Ent) g, H[i]? = some e → e.own = some g → ¬ (Ent.rd ao cs).uses g) : Sat W M (.rd ao cs :: H) w := by
  refine ⟨hs.touch, fun i x hi => ?_, fun i x hi g hg => ?_, fun i j a b hij hi hj g hg => ?_⟩
  · cases i with
    | zero => simp at hi; exact hi ▸ h
    | succ i => exact hs.holds i x (by simpa using hi)
  · cases i with
    | zero => simp at hi; subst hi; cases hg
    | succ i => exact hs.own i x (by simpa using hi) g hg
  · cases i with
    | zero => simp at hi; subst hi; cases hg
    | succ i =>
      cases j with
      | zero => simp at hi hj; subst hj; exact hd i a g hi hg
      | succ j => exact hs.sep i j a b (fun e => hij (by rw [e])) (by simpa using hi) (by simpa using hj) g hg
theorem Rd.of_row {ao : Option Addr} {n cap e k : Nat} {cs : List Value} (h : w.ownsRow 0 e k (.slice ao n cap) n cs) (hm : cs.length ≤ maxLen) : Rd w ao cs := by
  refine ⟨hm, fun hn => ?_⟩
  have hl := h.1
  rcases h.2 with ⟨_, h0⟩ | ⟨g, c, cur, hv, _, hh, _⟩
  · rw [h0, Nat.zero_mul] at hl; omega
  · simp only [Value.slice.injEq] at hv
    obtain ⟨rfl, _, rfl⟩ := hv
    exact ⟨g, 0, rfl, (Array.getElem?_eq_some_iff.1 hh).1, fun j hj => by rw [Nat.zero_add]; exact World.ownsRow.cellAt h j (by omega)⟩
theorem Sat.rowRd (hs : Sat W M H w) (p : Nat) {ao : Option Addr} {n cap e k : Nat} {cs : List Value} (hp : H[p]? = some (.row ao n cap e k cs)) (hm : cs.length ≤ maxLen) : Rd w ao cs := Rd.of_row (hs.row p hp) hm
end
section
variable {S : Sx} {W : World} {M : List Nat} {f : Nat} {args : Array Value} {H : Hp} {A : Value → Hp → Prop}
theorem SxCall.pure {v : Value} (hc : ∀ w, Calls S.P f args w fun e w' => e = .returned v ∧ w = w') (h : A v H) : SxCall S W M f args H A :=
  ⟨fun w hs => (hc w).mono fun _e _w' he => ⟨v, H, he.1, he.2 ▸ hs, h⟩⟩
theorem SxCall.quiet {v : Value} (hc : ∀ w, Calls S.P f args w fun e w' => e = .returned v ∧ Below w.heap.size w w') (h : A v H) : SxCall S W M f args H A :=
  ⟨fun w hs => (hc w).mono fun _e _w' he => ⟨v, H, he.1, hs.below he.2, h⟩⟩
theorem SxCall.quietS {v : Value} (hc : ∀ w, Sat W M H w → Calls S.P f args w fun e w' => e = .returned v ∧ Below w.heap.size w w') (h : A v H) : SxCall S W M f args H A :=
  ⟨fun w hs => (hc w hs).mono fun _e _w' he => ⟨v, H, he.1, hs.below he.2, h⟩⟩
theorem SxCall.at {R : World → Ending → World → Prop} (hc : ∀ w, Sat W M H w → Calls S.P f args w (R w)) (h : ∀ w e w', Sat W M H w → R w e w' → ∃ v H', e = .returned v ∧ Sat W M H' w' ∧ A v H') : SxCall S W M f args H A :=
  ⟨fun w hs => (hc w hs).mono fun e w' he => h w e w' hs he⟩
end
attribute [irreducible] finQ sxRes
end Go.Proofs.YtlmefcepdadfjaaGreat
/- A symbolic walk: the stops, answered. No program is named here. -/
namespace Go.Proofs.YtlmefcepdadfjaaGreat
open Go.RowKit

section
variable {A B : Prop}
theorem SxIf.yes {p : Prop} [Decidable p] (h : p) (hA : A) : SxIf (decide p) A B := ⟨fun _ => hA, fun h' => absurd h (by simpa using h')⟩
theorem SxIf.no {p : Prop} [Decidable p] (h : ¬ p) (hB : B) : SxIf (decide p) A B := ⟨fun h' => absurd (by simpa using h') h, fun _ => hB⟩
theorem SxIf.dec {p : Prop} [Decidable p] (h1 : p → A) (h2 : ¬ p → B) : SxIf (decide p) A B := ⟨fun h => h1 (by simpa using h), fun h => h2 (by simpa using h)⟩
theorem SxIf.eq {x y : Int} (h1 : x = y → A) (h2 : x ≠ y → B) : SxIf (x == y) A B := ⟨fun h => h1 (by simpa using h), fun h => h2 (by simpa using h)⟩
theorem SxIf.ne {x y : Int} (h1 : x ≠ y → A) (h2 : x = y → B) : SxIf (x != y) A B := ⟨fun h => h1 (by simpa using h), fun h => h2 (by simpa using h)⟩
theorem SxIf.eqT {x y : Int} (h : x = y) (hA : A) : SxIf (x == y) A B := SxIf.eq (fun _ => hA) (fun h' => absurd h h')
theorem SxIf.eqF {x y : Int} (h : x ≠ y) (hB : B) : SxIf (x == y) A B := SxIf.eq (fun h' => absurd h' h) (fun _ => hB)
theorem SxIf.neT {x y : Int} (h : x ≠ y) (hA : A) : SxIf (x != y) A B := SxIf.ne (fun _ => hA) (fun h' => absurd h' h)
theorem SxIf.neF {x y : Int} (h : x = y) (hB : B) : SxIf (x != y) A B := SxIf.ne (fun h' => absurd h h') (fun _ => hB)
theorem SxIf.nt {t : Bool} (h : SxIf t B A) : SxIf (!t) A B := by
  cases h with | mk h1 h2 => exact ⟨fun h => h2 (by simpa using h), fun h => h1 (by simpa using h)⟩
theorem toList_data (a : ByteArray) : a.toList = a.data.toList := by
  have key : ∀ (n i : Nat) (acc : List UInt8), a.size - i = n → ByteArray.toList.loop a i acc = acc.reverse ++ a.data.toList.drop i := by
    intro n
    induction n with
    | zero =>
      intro i acc h
      unfold ByteArray.toList.loop
      rw [if_neg (by omega), List.drop_of_length_le (by simp; omega)]
      simp
    | succ n ih =>
      intro i acc h
      unfold ByteArray.toList.loop
      have hi : i < a.data.toList.length := by simp; omega
      rw [if_pos (by omega), ih (i + 1) _ (by omega), List.drop_eq_getElem_cons hi]
      have hg : a.get! i = a.data.toList[i] := by
        have : i < a.data.size := by simpa using hi
        simp only [ByteArray.get!, getElem!_pos a.data i this]; simp
      simp [hg]
  have := key a.size 0 [] (by omega)
  simpa [ByteArray.toList] using this
theorem strEq_iff (a b : ByteArray) : strEq a b = true ↔ a = b := by
  unfold strEq
  rw [toList_data, toList_data, beq_iff_eq]
  exact ⟨fun h => ByteArray.ext (Array.ext' h), fun h => by rw [h]⟩
theorem SxIf.str {a b : ByteArray} (h1 : a = b → A) (h2 : a ≠ b → B) : SxIf (strEq a b) A B :=
  ⟨fun h => h1 ((strEq_iff a b).1 h), fun h => h2 fun e => by rw [(strEq_iff a b).2 e] at h; cases h⟩
end
section
variable {W : World} {M : List Nat} {H : Hp} {w : World}
theorem Sat.oneRd (W : World) {ao : Option Addr} {cs : List Value} (h : Rd W ao cs) : Sat W [] [.rd ao cs] W := (Sat.nil [] W).cons_rd h (by intro i e g hi; simp at hi)
theorem Sat.twoRd (W : World) {ao bo : Option Addr} {cs ds : List Value} (h : Rd W ao cs) (k : Rd W bo ds) : Sat W [] [.rd ao cs, .rd bo ds] W :=
  (Sat.oneRd W k).cons_rd h (by
    intro i e g hi hg
    cases i with
    | zero => simp at hi; subst hi; cases hg
    | succ i => simp at hi)
end
end Go.Proofs.YtlmefcepdadfjaaGreat
