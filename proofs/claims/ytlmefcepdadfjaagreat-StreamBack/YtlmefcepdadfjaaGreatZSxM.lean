/- Texts of this claim, one behind the other. -/
import Derived.Laws.StructEq
import Derived.ChangeKeysEq
import Derived.Test.YtlmefcepdadfjaaGreatZSxJ
import Derived.Laws.Pointers
import Derived.Laws.Cover3
import Derived.Lib.Builder
import Derived.Scope
import Derived.ScopeJumps
import Derived.WalkMore
import Derived.Test.YtlmefcepdadfjaaGreatZOwnD
/- A symbolic walk: structs and arrays compared. No program is named here. -/
namespace Go.Proofs.YtlmefcepdadfjaaGreat
open Go.RowKit

inductive KD where
  | bool | int (k : IntKind) | str
def okK : KD → Value → Bool
  | .bool, .bool _ => true
  | .int k, .int k' _ => sameK k k'
  | .str, .string _ => true
  | _, _ => false
def allK : List KD → List Value → Bool
  | [], [] => true
  | k :: ks, v :: vs => okK k v && allK ks vs
  | _, _ => false
def cellEq : Value → Value → Bool
  | .bool a, .bool b => a == b
  | .int _ a, .int _ b => a == b
  | .string a, .string b => strEq a b
  | _, _ => false
def cellsEq : List Value → List Value → Bool
  | [], [] => true
  | u :: us, v :: vs => bif cellEq u v then cellsEq us vs else false
  | _, _ => false
theorem cellEq_iff {k : KD} {u v : Value} (hu : okK k u = true) (hv : okK k v = true) : cellEq u v = true ↔ u = v := by
  cases k <;> cases u <;> simp only [okK, Bool.false_eq_true] at hu <;> cases v <;> simp only [okK, Bool.false_eq_true] at hv
  · simp [cellEq]
  · have h1 := sameK_eq hu
    have h2 := sameK_eq hv
    subst h1; subst h2
    simp [cellEq]
  · simp only [cellEq, strEq_iff, Value.string.injEq]
theorem cellsEq_iff : ∀ {ks : List KD} {us vs : List Value}, allK ks us = true → allK ks vs = true → (cellsEq us vs = true ↔ us = vs)
  | [], [], [], _, _ => by simp [cellsEq]
  | [], _ :: _, _, h, _ => by simp [allK] at h
  | [], [], _ :: _, _, h => by simp [allK] at h
  | _ :: _, [], _, h, _ => by simp [allK] at h
  | _ :: _, _ :: _, [], _, h => by simp [allK] at h
  | k :: ks, u :: us, v :: vs, h1, h2 => by
    simp only [allK, Bool.and_eq_true] at h1 h2
    have e1 := cellEq_iff h1.1 h2.1
    have e2 := cellsEq_iff h1.2 h2.2
    unfold cellsEq
    cases hc : cellEq u v with
    | true => simp only [cond_true, e2, List.cons.injEq, e1.1 hc, true_and]
    | false =>
      simp only [cond_false, Bool.false_eq_true, false_iff, List.cons.injEq, not_and]
      intro h
      rw [e1.2 h] at hc
      cases hc
theorem allK_length : ∀ {ks : List KD} {us : List Value}, allK ks us = true → us.length = ks.length
  | [], [], _ => rfl
  | [], _ :: _, h => by simp [allK] at h
  | _ :: _, [], h => by simp [allK] at h
  | k :: ks, u :: us, h => by
    simp only [allK, Bool.and_eq_true] at h
    simp [allK_length h.2]
theorem allK_append : ∀ {ks ls : List KD} {us : List Value}, allK (ks ++ ls) us = true → allK ks (us.take ks.length) = true ∧ allK ls (us.drop ks.length) = true
  | [], ls, us, h => by simpa [allK] using h
  | k :: ks, ls, [], h => by simp [allK] at h
  | k :: ks, ls, u :: us, h => by
    simp only [List.cons_append, allK, Bool.and_eq_true] at h
    obtain ⟨h1, h2⟩ := allK_append h.2
    simp [allK, h.1, h1, h2]
theorem cellsEq_append : ∀ {ks : List KD} {us us' vs vs' : List Value}, allK ks us = true → allK ks us' = true → cellsEq (us ++ vs) (us' ++ vs') = bif cellsEq us us' then cellsEq vs vs' else false
  | [], [], [], vs, vs', _, _ => by simp [cellsEq]
  | [], _ :: _, _, _, _, h, _ => by simp [allK] at h
  | [], [], _ :: _, _, _, _, h => by simp [allK] at h
  | _ :: _, [], _, _, _, h, _ => by simp [allK] at h
  | _ :: _, _ :: _, [], _, _, _, h => by simp [allK] at h
  | k :: ks, u :: us, u' :: us', vs, vs', h1, h2 => by
    simp only [allK, Bool.and_eq_true] at h1 h2
    simp only [List.cons_append, cellsEq, cellsEq_append h1.2 h2.2]
    cases cellEq u u' <;> rfl
def reps : Nat → List KD → List KD
  | 0, _ => []
  | n + 1, ks => ks ++ reps n ks
def kdsFs (f : Nat → Option (List KD)) : Nat → List (Nat × Nat) → Option (List KD)
  | _, [] => some []
  | o, (off, t) :: r => bif Nat.beq o off then (match f t with
      | some ks => match kdsFs f (o + ks.length) r with
        | some ls => some (ks ++ ls)
        | none => none
      | none => none) else none
def szC (S : Sx) (t : Nat) (o : Option (List KD)) : Option (List KD) := match o, S.sz t with
  | some ks, some k => bif Nat.beq ks.length k then some ks else none
  | _, _ => none
theorem szC_get {S : Sx} {t : Nat} {o : Option (List KD)} {ks : List KD} (h : szC S t o = some ks) : o = some ks ∧ S.sz t = some ks.length := by
  unfold szC at h
  split at h
  · rename_i ls k hs
    cases hb : Nat.beq ls.length k with
    | false => rw [hb] at h; cases h
    | true =>
      rw [hb] at h
      obtain rfl := Option.some.inj h
      exact ⟨rfl, by rw [hs, Nat.eq_of_beq_eq_true hb]⟩
  · cases h
def kdsOf (S : Sx) : Nat → Nat → Option (List KD)
  | 0, _ => none
  | d + 1, t => match S.desc t with
    | some .bool => some [.bool]
    | some (.int k) => some [.int k]
    | some .string => some [.str]
    | some (.array n e) => match szC S e (kdsOf S d e) with
      | some ks => some (reps n ks)
      | none => none
    | some (.struct fs) => bif memN t S.cmp then kdsFs (fun f => szC S f (kdsOf S d f)) 0 fs else none
    | _ => none
theorem cmp_ok {S : Sx} {t : Nat} (h : memN t S.cmp = true) : S.P.stoodInHeld t = false ∧ S.P.eqGuardType S.P.depth t = false ∧ ∀ f ∈ (S.P.fieldsOf t).toList, f.name ≠ "_" := by
  have h1 := List.all_eq_true.1 S.cmpOk t (memN_mem h)
  simp only [Bool.and_eq_true, Bool.not_eq_true', Array.all_eq_true'] at h1
  exact ⟨h1.1.1, h1.1.2, fun f hf => by simpa using h1.2 f (by simpa using hf)⟩
def valT (d : TD) (xs : List Value) : Value := bif isAggD d then .agg xs.toArray else xs.headD undef
theorem part_val {S : Sx} {t : Nat} {i : TInf} (hi : tl S.T t = some i) {xs : List Value} {off : Nat} (hl : off + i.size ≤ xs.length) (h1 : isAggD i.d = false → i.size = 1) (w : World) :
    (part t xs.toArray off).run S.P w = .ok (valT i.d ((xs.drop off).take i.size)) w := by
  unfold valT
  cases hag : isAggD i.d with
  | true => rw [part_agg hi hag]; simp
  | false =>
    have h1 := h1 hag
    have hlt : off < xs.length := by omega
    rw [part_one hi hag xs.toArray off xs[off] (by simp [hlt])]
    have h2 : (xs.drop off).take 1 = [xs[off]] := by rw [List.drop_eq_getElem_cons hlt]; rfl
    rw [h1, h2]
    rfl
section
variable {S : Sx}
theorem sz_of_kds : ∀ (d t : Nat) (ks : List KD), kdsOf S d t = some ks → ∃ i, tl S.T t = some i
  | 0, t, ks, h => by cases h
  | d + 1, t, ks, h => by
    unfold kdsOf Sx.desc at h
    cases ht : tl S.T t with
    | none => rw [ht] at h; cases h
    | some i => exact ⟨i, rfl⟩
theorem reps_add (ks : List KD) : ∀ a b : Nat, reps (a + b) ks = reps a ks ++ reps b ks
  | 0, b => by simp [reps]
  | a + 1, b => by rw [show a + 1 + b = (a + b) + 1 by omega]; simp [reps, reps_add ks a b]
theorem reps_len (ks : List KD) : ∀ a : Nat, (reps a ks).length = a * ks.length
  | 0 => by simp [reps]
  | a + 1 => by simp [reps, reps_len ks a, Nat.add_mul]; omega
theorem items_run {m d e : Nat} {ke : List KD} {j : TInf} (hj : tl S.T e = some j) (hs : j.size = ke.length) (h1 : isAggD j.d = false → j.size = 1)
    (IH : ∀ xs ys : List Value, allK ke xs = true → allK ke ys = true → ∀ w, (Op.equalIn (m + d) e (valT j.d xs) (valT j.d ys)).run S.P w = .ok (cellsEq xs ys) w) (xs ys : List Value) (w : World) :
    ∀ (r s : Nat), allK (reps (s + r) ke) xs = true → allK (reps (s + r) ke) ys = true → (Op.eqItems (m + d) e ke.length xs.toArray ys.toArray (List.range' s r)).run S.P w = .ok (cellsEq (xs.drop (s * ke.length)) (ys.drop (s * ke.length))) w
  | 0, s, hx, hy => by
    have lx := allK_length hx
    have ly := allK_length hy
    rw [reps_len, Nat.add_zero] at lx ly
    rw [List.drop_of_length_le (by omega), List.drop_of_length_le (by omega)]
    simp [Op.eqItems, cellsEq]
  | r + 1, s, hx, hy => by
    have ih := items_run hj hs h1 IH xs ys w r (s + 1) (by rw [show s + 1 + r = s + (r + 1) by omega]; exact hx) (by rw [show s + 1 + r = s + (r + 1) by omega]; exact hy)
    have lx := allK_length hx
    have ly := allK_length hy
    rw [reps_len] at lx ly
    have hle : s * ke.length + ke.length ≤ (s + (r + 1)) * ke.length := by
      rw [← Nat.succ_mul]; exact Nat.mul_le_mul_right _ (by omega)
    have sub : ∀ zs : List Value, allK (reps (s + (r + 1)) ke) zs = true → allK ke ((zs.drop (s * ke.length)).take ke.length) = true := by
      intro zs hz
      rw [reps_add] at hz
      have h2 := (allK_append hz).2
      rw [reps_len] at h2
      exact (allK_append (ks := ke) (ls := reps r ke) h2).1
    have px := part_val (S := S) hj (xs := xs) (off := s * ke.length) (by rw [hs, lx]; exact hle) h1 w
    have py := part_val (S := S) hj (xs := ys) (off := s * ke.length) (by rw [hs, ly]; exact hle) h1 w
    have he := IH _ _ (sub xs hx) (sub ys hy) w
    rw [hs] at px py
    have hsp : ∀ zs : List Value, zs.drop (s * ke.length) = (zs.drop (s * ke.length)).take ke.length ++ zs.drop ((s + 1) * ke.length) := by
      intro zs
      rw [Nat.succ_mul, ← List.drop_drop, List.take_append_drop]
    rw [hsp xs, hsp ys, cellsEq_append (sub xs hx) (sub ys hy)]
    rw [List.range'_succ]
    simp only [Op.eqItems, Sem.run_bind, px, py, he, Result.andThen_ok]
    cases hc : cellsEq ((xs.drop (s * ke.length)).take ke.length) ((ys.drop (s * ke.length)).take ke.length) with
    | false => simp
    | true => simpa using ih
theorem fields_run {m d : Nat} (IH : ∀ (t : Nat) (ks : List KD), szC S t (kdsOf S d t) = some ks → ∀ (i : TInf), tl S.T t = some i → ∀ (xs ys : List Value), allK ks xs = true → allK ks ys = true → ∀ w, (Op.equalIn (m + d) t (valT i.d xs) (valT i.d ys)).run S.P w = .ok (cellsEq xs ys) w)
    (h1 : ∀ (t : Nat) (ks : List KD) (i : TInf), szC S t (kdsOf S d t) = some ks → tl S.T t = some i → i.size = ks.length ∧ (isAggD i.d = false → i.size = 1)) (hsz : ∀ (t : Nat) (ks : List KD), szC S t (kdsOf S d t) = some ks → ∃ i, tl S.T t = some i) (xs ys : List Value) (w : World) :
    ∀ (l : List Field) (o : Nat) (ls : List KD), (∀ f ∈ l, f.name ≠ "_") → kdsFs (fun f => szC S f (kdsOf S d f)) o (l.map fun (f : Field) => (f.offset, f.type)) = some ls → o ≤ xs.length → o ≤ ys.length → allK ls (xs.drop o) = true → allK ls (ys.drop o) = true →
      (Op.eqFields (m + d) xs.toArray ys.toArray l).run S.P w = .ok (cellsEq (xs.drop o) (ys.drop o)) w
  | [], o, ls, _, h, _, _, hx, hy => by
    simp only [List.map_nil, kdsFs, Option.some.injEq] at h
    subst h
    have lx := allK_length hx
    have ly := allK_length hy
    rw [List.eq_nil_of_length_eq_zero lx, List.eq_nil_of_length_eq_zero ly]
    simp [Op.eqFields, cellsEq]
  | f :: l, o, ls, hn, h, ox, oy, hx, hy => by
    simp only [List.map_cons, kdsFs] at h
    cases hb : Nat.beq o f.offset with
    | false => rw [hb] at h; cases h
    | true =>
      rw [hb] at h
      have ho := Nat.eq_of_beq_eq_true hb
      simp only [cond_true] at h
      clear hb
      subst ho
      split at h
      · rename_i kf hkf
        split at h
        · rename_i lr hlr
          obtain rfl := Option.some.inj h
          obtain ⟨i, hi⟩ := hsz f.type kf hkf
          obtain ⟨his, h1'⟩ := h1 f.type kf i hkf hi
          have ax := allK_append hx
          have ay := allK_append hy
          have lx := allK_length hx
          have ly := allK_length hy
          simp only [List.length_drop, List.length_append] at lx ly
          have px := part_val (S := S) hi (xs := xs) (off := f.offset) (by rw [his]; omega) h1' w
          have py := part_val (S := S) hi (xs := ys) (off := f.offset) (by rw [his]; omega) h1' w
          rw [his] at px py
          have he := IH f.type kf hkf i hi _ _ ax.1 ay.1 w
          have ih := fields_run IH h1 hsz xs ys w l (f.offset + kf.length) lr (fun f hf => hn f (by simp [hf])) hlr (by omega) (by omega) (by rw [← List.drop_drop]; exact ax.2) (by rw [← List.drop_drop]; exact ay.2)
          have hsp : ∀ zs : List Value, zs.drop f.offset = (zs.drop f.offset).take kf.length ++ zs.drop (f.offset + kf.length) := by
            intro zs
            rw [← List.drop_drop, List.take_append_drop]
          rw [hsp xs, hsp ys, cellsEq_append ax.1 ay.1]
          have hnf : f.name ≠ "_" := hn f (by simp)
          simp only [Op.eqFields, hnf, ne_eq, not_false_eq_true, if_true, Sem.run_bind, px, py, he, Result.andThen_ok]
          cases hc : cellsEq ((xs.drop f.offset).take kf.length) ((ys.drop f.offset).take kf.length) with
          | false => simp
          | true => simpa using ih
        · cases h
      · cases h
theorem one_of {d t : Nat} {ks : List KD} {i : TInf} (h : szC S t (kdsOf S d t) = some ks) (hi : tl S.T t = some i) : i.size = ks.length ∧ (isAggD i.d = false → i.size = 1) := by
  obtain ⟨h1, h2⟩ := szC_get h
  have hs : i.size = ks.length := by
    unfold Sx.sz at h2
    rw [hi] at h2
    exact Option.some.inj h2
  refine ⟨hs, fun hag => ?_⟩
  rw [hs]
  cases d with
  | zero => cases h1
  | succ d =>
    unfold kdsOf at h1
    rw [Sx.descOf hi] at h1
    cases hd : i.d with
    | bool => rw [hd] at h1; rw [← Option.some.inj h1]; rfl
    | int k => rw [hd] at h1; rw [← Option.some.inj h1]; rfl
    | string => rw [hd] at h1; rw [← Option.some.inj h1]; rfl
    | slice e => rw [hd] at h1; cases h1
    | other => rw [hd] at h1; cases h1
    | array n e => rw [hd] at hag; cases hag
    | struct fs => rw [hd] at hag; cases hag
theorem eq_run (m : Nat) : ∀ (d t : Nat) (ks : List KD), kdsOf S d t = some ks → ∀ (i : TInf), tl S.T t = some i → ∀ (xs ys : List Value), allK ks xs = true → allK ks ys = true → ∀ w, (Op.equalIn (m + d) t (valT i.d xs) (valT i.d ys)).run S.P w = .ok (cellsEq xs ys) w
  | 0, t, ks, h, _, _, _, _, _, _, _ => by cases h
  | d + 1, t, ks, h, i, hi, xs, ys, hx, hy, w => by
    have hdesc := Sx.descOf hi
    unfold kdsOf at h
    rw [hdesc] at h
    have one : ∀ {k : KD}, ks = [k] → ∃ u v, xs = [u] ∧ ys = [v] ∧ okK k u = true ∧ okK k v = true := by
      intro k hk
      subst hk
      match xs, ys, hx, hy with
      | [u], [v], hx, hy => simp [allK] at hx hy; exact ⟨u, v, rfl, rfl, hx, hy⟩
      | [], _, hx, _ => simp [allK] at hx
      | _ :: _ :: _, _, hx, _ => simp [allK] at hx
      | [_], [], _, hy => simp [allK] at hy
      | [_], _ :: _ :: _, _, hy => simp [allK] at hy
    cases hd : i.d with
    | bool =>
      rw [hd] at h hdesc
      obtain ⟨u, v, rfl, rfl, hu, hv⟩ := one (Option.some.inj h).symm
      obtain ⟨x, h1, h2⟩ := Sx.und0 hdesc
      obtain rfl := tdOf_bool h2
      cases u <;> simp only [okK, Bool.false_eq_true] at hu
      cases v <;> simp only [okK, Bool.false_eq_true] at hv
      rename_i a b
      have := run_equalIn_bool' (P := S.P) w (m + d) t a b h1
      simp only [valT, isAggD, cond_false, List.headD_cons, cellsEq, cellEq]
      rw [show m + (d + 1) = m + d + 1 from rfl, this]
      cases hab : (a == b) <;> simp
    | int k =>
      rw [hd] at h hdesc
      obtain ⟨u, v, rfl, rfl, hu, hv⟩ := one (Option.some.inj h).symm
      cases u <;> simp only [okK, Bool.false_eq_true] at hu
      cases v <;> simp only [okK, Bool.false_eq_true] at hv
      rename_i k1 a k2 b
      obtain rfl := sameK_eq hu
      obtain rfl := sameK_eq hv
      have := run_equalIn_int (P := S.P) w (m + d) t k k a b (Sx.uint hdesc)
      simp only [valT, isAggD, cond_false, List.headD_cons, cellsEq, cellEq]
      rw [show m + (d + 1) = m + d + 1 from rfl, this]
      cases hab : (a == b) <;> simp
    | string =>
      rw [hd] at h hdesc
      obtain ⟨u, v, rfl, rfl, hu, hv⟩ := one (Option.some.inj h).symm
      cases u <;> simp only [okK, Bool.false_eq_true] at hu
      cases v <;> simp only [okK, Bool.false_eq_true] at hv
      rename_i a b
      have := run_equalIn_string (P := S.P) w (m + d) t a b (Sx.ustr hdesc)
      simp only [valT, isAggD, cond_false, List.headD_cons, cellsEq, cellEq]
      rw [show m + (d + 1) = m + d + 1 from rfl, this]
      unfold strEq
      cases hab : (a.toList == b.toList) <;> simp
    | slice e => rw [hd] at h; cases h
    | other => rw [hd] at h; cases h
    | array n e =>
      rw [hd] at h hdesc
      simp only at h
      split at h
      · rename_i ke hke
        obtain rfl := Option.some.inj h
        obtain ⟨j, hj⟩ := sz_of_kds d e ke (szC_get hke).1
        obtain ⟨hjs, hj1⟩ := one_of hke hj
        obtain ⟨q, hq0, hq1, hq2, hq3⟩ := Sx.info hj
        have hc : S.P.cellsOf e = ke.length := by simp [Program.cellsOf, hq0, hq2, hjs]
        have h2 := run_equalIn_array (P := S.P) (w := w) (m + d) xs.toArray ys.toArray (Sx.uarr hdesc) hq0
        have h3 := items_run (m := m) (d := d) hj hjs hj1 (fun xs ys h1 h2 w => eq_run m d e ke (szC_get hke).1 j hj xs ys h1 h2 w) xs ys w n 0 (by rw [Nat.zero_add]; exact hx) (by rw [Nat.zero_add]; exact hy)
        simp only [valT, isAggD, cond_true]
        rw [show m + (d + 1) = m + d + 1 from rfl, h2, hc, List.range_eq_range', h3]
        simp
      · cases h
    | struct fs =>
      rw [hd] at h hdesc
      simp only at h
      cases hm : memN t S.cmp with
      | false => rw [hm] at h; cases h
      | true =>
        rw [hm] at h
        simp only [cond_true] at h
        obtain ⟨hst, _, hnm⟩ := cmp_ok hm
        obtain ⟨l, hl1, hl2⟩ := Sx.ustruct hdesc
        subst hl2
        have hfo : S.P.fieldsOf t = l := by simp [Program.fieldsOf, hl1]
        have h2 := run_equalIn_struct (P := S.P) w (m + d) t xs.toArray ys.toArray (by rw [hfo]; exact hl1) hst
        rw [hfo] at h2 hnm
        have h3 := fields_run (m := m) (d := d) (fun t ks h i hi xs ys h1 h2 w => eq_run m d t ks (szC_get h).1 i hi xs ys h1 h2 w) (fun t ks i h hi => one_of h hi) (fun t ks h => sz_of_kds d t ks (szC_get h).1) xs ys w l.toList 0 ks hnm h (Nat.zero_le _) (Nat.zero_le _) hx hy
        simp only [valT, isAggD, cond_true]
        rw [show m + (d + 1) = m + d + 1 from rfl, h2, h3]
        simp
theorem SxRun.eq {t : Nat} {x y : Operand} {us vs : Array Value} {A : Value → Prop} (d : Nat) (hd : Nat.ble d 10000 = true) {ks : List KD} (hk : kdsOf S d t = some ks) {i : TInf} (hi : tl S.T t = some i) (hg : S.P.eqGuardType S.P.depth t = false) (ha : isAggD i.d = true) (hu : allK ks us.toList = true) (hv : allK ks vs.toList = true)
    (h : A (.bool (cellsEq us.toList vs.toList))) : SxRun S.P (do eqGuard .eql t x y (.agg us) (.agg vs); binOp .eql t (.agg us) (.agg vs)) A := by
  refine ⟨_, fun w => ?_, h⟩
  have hr := eq_run (S := S) (10000 - d) d t ks hk i hi us.toList vs.toList hu hv w
  rw [show 10000 - d + d = 10000 by have := Nat.le_of_ble_eq_true hd; omega] at hr
  simp only [valT, ha, cond_true, Array.toArray_toList] at hr
  rw [Sem.run_bind, run_eqGuard_agg w .eql t x y us vs hg, Result.andThen_ok, run_eql_struct, hr, Result.andThen_ok]
theorem SxRun.ne {t : Nat} {x y : Operand} {us vs : Array Value} {A : Value → Prop} (d : Nat) (hd : Nat.ble d 10000 = true) {ks : List KD} (hk : kdsOf S d t = some ks) {i : TInf} (hi : tl S.T t = some i) (hg : S.P.eqGuardType S.P.depth t = false) (ha : isAggD i.d = true) (hu : allK ks us.toList = true) (hv : allK ks vs.toList = true)
    (h : A (.bool (!cellsEq us.toList vs.toList))) : SxRun S.P (do eqGuard .neq t x y (.agg us) (.agg vs); binOp .neq t (.agg us) (.agg vs)) A := by
  refine ⟨_, fun w => ?_, h⟩
  have hr := eq_run (S := S) (10000 - d) d t ks hk i hi us.toList vs.toList hu hv w
  rw [show 10000 - d + d = 10000 by have := Nat.le_of_ble_eq_true hd; omega] at hr
  simp only [valT, ha, cond_true, Array.toArray_toList] at hr
  rw [Sem.run_bind, run_eqGuard_agg w .neq t x y us vs hg, Result.andThen_ok, run_neq_struct, hr, Result.andThen_ok]
end
end Go.Proofs.YtlmefcepdadfjaaGreat
/- A symbolic walk: pointers compared; what is left of memory when a call's own has been used up. No program is named here. -/
namespace Go.Proofs.YtlmefcepdadfjaaGreat
open Go.RowKit

section
variable {P : Program} {t e : Nat} {x y : Operand} {A : Value → Prop}
theorem SxRun.pEqNil (h : P.underlying t = some (.pointer e)) {a : Option Addr} (hA : A (.bool a.isNone)) : SxRun P (do eqGuard .eql t x y (.pointer a) (.pointer none); binOp .eql t (.pointer a) (.pointer none)) A :=
  ⟨_, fun w => by have h2 := run_eql_pointer_nil (P := P) w t a (by simp [Program.pointee, h]); simp only [eqGuard]; simpa using h2, hA⟩
theorem SxRun.pNeNil (h : P.underlying t = some (.pointer e)) {a : Option Addr} (hA : A (.bool !a.isNone)) : SxRun P (do eqGuard .neq t x y (.pointer a) (.pointer none); binOp .neq t (.pointer a) (.pointer none)) A :=
  ⟨_, fun w => by have h2 := run_neq_pointer_nil (P := P) w t a (by simp [Program.pointee, h]); simp only [eqGuard]; simpa using h2, hA⟩
theorem SxRun.sEqNil (h : P.underlying t = some (.slice e)) {a : Option Addr} {n c : Nat} (hA : A (.bool a.isNone)) : SxRun P (do eqGuard .eql t x y (.slice a n c) (.slice none 0 0); binOp .eql t (.slice a n c) (.slice none 0 0)) A := by
  refine ⟨_, fun w => ?_, hA⟩
  have h2 := Go.run_equal_slice_nil w t e a n c h
  simp only [eqGuard, binOp]
  simp [h2]
end
section
variable {W : World} {M : List Nat} {H : Hp} {w w' : World}
end
def allI (H : Hp) : List Nat := List.range H.length
theorem pickH_from : ∀ (H : Hp) (n k : Nat), n + k = H.length → pickH H (List.range' n k) = some (H.drop n)
  | H, n, 0, h => by rw [List.range'_zero, pickH, List.drop_of_length_le (by omega)]
  | H, n, k + 1, h => by
    have hn : n < H.length := by omega
    rw [List.range'_succ, pickH, List.getElem?_eq_getElem hn]
    simp only [pickH_from H (n + 1) k (by omega)]
    rw [List.drop_eq_getElem_cons hn]
theorem pickH_all (H : Hp) : pickH H (allI H) = some H := by
  have h := pickH_from H 0 H.length (by omega)
  rwa [← List.range_eq_range', List.drop_zero] at h
theorem nodupB_from : ∀ (n k : Nat), nodupB (List.range' n k) = true
  | n, 0 => rfl
  | n, k + 1 => by
    rw [List.range'_succ, nodupB, nodupB_from (n + 1) k, Bool.and_true]
    simp only [Bool.not_eq_true', List.any_eq_false]
    intro x hx
    rw [List.mem_range'_1] at hx
    simp
    omega
theorem nodupB_all (H : Hp) : nodupB (allI H) = true := by
  have h := nodupB_from 0 H.length
  rwa [← List.range_eq_range'] at h
theorem own_base {w : World} {B e k n cap : Nat} {ao : Option Addr} {cs : List Value} (h : w.ownsRow 0 e k (.slice ao n cap) n cs) (hb : ∀ g, ao.map (·.block) = some g → B ≤ g) : w.ownsRow B e k (.slice ao n cap) n cs := by
  refine ⟨h.1, ?_⟩
  rcases h.2 with h2 | ⟨g, c, cur, hv, _, h3⟩
  · exact .inl h2
  · refine .inr ⟨g, c, cur, hv, hb g ?_, h3⟩
    simp only [Value.slice.injEq] at hv
    rw [hv.1]; rfl
section
variable {S : Sx} {W : World} {M : List Nat} {N : Nat} {H : Hp} {w w' : World}
theorem Sat.nilRow (e k : Nat) (hs : Sat W M H w) : Sat W M (.row none 0 0 e k [] :: H) w :=
  hs.cons ⟨rfl, rfl, rfl, Nat.le_refl _, fun _ _ _ => rfl⟩ (World.ownsRow_nil w 0 e k) (fun g h => by simp [Ent.uses] at h)
structure NewRow (w w' : World) (ao : Option Addr) (n cap e k : Nat) (cs : List Value) : Prop where
  owns : w'.ownsRow w.heap.size e k (.slice ao n cap) n cs
  below : Below w.heap.size w w'
theorem Sat.newRow (hs : Sat W [] H w) (p : Nat) {ao : Option Addr} {n cap e k : Nat} {cs : List Value} (hp : H[p]? = some (.row ao n cap e k cs)) : NewRow W w ao n cap e k cs :=
  ⟨own_base (hs.row p hp) fun g hg => (hs.own p _ hp g hg).resolve_right (by simp), hs.touch.below⟩
theorem NewRow.nil {w w' : World} (e k : Nat) (hb : Below w.heap.size w w') : NewRow w w' none 0 0 e k [] := ⟨World.ownsRow_nil w' _ e k, hb⟩
theorem Sat.addNew (hs : Sat W M H w) {ao : Option Addr} {n cap e k : Nat} {cs : List Value} (h : NewRow w w' ao n cap e k cs) : Sat W M (.row ao n cap e k cs :: H) w' := by
  have h0 : (Ent.row ao n cap e k cs).Holds w' := by
    refine ⟨h.owns.1, ?_⟩
    rcases h.owns.2 with h2 | ⟨g, c, cur, hv, _, h3⟩
    · exact .inl h2
    · exact .inr ⟨g, c, cur, hv, Nat.zero_le _, h3⟩
  refine hs.cons (Below.toGrown h.below) h0 fun g hg => ?_
  refine (World.ownsRow.lt h.owns g ?_).1
  cases ao with
  | none => cases hg
  | some a => simpa [Ent.uses, Value.ownBlock] using hg
theorem SxCall.newRow {f : Nat} {args : Array Value} {A : Value → Hp → Prop} {v : Option Addr → Nat → Value} {n e k : Nat} {cs : List Value}
    (hc : ∀ w, Sat W M H w → Calls S.P f args w fun en w' => ∃ ao cap, en = .returned (v ao cap) ∧ NewRow w w' ao n cap e k cs) (h : ∀ ao cap, A (v ao cap) (.row ao n cap e k cs :: H)) : SxCall S W M f args H A :=
  ⟨fun w hs => (hc w hs).mono fun _ _ he => by
    obtain ⟨ao, cap, h1, h2⟩ := he
    exact ⟨_, _, h1, hs.addNew h2, h ao cap⟩⟩
end
end Go.Proofs.YtlmefcepdadfjaaGreat
/- A scope in which the run jumps to labels, back and on: what holds at each jump, and a measure that goes down. No program is named here. -/
namespace Go.Proofs.YtlmefcepdadfjaaGreat
open Go.RowKit

def jumps (J : Nat → Act → World → Prop) (Q : Exit → Act → World → Prop) : Exit → Act → World → Prop
  | .goto l, a, w => J l a w
  | e, a, w => Q e a w
theorem jumps_ret (J : Nat → Act → World → Prop) (Q : Exit → Act → World → Prop) (a : Act) (w : World) (h : Q .ret a w) : jumps J Q .ret a w := h
theorem wp_scope_labels {P : Program} {a : Act} {w : World} {Q : Exit → Act → World → Prop} {c : Code} (J : Nat → Act → World → Prop) (μ : Nat → Act → World → Nat)
    (first : c.wp P (jumps J Q) a w)
    (pass : ∀ l a w, J l a w → ∃ rest, findLabel c l = some rest ∧ rest.wp P (jumps (fun l' a' w' => J l' a' w' ∧ μ l' a' w' < μ l a w) Q) a w) : (Code.scope c).wp P Q a w := by
  intro b k cs
  have key : ∀ n l a w, μ l a w = n → J l a w → ∃ rest, gotoIn l (.inScope c :: k) = some (.code rest :: .inScope c :: k) ∧ ∃ e a' w', Q e a' w' ∧ Arrives P (lone (b.at a (.code rest :: .inScope c :: k)) cs w) b k cs e a' w' := by
    intro n
    induction n using Nat.strongRecOn with
    | _ n ih =>
      intro l a w hn hJ
      obtain ⟨rest, hf, hr⟩ := pass l a w hJ
      have hg : gotoIn l (.inScope c :: k) = some (.code rest :: .inScope c :: k) := by simp [gotoIn, hf]
      refine ⟨rest, hg, ?_⟩
      obtain ⟨e, a₁, w₁, hq, harr⟩ := hr b (.inScope c :: k) cs
      cases e with
      | normal => exact ⟨.normal, a₁, w₁, hq, Steps.trans harr (.one step_inScope)⟩
      | exit id => exact ⟨.exit id, a₁, w₁, hq, fun k' hk => harr k' (by simp [exitTo, hk])⟩
      | goto l' =>
        obtain ⟨hJ', hlt⟩ := hq
        obtain ⟨rest', hg', e₂, a₂, w₂, hq₂, harr₂⟩ := ih _ (by omega) l' a₁ w₁ rfl hJ'
        exact ⟨e₂, a₂, w₂, hq₂, .of_steps (harr _ hg') harr₂⟩
      | ret => exact ⟨_, a₁, w₁, hq, harr⟩
      | panic ch => exact ⟨_, a₁, w₁, hq, harr⟩
      | outgrown => exact ⟨_, a₁, w₁, hq, harr⟩
  obtain ⟨e, a₁, w₁, hq, harr⟩ := first b (.inScope c :: k) cs
  cases e with
  | normal => exact ⟨.normal, a₁, w₁, hq, .head step_scope (Steps.trans harr (.one step_inScope))⟩
  | exit id => exact ⟨.exit id, a₁, w₁, hq, fun k' hk => .head step_scope (harr k' (by simp [exitTo, hk]))⟩
  | goto l' =>
    obtain ⟨rest', hg', e₂, a₂, w₂, hq₂, harr₂⟩ := key _ l' a₁ w₁ rfl hq
    exact ⟨e₂, a₂, w₂, hq₂, .of_steps (.head step_scope (harr _ hg')) harr₂⟩
  | ret => exact ⟨_, a₁, w₁, hq, .of_steps (.one step_scope) harr⟩
  | panic ch => exact ⟨_, a₁, w₁, hq, .of_steps (.one step_scope) harr⟩
  | outgrown => exact ⟨_, a₁, w₁, hq, .of_steps (.one step_scope) harr⟩
theorem jumps_mono {J J' : Nat → Act → World → Prop} {Q : Exit → Act → World → Prop} (h : ∀ l a w, J l a w → J' l a w) : ∀ e a w, jumps J Q e a w → jumps J' Q e a w := by
  intro e a w hq
  cases e <;> first | exact h _ _ _ hq | exact hq
theorem wp_scope_l0 {P : Program} {a : Act} {w : World} {Q : Exit → Act → World → Prop} {r b : Code} (hr : ∀ l, findLabel r l = none) (J : Nat → Act → World → Prop) (μ : Nat → Act → World → Nat)
    (pre : r.wp P (Exit.then (J 0) (jumps J Q)) a w)
    (body : ∀ a w, J 0 a w → b.wp P (jumps (fun l' a' w' => J l' a' w' ∧ μ l' a' w' < μ 0 a w) Q) a w)
    (others : ∀ l, l ≠ 0 → ∀ a w, J l a w → ∃ rest, findLabel b l = some rest ∧ rest.wp P (jumps (fun l' a' w' => J l' a' w' ∧ μ l' a' w' < μ l a w) Q) a w) :
    (Code.scope (.seq r (.seq (.label 0) b))).wp P Q a w := by
  have hm : ∀ (m : Nat), ∀ l a w, (J l a w ∧ μ l a w < m) → J l a w := fun _ _ _ _ h => h.1
  refine wp_scope_labels J μ ?_ ?_
  · refine wp_seq (Code.wp_mono ?_ pre)
    intro e a w hq
    cases e with
    | normal => exact wp_seq (wp_label (Code.wp_mono (jumps_mono (fun l a w h => h.1)) (body a w hq)))
    | _ => exact hq
  · intro l a w hJ
    by_cases h0 : l = 0
    · subst h0
      exact ⟨.seq .skip b, by simp [findLabel, hr], wp_seq (wp_skip (body a w hJ))⟩
    · obtain ⟨rest, hf, hw⟩ := others l h0 a w hJ
      refine ⟨rest, ?_, hw⟩
      have h0' : (0 == l) = false := by simpa using fun e => h0 e.symm
      simp [findLabel, hr, h0', hf]
end Go.Proofs.YtlmefcepdadfjaaGreat
/- A symbolic walk: calls that leave memory known anew. No program is named here. -/
namespace Go.Proofs.YtlmefcepdadfjaaGreat
open Go.RowKit

theorem SxIf.strT {A B : Prop} {a b : ByteArray} (h : a = b) (hA : A) : SxIf (strEq a b) A B := SxIf.str (fun _ => hA) (fun h' => absurd h h')
section
variable {S : Sx} {W : World} {M : List Nat} {H : Hp} {f : Nat} {args : Array Value} {A : Value → Hp → Prop}
theorem SxBI.real {P : Program} {tys : List TypeId} {k : FloatKind} {a b : Nat} {A : Value → Prop} (h : A (.float k a)) : SxBI P .real tys [.complex k a b] A := ⟨_, fun _ty _cst _w => rfl, h⟩
theorem SxBI.imag {P : Program} {tys : List TypeId} {k : FloatKind} {a b : Nat} {A : Value → Prop} (h : A (.float k b)) : SxBI P .imag tys [.complex k a b] A := ⟨_, fun _ty _cst _w => rfl, h⟩
theorem SxBI.complex {P : Program} {tys : List TypeId} {k : FloatKind} {a b : Nat} {A : Value → Prop} (h : A (.complex k a b)) : SxBI P .complex tys [.float k a, .float k b] A := ⟨_, fun ty cst w => by cases k <;> rfl, h⟩
end
inductive SxJump {σ : Type} (slots : List Nat) (lab : σ → Nat) (vals : σ → List Value) (hp : σ → Hp) (ok : σ → Prop) (μ : σ → Nat) (m : Option Nat) (l : Nat) (F : Fr) (H : Hp) : Prop
  | mk (s : σ) (ks : List Nat) (hl : lab s = l) (hv : looks F slots = some (vals s)) (hk : pickH H ks = some (hp s)) (hn : nodupB ks = true) (ho : ok s) (hm : ∀ b, m = some b → μ s < b)
def scopeQ {σ : Type} (slots : List Nat) (lab : σ → Nat) (vals : σ → List Value) (hp : σ → Hp) (ok : σ → Prop) (μ : σ → Nat) (m : Option Nat) (Q : Exit → Fr → Hp → Prop) : Exit → Fr → Hp → Prop := fun e F' H' => match e with
  | .goto l => SxJump slots lab vals hp ok μ m l F' H'
  | e => Q e F' H'
section
variable {S : Sx} {W : World} {M : List Nat} {N : Nat} {Q : Exit → Fr → Hp → Prop} {F : Fr} {H : Hp}
theorem SxCode.scope {σ : Type} {c : Code} (slots wr : List Nat) (lab : σ → Nat) (vals : σ → List Value) (hp : σ → Hp) (ok : σ → Prop) (μ : σ → Nat) (hwr : (writes c).all (fun t => memN t wr) = true)
    (first : sx S W M N c (scopeQ slots lab vals hp ok μ none Q) F H)
    (pass : ∀ s, ok s → ∃ rest, findLabel c (lab s) = some rest ∧ (writes rest).all (fun t => memN t (writes c)) = true ∧ sx S W M N rest (scopeQ slots lab vals hp ok μ (some (μ s)) Q) (setF slots (vals s) (forget wr F)) (hp s)) : SxCode S W M N (.scope c) Q F H := by
  have hsub : ∀ t ∈ writes c, t ∈ wr := fun t ht => memN_mem (List.all_eq_true.1 hwr t ht)
  refine ⟨fun a w ha hs => ?_⟩
  have agree : ∀ s a', Agree N F a → Same wr a a' → a'.tmps.size = N → a'.defers = [] → (∀ (i : Nat) t v, slots[i]? = some t → (vals s)[i]? = some v → a'.tmps.getD t undef = v) → Agree N (setF slots (vals s) (forget wr F)) a' := by
    intro s a' ha hsm hsz hdf hsl
    refine ⟨hsz, hdf, fun t v hl => ?_⟩
    rcases look_setF _ _ _ t v hl with ⟨i, h1, h2⟩ | h1
    · exact hsl i t v h1 h2
    · obtain ⟨h2, h3⟩ := look_forget F wr t v h1
      rw [hsm t h2]
      exact ha.slots t v h3
  have key : ∀ (n : Nat) (a1 : Act) (w1 : World) (s : σ), μ s = n → ok s → Agree N (setF slots (vals s) (forget wr F)) a1 → Sat W M (hp s) w1 → Same (writes c) a a1 → ∀ (b : Frame) (k : List Item) (cs : List Frame),
      ∃ rest, gotoIn (lab s) (.inScope c :: k) = some (.code rest :: .inScope c :: k) ∧ ∃ e a' w', Lift W M N Q (writes (.scope c)) a e a' w' ∧ Arrives S.P (lone (b.at a1 (.code rest :: .inScope c :: k)) cs w1) b k cs e a' w' := by
    intro n
    induction n using Nat.strongRecOn with
    | _ n ih =>
      intro a1 w1 s hn ho ha1 hs1 hsm1 b k cs
      obtain ⟨rest, hf, hwrr, hr⟩ := pass s ho
      have hsub2 : ∀ t ∈ writes rest, t ∈ writes c := fun t ht => memN_mem (List.all_eq_true.1 hwrr t ht)
      have hg : gotoIn (lab s) (.inScope c :: k) = some (.code rest :: .inScope c :: k) := by simp [gotoIn, hf]
      refine ⟨rest, hg, ?_⟩
      obtain ⟨e, a2, w2, ⟨F2, H2, hq, ha2, hs2, hsm2⟩, harr⟩ := sx_sound rest _ _ _ hr a1 w1 ha1 hs1 b (.inScope c :: k) cs
      have hsm : Same (writes c) a a2 := hsm1.trans hsm2 (fun _ h => h) hsub2
      cases e with
      | normal => exact ⟨.normal, a2, w2, ⟨F2, H2, hq, ha2, hs2, hsm⟩, Steps.trans harr (.one step_inScope)⟩
      | exit id => exact ⟨.exit id, a2, w2, ⟨F2, H2, hq, ha2, hs2, hsm⟩, fun k' hk => harr k' (by simp [exitTo, hk])⟩
      | goto l' =>
        cases hq with
        | mk s' ks' hl' hv' hk' hn' ho' hm' =>
          have hwrs : Same wr a a2 := hsm.trans (Same.refl [] _) hsub (by simp)
          have ha3 := agree s' a2 ha hwrs ha2.size ha2.defers (fun i t v h1 h2 => ha2.slots t v (looks_get hv' i t v h1 h2))
          obtain ⟨rest', hg', e3, a3, w3, hq3, harr3⟩ := ih (μ s') (hn ▸ hm' _ rfl) a2 w2 s' rfl ho' ha3 (hs2.pick hk' hn') hsm b k cs
          rw [hl'] at hg'
          exact ⟨e3, a3, w3, hq3, .of_steps (harr _ hg') harr3⟩
      | ret => exact ⟨_, a2, w2, ⟨F2, H2, hq, ha2, hs2, hsm⟩, harr⟩
      | panic ch => exact ⟨_, a2, w2, ⟨F2, H2, hq, ha2, hs2, hsm⟩, harr⟩
      | outgrown => exact ⟨_, a2, w2, ⟨F2, H2, hq, ha2, hs2, hsm⟩, harr⟩
  intro b k cs
  obtain ⟨e, a1, w1, ⟨F1, H1, hq, ha1, hs1, hsm⟩, harr⟩ := sx_sound c _ _ _ first a w ha hs b (.inScope c :: k) cs
  cases e with
  | normal => exact ⟨.normal, a1, w1, ⟨F1, H1, hq, ha1, hs1, hsm⟩, .head step_scope (Steps.trans harr (.one step_inScope))⟩
  | exit id => exact ⟨.exit id, a1, w1, ⟨F1, H1, hq, ha1, hs1, hsm⟩, fun k' hk => .head step_scope (harr k' (by simp [exitTo, hk]))⟩
  | goto l' =>
    cases hq with
    | mk s' ks' hl' hv' hk' hn' ho' hm' =>
      have hwrs : Same wr a a1 := hsm.trans (Same.refl [] _) hsub (by simp)
      have ha3 := agree s' a1 ha hwrs ha1.size ha1.defers (fun i t v h1 h2 => ha1.slots t v (looks_get hv' i t v h1 h2))
      obtain ⟨rest', hg', e2, a2, w2, hq2, harr2⟩ := key _ a1 w1 s' rfl ho' ha3 (hs1.pick hk' hn') hsm b k cs
      rw [hl'] at hg'
      exact ⟨e2, a2, w2, hq2, .of_steps (.head step_scope (harr _ hg')) harr2⟩
  | ret => exact ⟨_, a1, w1, ⟨F1, H1, hq, ha1, hs1, hsm⟩, .of_steps (.one step_scope) harr⟩
  | panic ch => exact ⟨_, a1, w1, ⟨F1, H1, hq, ha1, hs1, hsm⟩, .of_steps (.one step_scope) harr⟩
  | outgrown => exact ⟨_, a1, w1, ⟨F1, H1, hq, ha1, hs1, hsm⟩, .of_steps (.one step_scope) harr⟩
theorem sx_goto {l : Nat} (h : Q (.goto l) F H) : sx S W M N (.goto l) Q F H := by unfold sx; exact h
theorem seqQ_g {y : Code} {l : Nat} (h : Q (.goto l) F H) : seqQ S W M N y Q (.goto l) F H := by unfold seqQ; exact h
theorem blockQ_g {id l : Nat} (h : Q (.goto l) F H) : blockQ id Q (.goto l) F H := by unfold blockQ; exact h
section
variable {σ : Type} {slots : List Nat} {lab : σ → Nat} {vals : σ → List Value} {hp : σ → Hp} {ok : σ → Prop} {μ : σ → Nat} {m : Nat} {mo : Option Nat}
theorem loopQ_g {l : Nat} (h : Q (.goto l) F H) : loopQ slots vals hp ok μ m Q (.goto l) F H := by unfold loopQ; exact h
theorem scopeQ_n (h : Q .normal F H) : scopeQ slots lab vals hp ok μ mo Q .normal F H := h
theorem scopeQ_e {i : Nat} (h : Q (.exit i) F H) : scopeQ slots lab vals hp ok μ mo Q (.exit i) F H := h
theorem scopeQ_r (h : Q .ret F H) : scopeQ slots lab vals hp ok μ mo Q .ret F H := h
theorem scopeQ_g {l : Nat} (h : SxJump slots lab vals hp ok μ mo l F H) : scopeQ slots lab vals hp ok μ mo Q (.goto l) F H := h
end
end
attribute [irreducible] scopeQ
def fastC (place : Nat → Option (Nat × Nat)) : Nat → List Value → List (Nat × List Value) → Option (List Value)
  | _, cs, [] => some cs
  | pos, cs, (i, vs) :: r => match place i with
    | some (off, size) => bif Nat.ble pos off && (Nat.beq vs.length size && Nat.ble (off - pos + size) cs.length) then
        (match fastC place (off + size) (cs.drop (off - pos + size)) r with
        | some rest => some (cs.take (off - pos) ++ (vs ++ rest))
        | none => none) else none
    | none => none
theorem fastC_ok {place : Nat → Option (Nat × Nat)} : ∀ (ps : List (Nat × List Value)) (pre cs : List Value) (pos : Nat) (cs' : List Value), pre.length = pos → fastC place pos cs ps = some cs' → fillP place (pre ++ cs) ps ∧ fillC place (pre ++ cs) ps = some (pre ++ cs')
  | [], pre, cs, pos, cs', _, h => by
    simp only [fastC, Option.some.injEq] at h
    subst h
    exact ⟨trivial, rfl⟩
  | (i, vs) :: r, pre, cs, pos, cs', hp, h => by
    unfold fastC at h
    split at h
    · rename_i off size hpl
      cases hb : (Nat.ble pos off && (Nat.beq vs.length size && Nat.ble (off - pos + size) cs.length)) with
      | false => rw [hb] at h; cases h
      | true =>
        rw [hb] at h
        simp only [Bool.and_eq_true] at hb
        obtain ⟨h1, h2, h3⟩ := hb
        have h1 := Nat.le_of_ble_eq_true h1
        have h2 := Nat.eq_of_beq_eq_true h2
        have h3 := Nat.le_of_ble_eq_true h3
        simp only [cond_true] at h
        split at h
        · rename_i rest hr
          simp only [Option.some.injEq] at h
          subst h
          have hsp : splice off vs (pre ++ cs) = (pre ++ cs.take (off - pos) ++ vs) ++ cs.drop (off - pos + size) := by
            have e1 : (pre ++ cs).take off = pre ++ cs.take (off - pos) := by
              rw [List.take_append, List.take_of_length_le (by omega), hp]
            have e2 : (pre ++ cs).drop (off + vs.length) = cs.drop (off - pos + size) := by
              rw [List.drop_append, List.drop_eq_nil_of_le (by omega), List.nil_append]
              congr 1
              omega
            unfold splice
            rw [e1, e2]
          obtain ⟨h4, h5⟩ := fastC_ok r (pre ++ cs.take (off - pos) ++ vs) (cs.drop (off - pos + size)) (off + size) rest (by
            rw [List.length_append, List.length_append, List.length_take]; omega) hr
          unfold fillP fillC
          rw [hpl]
          dsimp only
          rw [hsp]
          refine ⟨⟨⟨h2, by rw [List.length_append]; omega⟩, h4⟩, ?_⟩
          rw [h5]
          simp only [List.append_assoc]
        · cases h
    · cases h
theorem SxFill.fast {place : Nat → Option (Nat × Nat)} {cs : List Value} {ps : List (Nat × List Value)} {A : List Value → Prop} {cs' : List Value} (hc : fastC place 0 cs ps = some cs') (h' : A cs') : SxFill place cs ps A :=
  have h := fastC_ok ps [] cs 0 cs' rfl hc
  ⟨h.1, h.2, h'⟩
end Go.Proofs.YtlmefcepdadfjaaGreat
