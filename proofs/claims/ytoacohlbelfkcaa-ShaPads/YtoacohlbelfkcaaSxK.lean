/- A symbolic walk: structs and arrays compared. No program is named here. -/
import Derived.Test.YtoacohlbelfkcaaSxJ
import Derived.Laws.StructEq
import Derived.ChangeKeysEq
namespace Go.Proofs.Ytoacohlbelfkcaa
open Go.RowKit

/-- A cell that is compared plainly. -/
inductive KD where
  | bool | int (k : IntKind) | str
def okK : KD → Value → Bool
  | .bool, .bool _ => true
  | .int k, .int k' _ => sameK k k'
  | .str, .string _ => true
  | _, _ => false
def allK : List KD → List Value → Bool
  | [], [] => true
  | k :: ks, v :: vs => okK k v && allK ks vs
  | _, _ => false
def cellEq : Value → Value → Bool
  | .bool a, .bool b => a == b
  | .int _ a, .int _ b => a == b
  | .string a, .string b => strEq a b
  | _, _ => false
def cellsEq : List Value → List Value → Bool
  | [], [] => true
  | u :: us, v :: vs => bif cellEq u v then cellsEq us vs else false
  | _, _ => false
theorem cellEq_iff {k : KD} {u v : Value} (hu : okK k u = true) (hv : okK k v = true) : cellEq u v = true ↔ u = v := by
  cases k <;> cases u <;> simp only [okK, Bool.false_eq_true] at hu <;> cases v <;> simp only [okK, Bool.false_eq_true] at hv
  · simp [cellEq]
  · have h1 := sameK_eq hu
    have h2 := sameK_eq hv
    subst h1; subst h2
    simp [cellEq]
  · simp only [cellEq, strEq_iff, Value.string.injEq]
theorem cellsEq_iff : ∀ {ks : List KD} {us vs : List Value}, allK ks us = true → allK ks vs = true → (cellsEq us vs = true ↔ us = vs)
  | [], [], [], _, _ => by simp [cellsEq]
  | [], _ :: _, _, h, _ => by simp [allK] at h
  | [], [], _ :: _, _, h => by simp [allK] at h
  | _ :: _, [], _, h, _ => by simp [allK] at h
  | _ :: _, _ :: _, [], _, h => by simp [allK] at h
  | k :: ks, u :: us, v :: vs, h1, h2 => by
    simp only [allK, Bool.and_eq_true] at h1 h2
    have e1 := cellEq_iff h1.1 h2.1
    have e2 := cellsEq_iff h1.2 h2.2
    unfold cellsEq
    cases hc : cellEq u v with
    | true => simp only [cond_true, e2, List.cons.injEq, e1.1 hc, true_and]
    | false =>
      simp only [cond_false, Bool.false_eq_true, false_iff, List.cons.injEq, not_and]
      intro h
      rw [e1.2 h] at hc
      cases hc
theorem allK_length : ∀ {ks : List KD} {us : List Value}, allK ks us = true → us.length = ks.length
  | [], [], _ => rfl
  | [], _ :: _, h => by simp [allK] at h
  | _ :: _, [], h => by simp [allK] at h
  | k :: ks, u :: us, h => by
    simp only [allK, Bool.and_eq_true] at h
    simp [allK_length h.2]
theorem allK_append : ∀ {ks ls : List KD} {us : List Value}, allK (ks ++ ls) us = true → allK ks (us.take ks.length) = true ∧ allK ls (us.drop ks.length) = true
  | [], ls, us, h => by simpa [allK] using h
  | k :: ks, ls, [], h => by simp [allK] at h
  | k :: ks, ls, u :: us, h => by
    simp only [List.cons_append, allK, Bool.and_eq_true] at h
    obtain ⟨h1, h2⟩ := allK_append h.2
    simp [allK, h.1, h1, h2]
theorem allK_mk : ∀ {ks ls : List KD} {us vs : List Value}, allK ks us = true → allK ls vs = true → allK (ks ++ ls) (us ++ vs) = true
  | [], ls, [], vs, _, h => by simpa using h
  | [], _, _ :: _, _, h, _ => by simp [allK] at h
  | _ :: _, _, [], _, h, _ => by simp [allK] at h
  | k :: ks, ls, u :: us, vs, h1, h2 => by
    simp only [allK, Bool.and_eq_true] at h1
    simp only [List.cons_append, allK, h1.1, allK_mk h1.2 h2, Bool.and_self]
theorem cellsEq_append : ∀ {ks : List KD} {us us' vs vs' : List Value}, allK ks us = true → allK ks us' = true → cellsEq (us ++ vs) (us' ++ vs') = bif cellsEq us us' then cellsEq vs vs' else false
  | [], [], [], vs, vs', _, _ => by simp [cellsEq]
  | [], _ :: _, _, _, _, h, _ => by simp [allK] at h
  | [], [], _ :: _, _, _, _, h => by simp [allK] at h
  | _ :: _, [], _, _, _, h, _ => by simp [allK] at h
  | _ :: _, _ :: _, [], _, _, _, h => by simp [allK] at h
  | k :: ks, u :: us, u' :: us', vs, vs', h1, h2 => by
    simp only [allK, Bool.and_eq_true] at h1 h2
    simp only [List.cons_append, cellsEq, cellsEq_append h1.2 h2.2]
    cases cellEq u u' <;> rfl
/-- The cells of a type whose values are compared plainly. -/
def reps : Nat → List KD → List KD
  | 0, _ => []
  | n + 1, ks => ks ++ reps n ks
def kdsFs (f : Nat → Option (List KD)) : Nat → List (Nat × Nat) → Option (List KD)
  | _, [] => some []
  | o, (off, t) :: r => bif Nat.beq o off then (match f t with
      | some ks => match kdsFs f (o + ks.length) r with
        | some ls => some (ks ++ ls)
        | none => none
      | none => none) else none
def szC (S : Sx) (t : Nat) (o : Option (List KD)) : Option (List KD) := match o, S.sz t with
  | some ks, some k => bif Nat.beq ks.length k then some ks else none
  | _, _ => none
theorem szC_get {S : Sx} {t : Nat} {o : Option (List KD)} {ks : List KD} (h : szC S t o = some ks) : o = some ks ∧ S.sz t = some ks.length := by
  unfold szC at h
  split at h
  · rename_i ls k hs
    cases hb : Nat.beq ls.length k with
    | false => rw [hb] at h; cases h
    | true =>
      rw [hb] at h
      obtain rfl := Option.some.inj h
      exact ⟨rfl, by rw [hs, Nat.eq_of_beq_eq_true hb]⟩
  · cases h
def kdsOf (S : Sx) : Nat → Nat → Option (List KD)
  | 0, _ => none
  | d + 1, t => match S.desc t with
    | some .bool => some [.bool]
    | some (.int k) => some [.int k]
    | some .string => some [.str]
    | some (.array n e) => match szC S e (kdsOf S d e) with
      | some ks => some (reps n ks)
      | none => none
    | some (.struct fs) => bif memN t S.cmp then kdsFs (fun f => szC S f (kdsOf S d f)) 0 fs else none
    | _ => none
theorem cmp_ok {S : Sx} {t : Nat} (h : memN t S.cmp = true) : S.P.stoodInHeld t = false ∧ S.P.eqGuardType S.P.depth t = false ∧ ∀ f ∈ (S.P.fieldsOf t).toList, f.name ≠ "_" := by
  have h1 := List.all_eq_true.1 S.cmpOk t (memN_mem h)
  simp only [Bool.and_eq_true, Bool.not_eq_true', Array.all_eq_true'] at h1
  exact ⟨h1.1.1, h1.1.2, fun f hf => by simpa using h1.2 f (by simpa using hf)⟩
/-- The value of cells. -/
def valT (d : TD) (xs : List Value) : Value := bif isAggD d then .agg xs.toArray else xs.headD undef
theorem part_val {S : Sx} {t : Nat} {i : TInf} (hi : tl S.T t = some i) {xs : List Value} {off : Nat} (hl : off + i.size ≤ xs.length) (h1 : isAggD i.d = false → i.size = 1) (w : World) :
    (part t xs.toArray off).run S.P w = .ok (valT i.d ((xs.drop off).take i.size)) w := by
  unfold valT
  cases hag : isAggD i.d with
  | true => rw [part_agg hi hag]; simp
  | false =>
    have h1 := h1 hag
    have hlt : off < xs.length := by omega
    rw [part_one hi hag xs.toArray off xs[off] (by simp [hlt])]
    have h2 : (xs.drop off).take 1 = [xs[off]] := by rw [List.drop_eq_getElem_cons hlt]; rfl
    rw [h1, h2]
    rfl
section
variable {S : Sx}
theorem sz_of_kds : ∀ (d t : Nat) (ks : List KD), kdsOf S d t = some ks → ∃ i, tl S.T t = some i
  | 0, t, ks, h => by cases h
  | d + 1, t, ks, h => by
    unfold kdsOf Sx.desc at h
    cases ht : tl S.T t with
    | none => rw [ht] at h; cases h
    | some i => exact ⟨i, rfl⟩
theorem reps_add (ks : List KD) : ∀ a b : Nat, reps (a + b) ks = reps a ks ++ reps b ks
  | 0, b => by simp [reps]
  | a + 1, b => by rw [show a + 1 + b = (a + b) + 1 by omega]; simp [reps, reps_add ks a b]
theorem reps_len (ks : List KD) : ∀ a : Nat, (reps a ks).length = a * ks.length
  | 0 => by simp [reps]
  | a + 1 => by simp [reps, reps_len ks a, Nat.add_mul]; omega
theorem items_run {m d e : Nat} {ke : List KD} {j : TInf} (hj : tl S.T e = some j) (hs : j.size = ke.length) (h1 : isAggD j.d = false → j.size = 1)
    (IH : ∀ xs ys : List Value, allK ke xs = true → allK ke ys = true → ∀ w, (Op.equalIn (m + d) e (valT j.d xs) (valT j.d ys)).run S.P w = .ok (cellsEq xs ys) w) (xs ys : List Value) (w : World) :
    ∀ (r s : Nat), allK (reps (s + r) ke) xs = true → allK (reps (s + r) ke) ys = true → (Op.eqItems (m + d) e ke.length xs.toArray ys.toArray (List.range' s r)).run S.P w = .ok (cellsEq (xs.drop (s * ke.length)) (ys.drop (s * ke.length))) w
  | 0, s, hx, hy => by
    have lx := allK_length hx
    have ly := allK_length hy
    rw [reps_len, Nat.add_zero] at lx ly
    rw [List.drop_of_length_le (by omega), List.drop_of_length_le (by omega)]
    simp [Op.eqItems, cellsEq]
  | r + 1, s, hx, hy => by
    have ih := items_run hj hs h1 IH xs ys w r (s + 1) (by rw [show s + 1 + r = s + (r + 1) by omega]; exact hx) (by rw [show s + 1 + r = s + (r + 1) by omega]; exact hy)
    have lx := allK_length hx
    have ly := allK_length hy
    rw [reps_len] at lx ly
    have hle : s * ke.length + ke.length ≤ (s + (r + 1)) * ke.length := by
      rw [← Nat.succ_mul]; exact Nat.mul_le_mul_right _ (by omega)
    have sub : ∀ zs : List Value, allK (reps (s + (r + 1)) ke) zs = true → allK ke ((zs.drop (s * ke.length)).take ke.length) = true := by
      intro zs hz
      rw [reps_add] at hz
      have h2 := (allK_append hz).2
      rw [reps_len] at h2
      exact (allK_append (ks := ke) (ls := reps r ke) h2).1
    have px := part_val (S := S) hj (xs := xs) (off := s * ke.length) (by rw [hs, lx]; exact hle) h1 w
    have py := part_val (S := S) hj (xs := ys) (off := s * ke.length) (by rw [hs, ly]; exact hle) h1 w
    have he := IH _ _ (sub xs hx) (sub ys hy) w
    rw [hs] at px py
    have hsp : ∀ zs : List Value, zs.drop (s * ke.length) = (zs.drop (s * ke.length)).take ke.length ++ zs.drop ((s + 1) * ke.length) := by
      intro zs
      rw [Nat.succ_mul, ← List.drop_drop, List.take_append_drop]
    rw [hsp xs, hsp ys, cellsEq_append (sub xs hx) (sub ys hy)]
    rw [List.range'_succ]
    simp only [Op.eqItems, Sem.run_bind, px, py, he, Result.andThen_ok]
    cases hc : cellsEq ((xs.drop (s * ke.length)).take ke.length) ((ys.drop (s * ke.length)).take ke.length) with
    | false => simp
    | true => simpa using ih
theorem fields_run {m d : Nat} (IH : ∀ (t : Nat) (ks : List KD), szC S t (kdsOf S d t) = some ks → ∀ (i : TInf), tl S.T t = some i → ∀ (xs ys : List Value), allK ks xs = true → allK ks ys = true → ∀ w, (Op.equalIn (m + d) t (valT i.d xs) (valT i.d ys)).run S.P w = .ok (cellsEq xs ys) w)
    (h1 : ∀ (t : Nat) (ks : List KD) (i : TInf), szC S t (kdsOf S d t) = some ks → tl S.T t = some i → i.size = ks.length ∧ (isAggD i.d = false → i.size = 1)) (hsz : ∀ (t : Nat) (ks : List KD), szC S t (kdsOf S d t) = some ks → ∃ i, tl S.T t = some i) (xs ys : List Value) (w : World) :
    ∀ (l : List Field) (o : Nat) (ls : List KD), (∀ f ∈ l, f.name ≠ "_") → kdsFs (fun f => szC S f (kdsOf S d f)) o (l.map fun (f : Field) => (f.offset, f.type)) = some ls → o ≤ xs.length → o ≤ ys.length → allK ls (xs.drop o) = true → allK ls (ys.drop o) = true →
      (Op.eqFields (m + d) xs.toArray ys.toArray l).run S.P w = .ok (cellsEq (xs.drop o) (ys.drop o)) w
  | [], o, ls, _, h, _, _, hx, hy => by
    simp only [List.map_nil, kdsFs, Option.some.injEq] at h
    subst h
    have lx := allK_length hx
    have ly := allK_length hy
    rw [List.eq_nil_of_length_eq_zero lx, List.eq_nil_of_length_eq_zero ly]
    simp [Op.eqFields, cellsEq]
  | f :: l, o, ls, hn, h, ox, oy, hx, hy => by
    simp only [List.map_cons, kdsFs] at h
    cases hb : Nat.beq o f.offset with
    | false => rw [hb] at h; cases h
    | true =>
      rw [hb] at h
      have ho := Nat.eq_of_beq_eq_true hb
      simp only [cond_true] at h
      clear hb
      subst ho
      split at h
      · rename_i kf hkf
        split at h
        · rename_i lr hlr
          obtain rfl := Option.some.inj h
          obtain ⟨i, hi⟩ := hsz f.type kf hkf
          obtain ⟨his, h1'⟩ := h1 f.type kf i hkf hi
          have ax := allK_append hx
          have ay := allK_append hy
          have lx := allK_length hx
          have ly := allK_length hy
          simp only [List.length_drop, List.length_append] at lx ly
          have px := part_val (S := S) hi (xs := xs) (off := f.offset) (by rw [his]; omega) h1' w
          have py := part_val (S := S) hi (xs := ys) (off := f.offset) (by rw [his]; omega) h1' w
          rw [his] at px py
          have he := IH f.type kf hkf i hi _ _ ax.1 ay.1 w
          have ih := fields_run IH h1 hsz xs ys w l (f.offset + kf.length) lr (fun f hf => hn f (by simp [hf])) hlr (by omega) (by omega) (by rw [← List.drop_drop]; exact ax.2) (by rw [← List.drop_drop]; exact ay.2)
          have hsp : ∀ zs : List Value, zs.drop f.offset = (zs.drop f.offset).take kf.length ++ zs.drop (f.offset + kf.length) := by
            intro zs
            rw [← List.drop_drop, List.take_append_drop]
          rw [hsp xs, hsp ys, cellsEq_append ax.1 ay.1]
          have hnf : f.name ≠ "_" := hn f (by simp)
          simp only [Op.eqFields, hnf, ne_eq, not_false_eq_true, if_true, Sem.run_bind, px, py, he, Result.andThen_ok]
          cases hc : cellsEq ((xs.drop f.offset).take kf.length) ((ys.drop f.offset).take kf.length) with
          | false => simp
          | true => simpa using ih
        · cases h
      · cases h
theorem one_of {d t : Nat} {ks : List KD} {i : TInf} (h : szC S t (kdsOf S d t) = some ks) (hi : tl S.T t = some i) : i.size = ks.length ∧ (isAggD i.d = false → i.size = 1) := by
  obtain ⟨h1, h2⟩ := szC_get h
  have hs : i.size = ks.length := by
    unfold Sx.sz at h2
    rw [hi] at h2
    exact Option.some.inj h2
  refine ⟨hs, fun hag => ?_⟩
  rw [hs]
  cases d with
  | zero => cases h1
  | succ d =>
    unfold kdsOf at h1
    rw [Sx.descOf hi] at h1
    cases hd : i.d with
    | bool => rw [hd] at h1; rw [← Option.some.inj h1]; rfl
    | int k => rw [hd] at h1; rw [← Option.some.inj h1]; rfl
    | string => rw [hd] at h1; rw [← Option.some.inj h1]; rfl
    | slice e => rw [hd] at h1; cases h1
    | other => rw [hd] at h1; cases h1
    | array n e => rw [hd] at hag; cases hag
    | struct fs => rw [hd] at hag; cases hag
theorem eq_run (m : Nat) : ∀ (d t : Nat) (ks : List KD), kdsOf S d t = some ks → ∀ (i : TInf), tl S.T t = some i → ∀ (xs ys : List Value), allK ks xs = true → allK ks ys = true → ∀ w, (Op.equalIn (m + d) t (valT i.d xs) (valT i.d ys)).run S.P w = .ok (cellsEq xs ys) w
  | 0, t, ks, h, _, _, _, _, _, _, _ => by cases h
  | d + 1, t, ks, h, i, hi, xs, ys, hx, hy, w => by
    have hdesc := Sx.descOf hi
    unfold kdsOf at h
    rw [hdesc] at h
    have one : ∀ {k : KD}, ks = [k] → ∃ u v, xs = [u] ∧ ys = [v] ∧ okK k u = true ∧ okK k v = true := by
      intro k hk
      subst hk
      match xs, ys, hx, hy with
      | [u], [v], hx, hy => simp [allK] at hx hy; exact ⟨u, v, rfl, rfl, hx, hy⟩
      | [], _, hx, _ => simp [allK] at hx
      | _ :: _ :: _, _, hx, _ => simp [allK] at hx
      | [_], [], _, hy => simp [allK] at hy
      | [_], _ :: _ :: _, _, hy => simp [allK] at hy
    cases hd : i.d with
    | bool =>
      rw [hd] at h hdesc
      obtain ⟨u, v, rfl, rfl, hu, hv⟩ := one (Option.some.inj h).symm
      obtain ⟨x, h1, h2⟩ := Sx.und0 hdesc
      obtain rfl := tdOf_bool h2
      cases u <;> simp only [okK, Bool.false_eq_true] at hu
      cases v <;> simp only [okK, Bool.false_eq_true] at hv
      rename_i a b
      have := run_equalIn_bool' (P := S.P) w (m + d) t a b h1
      simp only [valT, isAggD, cond_false, List.headD_cons, cellsEq, cellEq]
      rw [show m + (d + 1) = m + d + 1 from rfl, this]
      cases hab : (a == b) <;> simp
    | int k =>
      rw [hd] at h hdesc
      obtain ⟨u, v, rfl, rfl, hu, hv⟩ := one (Option.some.inj h).symm
      cases u <;> simp only [okK, Bool.false_eq_true] at hu
      cases v <;> simp only [okK, Bool.false_eq_true] at hv
      rename_i k1 a k2 b
      obtain rfl := sameK_eq hu
      obtain rfl := sameK_eq hv
      have := run_equalIn_int (P := S.P) w (m + d) t k k a b (Sx.uint hdesc)
      simp only [valT, isAggD, cond_false, List.headD_cons, cellsEq, cellEq]
      rw [show m + (d + 1) = m + d + 1 from rfl, this]
      cases hab : (a == b) <;> simp
    | string =>
      rw [hd] at h hdesc
      obtain ⟨u, v, rfl, rfl, hu, hv⟩ := one (Option.some.inj h).symm
      cases u <;> simp only [okK, Bool.false_eq_true] at hu
      cases v <;> simp only [okK, Bool.false_eq_true] at hv
      rename_i a b
      have := run_equalIn_string (P := S.P) w (m + d) t a b (Sx.ustr hdesc)
      simp only [valT, isAggD, cond_false, List.headD_cons, cellsEq, cellEq]
      rw [show m + (d + 1) = m + d + 1 from rfl, this]
      unfold strEq
      cases hab : (a.toList == b.toList) <;> simp
    | slice e => rw [hd] at h; cases h
    | other => rw [hd] at h; cases h
    | array n e =>
      rw [hd] at h hdesc
      simp only at h
      split at h
      · rename_i ke hke
        obtain rfl := Option.some.inj h
        obtain ⟨j, hj⟩ := sz_of_kds d e ke (szC_get hke).1
        obtain ⟨hjs, hj1⟩ := one_of hke hj
        obtain ⟨q, hq0, hq1, hq2, hq3⟩ := Sx.info hj
        have hc : S.P.cellsOf e = ke.length := by simp [Program.cellsOf, hq0, hq2, hjs]
        have h2 := run_equalIn_array (P := S.P) (w := w) (m + d) xs.toArray ys.toArray (Sx.uarr hdesc) hq0
        have h3 := items_run (m := m) (d := d) hj hjs hj1 (fun xs ys h1 h2 w => eq_run m d e ke (szC_get hke).1 j hj xs ys h1 h2 w) xs ys w n 0 (by rw [Nat.zero_add]; exact hx) (by rw [Nat.zero_add]; exact hy)
        simp only [valT, isAggD, cond_true]
        rw [show m + (d + 1) = m + d + 1 from rfl, h2, hc, List.range_eq_range', h3]
        simp
      · cases h
    | struct fs =>
      rw [hd] at h hdesc
      simp only at h
      cases hm : memN t S.cmp with
      | false => rw [hm] at h; cases h
      | true =>
        rw [hm] at h
        simp only [cond_true] at h
        obtain ⟨hst, _, hnm⟩ := cmp_ok hm
        obtain ⟨l, hl1, hl2⟩ := Sx.ustruct hdesc
        subst hl2
        have hfo : S.P.fieldsOf t = l := by simp [Program.fieldsOf, hl1]
        have h2 := run_equalIn_struct (P := S.P) w (m + d) t xs.toArray ys.toArray (by rw [hfo]; exact hl1) hst
        rw [hfo] at h2 hnm
        have h3 := fields_run (m := m) (d := d) (fun t ks h i hi xs ys h1 h2 w => eq_run m d t ks (szC_get h).1 i hi xs ys h1 h2 w) (fun t ks i h hi => one_of h hi) (fun t ks h => sz_of_kds d t ks (szC_get h).1) xs ys w l.toList 0 ks hnm h (Nat.zero_le _) (Nat.zero_le _) hx hy
        simp only [valT, isAggD, cond_true]
        rw [show m + (d + 1) = m + d + 1 from rfl, h2, h3]
        simp
/-- '==' and '!=' of two structs, of two arrays. -/
theorem SxRun.eq {t : Nat} {x y : Operand} {us vs : Array Value} {A : Value → Prop} (d : Nat) (hd : Nat.ble d 10000 = true) {ks : List KD} (hk : kdsOf S d t = some ks) {i : TInf} (hi : tl S.T t = some i) (hg : S.P.eqGuardType S.P.depth t = false) (ha : isAggD i.d = true) (hu : allK ks us.toList = true) (hv : allK ks vs.toList = true)
    (h : A (.bool (cellsEq us.toList vs.toList))) : SxRun S.P (do eqGuard .eql t x y (.agg us) (.agg vs); binOp .eql t (.agg us) (.agg vs)) A := by
  refine ⟨_, fun w => ?_, h⟩
  have hr := eq_run (S := S) (10000 - d) d t ks hk i hi us.toList vs.toList hu hv w
  rw [show 10000 - d + d = 10000 by have := Nat.le_of_ble_eq_true hd; omega] at hr
  simp only [valT, ha, cond_true, Array.toArray_toList] at hr
  rw [Sem.run_bind, run_eqGuard_agg w .eql t x y us vs hg, Result.andThen_ok, run_eql_struct, hr, Result.andThen_ok]
theorem SxRun.ne {t : Nat} {x y : Operand} {us vs : Array Value} {A : Value → Prop} (d : Nat) (hd : Nat.ble d 10000 = true) {ks : List KD} (hk : kdsOf S d t = some ks) {i : TInf} (hi : tl S.T t = some i) (hg : S.P.eqGuardType S.P.depth t = false) (ha : isAggD i.d = true) (hu : allK ks us.toList = true) (hv : allK ks vs.toList = true)
    (h : A (.bool (!cellsEq us.toList vs.toList))) : SxRun S.P (do eqGuard .neq t x y (.agg us) (.agg vs); binOp .neq t (.agg us) (.agg vs)) A := by
  refine ⟨_, fun w => ?_, h⟩
  have hr := eq_run (S := S) (10000 - d) d t ks hk i hi us.toList vs.toList hu hv w
  rw [show 10000 - d + d = 10000 by have := Nat.le_of_ble_eq_true hd; omega] at hr
  simp only [valT, ha, cond_true, Array.toArray_toList] at hr
  rw [Sem.run_bind, run_eqGuard_agg w .neq t x y us vs hg, Result.andThen_ok, run_neq_struct, hr, Result.andThen_ok]
end
end Go.Proofs.Ytoacohlbelfkcaa
