/- Texts of this claim, one behind the other. -/
import Derived.Lib.AppendStr
import Derived.Maps.AppendAt
import Derived.Test.YtlmefcepdadfjaaGreatZSxC
/- A symbolic walk: what it says of memory is so: loads, stores, new blocks, rows that grow. No program is named here. -/
namespace Go.Proofs.YtlmefcepdadfjaaGreat
open Go.RowKit

theorem SxLd.get {W : World} {M : List Nat} {H : Hp} {w : World} {g off : Nat} {A : Value → Prop} (h : SxLd H g off A) (hs : Sat W M H w) : ∃ v, A v ∧ w.cell? ⟨g, off, none⟩ = some v := by
  cases h with
  | blk p hp hv h => exact ⟨_, h, by rw [(hs.blk p hp).cell, hv]⟩
  | rd p hp ha hj hv h =>
    rename_i j v
    have hr := hs.rd p hp
    have hjl : j < _ := (List.getElem?_eq_some_iff.1 hv).1
    obtain ⟨g', o', he, _, h3⟩ := hr.2 (by omega)
    rw [ha] at he
    simp only [Option.some.injEq, Addr.mk.injEq, and_true] at he
    obtain ⟨rfl, rfl⟩ := he
    exact ⟨v, h, by rw [hj, h3 j hjl, hv]⟩
  | row p hp ha hj hv h =>
    subst ha
    subst hj
    have hr := hs.row p hp
    have hjl := (List.getElem?_eq_some_iff.1 hv).1
    refine ⟨_, h, ?_⟩
    have := hr.1
    rw [Nat.zero_add, World.ownsRow.cellAt hr _ (by omega), hv]
  | from_ hx ha hj hv h =>
    rename_i j v
    have hr := hx W M w hs
    have hjl : j < _ := (List.getElem?_eq_some_iff.1 hv).1
    obtain ⟨g', o', he, _, h3⟩ := hr.2 (by omega)
    rw [ha] at he
    simp only [Option.some.injEq, Addr.mk.injEq, and_true] at he
    obtain ⟨rfl, rfl⟩ := he
    exact ⟨v, h, by rw [hj, h3 j hjl, hv]⟩
theorem SxLdN.get {W : World} {M : List Nat} {H : Hp} {w : World} {g off n : Nat} {A : List Value → Prop} (h : SxLdN H g off n A) (hs : Sat W M H w) :
    ∃ vs, A vs ∧ vs.length = n ∧ ∀ j v, vs[j]? = some v → w.cell? ⟨g, off + j, none⟩ = some v := by
  have sub : ∀ {cs vs : List Value} {o j : Nat} {v : Value}, (cs.drop o).take n = vs → vs[j]? = some v → cs[o + j]? = some v := by
    intro cs vs o j v hv hj
    subst hv
    rw [List.getElem?_take] at hj
    split at hj
    · rw [List.getElem?_drop] at hj; exact hj
    · cases hj
  cases h with
  | blk p hp hl hv h => exact ⟨_, h, hl, fun j v hj => by rw [(hs.blk p hp).cell]; exact sub hv hj⟩
  | rd p hp ha hj hl hv h =>
    rename_i o i
    refine ⟨_, h, hl, fun j v hjv => ?_⟩
    have hc := sub hv hjv
    have hr := hs.rd p hp
    have hjl := (List.getElem?_eq_some_iff.1 hc).1
    obtain ⟨g', o', he, _, h3⟩ := hr.2 (by omega)
    rw [ha] at he
    simp only [Option.some.injEq, Addr.mk.injEq, and_true] at he
    obtain ⟨rfl, rfl⟩ := he
    rw [hj, Nat.add_assoc, h3 _ hjl, hc]
  | row p hp ha hj hl hv h =>
    subst ha
    refine ⟨_, h, hl, fun j v hjv => ?_⟩
    have hc := sub hv hjv
    have hr := hs.row p hp
    have hjl := (List.getElem?_eq_some_iff.1 hc).1
    have h1 := hr.1
    rw [hj, Nat.zero_add, World.ownsRow.cellAt hr _ (by omega), hc]
  | from_ hx ha hj hl hv h =>
    rename_i o i
    refine ⟨_, h, hl, fun j v hjv => ?_⟩
    have hc := sub hv hjv
    have hr := hx W M w hs
    have hjl := (List.getElem?_eq_some_iff.1 hc).1
    obtain ⟨g', o', he, _, h3⟩ := hr.2 (by omega)
    rw [ha] at he
    simp only [Option.some.injEq, Addr.mk.injEq, and_true] at he
    obtain ⟨rfl, rfl⟩ := he
    rw [hj, Nat.add_assoc, h3 _ hjl, hc]
theorem run_loadVar_one {P : Program} {t : TypeId} {ad : Addr} {v : Value} {w : World} (hagg : (isAgg t).run P w = .ok false w) (hc : w.cell? ad = some v) : (loadVar t ad).run P w = .ok v w := by
  simp [loadVar, Sem.run_bind, hagg, run_load, hc]
theorem run_loadVar_many {P : Program} {t : TypeId} {g off n : Nat} {vs : List Value} {w : World} (hagg : (isAgg t).run P w = .ok true w) (hsz : (sizeOf t).run P w = .ok n w) (hl : vs.length = n)
    (hc : ∀ j v, vs[j]? = some v → w.cell? ⟨g, off + j, none⟩ = some v) : (loadVar t ⟨g, off, none⟩).run P w = .ok (.agg vs.toArray) w := by
  have h := run_loadCells_list (P := P) w ⟨g, off, none⟩ vs (fun j v hv => by rw [Addr.add_lit]; exact hc j v hv)
  rw [hl] at h
  simp [loadVar, Sem.run_bind, hagg, hsz, h]
theorem splice_step (cs : List Value) (k : Nat) (v : Value) (rest : List Value) (h : k + (v :: rest).length ≤ cs.length) : splice (k + 1) rest (cs.set k v) = splice k (v :: rest) cs := by
  have := put_step cs k v rest h
  unfold splice
  exact this
theorem run_storeCells_raw {P : Program} (g o e lo hi : Nat) : ∀ (vs : List Value) (i : Nat) (cur : Array Value) (w : World), w.heap[g]? = some (.cells cur e (lo, hi)) → (hi ≤ lo ∨ cur.size ≤ lo) → o + i + vs.length ≤ cur.size → (∀ v ∈ vs, v.oneCell' = true) →
    ∃ w' cur', (storeCells ⟨g, o, none⟩ vs i).run P w = .ok () w' ∧ w'.heap[g]? = some (.cells cur' e (lo, hi)) ∧ cur'.toList = splice (o + i) vs cur.toList ∧ Only g w w'
  | [], i, cur, w, hb, _, _, _ => ⟨w, cur, rfl, hb, by simp [splice], Only.refl⟩
  | v :: rest, i, cur, w, hb, hf, hl, h1 => by
    have hi' : o + i < cur.size := by simp at hl; omega
    have hcell : w.cell? ⟨g, o + i, none⟩ = some cur[o + i] := by simp [World.cell?, hb, hi']
    have hfro : w.frozen? ⟨g, o + i, none⟩ = false := by
      simp only [World.frozen?, hb, Bool.and_eq_false_iff, decide_eq_false_iff_not]
      omega
    have hst : (store ((⟨g, o, none⟩ : Addr).add i) v).run P w = .ok () (w.setCell ⟨g, o + i, none⟩ v) := by
      rw [Addr.add_lit, run_store P w _ v _ (h1 v (by simp)), hcell]
      simp [hfro]
    have hb2 : (w.setCell ⟨g, o + i, none⟩ v).heap[g]? = some (.cells (cur.setIfInBounds (o + i) v) e (lo, hi)) := by simp [World.setCell, Array.getElem?_modify, hb]
    obtain ⟨w', cur', hr, hb', hc', ho⟩ := run_storeCells_raw (P := P) g o e lo hi rest (i + 1) (cur.setIfInBounds (o + i) v) (w.setCell ⟨g, o + i, none⟩ v) hb2 (by simpa using hf) (by simp at hl ⊢; omega) (fun x hx => h1 x (by simp [hx]))
    refine ⟨w', cur', ?_, hb', ?_, (Only.setCell _ _).trans ho⟩
    · simp only [storeCells, Sem.run_bind, hst, Result.andThen_ok, hr]
    · rw [hc', Array.toList_setIfInBounds]
      have := splice_step cur.toList (o + i) v rest (by simp at hl ⊢; omega)
      rw [← this, Nat.add_assoc]
theorem splice_length (off : Nat) (vs cs : List Value) (h : off + vs.length ≤ cs.length) : (splice off vs cs).length = cs.length := by simp [splice]; omega
theorem splice_take (off : Nat) (vs cs : List Value) (m : Nat) (h : off + vs.length ≤ m) (hm : m ≤ cs.length) : (splice off vs cs).take m = splice off vs (cs.take m) := by
  unfold splice
  rw [List.append_assoc, List.take_append, List.append_assoc, List.length_take, List.take_append, Nat.min_eq_left (by omega), List.take_take, Nat.min_eq_right (by omega), List.take_of_length_le (by omega : vs.length ≤ m - off)]
  rw [List.take_take, Nat.min_eq_left (by omega)]
  congr 2
  rw [List.drop_take, Nat.sub_sub]
theorem SxSt.get {P : Program} {W : World} {M : List Nat} {H : Hp} {w : World} {g off : Nat} {vs : List Value} {A : Hp → Prop} (h : SxSt H g off vs A) (hs : Sat W M H w) :
    ∃ w' H', (storeCells ⟨g, off, none⟩ vs 0).run P w = .ok () w' ∧ Sat W M H' w' ∧ A H' := by
  cases h with
  | blk p hp hl h1 hc h =>
    replace hl := Nat.le_of_ble_eq_true hl
    replace h1 := allOne_mem h1
    obtain ⟨cur, lo, hi, hb, hcur, hf⟩ := hs.blk p hp
    subst hcur
    obtain ⟨w', cur', hr, hb', hc', ho⟩ := run_storeCells_raw (P := P) g off _ lo hi vs 0 cur w hb (by simpa using hf) (by simpa using hl) h1
    rename_i e' cs'
    have hh : (Ent.blk g e' cs').Holds w' := by
      refine ⟨cur', lo, hi, hb', ?_, ?_⟩
      · rw [hc', Nat.add_zero, hc]
      · rw [← hc, splice_length _ _ _ hl]; exact hf
    refine ⟨w', _, hr, hs.set hp (Only.toGrown ho) hh (fun x hx => .inl ?_), h⟩
    simp only [Ent.uses] at hx
    simp [Ent.own, hx]
  | row p hp ha hj hl h1 hc h =>
    replace h1 := allOne_mem h1
    subst ha
    subst hj
    rename_i n cap e k cs j cs'
    have hr := hs.row p hp
    rcases hr.2 with ⟨hv, _⟩ | ⟨g', cap', cur, hv, hbg, hh, hnc, hcm, hcs, htake⟩
    · simp at hv
    · simp only [Value.slice.injEq, Option.some.injEq, Addr.mk.injEq, and_true, true_and] at hv
      obtain ⟨rfl, rfl⟩ := hv
      have hlen : cs.length = n * k := hr.1
      have hnk : n * k ≤ cap * k := Nat.mul_le_mul_right _ hnc
      have hrest : j + vs.length ≤ cur.size := by omega
      obtain ⟨w', cur', hr2, hb', hc', ho⟩ := run_storeCells_raw (P := P) g j e 0 0 vs 0 cur w hh (.inl (Nat.le_refl _)) (by simpa using hrest) h1
      have hh' : (Ent.row (some ⟨g, 0, none⟩) n cap e k cs').Holds w' := by
        refine ⟨?_, .inr ⟨g, cap, cur', rfl, Nat.zero_le _, hb', hnc, hcm, ?_, ?_⟩⟩
        · rw [← hc, splice_length _ _ _ hl, hlen]
        · rw [← hcs, ← Array.length_toList, hc', splice_length _ _ _ (by simpa using hrest), Array.length_toList]
        · rw [hc', Nat.add_zero, splice_take _ _ _ _ (by omega) (by simp; omega), htake, hc]
      refine ⟨w', _, by rw [Nat.zero_add]; exact hr2, hs.set hp (Only.toGrown ho) hh' (fun x hx => .inl ?_), h⟩
      simpa [Ent.uses, Ent.own] using hx
theorem run_storeVar_of {P : Program} {t : TypeId} {v : Value} {ad : Addr} {w w' : World} {k : Nat} (hsz : (sizeOf t).run P w = .ok k w) (hv : v.cells.size = k) (h : (storeCells ad v.cells.toList 0).run P w = .ok () w') : (storeVar t ad v).run P w = .ok () w' := by
  simp [storeVar, hsz, hv, h]
theorem SxStr.get {P : Program} {W : World} {M : List Nat} {H : Hp} {w : World} {ao : Option Addr} {n cap : Nat} {A : List UInt8 → Prop} (h : SxStr H ao n A) (hs : Sat W M H w) (src dst e : TypeId) (h1 : P.underlying src = some (.slice e)) (h2 : P.underlying e = some (.int .u8)) (h3 : P.underlying dst = some .string) :
    ∃ l, A l ∧ (convert src dst (.slice ao n cap)).run P w = .ok (.string ⟨l.toArray⟩) w := by
  have key : ∀ (l : List UInt8), l.length = n → (0 < n → ∃ g o, ao = some ⟨g, o, none⟩ ∧ ∀ j, j < n → w.cell? ⟨g, o + j, none⟩ = (l.map fun b => Value.int .u8 (b.toNat : Int))[j]?) → (convert src dst (.slice ao n cap)).run P w = .ok (.string ⟨l.toArray⟩) w := by
    intro l hl hh
    cases ao with
    | none =>
      have : n = 0 := by
        rcases Nat.eq_zero_or_pos n with h | h
        · exact h
        · obtain ⟨g, o, h, _⟩ := hh h; cases h
      subst this
      have : l = [] := List.eq_nil_of_length_eq_zero hl
      subst this
      rw [run_convert_bytes_string w src dst e _ 0 cap h1 h2 h3]
      simp [Conv.bytesToString]
      rfl
    | some ad =>
      subst hl
      refine run_convert_bytes_back w src dst e ad cap l h1 h2 h3 fun j hj => ?_
      obtain ⟨g, o, he, hc⟩ := hh (by omega)
      obtain rfl := Option.some.inj he
      rw [Addr.add_lit, hc j hj]
      simp [hj]
  cases h with
  | rd p hp l hn hl h =>
    refine ⟨l, h, key l hn fun h0 => ?_⟩
    have hr := hs.rd p hp
    rename_i cs
    have hlen : n ≤ cs.length := by
      have := congrArg List.length hl
      simp at this
      omega
    obtain ⟨g, o, he, _, hc⟩ := hr.2 (by omega)
    refine ⟨g, o, he, fun j hj => ?_⟩
    rw [hc j (by omega), ← hl, List.getElem?_take, if_pos hj]
  | blk p ha hp l hn hl h =>
    refine ⟨l, h, key l hn fun h0 => ?_⟩
    rename_i g o e' cs
    refine ⟨g, o, ha, fun j hj => ?_⟩
    rw [(hs.blk p hp).cell, ← hl, List.getElem?_take, if_pos hj, List.getElem?_drop]
  | row p hp l hn hl h =>
    refine ⟨l, h, key l hn fun h0 => ?_⟩
    rename_i m cap' e' cs
    have hr := hs.row p hp
    have hlen : n ≤ cs.length := by
      have := congrArg List.length hl
      simp at this
      omega
    have h1 := hr.1
    rcases hr.2 with ⟨hv, h0⟩ | ⟨g, cap2, cur, hv, _⟩
    · simp [h0] at h1; subst h1; simp at hlen; omega
    · simp only [Value.slice.injEq] at hv
      refine ⟨g, 0, hv.1, fun j hj => ?_⟩
      have hr2 := hr
      rw [hv.1] at hr2
      rw [Nat.zero_add, World.ownsRow.cellAt hr2 j (by omega), ← hl, List.getElem?_take, if_pos hj]
theorem run_append_nothing {P : Program} {w : World} {t ty e : TypeId} {i : TypeInfo} {z : Value} {n k cap xcap : Nat} {ao : Option Addr} {xs : List Value} (ht : P.underlying t = some (.slice e)) (hi : P.info? e = some i) (hz : i.zero = some z) (hown : w.ownsRow 0 e k (.slice ao n cap) n xs) :
    (Builtin.append_ #[t, t] ty #[.slice ao n cap, .slice none 0 xcap]).run P w = .ok (.slice ao n cap) w := by
  have hc : n ≤ cap := by
    rcases hown.2 with ⟨h, rfl⟩ | ⟨g, cap', cur, h, _, _, hc, _⟩
    · omega
    · simp only [Value.slice.injEq] at h; omega
  simp [Builtin.append_, run_underlying ht, sizeOf, typeInfo, zeroValue, hi, hz, Builtin.lenOf, hc, Builtin.firstCells]
  cases ao <;> simp [storeCells]
theorem SxApp.get {S : Sx} {W : World} {M : List Nat} {H : Hp} {w : World} {ao xo : Option Addr} {n cap e m xcap : Nat} {i : TInf} {A : Option Addr → Nat → Hp → Prop} (h : SxApp H ao n cap e i.size i.bytes xo m xcap A) (hs : Sat W M H w)
    (t ty : TypeId) (ht : S.P.underlying t = some (.slice e)) (hi : tl S.T e = some i) (hz : i.zero.cells.size = i.size) (hk : 0 < i.size) :
    ∃ ao' cap' H' w', A ao' cap' H' ∧ (Builtin.append_ #[t, t] ty #[.slice ao n cap, .slice xo m xcap]).run S.P w = .ok (.slice ao' (n + m) cap') w' ∧ Sat W M H' w' := by
  obtain ⟨x, hx0, hx1, hx2, hx3⟩ := Sx.info hi
  have main : ∀ (p : Nat) (cs vs cs' : List Value) (_hp : H[p]? = some (.row ao n cap e i.size cs)) (_hm : vs.length = m * i.size) (_h1 : ∀ v ∈ vs, v.oneCell' = true) (_h63 : n + m ≤ maxLen) (_hb : (n + m) * i.bytes ≤ 140737488355328) (_hc : cs ++ vs = cs') (_h : ∀ ao' cap', A ao' cap' (H.set p (.row ao' (n + m) cap' e i.size cs'))) (ad : Addr), xo = some ad → (∀ j u, vs[j]? = some u → w.cell? (ad.add j) = some u) → ∃ ao' cap' H' w', A ao' cap' H' ∧ (Builtin.append_ #[t, t] ty #[.slice ao n cap, .slice xo m xcap]).run S.P w = .ok (.slice ao' (n + m) cap') w' ∧ Sat W M H' w' := by
    rintro p cs vs cs' hp hm h1 h63 hb hc hA ad rfl hnews
    have hr := hs.row p hp
    obtain ⟨v', w', hrun, hown, hgr, _, hat⟩ := run_append_own_at (P := S.P) w 0 t ty e x i.zero i.size i.bytes ht hx0 hx1 hx2 hx3 hz hk _ n cs hr ad m xcap vs hm hnews h1 h63 hb (Nat.zero_le _)
    have form : ∃ ao' cap', v' = .slice ao' (n + m) cap' := by
      rcases hown.2 with ⟨rfl, h0⟩ | ⟨g, c, cur, rfl, _⟩
      · exact ⟨none, 0, by rw [h0]⟩
      · exact ⟨_, _, rfl⟩
    obtain ⟨ao', cap', rfl⟩ := form
    refine ⟨ao', cap', _, w', hA ao' cap', hrun, hs.set hp ?_ (by rw [← hc]; exact hown) ?_⟩
    · have : (Value.slice ao n cap).ownBlock = (Ent.row ao n cap e i.size cs).own := by cases ao <;> rfl
      rw [← this]; exact hgr
    · intro g hg
      have h1 : (Value.slice ao' (n + m) cap').ownBlock = some g := by
        cases ao' with
        | none => cases hg
        | some a => simpa [Ent.uses, Value.ownBlock] using hg
      rcases hat with h2 | h2
      · left
        rw [h1] at h2
        cases ao with
        | none => cases h2
        | some a => simpa [Ent.own, Value.ownBlock] using h2.symm
      · right
        rw [h1] at h2
        have := Option.some.inj h2
        omega
  have nothing : ∀ (p : Nat) (cs vs cs' : List Value) (_hp : H[p]? = some (.row ao n cap e i.size cs)) (_hm : vs.length = m * i.size) (_hc : cs ++ vs = cs') (_h : ∀ ao' cap', A ao' cap' (H.set p (.row ao' (n + m) cap' e i.size cs'))), xo = none → vs = [] → ∃ ao' cap' H' w', A ao' cap' H' ∧ (Builtin.append_ #[t, t] ty #[.slice ao n cap, .slice xo m xcap]).run S.P w = .ok (.slice ao' (n + m) cap') w' ∧ Sat W M H' w' := by
    rintro p cs vs cs' hp hm hc hA rfl rfl
    have hr := hs.row p hp
    have hm0 : m = 0 := by
      rcases Nat.eq_zero_or_pos m with h | h
      · exact h
      · have := Nat.mul_pos h hk; simp at hm; omega
    subst hm0
    refine ⟨ao, cap, _, w, hA ao cap, run_append_nothing ht hx0 hx1 hr, ?_⟩
    refine hs.set hp ⟨rfl, rfl, rfl, Nat.le_refl _, fun _ _ _ => rfl⟩ (by rw [← hc, List.append_nil]; exact hr) fun g hg => .inl hg
  have read : ∀ (p : Nat) (cs vs cs' : List Value) (_hp : H[p]? = some (.row ao n cap e i.size cs)) (_hm : vs.length = m * i.size) (_h1 : ∀ v ∈ vs, v.oneCell' = true) (_h63 : n + m ≤ maxLen) (_hb : (n + m) * i.bytes ≤ 140737488355328) (_hc : cs ++ vs = cs') (_h : ∀ ao' cap', A ao' cap' (H.set p (.row ao' (n + m) cap' e i.size cs'))) (_hrd : Rd w xo vs), ∃ ao' cap' H' w', A ao' cap' H' ∧ (Builtin.append_ #[t, t] ty #[.slice ao n cap, .slice xo m xcap]).run S.P w = .ok (.slice ao' (n + m) cap') w' ∧ Sat W M H' w' := by
    intro p cs vs cs' hp hm h1 h63 hb hc h hrd
    cases hxo : xo with
    | none =>
      refine hxo ▸ nothing p cs vs cs' hp hm hc h hxo ?_
      cases vs with
      | nil => rfl
      | cons v vs => obtain ⟨g, off, h, _⟩ := hrd.2 (by simp); rw [hxo] at h; cases h
    | some ad =>
      refine hxo ▸ main p cs vs cs' hp hm h1 h63 hb hc h ad hxo fun j u hj => ?_
      have hjl := (List.getElem?_eq_some_iff.1 hj).1
      obtain ⟨g, off, he, _, h3⟩ := hrd.2 (by omega)
      rw [hxo] at he
      obtain rfl := Option.some.inj he
      rw [Addr.add_lit, h3 j hjl, hj]
  cases h with
  | sem h => exact h S.P W M w t ty x i.zero hs ht hx0 hx1 hx2 hx3 hz hk
  | from_ p hp hx hm h1 h63 hb hc h => exact read p _ _ _ hp hm (allOne_mem h1) h63 hb hc h (hx W M w hs)
  | mk p hp q hx hm h1 h63 hb hc h =>
    replace h1 := allOne_mem h1
    rename_i cs vs cs'
    have hr := hs.row p hp
    replace main := main p cs vs cs' hp hm h1 h63 hb hc h
    replace nothing := nothing p cs vs cs' hp hm hc h
    rcases hx with ⟨h1, h3, _⟩ | hq | ⟨g, e', rfl, all, hq, hall⟩ | ⟨_, e', hq⟩
    · exact nothing h1 h3
    · have hrd := hs.rd q hq
      cases xo with
      | none =>
        refine nothing rfl ?_
        cases vs with
        | nil => rfl
        | cons v vs => obtain ⟨g, off, h, _⟩ := hrd.2 (by simp); cases h
      | some ad =>
        refine main ad rfl fun j u hj => ?_
        have hjl := (List.getElem?_eq_some_iff.1 hj).1
        obtain ⟨g, off, he, _, h3⟩ := hrd.2 (by omega)
        obtain rfl := Option.some.inj he
        rw [Addr.add_lit, h3 j hjl, hj]
    · refine main ⟨g, 0, none⟩ rfl fun j u hj => ?_
      rw [Addr.add_lit, Nat.zero_add, (hs.blk q hq).cell]
      rw [← hall, List.getElem?_take] at hj
      split at hj
      · exact hj
      · cases hj
    · have hrq := hs.row q hq
      cases xo with
      | none =>
        rcases hrq.2 with ⟨hv, h0⟩ | ⟨g, c, cur, hv, _⟩
        · have hl := hrq.1
          simp only [Value.slice.injEq] at hv
          subst h0
          exact nothing rfl (List.eq_nil_of_length_eq_zero (by simpa using hl))
        · cases hv
      | some ad =>
        refine main ad rfl fun j u hj => ?_
        have hjl := (List.getElem?_eq_some_iff.1 hj).1
        have hl := hrq.1
        rcases hrq.2 with ⟨hv, h0⟩ | ⟨g, c, cur, hv, _⟩
        · cases hv
        · simp only [Value.slice.injEq, Option.some.injEq] at hv
          obtain ⟨rfl, _, rfl⟩ := hv
          rw [Addr.add_lit, Nat.zero_add, World.ownsRow.cellAt hrq j (by omega), hj]
theorem SxAppS.get {S : Sx} {W : World} {M : List Nat} {H : Hp} {w : World} {ao : Option Addr} {n cap e : Nat} {s : ByteArray} {A : Option Addr → Nat → Hp → Prop} (h : SxAppS H ao n cap e s A) (hs : Sat W M H w)
    (t u ty : TypeId) (ht : S.P.underlying t = some (.slice e)) (hu : S.P.underlying u = some .string) (hi : tl S.T e = some ⟨.int .u8, 1, 1, .int .u8 0⟩) :
    ∃ ao' cap' H' w', A ao' cap' H' ∧ (Builtin.append_ #[t, u] ty #[.slice ao n cap, .string s]).run S.P w = .ok (.slice ao' (n + s.size) cap') w' ∧ Sat W M H' w' := by
  obtain ⟨x, hx0, hx1, hx2, hx3⟩ := Sx.info hi
  cases h with
  | mk p hp h63 hc h =>
    rename_i cs cs'
    replace hx1 : x.zero = some (.int .u8 0) := hx1
    replace hx2 : x.size = 1 := hx2
    replace hx3 : x.bytes = 1 := hx3
    have hr := hs.row p hp
    obtain ⟨v', w', hrun, hown, hgr, _⟩ := Go.Lib.run_append_own_string (P := S.P) (w := w) 0 t u ty e x ht hu hx0 hx1 hx2 hx3 _ n _ hr s (by unfold maxLen; omega) h63 (Nat.zero_le _)
    have form : ∃ ao' cap', v' = .slice ao' (n + s.size) cap' := by
      rcases hown.2 with ⟨rfl, h0⟩ | ⟨g, c, cur, rfl, _⟩
      · exact ⟨none, 0, by rw [h0]⟩
      · exact ⟨_, _, rfl⟩
    have hat : v'.ownBlock = (Value.slice ao n cap).ownBlock ∨ ∀ b, v'.ownBlock = some b → w.heap.size ≤ b := by
      rcases hr.2 with ⟨hv, rfl⟩ | ⟨g, c, cur, hv, _, hg, hnc, _, hcs, _⟩
      · right
        rw [hv] at hrun
        have hcs0 : cs = [] := List.eq_nil_of_length_eq_zero (by simpa using hr.1)
        obtain ⟨v2, w2, hrun2, hown2, _⟩ := Go.Lib.run_append_own_string (P := S.P) (w := w) w.heap.size t u ty e x ht hu hx0 hx1 hx2 hx3 _ 0 [] (World.ownsRow_nil w _ e 1) s (by unfold maxLen; omega) h63 (Nat.le_refl _)
        rw [hrun] at hrun2
        injection hrun2 with e1 e2
        subst e1 e2
        exact fun b hb => (World.ownsRow.lt hown2 b hb).1
      · simp only [Value.slice.injEq] at hv
        obtain ⟨rfl, _, rfl⟩ := hv
        by_cases hroom : n + s.size ≤ cap
        · left
          have h2 := Go.Lib.run_append_room_string (P := S.P) w t u ty e x ht hu hx0 hx2 g n cap cur hg s hroom (by rw [Nat.mul_one] at hcs; omega)
          rw [hrun] at h2
          injection h2 with e1 e2
          rw [e1]; rfl
        · right
          have h2 := Go.Lib.run_append_grow_string (P := S.P) w t u ty e x _ ht hu hx0 hx1 ⟨g, 0, none⟩ n cap cs (by rw [hx2]; exact hr.1) (hr.cells (g := g) rfl) s (by omega) (by omega) (by rw [hx3]; exact growslice_fits (by omega) (by omega))
          rw [hrun] at h2
          injection h2 with e1 e2
          rw [e1]
          intro b hb
          simp only [Value.ownBlock, Option.some.injEq] at hb
          omega
    obtain ⟨ao', cap', rfl⟩ := form
    refine ⟨ao', cap', _, w', h ao' cap', hrun, hs.set hp ?_ (by rw [← hc]; exact hown) ?_⟩
    · have : (Value.slice ao n cap).ownBlock = (Ent.row ao n cap e 1 cs).own := by cases ao <;> rfl
      rw [← this]; exact hgr
    · intro g hg
      have h1 : (Value.slice ao' (n + s.size) cap').ownBlock = some g := by
        cases ao' with
        | none => cases hg
        | some a => simpa [Ent.uses, Value.ownBlock] using hg
      rcases hat with h2 | h2
      · left
        rw [h1] at h2
        cases ao with
        | none => cases h2
        | some a => simpa [Ent.own, Value.ownBlock] using h2.symm
      · exact .inr (h2 g h1)
end Go.Proofs.YtlmefcepdadfjaaGreat
/- A symbolic walk: what it says of each operation is so. No program is named here. -/
namespace Go.Proofs.YtlmefcepdadfjaaGreat
open Go.RowKit

theorem set_splice_from (off : Nat) : ∀ (vs : List Value) (k : Nat) (cs : List Value), off + k + vs.length ≤ cs.length →
    (vs.zipIdx k).foldl (fun (c : Array Value) (x : Value × Nat) => c.setIfInBounds (off + x.2) x.1) cs.toArray = (splice (off + k) vs cs).toArray
  | [], k, cs, _ => by simp [splice]
  | v :: r, k, cs, h => by
    rw [List.zipIdx_cons, List.foldl_cons]
    have h1 : cs.toArray.setIfInBounds (off + k) v = (cs.set (off + k) v).toArray := by simp
    simp only
    rw [h1, set_splice_from off r (k + 1) (cs.set (off + k) v) (by simp at h ⊢; omega)]
    congr 1
    exact splice_step cs (off + k) v r (by simp at h ⊢; omega)
theorem fold_splice (off : Nat) (v : Value) (cs : List Value) (h : off + v.cells.size ≤ cs.length) :
    v.cells.zipIdx.foldl (fun (c : Array Value) (x : Value × Nat) => c.setIfInBounds (off + x.2) x.1) cs.toArray = (splice off v.cells.toList cs).toArray := by
  have := set_splice_from off v.cells.toList 0 cs (by simpa using h)
  rw [Nat.add_zero] at this
  rw [← this, ← Array.foldl_toList, Array.toList_zipIdx]
theorem fill_get {place : Nat → Option (Nat × Nat)} {place' : Nat → Option (Nat × Nat)} (hp : ∀ i x, place i = some x → place' i = some x) : ∀ (ps : List (Nat × Value)) (cs : List Value) (cs' : List Value), fillP place cs (ps.map fun p => (p.1, p.2.cells.toList)) → fillC place cs (ps.map fun p => (p.1, p.2.cells.toList)) = some cs' →
    cs'.length = cs.length ∧ Instr.fill place' cs.toArray ps = some cs'.toArray
  | [], cs, cs', _, h => by
    simp only [List.map_nil, fillC, Option.some.injEq] at h
    subst h
    exact ⟨rfl, rfl⟩
  | (i, v) :: r, cs, cs', h, hc => by
    simp only [List.map_cons, fillP] at h
    simp only [List.map_cons, fillC] at hc
    split at h
    · rename_i off size hpl
      obtain ⟨⟨h1, h2⟩, h⟩ := h
      rw [hpl] at hc
      simp only at hc
      obtain ⟨hl, hf⟩ := fill_get hp r _ cs' h hc
      have hs : v.cells.size = size := by simpa using h1
      refine ⟨?_, ?_⟩
      · rw [hl, splice_length _ _ _ (by simp; omega)]
      · simp only [Instr.fill, hp i _ hpl]
        rw [if_neg (by simp; omega)]
        rw [fold_splice off v cs (by omega)]
        exact hf
    · exact h.elim
theorem SxFill.get {place : Nat → Option (Nat × Nat)} {place' : Nat → Option (Nat × Nat)} (hp : ∀ i x, place i = some x → place' i = some x) {A : List Value → Prop} (ps : List (Nat × Value)) (cs : List Value) (h : SxFill place cs (ps.map fun p => (p.1, p.2.cells.toList)) A) :
    ∃ cs', A cs' ∧ cs'.length = cs.length ∧ Instr.fill place' cs.toArray ps = some cs'.toArray := by
  cases h with
  | mk h hc hA =>
    obtain ⟨h1, h2⟩ := fill_get hp ps cs _ h hc
    exact ⟨_, hA, h1, h2⟩
theorem zerosL_length (z : List Value) : ∀ n, (zerosL z n).length = n * z.length
  | 0 => by simp [zerosL]
  | n + 1 => by simp [zerosL, zerosL_length z n, Nat.add_mul]; omega
theorem zerosL_get (z : List Value) (hz : 0 < z.length) : ∀ (n i : Nat), i < n * z.length → (zerosL z n)[i]? = z[i % z.length]?
  | 0, i, h => by simp at h
  | n + 1, i, h => by
    rw [zerosL, List.getElem?_append]
    by_cases hi : i < z.length
    · rw [if_pos hi, Nat.mod_eq_of_lt hi]
    · rw [if_neg hi, zerosL_get z hz n (i - z.length) (by rw [Nat.add_mul] at h; omega)]
      congr 1
      rw [Nat.mod_eq_sub_mod (Nat.le_of_not_lt hi)]
theorem made_zeros (z : Array Value) (k n : Nat) (hz : z.size = k) (hk : 0 < k) : ((Array.range (n * k)).map (z[· % z.size]!)) = (zerosL z.toList n).toArray := by
  apply Array.ext'
  apply List.ext_getElem?
  intro i
  have hl : z.toList.length = k := by simpa using hz
  by_cases hi : i < n * k
  · rw [List.toList_toArray, zerosL_get z.toList (by omega) n i (by rw [hl]; exact hi), hl]
    have hm : i % k < k := Nat.mod_lt _ hk
    simp [hi, hz, hm]
  · rw [List.getElem?_eq_none (by simp; omega), List.getElem?_eq_none (by simp [zerosL_length, hl]; omega)]
theorem zerosL_take (z : List Value) (a b k : Nat) (hz : z.length = k) (h : a ≤ b) : (zerosL z b).take (a * k) = zerosL z a := by
  rcases Nat.eq_zero_or_pos k with hk | hk
  · have h1 : zerosL z a = [] := List.eq_nil_of_length_eq_zero (by rw [zerosL_length, hz, hk, Nat.mul_zero])
    rw [h1, hk]; simp
  apply List.ext_getElem?
  intro i
  have hab : a * k ≤ b * k := Nat.mul_le_mul_right _ h
  rw [List.getElem?_take]
  by_cases hi : i < a * k
  · rw [if_pos hi, zerosL_get z (by omega) b i (by rw [hz]; omega), zerosL_get z (by omega) a i (by rw [hz]; exact hi)]
  · rw [if_neg hi, List.getElem?_eq_none (by rw [zerosL_length, hz]; omega)]
theorem maxLen_val : maxLen = 9223372036854775807 := rfl

section
variable {S : Sx} {W : World} {M : List Nat} {N : Nat} {o : Oper} {F : Fr} {H : Hp} {A : Value → Hp → Prop} {a : Act} {w : World}
theorem slice_get {t : Nat} {v : Value} {lo hi : Option Operand} (h : sxSlice S t v lo hi F H A) : ∃ r, A r H ∧ ∀ (a : Act), Agree N F a → ∀ w, (Instr.sliceAt t v (lo.map a.eval) (hi.map a.eval) none).run S.P w = .ok r w := by
  unfold sxSlice at h
  split at h
  · rename_i s hd
    split at h
    · rename_i l u hl hu
      cases h with
      | mk p q h1 h2 h3 h4 h =>
        refine ⟨_, h, fun a ha w => ?_⟩
        have hb := run_sliceBounds (P := S.P) false s.size s.size (lo.map a.eval) (hi.map a.eval) p q (opt_nat (d := 0) (sxOpt_get ha hl) h1) (opt_nat (d := s.size) (sxOpt_get ha hu) h2) h3 h4 w
        simp [Instr.sliceAt, Instr.slice, run_str hd, hb]
    · exact h.elim
  · rename_i e ao n cap hd
    split at h
    · rename_i l u k hl hu hk
      cases h with
      | mk p q h1 h2 h3 h4 h =>
        have hb := fun (a : Act) (ha : Agree N F a) w => run_sliceBounds (P := S.P) true n cap (lo.map a.eval) (hi.map a.eval) p q (opt_nat (d := 0) (sxOpt_get ha hl) h1) (opt_nat (d := n) (sxOpt_get ha hu) h2) h3 h4 w
        refine ⟨_, h (if cap = p then ao else ao.map (·.add (p * k))) (fun hlt => by rw [if_neg (by omega)]) (fun he => by rw [if_pos he.symm]), fun a ha w => ?_⟩
        simp [Instr.sliceAt, Instr.slice, run_sl hd, hb a ha, run_size hk]
    · exact h.elim
  · rename_i n e g off hd
    split at h
    · rename_i l u k hl hu hk
      cases h with
      | mk p q h1 h2 h3 h4 h =>
        have hb := fun (a : Act) (ha : Agree N F a) w => run_sliceBounds (P := S.P) false n n (lo.map a.eval) (hi.map a.eval) p q (opt_nat (d := 0) (sxOpt_get ha hl) h1) (opt_nat (d := n) (sxOpt_get ha hu) h2) h3 h4 w
        refine ⟨_, h (if n = p then off else off + p * k) (fun hlt => by rw [if_neg (by omega)]), fun a ha w => ?_⟩
        have hadd : (if n = p then (⟨g, off, none⟩ : Addr) else (⟨g, off, none⟩ : Addr).add (p * k)) = ⟨g, if n = p then off else off + p * k, none⟩ := by
          split
          · rfl
          · rw [Addr.add_lit]
        simp [Instr.sliceAt, run_arr hd, hb a ha, run_size hk, Instr.sureAddr, hadd]
    · exact h.elim
  · exact h.elim
theorem conv_get {src dst : Nat} {v : Value} (h : sxConv S src dst v H A) (hs : Sat W M H w) : ∃ r H' w', A r H' ∧ Sat W M H' w' ∧ (convert src dst v).run S.P w = .ok r w' := by
  unfold sxConv at h
  split at h
  · rename_i k k' n hd1 hd2
    cases h with | mk h => exact ⟨_, H, w, h, hs, by simp [convert, run_int hd1, run_int hd2, Conv.intToInt]⟩
  · rename_i s hd1 hd2
    exact ⟨_, H, w, h, hs, by simp [convert, run_str hd1, run_str hd2]⟩
  · rename_i e s hd1 hd2
    split at h
    · rename_i hd3
      obtain ⟨cap, w', hr, hc, hb, hbel, _⟩ := run_bytes_blk (P := S.P) w src dst e s (Sx.ustr hd1) (Sx.usl hd2) (Sx.uint hd3)
      cases h with | mk h => cases h w.heap.size with | mk h => exact ⟨_, _, w', h cap hc, hs.cons (Below.toGrown hbel) hb (fun g hg => by simp only [Ent.uses] at hg; omega), hr⟩
    · exact h.elim
  · rename_i e ao n cap hd1 hd2
    split at h
    · rename_i hd3
      obtain ⟨l, hl, hr⟩ := h.get (P := S.P) (cap := cap) hs src dst e (Sx.usl hd1) (Sx.uint hd3) (Sx.ustr hd2)
      exact ⟨_, H, w, hl, hs, hr⟩
    · exact h.elim
  · cases h with | mk r hr h => exact ⟨r, H, w, h, hs, hr w⟩
theorem builtin_get {b : Builtin} {tys : List TypeId} {vs : List Value} (ty : TypeId) (h : sxBuiltin S b tys vs H A) (hs : Sat W M H w) (cst : Array Bool) : ∃ r H' w', A r H' ∧ Sat W M H' w' ∧ (builtin b tys.toArray ty cst vs.toArray).run S.P w = .ok (.value r) w' := by
  unfold sxBuiltin at h
  split at h
  · rename_i t tys v
    split at h
    · rename_i s hd; exact ⟨_, H, w, h, hs, by simp [builtin, Builtin.len_, run_str hd, goInt]⟩
    · rename_i e ao n cap hd; exact ⟨_, H, w, h, hs, by simp [builtin, Builtin.len_, run_sl hd, goInt]⟩
    · rename_i n e hd; exact ⟨_, H, w, h, hs, by simp [builtin, Builtin.len_, run_arr hd, goInt]⟩
    · cases h with
      | mk n hn hA =>
        refine ⟨_, H, w, hA, hs, ?_⟩
        have := hn W M w ty hs
        simp [builtin, this, goInt]
  · rename_i k x k' y
    cases hk : sameK k k' with
    | true => rw [hk] at h; exact ⟨_, H, w, h, hs, by simp [builtin, Builtin.min_, Builtin.min2]⟩
    | false => rw [hk] at h; exact h.elim
  · rename_i k x k' y
    cases hk : sameK k k' with
    | true => rw [hk] at h; exact ⟨_, H, w, h, hs, by simp [builtin, Builtin.max_, Builtin.max2]⟩
    | false => rw [hk] at h; exact h.elim
  · rename_i t u ao n cap xo m xcap
    cases htu : Nat.beq t u with
    | false => rw [htu] at h; exact h.elim
    | true =>
      rw [htu] at h
      obtain rfl := Nat.eq_of_beq_eq_true htu
      simp only [cond_true] at h
      split at h
      · rename_i e hd
        split at h
        · rename_i d0 n0 b0 z0 hi
          cases h with
          | mk h0 h =>
            obtain ⟨ao', cap', H', w', hA, hr, hs'⟩ := SxApp.get (i := ⟨d0, n0, b0, z0⟩) h hs t ty (Sx.usl hd) hi h0.1 h0.2
            exact ⟨_, H', w', hA, hs', by simp [builtin, hr]⟩
        · exact h.elim
      · exact h.elim
  · rename_i t u ao n cap s
    split at h
    · rename_i e hd hu
      split at h
      · rename_i hi
        obtain ⟨ao', cap', H', w', hA, hr, hs'⟩ := SxAppS.get h hs t u ty (Sx.usl hd) (Sx.ustr hu) hi
        exact ⟨_, H', w', hA, hs', by simp [builtin, hr]⟩
      · exact h.elim
    · exact h.elim
  · cases h with | mk v hr h => exact ⟨v, H, w, h, hs, hr ty cst w⟩
end
end Go.Proofs.YtlmefcepdadfjaaGreat
