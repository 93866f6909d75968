/- A symbolic walk: what it says of memory is so: loads, stores, new blocks, rows that grow. No program is named here. -/
import Derived.Test.YtoacohlbelfkcaaSxC
import Derived.Maps.AppendAt
namespace Go.Proofs.Ytoacohlbelfkcaa
open Go.RowKit

theorem SxLd.get {W : World} {M : List Nat} {H : Hp} {w : World} {g off : Nat} {A : Value → Prop} (h : SxLd H g off A) (hs : Sat W M H w) : ∃ v, A v ∧ w.cell? ⟨g, off, none⟩ = some v := by
  cases h with
  | blk p hp hv h => exact ⟨_, h, by rw [(hs.blk p hp).cell, hv]⟩
  | rd p hp ha hj hv h =>
    rename_i j v
    have hr := hs.rd p hp
    have hjl : j < _ := (List.getElem?_eq_some_iff.1 hv).1
    obtain ⟨g', o', he, _, h3⟩ := hr.2 (by omega)
    rw [ha] at he
    simp only [Option.some.injEq, Addr.mk.injEq, and_true] at he
    obtain ⟨rfl, rfl⟩ := he
    exact ⟨v, h, by rw [hj, h3 j hjl, hv]⟩
  | row p hp ha hj hv h =>
    subst ha
    subst hj
    have hr := hs.row p hp
    have hjl := (List.getElem?_eq_some_iff.1 hv).1
    refine ⟨_, h, ?_⟩
    have := hr.1
    rw [Nat.zero_add, World.ownsRow.cellAt hr _ (by omega), hv]
theorem SxLdN.get {W : World} {M : List Nat} {H : Hp} {w : World} {g off n : Nat} {A : List Value → Prop} (h : SxLdN H g off n A) (hs : Sat W M H w) :
    ∃ vs, A vs ∧ vs.length = n ∧ ∀ j v, vs[j]? = some v → w.cell? ⟨g, off + j, none⟩ = some v := by
  have sub : ∀ {cs vs : List Value} {o j : Nat} {v : Value}, (cs.drop o).take n = vs → vs[j]? = some v → cs[o + j]? = some v := by
    intro cs vs o j v hv hj
    subst hv
    rw [List.getElem?_take] at hj
    split at hj
    · rw [List.getElem?_drop] at hj; exact hj
    · cases hj
  cases h with
  | blk p hp hl hv h => exact ⟨_, h, hl, fun j v hj => by rw [(hs.blk p hp).cell]; exact sub hv hj⟩
  | rd p hp ha hj hl hv h =>
    rename_i o i
    refine ⟨_, h, hl, fun j v hjv => ?_⟩
    have hc := sub hv hjv
    have hr := hs.rd p hp
    have hjl := (List.getElem?_eq_some_iff.1 hc).1
    obtain ⟨g', o', he, _, h3⟩ := hr.2 (by omega)
    rw [ha] at he
    simp only [Option.some.injEq, Addr.mk.injEq, and_true] at he
    obtain ⟨rfl, rfl⟩ := he
    rw [hj, Nat.add_assoc, h3 _ hjl, hc]
  | row p hp ha hj hl hv h =>
    subst ha
    refine ⟨_, h, hl, fun j v hjv => ?_⟩
    have hc := sub hv hjv
    have hr := hs.row p hp
    have hjl := (List.getElem?_eq_some_iff.1 hc).1
    have h1 := hr.1
    rw [hj, Nat.zero_add, World.ownsRow.cellAt hr _ (by omega), hc]
theorem run_loadVar_one {P : Program} {t : TypeId} {ad : Addr} {v : Value} {w : World} (hagg : (isAgg t).run P w = .ok false w) (hc : w.cell? ad = some v) : (loadVar t ad).run P w = .ok v w := by
  simp [loadVar, Sem.run_bind, hagg, run_load, hc]
theorem run_loadVar_many {P : Program} {t : TypeId} {g off n : Nat} {vs : List Value} {w : World} (hagg : (isAgg t).run P w = .ok true w) (hsz : (sizeOf t).run P w = .ok n w) (hl : vs.length = n)
    (hc : ∀ j v, vs[j]? = some v → w.cell? ⟨g, off + j, none⟩ = some v) : (loadVar t ⟨g, off, none⟩).run P w = .ok (.agg vs.toArray) w := by
  have h := run_loadCells_list (P := P) w ⟨g, off, none⟩ vs (fun j v hv => by rw [Addr.add_lit]; exact hc j v hv)
  rw [hl] at h
  simp [loadVar, Sem.run_bind, hagg, hsz, h]
theorem splice_step (cs : List Value) (k : Nat) (v : Value) (rest : List Value) (h : k + (v :: rest).length ≤ cs.length) : splice (k + 1) rest (cs.set k v) = splice k (v :: rest) cs := by
  have := put_step cs k v rest h
  unfold splice
  exact this
theorem run_storeCells_raw {P : Program} (g o e lo hi : Nat) : ∀ (vs : List Value) (i : Nat) (cur : Array Value) (w : World), w.heap[g]? = some (.cells cur e (lo, hi)) → (hi ≤ lo ∨ cur.size ≤ lo) → o + i + vs.length ≤ cur.size → (∀ v ∈ vs, v.oneCell' = true) →
    ∃ w' cur', (storeCells ⟨g, o, none⟩ vs i).run P w = .ok () w' ∧ w'.heap[g]? = some (.cells cur' e (lo, hi)) ∧ cur'.toList = splice (o + i) vs cur.toList ∧ Only g w w'
  | [], i, cur, w, hb, _, _, _ => ⟨w, cur, rfl, hb, by simp [splice], Only.refl⟩
  | v :: rest, i, cur, w, hb, hf, hl, h1 => by
    have hi' : o + i < cur.size := by simp at hl; omega
    have hcell : w.cell? ⟨g, o + i, none⟩ = some cur[o + i] := by simp [World.cell?, hb, hi']
    have hfro : w.frozen? ⟨g, o + i, none⟩ = false := by
      simp only [World.frozen?, hb, Bool.and_eq_false_iff, decide_eq_false_iff_not]
      omega
    have hst : (store ((⟨g, o, none⟩ : Addr).add i) v).run P w = .ok () (w.setCell ⟨g, o + i, none⟩ v) := by
      rw [Addr.add_lit, run_store P w _ v _ (h1 v (by simp)), hcell]
      simp [hfro]
    have hb2 : (w.setCell ⟨g, o + i, none⟩ v).heap[g]? = some (.cells (cur.setIfInBounds (o + i) v) e (lo, hi)) := by simp [World.setCell, Array.getElem?_modify, hb]
    obtain ⟨w', cur', hr, hb', hc', ho⟩ := run_storeCells_raw (P := P) g o e lo hi rest (i + 1) (cur.setIfInBounds (o + i) v) (w.setCell ⟨g, o + i, none⟩ v) hb2 (by simpa using hf) (by simp at hl ⊢; omega) (fun x hx => h1 x (by simp [hx]))
    refine ⟨w', cur', ?_, hb', ?_, (Only.setCell _ _).trans ho⟩
    · simp only [storeCells, Sem.run_bind, hst, Result.andThen_ok, hr]
    · rw [hc', Array.toList_setIfInBounds]
      have := splice_step cur.toList (o + i) v rest (by simp at hl ⊢; omega)
      rw [← this, Nat.add_assoc]
theorem splice_length (off : Nat) (vs cs : List Value) (h : off + vs.length ≤ cs.length) : (splice off vs cs).length = cs.length := by simp [splice]; omega
theorem splice_take (off : Nat) (vs cs : List Value) (m : Nat) (h : off + vs.length ≤ m) (hm : m ≤ cs.length) : (splice off vs cs).take m = splice off vs (cs.take m) := by
  unfold splice
  rw [List.append_assoc, List.take_append, List.append_assoc, List.length_take, List.take_append, Nat.min_eq_left (by omega), List.take_take, Nat.min_eq_right (by omega), List.take_of_length_le (by omega : vs.length ≤ m - off)]
  rw [List.take_take, Nat.min_eq_left (by omega)]
  congr 2
  rw [List.drop_take, Nat.sub_sub]
theorem SxSt.get {P : Program} {W : World} {M : List Nat} {H : Hp} {w : World} {g off : Nat} {vs : List Value} {A : Hp → Prop} (h : SxSt H g off vs A) (hs : Sat W M H w) :
    ∃ w' H', (storeCells ⟨g, off, none⟩ vs 0).run P w = .ok () w' ∧ Sat W M H' w' ∧ A H' := by
  cases h with
  | blk p hp hl h1 hc h =>
    replace hl := Nat.le_of_ble_eq_true hl
    replace h1 := allOne_mem h1
    obtain ⟨cur, lo, hi, hb, hcur, hf⟩ := hs.blk p hp
    subst hcur
    obtain ⟨w', cur', hr, hb', hc', ho⟩ := run_storeCells_raw (P := P) g off _ lo hi vs 0 cur w hb (by simpa using hf) (by simpa using hl) h1
    rename_i e' cs'
    have hh : (Ent.blk g e' cs').Holds w' := by
      refine ⟨cur', lo, hi, hb', ?_, ?_⟩
      · rw [hc', Nat.add_zero, hc]
      · rw [← hc, splice_length _ _ _ hl]; exact hf
    refine ⟨w', _, hr, hs.set hp (Only.toGrown ho) hh (fun x hx => .inl ?_), h⟩
    simp only [Ent.uses] at hx
    simp [Ent.own, hx]
  | row p hp ha hj hl h1 hc h =>
    replace h1 := allOne_mem h1
    subst ha
    subst hj
    rename_i n cap e k cs j cs'
    have hr := hs.row p hp
    rcases hr.2 with ⟨hv, _⟩ | ⟨g', cap', cur, hv, hbg, hh, hnc, hcm, hcs, htake⟩
    · simp at hv
    · simp only [Value.slice.injEq, Option.some.injEq, Addr.mk.injEq, and_true, true_and] at hv
      obtain ⟨rfl, rfl⟩ := hv
      have hlen : cs.length = n * k := hr.1
      have hnk : n * k ≤ cap * k := Nat.mul_le_mul_right _ hnc
      have hrest : j + vs.length ≤ cur.size := by omega
      obtain ⟨w', cur', hr2, hb', hc', ho⟩ := run_storeCells_raw (P := P) g j e 0 0 vs 0 cur w hh (.inl (Nat.le_refl _)) (by simpa using hrest) h1
      have hh' : (Ent.row (some ⟨g, 0, none⟩) n cap e k cs').Holds w' := by
        refine ⟨?_, .inr ⟨g, cap, cur', rfl, Nat.zero_le _, hb', hnc, hcm, ?_, ?_⟩⟩
        · rw [← hc, splice_length _ _ _ hl, hlen]
        · rw [← hcs, ← Array.length_toList, hc', splice_length _ _ _ (by simpa using hrest), Array.length_toList]
        · rw [hc', Nat.add_zero, splice_take _ _ _ _ (by omega) (by simp; omega), htake, hc]
      refine ⟨w', _, by rw [Nat.zero_add]; exact hr2, hs.set hp (Only.toGrown ho) hh' (fun x hx => .inl ?_), h⟩
      simpa [Ent.uses, Ent.own] using hx
theorem run_storeVar_of {P : Program} {t : TypeId} {v : Value} {ad : Addr} {w w' : World} {k : Nat} (hsz : (sizeOf t).run P w = .ok k w) (hv : v.cells.size = k) (h : (storeCells ad v.cells.toList 0).run P w = .ok () w') : (storeVar t ad v).run P w = .ok () w' := by
  simp [storeVar, hsz, hv, h]
theorem SxStr.get {P : Program} {W : World} {M : List Nat} {H : Hp} {w : World} {ao : Option Addr} {n cap : Nat} {A : List UInt8 → Prop} (h : SxStr H ao n A) (hs : Sat W M H w) (src dst e : TypeId) (h1 : P.underlying src = some (.slice e)) (h2 : P.underlying e = some (.int .u8)) (h3 : P.underlying dst = some .string) :
    ∃ l, A l ∧ (convert src dst (.slice ao n cap)).run P w = .ok (.string ⟨l.toArray⟩) w := by
  have key : ∀ (l : List UInt8), l.length = n → (0 < n → ∃ g o, ao = some ⟨g, o, none⟩ ∧ ∀ j, j < n → w.cell? ⟨g, o + j, none⟩ = (l.map fun b => Value.int .u8 (b.toNat : Int))[j]?) → (convert src dst (.slice ao n cap)).run P w = .ok (.string ⟨l.toArray⟩) w := by
    intro l hl hh
    cases ao with
    | none =>
      have : n = 0 := by
        rcases Nat.eq_zero_or_pos n with h | h
        · exact h
        · obtain ⟨g, o, h, _⟩ := hh h; cases h
      subst this
      have : l = [] := List.eq_nil_of_length_eq_zero hl
      subst this
      rw [run_convert_bytes_string w src dst e _ 0 cap h1 h2 h3]
      simp [Conv.bytesToString]
      rfl
    | some ad =>
      subst hl
      refine run_convert_bytes_back w src dst e ad cap l h1 h2 h3 fun j hj => ?_
      obtain ⟨g, o, he, hc⟩ := hh (by omega)
      obtain rfl := Option.some.inj he
      rw [Addr.add_lit, hc j hj]
      simp [hj]
  cases h with
  | rd p hp l hn hl h =>
    refine ⟨l, h, key l hn fun h0 => ?_⟩
    have hr := hs.rd p hp
    rename_i cs
    have hlen : n ≤ cs.length := by
      have := congrArg List.length hl
      simp at this
      omega
    obtain ⟨g, o, he, _, hc⟩ := hr.2 (by omega)
    refine ⟨g, o, he, fun j hj => ?_⟩
    rw [hc j (by omega), ← hl, List.getElem?_take, if_pos hj]
  | blk p ha hp l hn hl h =>
    refine ⟨l, h, key l hn fun h0 => ?_⟩
    rename_i g o e' cs
    refine ⟨g, o, ha, fun j hj => ?_⟩
    rw [(hs.blk p hp).cell, ← hl, List.getElem?_take, if_pos hj, List.getElem?_drop]
  | row p hp l hn hl h =>
    refine ⟨l, h, key l hn fun h0 => ?_⟩
    rename_i m cap' e' cs
    have hr := hs.row p hp
    have hlen : n ≤ cs.length := by
      have := congrArg List.length hl
      simp at this
      omega
    have h1 := hr.1
    rcases hr.2 with ⟨hv, h0⟩ | ⟨g, cap2, cur, hv, _⟩
    · simp [h0] at h1; subst h1; simp at hlen; omega
    · simp only [Value.slice.injEq] at hv
      refine ⟨g, 0, hv.1, fun j hj => ?_⟩
      have hr2 := hr
      rw [hv.1] at hr2
      rw [Nat.zero_add, World.ownsRow.cellAt hr2 j (by omega), ← hl, List.getElem?_take, if_pos hj]
theorem run_append_nothing {P : Program} {w : World} {t ty e : TypeId} {i : TypeInfo} {z : Value} {n k cap : Nat} {ao : Option Addr} {xs : List Value} (ht : P.underlying t = some (.slice e)) (hi : P.info? e = some i) (hz : i.zero = some z) (hown : w.ownsRow 0 e k (.slice ao n cap) n xs) :
    (Builtin.append_ #[t, t] ty #[.slice ao n cap, .slice none 0 0]).run P w = .ok (.slice ao n cap) w := by
  have hc : n ≤ cap := by
    rcases hown.2 with ⟨h, rfl⟩ | ⟨g, cap', cur, h, _, _, hc, _⟩
    · omega
    · simp only [Value.slice.injEq] at h; omega
  exact run_append_nil w t ty e i z ht hi hz ao n cap hc
theorem SxApp.get {S : Sx} {W : World} {M : List Nat} {H : Hp} {w : World} {ao xo : Option Addr} {n cap e m xcap : Nat} {i : TInf} {A : Option Addr → Nat → Hp → Prop} (h : SxApp H ao n cap e i.size i.bytes xo m xcap A) (hs : Sat W M H w)
    (t ty : TypeId) (ht : S.P.underlying t = some (.slice e)) (hi : tl S.T e = some i) (hz : i.zero.cells.size = i.size) (hk : 0 < i.size) :
    ∃ ao' cap' H' w', A ao' cap' H' ∧ (Builtin.append_ #[t, t] ty #[.slice ao n cap, .slice xo m xcap]).run S.P w = .ok (.slice ao' (n + m) cap') w' ∧ Sat W M H' w' := by
  obtain ⟨x, hx0, hx1, hx2, hx3⟩ := Sx.info hi
  cases h with
  | mk p hp q hx hm h1 h63 hb hc h =>
    replace h1 := allOne_mem h1
    rename_i cs vs cs'
    have hr := hs.row p hp
    have main : ∀ (ad : Addr), xo = some ad → (∀ j u, vs[j]? = some u → w.cell? (ad.add j) = some u) → ∃ ao' cap' H' w', A ao' cap' H' ∧ (Builtin.append_ #[t, t] ty #[.slice ao n cap, .slice xo m xcap]).run S.P w = .ok (.slice ao' (n + m) cap') w' ∧ Sat W M H' w' := by
      rintro ad rfl hnews
      obtain ⟨v', w', hrun, hown, hgr, _, hat⟩ := run_append_own_at (P := S.P) w 0 t ty e x i.zero i.size i.bytes ht hx0 hx1 hx2 hx3 hz hk _ n cs hr ad m xcap vs hm hnews h1 h63 hb (Nat.zero_le _)
      have form : ∃ ao' cap', v' = .slice ao' (n + m) cap' := by
        rcases hown.2 with ⟨rfl, h0⟩ | ⟨g, c, cur, rfl, _⟩
        · exact ⟨none, 0, by rw [h0]⟩
        · exact ⟨_, _, rfl⟩
      obtain ⟨ao', cap', rfl⟩ := form
      refine ⟨ao', cap', _, w', h ao' cap', hrun, hs.set hp ?_ (by rw [← hc]; exact hown) ?_⟩
      · have : (Value.slice ao n cap).ownBlock = (Ent.row ao n cap e i.size cs).own := by cases ao <;> rfl
        rw [← this]; exact hgr
      · intro g hg
        have h1 : (Value.slice ao' (n + m) cap').ownBlock = some g := by
          cases ao' with
          | none => cases hg
          | some a => simpa [Ent.uses, Value.ownBlock] using hg
        rcases hat with h2 | h2
        · left
          rw [h1] at h2
          cases ao with
          | none => cases h2
          | some a => simpa [Ent.own, Value.ownBlock] using h2.symm
        · right
          rw [h1] at h2
          have := Option.some.inj h2
          omega
    have nothing : xo = none → xcap = 0 → vs = [] → ∃ ao' cap' H' w', A ao' cap' H' ∧ (Builtin.append_ #[t, t] ty #[.slice ao n cap, .slice xo m xcap]).run S.P w = .ok (.slice ao' (n + m) cap') w' ∧ Sat W M H' w' := by
      rintro rfl rfl rfl
      have hm0 : m = 0 := by
        rcases Nat.eq_zero_or_pos m with h | h
        · exact h
        · have := Nat.mul_pos h hk; simp at hm; omega
      subst hm0
      refine ⟨ao, cap, _, w, h ao cap, run_append_nothing ht hx0 hx1 hr, ?_⟩
      refine hs.set hp ⟨rfl, rfl, rfl, Nat.le_refl _, fun _ _ _ => rfl⟩ (by rw [← hc, List.append_nil]; exact hr) fun g hg => .inl hg
    rcases hx with ⟨h1, h2, h3, _⟩ | ⟨hq, hcap⟩ | ⟨g, e', rfl, all, hq, hall⟩ | ⟨_, e', hq⟩
    · exact nothing h1 h2 h3
    · have hrd := hs.rd q hq
      cases xo with
      | none =>
        refine nothing rfl (hcap rfl) ?_
        cases vs with
        | nil => rfl
        | cons v vs => obtain ⟨g, off, h, _⟩ := hrd.2 (by simp); cases h
      | some ad =>
        refine main ad rfl fun j u hj => ?_
        have hjl := (List.getElem?_eq_some_iff.1 hj).1
        obtain ⟨g, off, he, _, h3⟩ := hrd.2 (by omega)
        obtain rfl := Option.some.inj he
        rw [Addr.add_lit, h3 j hjl, hj]
    · refine main ⟨g, 0, none⟩ rfl fun j u hj => ?_
      rw [Addr.add_lit, Nat.zero_add, (hs.blk q hq).cell]
      rw [← hall, List.getElem?_take] at hj
      split at hj
      · exact hj
      · cases hj
    · have hrq := hs.row q hq
      cases xo with
      | none =>
        rcases hrq.2 with ⟨hv, h0⟩ | ⟨g, c, cur, hv, _⟩
        · have hl := hrq.1
          simp only [Value.slice.injEq] at hv
          subst h0
          exact nothing rfl hv.2.2 (List.eq_nil_of_length_eq_zero (by simpa using hl))
        · cases hv
      | some ad =>
        refine main ad rfl fun j u hj => ?_
        have hjl := (List.getElem?_eq_some_iff.1 hj).1
        have hl := hrq.1
        rcases hrq.2 with ⟨hv, h0⟩ | ⟨g, c, cur, hv, _⟩
        · cases hv
        · simp only [Value.slice.injEq, Option.some.injEq] at hv
          obtain ⟨rfl, _, rfl⟩ := hv
          rw [Addr.add_lit, Nat.zero_add, World.ownsRow.cellAt hrq j (by omega), hj]
end Go.Proofs.Ytoacohlbelfkcaa
