/- Texts of this claim, one behind the other. -/
import Derived.Test.YtlmefcepdadfjaaGreatZMtB
/- Layer 19: at, whether a chunk is at a known place. -/
namespace Go.Proofs.YtlmefcepdadfjaaGreat
open Go.RowKit

set_option maxHeartbeats 4000000 in
theorem at2_any (q : Fq) (l : List Nat) (lo : Option Addr) (lc gm g1 g2 g3 : Nat) (kv : List (Value × Value)) (hlook : LookIs SX 170 kv (fqV q) false (.slice lo l.length lc)) (p : Nat → Bool) (w : World) (hm : MapH fqKey w gm kv) (hr : Rd w lo (natE.fl l))
    (hc : ∀ i ∈ l, ∀ w1, Below w.heap.size w w1 → Calls Tryz.prog 100 #[.int .i64 (i : Nat), .pointer (some ⟨g1, 0, none⟩), .pointer (some ⟨g2, 0, none⟩), .pointer (some ⟨g3, 0, none⟩)] w1 fun e w' => e = .returned (.bool (p i)) ∧ Below w1.heap.size w1 w') :
    Calls Tryz.prog 99 #[.map (some gm), fqV q, .func (.func 100) #[] #[.pointer (some ⟨g1, 0, none⟩), .pointer (some ⟨g2, 0, none⟩), .pointer (some ⟨g3, 0, none⟩)]] w fun e w' => e = .returned (.int .i64 (atL p l)) ∧ Below w.heap.size w w' := by
  have hlen : l.length * 1 ≤ maxLen := by have := hr.1; rw [natE_len] at this; exact this
  unfold maxLen at hlen
  refine sx_fn (S := SX) (M := []) (N := 22) (H0 := [mapR fqKey gm kv, .rd lo (natE.fl l)]) Tryz.func99 rfl rfl rfl (Sat.rdsM w [] _ fun j e hj => by
    match j, hj with
    | 0, hj => cases hj; exact ⟨rfl, hm⟩
    | 1, hj => cases hj; exact ⟨rfl, hr⟩) ?_
  ((try refine sU ?_);repeat(refine sN fun _=>?_;try refine sU ?_))
  refine SxLdN.blk 0 rfl (vs := fqC q) (fqC_len q) (fqC_take q) ?_
  ((try refine sU ?_);repeat(refine sN fun _=>?_;try refine sU ?_))
  refine SxSem.lookG fqKey rfl Tryz.underlying169 rfl rfl (IsMap.r fqKey (p := 1) rfl) (fqKey_ok q) hlook ?_
  ((try refine sU ?_);repeat(refine sN fun _=>?_;try refine sU ?_))
  refine SxCode.loop (σ := Nat) [13, 6] [14, 15, 16, 8, 17, 18, 19, 20, 6, 21, 13] (fun k => [.int .i64 (k : Nat), .int .i64 0]) (fun _ => [.rd lo (natE.fl l)]) (fun k => k ≤ l.length ∧ ∀ (j : Nat) (y : Nat), j < k → l[j]? = some y → p y = false) (fun k => l.length - k) 0 [2] rfl rfl rfl rfl ⟨Nat.zero_le _, fun j y hj => absurd hj (Nat.not_lt_zero _)⟩ ?_
  rintro k ⟨hk, hall⟩
  ((try refine sU ?_);repeat(refine sN fun _=>?_;try refine sU ?_))
  refine SxIf.dec (fun h => ?_) (fun h => ?_)
  · have hlt : k < l.length := by omega
    obtain ⟨x, hx⟩ : ∃ x, l[k]? = some x := ⟨l[k], by simp [hlt]⟩
    ((try refine sU ?_);repeat(refine sN fun _=>?_;try refine sU ?_))
    refine SxIA.rd 0 _ rfl k rfl hlt (by rw [natE_len]; omega) fun g off ha => ?_
    ((try refine sU ?_);repeat(refine sN fun _=>?_;try refine sU ?_))
    refine SxLd.rd 0 rfl ha rfl (j := k * 1) (natE_at hx) ?_
    ((try refine sU ?_);repeat(refine sN fun _=>?_;try refine sU ?_))
    refine SxCall.quietS (fun w1 hs => hc x (List.mem_of_getElem? hx) w1 hs.touch.below) ?_
    ((try refine sU ?_);repeat(refine sN fun _=>?_;try refine sU ?_))
    refine ⟨fun hp => ?_, fun hp => ?_⟩
    · have he : atL p l = (x : Nat) := by unfold atL; rw [find_at1 hall hx hp]
      ((try refine sU ?_);repeat(refine sN fun _=>?_;try refine sU ?_))
      exact SxDone.mk fun w' hs => ⟨by rw [he]; rfl, hs.touch.below⟩
    · ((try refine sU ?_);repeat(refine sN fun _=>?_;try refine sU ?_))
      refine SxRound.mk (k + 1) [0] rfl rfl rfl ⟨hlt, fun j y hj hy => ?_⟩ (by omega)
      rcases Nat.lt_succ_iff_lt_or_eq.1 hj with h2 | h2
      · exact hall j y h2 hy
      · subst h2
        obtain rfl := Option.some.inj (hx.symm.trans hy)
        exact hp
  · obtain rfl : k = l.length := by omega
    have he : atL p l = -1 := by
      unfold atL
      rw [List.find?_eq_none.2 fun x hx => by
        obtain ⟨j, hj⟩ := List.getElem?_of_mem hx
        rw [hall j x (List.getElem?_eq_some_iff.1 hj).1 hj]
        simp]
    ((try refine sU ?_);repeat(refine sN fun _=>?_;try refine sU ?_))
    exact SxDone.mk fun w' hs => ⟨by rw [he]; rfl, hs.touch.below⟩
set_option maxHeartbeats 4000000 in
theorem at3_any (q : Fq) (l : List Nat) (lo : Option Addr) (lc gm g1 g2 : Nat) (kv : List (Value × Value)) (hlook : LookIs SX 170 kv (fqV q) false (.slice lo l.length lc)) (p : Nat → Bool) (w : World) (hm : MapH fqKey w gm kv) (hr : Rd w lo (natE.fl l))
    (hc : ∀ i ∈ l, ∀ w1, Below w.heap.size w w1 → Calls Tryz.prog 101 #[.int .i64 (i : Nat), .pointer (some ⟨g1, 0, none⟩), .pointer (some ⟨g2, 0, none⟩)] w1 fun e w' => e = .returned (.bool (p i)) ∧ Below w1.heap.size w1 w') :
    Calls Tryz.prog 99 #[.map (some gm), fqV q, .func (.func 101) #[] #[.pointer (some ⟨g1, 0, none⟩), .pointer (some ⟨g2, 0, none⟩)]] w fun e w' => e = .returned (.int .i64 (atL p l)) ∧ Below w.heap.size w w' := by
  have hlen : l.length * 1 ≤ maxLen := by have := hr.1; rw [natE_len] at this; exact this
  unfold maxLen at hlen
  refine sx_fn (S := SX) (M := []) (N := 22) (H0 := [mapR fqKey gm kv, .rd lo (natE.fl l)]) Tryz.func99 rfl rfl rfl (Sat.rdsM w [] _ fun j e hj => by
    match j, hj with
    | 0, hj => cases hj; exact ⟨rfl, hm⟩
    | 1, hj => cases hj; exact ⟨rfl, hr⟩) ?_
  ((try refine sU ?_);repeat(refine sN fun _=>?_;try refine sU ?_))
  refine SxLdN.blk 0 rfl (vs := fqC q) (fqC_len q) (fqC_take q) ?_
  ((try refine sU ?_);repeat(refine sN fun _=>?_;try refine sU ?_))
  refine SxSem.lookG fqKey rfl Tryz.underlying169 rfl rfl (IsMap.r fqKey (p := 1) rfl) (fqKey_ok q) hlook ?_
  ((try refine sU ?_);repeat(refine sN fun _=>?_;try refine sU ?_))
  refine SxCode.loop (σ := Nat) [13, 6] [14, 15, 16, 8, 17, 18, 19, 20, 6, 21, 13] (fun k => [.int .i64 (k : Nat), .int .i64 0]) (fun _ => [.rd lo (natE.fl l)]) (fun k => k ≤ l.length ∧ ∀ (j : Nat) (y : Nat), j < k → l[j]? = some y → p y = false) (fun k => l.length - k) 0 [2] rfl rfl rfl rfl ⟨Nat.zero_le _, fun j y hj => absurd hj (Nat.not_lt_zero _)⟩ ?_
  rintro k ⟨hk, hall⟩
  ((try refine sU ?_);repeat(refine sN fun _=>?_;try refine sU ?_))
  refine SxIf.dec (fun h => ?_) (fun h => ?_)
  · have hlt : k < l.length := by omega
    obtain ⟨x, hx⟩ : ∃ x, l[k]? = some x := ⟨l[k], by simp [hlt]⟩
    ((try refine sU ?_);repeat(refine sN fun _=>?_;try refine sU ?_))
    refine SxIA.rd 0 _ rfl k rfl hlt (by rw [natE_len]; omega) fun g off ha => ?_
    ((try refine sU ?_);repeat(refine sN fun _=>?_;try refine sU ?_))
    refine SxLd.rd 0 rfl ha rfl (j := k * 1) (natE_at hx) ?_
    ((try refine sU ?_);repeat(refine sN fun _=>?_;try refine sU ?_))
    refine SxCall.quietS (fun w1 hs => hc x (List.mem_of_getElem? hx) w1 hs.touch.below) ?_
    ((try refine sU ?_);repeat(refine sN fun _=>?_;try refine sU ?_))
    refine ⟨fun hp => ?_, fun hp => ?_⟩
    · have he : atL p l = (x : Nat) := by unfold atL; rw [find_at1 hall hx hp]
      ((try refine sU ?_);repeat(refine sN fun _=>?_;try refine sU ?_))
      exact SxDone.mk fun w' hs => ⟨by rw [he]; rfl, hs.touch.below⟩
    · ((try refine sU ?_);repeat(refine sN fun _=>?_;try refine sU ?_))
      refine SxRound.mk (k + 1) [0] rfl rfl rfl ⟨hlt, fun j y hj hy => ?_⟩ (by omega)
      rcases Nat.lt_succ_iff_lt_or_eq.1 hj with h2 | h2
      · exact hall j y h2 hy
      · subst h2
        obtain rfl := Option.some.inj (hx.symm.trans hy)
        exact hp
  · obtain rfl : k = l.length := by omega
    have he : atL p l = -1 := by
      unfold atL
      rw [List.find?_eq_none.2 fun x hx => by
        obtain ⟨j, hj⟩ := List.getElem?_of_mem hx
        rw [hall j x (List.getElem?_eq_some_iff.1 hj).1 hj]
        simp]
    ((try refine sU ?_);repeat(refine sN fun _=>?_;try refine sU ?_))
    exact SxDone.mk fun w' hs => ⟨by rw [he]; rfl, hs.touch.below⟩
def byVal (gb : Nat) : Value := .func (.func 71) #[.pointer (some ⟨gb, 0, none⟩)] #[]
def byN : Nat := 71
def byArgs (gb : Nat) (e : En) : Array Value := #[.pointer (some ⟨gb, 0, none⟩), .agg (enC e).toArray]
theorem enE_len1 (l : List En) : (enE.fl l).length = l.length * 35 := enE.fl_len l
theorem enE_at1 {l : List En} {k : Nat} {x : En} (h : l[k]? = some x) : ((enE.fl l).drop (k * 35)).take 35 = enC x := enE.fl_at h
theorem enE_cell1 {l : List En} {k j : Nat} {x : En} {v : Value} (h : l[k]? = some x) (hv : (enC x)[j]? = some v) : (enE.fl l)[k * 35 + j]? = some v := enE.fl_cell (j := j) h hv
def okT (e : En) (t : ByteArray × Bool) (c : ByteArray) : Bool := decide (e.ln = (c.size : Nat)) && (t.2 && decide (t.1 = c))
theorem strEq_dec (a b : ByteArray) : strEq a b = decide (a = b) := by
  by_cases he : a = b
  · rw [decide_eq_true he, he]; exact (strEq_iff _ _).2 rfl
  · rw [decide_eq_false he]
    cases hb : strEq a b with
    | false => rfl
    | true => exact absurd ((strEq_iff _ _).1 hb) he
set_option maxHeartbeats 4000000 in
theorem Seg2_any (es : List En) (t : ByteArray × Bool) (c : ByteArray) (i : Nat) (x : En) (hx : es[i]? = some x) (ko : Option Addr) (kc g1 g2 g3 gb : Nat) (w : World) (h1 : Rd w (some ⟨g1, 0, none⟩) [.slice ko es.length kc]) (h2 : Rd w (some ⟨g2, 0, none⟩) [.string c]) (h3 : Rd w (some ⟨g3, 0, none⟩) [byVal gb]) (hr : Rd w ko (enE.fl es))
    (hB : ∀ w1, Below w.heap.size w w1 → Calls Tryz.prog byN (byArgs gb x) w1 fun e w' => e = .returned (.tuple #[.string t.1, .bool t.2]) ∧ Below w1.heap.size w1 w') :
    Calls Tryz.prog 100 #[.int .i64 (i : Nat), .pointer (some ⟨g1, 0, none⟩), .pointer (some ⟨g2, 0, none⟩), .pointer (some ⟨g3, 0, none⟩)] w fun e w' => e = .returned (.bool (okT x t c)) ∧ Below w.heap.size w w' := by
  have hi := (List.getElem?_eq_some_iff.1 hx).1
  have hcl : es.length * 35 ≤ maxLen := by have := hr.1; rw [enE_len1] at this; exact this
  unfold maxLen at hcl
  refine sx_fn (S := SX) (M := []) (N := 31) (H0 := [.rd (some ⟨g1, 0, none⟩) [.slice ko es.length kc], .rd (some ⟨g2, 0, none⟩) [.string c], .rd (some ⟨g3, 0, none⟩) [byVal gb], .rd ko (enE.fl es)]) Tryz.func100 rfl rfl rfl (Sat.rdsM w [] _ fun j e hj => by
    match j, hj with
    | 0, hj => cases hj; exact ⟨rfl, h1⟩
    | 1, hj => cases hj; exact ⟨rfl, h2⟩
    | 2, hj => cases hj; exact ⟨rfl, h3⟩
    | 3, hj => cases hj; exact ⟨rfl, hr⟩) ?_
  ((try refine sU ?_);repeat(refine sN fun _=>?_;try refine sU ?_))
  refine SxCode.drawAll rfl [] ?_
  ((try refine sU ?_);repeat(refine sN fun _=>?_;try refine sU ?_))
  refine SxLd.rd 0 rfl rfl (j := 0) rfl rfl ?_
  ((try refine sU ?_);repeat(refine sN fun _=>?_;try refine sU ?_))
  refine SxIA.rd 3 _ rfl i rfl hi (by rw [enE_len1]; omega) fun g off ha => ?_
  ((try refine sU ?_);repeat(refine sN fun _=>?_;try refine sU ?_))
  refine SxLd.rd 3 rfl ha (by omega) (j := i * 35 + 32) (enE_cell1 hx (enC_tail x 0 _ rfl)) ?_
  ((try refine sU ?_);repeat(refine sN fun _=>?_;try refine sU ?_))
  refine SxLd.rd 1 rfl rfl (j := 0) rfl rfl ?_
  ((try refine sU ?_);repeat(refine sN fun _=>?_;try refine sU ?_))
  refine SxIf.ne (fun hne => ?_) (fun heq => ?_)
  · ((try refine sU ?_);repeat(refine sN fun _=>?_;try refine sU ?_))
    exact SxDone.mk fun w' hs => ⟨by unfold okT; rw [decide_eq_false hne]; rfl, hs.touch.below⟩
  · ((try refine sU ?_);repeat(refine sN fun _=>?_;try refine sU ?_))
    refine SxCode.drawAll rfl [] ?_
    ((try refine sU ?_);repeat(refine sN fun _=>?_;try refine sU ?_))
    refine SxLd.rd 2 rfl rfl (j := 0) rfl rfl ?_
    ((try refine sU ?_);repeat(refine sN fun _=>?_;try refine sU ?_))
    refine SxLd.rd 0 rfl rfl (j := 0) rfl rfl ?_
    ((try refine sU ?_);repeat(refine sN fun _=>?_;try refine sU ?_))
    refine SxIA.rd 3 _ rfl i rfl hi (by rw [enE_len1]; omega) fun g off ha => ?_
    ((try refine sU ?_);repeat(refine sN fun _=>?_;try refine sU ?_))
    refine SxLdN.rd 3 rfl ha rfl (vs := enC x) (enC_len x) (enE_at1 hx) ?_
    ((try refine sU ?_);repeat(refine sN fun _=>?_;try refine sU ?_))
    refine SxCall.quietS (v := .tuple #[.string t.1, .bool t.2]) (fun w1 hs => hB w1 hs.touch.below) ?_
    ((try refine sU ?_);repeat(refine sN fun _=>?_;try refine sU ?_))
    refine ⟨fun ht => ?_, fun ht => ?_⟩
    · ((try refine sU ?_);repeat(refine sN fun _=>?_;try refine sU ?_))
      refine SxLd.rd 1 rfl rfl (j := 0) rfl rfl ?_
      ((try refine sU ?_);repeat(refine sN fun _=>?_;try refine sU ?_))
      refine SxDone.mk fun w' hs => ⟨?_, hs.touch.below⟩
      show Ending.returned (.bool (strEq t.1 c)) = _
      unfold okT
      rw [decide_eq_true heq, ht, strEq_dec]; rfl
    · ((try refine sU ?_);repeat(refine sN fun _=>?_;try refine sU ?_))
      exact SxDone.mk fun w' hs => ⟨by unfold okT; rw [ht, Bool.false_and, Bool.and_false]; rfl, hs.touch.below⟩
end Go.Proofs.YtlmefcepdadfjaaGreat
/- Layer 19: maps from fingerprints to places. -/
namespace Go.Proofs.YtlmefcepdadfjaaGreat
open Go.RowKit

def idxs (ps : List (Nat × Fq)) (q : Fq) : List Nat := (ps.filter fun x => decide (x.2 = q)).map (·.1)
theorem idxs_snoc (ps : List (Nat × Fq)) (i : Nat) (r q : Fq) : idxs (ps ++ [(i, r)]) q = idxs ps q ++ (if r = q then [i] else []) := by
  unfold idxs
  rw [List.filter_append, List.map_append]
  congr 1
  by_cases h : r = q
  · rw [if_pos h]; simp [h]
  · rw [if_neg h]; simp [h]
theorem idxs_mem {ps : List (Nat × Fq)} {q : Fq} {i : Nat} : i ∈ idxs ps q ↔ (i, q) ∈ ps := by
  unfold idxs
  rw [List.mem_map]
  constructor
  · rintro ⟨⟨j, r⟩, hm, rfl⟩
    obtain ⟨h1, h2⟩ := List.mem_filter.1 hm
    have : r = q := by simpa using h2
    exact this ▸ h1
  · intro h
    exact ⟨(i, q), List.mem_filter.2 ⟨h, by simp⟩, rfl⟩
theorem idxs_len (ps : List (Nat × Fq)) (q : Fq) : (idxs ps q).length ≤ ps.length := by unfold idxs; rw [List.length_map]; exact List.length_filter_le _ _
abbrev FMap := List (Fq × Drow Nat)
def kvF (es : FMap) : List (Value × Value) := es.map fun x => (fqV x.1, x.2.v)
def rowsF (es : FMap) : Hp := (es.map (·.2)).map (Drow.ent natE 3)
theorem rowsF_len (es : FMap) : (rowsF es).length = es.length := by unfold rowsF; rw [List.length_map, List.length_map]
theorem kvF_at {es : FMap} {j : Nat} {q : Fq} {d : Drow Nat} (h : es[j]? = some (q, d)) : (kvF es)[j]? = some (fqV q, d.v) := by unfold kvF; rw [List.getElem?_map, h]; rfl
theorem rowsF_at {es : FMap} {j : Nat} {q : Fq} {d : Drow Nat} (h : es[j]? = some (q, d)) : (rowsF es)[j]? = some (.row d.ao d.l.length d.cap 3 1 (natE.fl d.l)) := by unfold rowsF; rw [List.getElem?_map, List.getElem?_map, h]; rfl
theorem kvF_set (es : FMap) (j : Nat) (q : Fq) (d : Drow Nat) : kvF (es.set j (q, d)) = (kvF es).set j (fqV q, d.v) := List.map_set
theorem rowsF_set (es : FMap) (j : Nat) (q : Fq) (d : Drow Nat) : rowsF (es.set j (q, d)) = (rowsF es).set j (.row d.ao d.l.length d.cap 3 1 (natE.fl d.l)) := by unfold rowsF; rw [List.map_set, List.map_set]; rfl
theorem kvF_snoc (es : FMap) (q : Fq) (d : Drow Nat) : kvF (es ++ [(q, d)]) = kvF es ++ [(fqV q, d.v)] := List.map_append
theorem rowsF_snoc (es : FMap) (q : Fq) (d : Drow Nat) : rowsF (es ++ [(q, d)]) = rowsF es ++ [.row d.ao d.l.length d.cap 3 1 (natE.fl d.l)] := by unfold rowsF; rw [List.map_append, List.map_append]; rfl
theorem kvF_no {es : FMap} {q : Fq} (h : ∀ d, (q, d) ∉ es) : ∀ x ∈ kvF es, x.1 ≠ fqV q := by
  intro x hx he
  obtain ⟨⟨r, d⟩, hm, rfl⟩ := List.mem_map.1 hx
  have : r = q := fqV_inj he
  subst this
  exact h d hm
structure IsBp (es : FMap) (ps : List (Nat × Fq)) : Prop where
  nd : (es.map (·.1)).Nodup
  val : ∀ q d, (q, d) ∈ es → d.l = idxs ps q ∧ d.l ≠ []
  all : ∀ q, idxs ps q ≠ [] → ∃ d, (q, d) ∈ es
theorem IsBp.nil : IsBp [] [] := ⟨List.nodup_nil, fun _ _ h => by simp at h, fun q h => absurd rfl h⟩
theorem IsBp.has {es : FMap} {ps : List (Nat × Fq)} (h : IsBp es ps) (q : Fq) : (∃ (j : Nat) (d : Drow Nat), es[j]? = some (q, d) ∧ d.l = idxs ps q) ∨ (idxs ps q = [] ∧ ∀ d, (q, d) ∉ es) := by
  by_cases hq : idxs ps q = []
  · exact .inr ⟨hq, fun d hd => (h.val q d hd).2 (by rw [(h.val q d hd).1, hq])⟩
  · obtain ⟨d, hd⟩ := h.all q hq
    obtain ⟨j, hj⟩ := List.getElem?_of_mem hd
    exact .inl ⟨j, d, hj, (h.val q d hd).1⟩
theorem nodup_atF {es : FMap} (hnd : (es.map (·.1)).Nodup) {i j : Nat} {q : Fq} {m n : Drow Nat} (hi : es[i]? = some (q, m)) (hj : es[j]? = some (q, n)) : i = j := by
  have hil := (List.getElem?_eq_some_iff.1 hi).1
  have hjl := (List.getElem?_eq_some_iff.1 hj).1
  have h2 := List.nodup_iff_pairwise_ne.1 hnd
  rw [List.pairwise_iff_getElem] at h2
  have e1 : (es.map (·.1))[i]'(by simpa using hil) = q := by rw [List.getElem_map, (List.getElem?_eq_some_iff.1 hi).2]
  have e2 : (es.map (·.1))[j]'(by simpa using hjl) = q := by rw [List.getElem_map, (List.getElem?_eq_some_iff.1 hj).2]
  rcases Nat.lt_trichotomy i j with h | h | h
  · exact absurd (e1.trans e2.symm) (h2 i j (by simpa using hil) (by simpa using hjl) h)
  · exact h
  · exact absurd (e2.trans e1.symm) (h2 j i (by simpa using hjl) (by simpa using hil) h)
theorem IsBp.upd {es : FMap} {ps : List (Nat × Fq)} (h : IsBp es ps) {q : Fq} {j i : Nat} {d d' : Drow Nat} (hj : es[j]? = some (q, d)) (hd : d'.l = d.l ++ [i]) : IsBp (es.set j (q, d')) (ps ++ [(i, q)]) := by
  have hl := (List.getElem?_eq_some_iff.1 hj).1
  have hk : (es.set j (q, d')).map (·.1) = es.map (·.1) := map_set_same (fun x : Fq × Drow Nat => x.1) (e' := (q, d')) hj rfl
  have hv := h.val q d (List.mem_of_getElem? hj)
  refine ⟨by rw [hk]; exact h.nd, fun r m hm => ?_, fun r hr => ?_⟩
  · obtain ⟨k, hkk⟩ := List.getElem?_of_mem hm
    rw [List.getElem?_set] at hkk
    by_cases hjk : j = k
    · subst hjk
      rw [if_pos rfl, if_pos hl] at hkk
      simp only [Option.some.injEq, Prod.mk.injEq] at hkk
      obtain ⟨rfl, rfl⟩ := hkk
      rw [idxs_snoc, if_pos rfl, hd, hv.1]
      exact ⟨rfl, by simp⟩
    · rw [if_neg hjk] at hkk
      have hne : q ≠ r := fun e => hjk (by subst e; exact nodup_atF h.nd hj hkk)
      rw [idxs_snoc, if_neg hne, List.append_nil]
      exact h.val r m (List.mem_of_getElem? hkk)
  · by_cases hne : q = r
    · subst hne
      exact ⟨d', List.mem_of_getElem? (i := j) (by rw [List.getElem?_set_self hl])⟩
    · rw [idxs_snoc, if_neg hne, List.append_nil] at hr
      obtain ⟨m, hm⟩ := h.all r hr
      obtain ⟨k, hkk⟩ := List.getElem?_of_mem hm
      have hjk : j ≠ k := fun e => by subst e; rw [hj] at hkk; simp only [Option.some.injEq, Prod.mk.injEq] at hkk; exact hne hkk.1
      exact ⟨m, List.mem_of_getElem? (i := k) (by rw [List.getElem?_set, if_neg hjk, hkk])⟩
theorem IsBp.new {es : FMap} {ps : List (Nat × Fq)} (h : IsBp es ps) {q : Fq} {i : Nat} {d' : Drow Nat} (hq : idxs ps q = []) (hn : ∀ d, (q, d) ∉ es) (hd : d'.l = [i]) : IsBp (es ++ [(q, d')]) (ps ++ [(i, q)]) := by
  refine ⟨?_, fun r m hm => ?_, fun r hr => ?_⟩
  · rw [List.map_append]
    refine List.nodup_append.2 ⟨h.nd, by simp, fun a ha b hb e => ?_⟩
    simp at hb
    subst hb e
    obtain ⟨⟨x, m⟩, hm, rfl⟩ := List.mem_map.1 ha
    exact hn m hm
  · rcases List.mem_append.1 hm with hm | hm
    · have hne : q ≠ r := fun e => by subst e; exact hn m hm
      rw [idxs_snoc, if_neg hne, List.append_nil]
      exact h.val r m hm
    · simp only [List.mem_singleton, Prod.mk.injEq] at hm
      obtain ⟨rfl, rfl⟩ := hm
      rw [idxs_snoc, if_pos rfl, hq, hd]
      exact ⟨rfl, by simp⟩
  · by_cases hne : q = r
    · subst hne; exact ⟨d', by simp⟩
    · rw [idxs_snoc, if_neg hne, List.append_nil] at hr
      obtain ⟨m, hm⟩ := h.all r hr
      exact ⟨m, List.mem_append_left _ hm⟩
theorem IsBp.look {es : FMap} {ps : List (Nat × Fq)} (h : IsBp es ps) (q : Fq) : ∃ lo lc, LookIs SX 170 (kvF es) (fqV q) false (.slice lo (idxs ps q).length lc) ∧ ∀ w, (∀ d ∈ es.map (·.2), Rd w d.ao (natE.fl d.l)) → Rd w lo (natE.fl (idxs ps q)) := by
  rcases h.has q with ⟨j, d, hj, hd⟩ | ⟨hq, hn⟩
  · refine ⟨d.ao, d.cap, .inl ⟨j, _, kvF_at hj, ?_⟩, fun w hw => ?_⟩
    · rw [← hd]; rfl
    · rw [← hd]; exact hw d (List.mem_map.2 ⟨(q, d), List.mem_of_getElem? hj, rfl⟩)
  · refine ⟨none, 0, .inr ⟨kvF_no hn, _, rfl, ?_⟩, fun w _ => ?_⟩
    · rw [hq]; rfl
    · rw [hq]; exact ⟨by show 0 ≤ maxLen; exact Nat.zero_le _, fun h => absurd h (by show ¬ 0 < 0; omega)⟩
def En.fq (e : En) : Fq := ⟨e.fp, e.hf⟩
def psK (es : List En) : List (Nat × Fq) := es.zipIdx.map fun x => (x.2, x.1.fq)
theorem psK_snoc {es : List En} {k : Nat} {x : En} (h : es[k]? = some x) : psK (es.take (k + 1)) = psK (es.take k) ++ [(k, x.fq)] := by
  have hk := (List.getElem?_eq_some_iff.1 h).1
  rw [take_snocE h]
  unfold psK
  rw [List.zipIdx_append, List.map_append]
  congr 1
  simp [List.length_take, Nat.min_eq_left (Nat.le_of_lt hk)]
theorem psK_mem {es : List En} {i : Nat} {q : Fq} (h : (i, q) ∈ psK es) : ∃ x, es[i]? = some x ∧ x.fq = q := by
  unfold psK at h
  obtain ⟨⟨x, j⟩, hm, he⟩ := List.mem_map.1 h
  simp only [Prod.mk.injEq] at he
  obtain ⟨rfl, rfl⟩ := he
  exact ⟨x, List.mem_zipIdx_iff_getElem?.1 hm, rfl⟩
theorem enC_fq (x : En) : ((enC x).drop 0).take 32 = fqC x.fq := by
  rw [List.drop_zero]
  show (x.fp.map u8V ++ enT x.ln x.bx x.sl).take 32 = x.fp.map u8V
  rw [List.take_append_of_le_length (by rw [List.length_map, x.hf]; exact Nat.le_refl _), List.take_of_length_le (by rw [List.length_map, x.hf]; exact Nat.le_refl _)]
end Go.Proofs.YtlmefcepdadfjaaGreat
