/- Texts of this claim, one behind the other. -/
import Derived.Test.YtlmefcepdadfjaaGreatZSlFp
import Derived.Test.YtlmefcepdadfjaaGreatZSlSr
import Derived.Test.YtlmefcepdadfjaaGreatZGen
/- Layer 23: what a place of a new box holds; what the library tells of a place; told. -/
namespace Go.Proofs.YtlmefcepdadfjaaGreat
open Go.RowKit

abbrev Nb := Int × Drow ByteArray
def Nb.mb (b : Nb) : Mb := (b.1, b.2.ao, b.2.l.length, b.2.cap)
def Nb.bx (b : Nb) : Bx := (b.1, b.2.l)
theorem Nb.mb_at {bs : List Nb} {k : Nat} {x : Nb} (h : bs[k]? = some x) : (bs.map Nb.mb)[k]? = some x.mb := by rw [List.getElem?_map, h]; rfl
theorem Nb.bx_at {bs : List Nb} {k : Nat} {x : Nb} (h : bs[k]? = some x) : (bs.map Nb.bx)[k]? = some x.bx := by rw [List.getElem?_map, h]; rfl
def bxL (bs : List Nb) : RdL := bs.map fun b => (b.2.ao, strE.fl b.2.l)
theorem bxL_mem {bs : List Nb} {b : Nb} (h : b ∈ bs) : (b.2.ao, strE.fl b.2.l) ∈ bxL bs := List.mem_map.2 ⟨b, h, rfl⟩
theorem boxI_cases (bs : List Nb) (b : Int) : (boxI (bs.map Nb.mb) b = -1 ∧ (bs.map Nb.bx).find? (fun x : Bx => x.1 == b) = none) ∨ ∃ (k : Nat) (x : Nb), boxI (bs.map Nb.mb) b = k ∧ bs[k]? = some x ∧ (bs.map Nb.bx).find? (fun x : Bx => x.1 == b) = some x.bx := by
  have hp : ∀ i : Nat, ((((bs.map Nb.mb)[i]?).map Prod.fst) == some b) = true ↔ ∃ x : Nb, bs[i]? = some x ∧ x.1 = b := by
    intro i
    rw [List.getElem?_map]
    cases h : bs[i]? with
    | none => simp
    | some x => simp [Nb.mb]
  unfold boxI
  cases h : (List.range (bs.map Nb.mb).length).find? (fun i => (((bs.map Nb.mb)[i]?).map Prod.fst) == some b) with
  | none =>
    refine .inl ⟨rfl, List.find?_eq_none.2 fun y hy => ?_⟩
    obtain ⟨x, hx, rfl⟩ := List.mem_map.1 hy
    obtain ⟨i, hi⟩ := List.getElem?_of_mem hx
    have h2 := List.find?_eq_none.1 h i (List.mem_range.2 (by rw [List.length_map]; exact (List.getElem?_eq_some_iff.1 hi).1))
    intro h3
    exact h2 ((hp i).2 ⟨x, hi, by simpa [Nb.bx] using h3⟩)
  | some k =>
    rw [List.find?_range_eq_some] at h
    obtain ⟨x, hx, hxb⟩ := (hp k).1 h.1
    refine .inr ⟨k, x, rfl, hx, ?_⟩
    rw [List.find?_eq_some_iff_getElem]
    obtain ⟨hl, he⟩ := List.getElem?_eq_some_iff.1 hx
    refine ⟨by simp [Nb.bx, hxb], k, by rw [List.length_map]; exact hl, by rw [List.getElem_map, he], fun j hj => ?_⟩
    have h4 := h.2.2 j hj
    rw [List.getElem_map]
    cases h5 : (bs[j]'(by omega)).bx.1 == b with
    | false => rfl
    | true =>
      have : ((((bs.map Nb.mb)[j]?).map Prod.fst) == some b) = true := (hp j).2 ⟨bs[j]'(by omega), by simp, by simpa [Nb.bx] using h5⟩
      rw [this] at h4; cases h4
theorem chunkP_ge {bs : List Bx} {b s : Int} {x : Bx} (h : bs.find? (fun x : Bx => x.1 == b) = some x) (hs : ¬ (0 ≤ s ∧ s < x.2.length)) : chunkP bs b s = (⟨#[]⟩, true, false) := by unfold chunkP; rw [h]; dsimp only; rw [if_neg hs]
theorem chunkP_in {bs : List Bx} {b : Int} {j : Nat} {x : Bx} {t : ByteArray} (h : bs.find? (fun x : Bx => x.1 == b) = some x) (ht : x.2[j]? = some t) : chunkP bs b (j : Nat) = (t, true, true) := by
  have hj := (List.getElem?_eq_some_iff.1 ht).1
  unfold chunkP; rw [h]; dsimp only; rw [if_pos ⟨by omega, by omega⟩, Int.toNat_natCast, List.getD_eq_getElem?_getD, ht]; rfl
def ldC (box man : Int) (mans boxes : Value) (last fresh : Int) : List Value := [.int .u32 box, .int .u32 man, mans, boxes, .int .i64 last, .int .i64 fresh]
set_option maxHeartbeats 4000000 in
theorem chunk_any (bs : List Nb) (hbl : bs.length ≤ 1000000) (e : En) (g : Nat) (box man last fresh : Int) (mv : Value) (bo : Option Addr) (bc : Nat) (rest : List Value) (w : World)
    (hr : Rd w (some ⟨g, 0, none⟩) (ldC box man mv (.slice bo bs.length bc) last fresh ++ rest)) (hb : Rd w bo (mbE.fl (bs.map Nb.mb))) (hd : RdAll w (bxL bs)) :
    Calls Tryz.prog 103 #[.pointer (some ⟨g, 0, none⟩), .agg (enC e).toArray] w fun r w' => r = .returned (.tuple #[.string (chunkP (bs.map Nb.bx) e.bx e.sl).1, .bool (chunkP (bs.map Nb.bx) e.bx e.sl).2.1, .bool (chunkP (bs.map Nb.bx) e.bx e.sl).2.2]) ∧ Below w.heap.size w w' := by
  have hml : (bs.map Nb.mb).length = bs.length := List.length_map ..
  have hidx := boxI_cases bs e.bx
  obtain ⟨i, hi⟩ : ∃ i, i = boxI (bs.map Nb.mb) e.bx := ⟨_, rfl⟩
  rw [← hi] at hidx
  refine sx_fn (S := SX) (M := []) (N := 47) (H0 := [.rd (some ⟨g, 0, none⟩) (ldC box man mv (.slice bo bs.length bc) last fresh ++ rest), .rd bo (mbE.fl (bs.map Nb.mb)), .gen (rdsG (bxL bs))]) Tryz.func103 rfl rfl rfl (Sat.rdsM w [] _ fun j e hj => by
    match j, hj with
    | 0, hj => cases hj; exact ⟨rfl, hr⟩
    | 1, hj => cases hj; exact ⟨rfl, hb⟩
    | 2, hj => cases hj; exact ⟨rfl, hd⟩) ?_
  ((try refine sU ?_);repeat(refine sN fun _=>?_;try refine sU ?_))
  refine SxLd.rd 1 rfl rfl (j := 3) (v := .slice bo bs.length bc) rfl rfl ?_
  ((try refine sU ?_);repeat(refine sN fun _=>?_;try refine sU ?_))
  rename_i ge
  refine SxCall.quietS (v := .int .i64 i) (fun w1 hs1 => by
    have h := BoxIdx_any (bs.map Nb.mb) (by omega) e bo bc ge w1 (hs1.rd 2 rfl) (Rd.of_blk (hs1.blk 0 rfl) (by rw [enC_len]; unfold maxLen; omega))
    rw [hml, ← hi] at h
    exact h) ?_
  rcases hidx with ⟨rfl, hn⟩ | ⟨k, x, rfl, hx, hn⟩
  · have : chunkP (bs.map Nb.bx) e.bx e.sl = (⟨#[]⟩, false, false) := by unfold chunkP; rw [hn]
    rw [this]
    ((try refine sU ?_);repeat(refine sN fun _=>?_;try refine sU ?_))
    exact SxDone.mk fun w' hs => ⟨rfl, hs.touch.below⟩
  · have hlt := (List.getElem?_eq_some_iff.1 hx).1
    by_cases h0 : e.sl < 0
    · rw [chunkP_ge hn (by omega)]
      ((try refine sU ?_);repeat(refine sN fun _=>?_;try refine sU ?_))
      refine SxCode.drawAll rfl [] ?_
      ((try refine sU ?_);repeat(refine sN fun _=>?_;try refine sU ?_))
      refine SxLd.blk 0 rfl (v := .int .i64 e.sl) (enC_tail e 2 _ rfl) ?_
      ((try refine sU ?_);repeat(refine sN fun _=>?_;try refine sU ?_))
      exact SxDone.mk fun w' hs => ⟨rfl, hs.touch.below⟩
    · obtain ⟨j, hj⟩ : ∃ j : Nat, e.sl = j := ⟨e.sl.toNat, by omega⟩
      have hsl : (enC e)[34]? = some (.int .i64 (j : Nat)) := by rw [← hj]; exact enC_tail e 2 _ rfl
      have hco := mbE.fl_cell (j := 1) (v := .slice x.2.ao x.2.l.length x.2.cap) (Nb.mb_at hx) rfl
      have hmem : x ∈ bs := List.mem_of_getElem? hx
      have hkl : k * 2 < (mbE.fl (bs.map Nb.mb)).length := by rw [mbE_len, hml]; omega
      rcases Nat.lt_or_ge j x.2.l.length with h1 | h1
      case' inl =>
        obtain ⟨t, ht⟩ : ∃ t, x.2.l[j]? = some t := ⟨x.2.l[j], by simp [h1]⟩
        rw [hj, chunkP_in hn ht]
      case' inr => rw [chunkP_ge hn (by show ¬ (0 ≤ e.sl ∧ e.sl < (x.2.l.length : Nat)); omega)]
      all_goals
        ((try refine sU ?_);repeat(refine sN fun _=>?_;try refine sU ?_))
        refine SxCode.drawAll rfl [] ?_
        ((try refine sU ?_);repeat(refine sN fun _=>?_;try refine sU ?_))
        refine SxLd.blk 0 rfl (v := .int .i64 (j : Nat)) hsl ?_
        ((try refine sU ?_);repeat(refine sN fun _=>?_;try refine sU ?_))
        refine SxLd.blk 0 rfl (v := .int .i64 (j : Nat)) hsl ?_
        ((try refine sU ?_);repeat(refine sN fun _=>?_;try refine sU ?_))
        refine SxLd.rd 1 rfl rfl (j := 3) (v := .slice bo bs.length bc) rfl rfl ?_
        ((try refine sU ?_);repeat(refine sN fun _=>?_;try refine sU ?_))
        refine SxIA.rd 2 _ rfl k rfl hlt hkl fun g1 off ha => ?_
        ((try refine sU ?_);repeat(refine sN fun _=>?_;try refine sU ?_))
        refine SxLd.rd 2 rfl ha (by omega) (j := k * 2 + 1) (v := .slice x.2.ao x.2.l.length x.2.cap) hco ?_
        ((try refine sU ?_);repeat(refine sN fun _=>?_;try refine sU ?_))
      · exact SxDone.mk fun w' hs => ⟨rfl, hs.touch.below⟩
      · refine SxCode.drawAll rfl [] ?_
        ((try refine sU ?_);repeat(refine sN fun _=>?_;try refine sU ?_))
        refine SxLd.rd 1 rfl rfl (j := 3) (v := .slice bo bs.length bc) rfl rfl ?_
        ((try refine sU ?_);repeat(refine sN fun _=>?_;try refine sU ?_))
        refine SxIA.rd 2 _ rfl k rfl hlt hkl fun g1 off ha => ?_
        ((try refine sU ?_);repeat(refine sN fun _=>?_;try refine sU ?_))
        refine SxLd.rd 2 rfl ha (by omega) (j := k * 2 + 1) (v := .slice x.2.ao x.2.l.length x.2.cap) hco ?_
        ((try refine sU ?_);repeat(refine sN fun _=>?_;try refine sU ?_))
        refine SxLd.blk 0 rfl (v := .int .i64 (j : Nat)) hsl ?_
        ((try refine sU ?_);repeat(refine sN fun _=>?_;try refine sU ?_))
        refine SxIA.of 3 rfl (bxL_mem hmem) j rfl h1 (by rw [rowSr_len]; omega) fun g2 off2 ha2 => ?_
        ((try refine sU ?_);repeat(refine sN fun _=>?_;try refine sU ?_))
        refine SxLd.of 3 rfl (bxL_mem hmem) ha2 rfl (j := j * 1) (rowSr_cell (j := 0) ht rfl) ?_
        ((try refine sU ?_);repeat(refine sN fun _=>?_;try refine sU ?_))
        exact SxDone.mk fun w' hs => ⟨rfl, hs.touch.below⟩
end Go.Proofs.YtlmefcepdadfjaaGreat
/- Layer 23: what the library tells of a place; what a stream is told of an entry. -/
namespace Go.Proofs.YtlmefcepdadfjaaGreat
open Go.RowKit

inductive Lb where
  | no
  | lib (gl : Nat) (go : Option Addr) (gc : Nat) (gs : List (Drow Rk))
def Lb.G : Lb → List (List Rk)
  | .no => []
  | .lib _ _ _ gs => gs.map (·.l)
def lbC (go : Option Addr) (n gc : Nat) : List Value := [.slice go n gc, .pointer none, .slice none 0 0, .int .i64 0]
def grL (go : Option Addr) (gs : List (Drow Rk)) : RdL := (go, (dvE (α := Rk)).fl gs) :: gs.map fun d => (d.ao, rkE.fl d.l)
def Lb.rds : Lb → RdL
  | .no => []
  | .lib gl go gc gs => (some ⟨gl, 0, none⟩, lbC go gs.length gc) :: grL go gs
theorem grL_mem {go : Option Addr} {gs : List (Drow Rk)} {d : Drow Rk} (h : d ∈ gs) : (d.ao, rkE.fl d.l) ∈ grL go gs := List.mem_cons_of_mem _ (List.mem_map.2 ⟨d, h, rfl⟩)
theorem grL_head {go : Option Addr} {gs : List (Drow Rk)} : (go, (dvE (α := Rk)).fl gs) ∈ grL go gs := List.mem_cons_self ..
def hitR (b s : Int) (r : Rk) : Bool := r.en.bx == b && r.en.sl == s
theorem bytesG_no {gs : List (List Rk)} {b s : Int} (h : ∀ g ∈ gs, ∀ r ∈ g, hitR b s r = false) : bytesG gs b s = (⟨#[]⟩, false) := by
  unfold bytesG
  rw [List.find?_eq_none.2 fun r hr => by
    obtain ⟨g, hg, hr⟩ := List.mem_flatten.1 hr
    have := h g hg r hr
    unfold hitR at this
    rw [this]; simp]
theorem bytesG_hit {gs : List (List Rk)} {b s : Int} {i j : Nat} {g : List Rk} {r : Rk} (hg : gs[i]? = some g) (hr : g[j]? = some r) (hit : hitR b s r = true) (h1 : ∀ i', i' < i → ∀ g', gs[i']? = some g' → ∀ x ∈ g', hitR b s x = false) (h2 : ∀ j', j' < j → ∀ x, g[j']? = some x → hitR b s x = false) : bytesG gs b s = (r.s, r.has) := by
  have hsplit : gs = gs.take i ++ g :: gs.drop (i + 1) := by
    obtain ⟨hl, he⟩ := List.getElem?_eq_some_iff.1 hg
    rw [← he, List.getElem_cons_drop, List.take_append_drop]
  have hsplit2 : g = g.take j ++ r :: g.drop (j + 1) := by
    obtain ⟨hl, he⟩ := List.getElem?_eq_some_iff.1 hr
    rw [← he, List.getElem_cons_drop, List.take_append_drop]
  have e : gs.flatten.find? (hitR b s) = some r := by
    rw [hsplit, List.flatten_append, List.find?_append]
    have n1 : (gs.take i).flatten.find? (hitR b s) = none := List.find?_eq_none.2 fun x hx => by
      obtain ⟨g', hg', hx⟩ := List.mem_flatten.1 hx
      obtain ⟨k, hk⟩ := List.getElem?_of_mem hg'
      rw [List.getElem?_take] at hk
      split at hk
      · rename_i hki; rw [h1 k hki g' hk x hx]; simp
      · cases hk
    have n2 : (g.take j).find? (hitR b s) = none := List.find?_eq_none.2 fun x hx => by
      obtain ⟨k, hk⟩ := List.getElem?_of_mem hx
      rw [List.getElem?_take] at hk
      split at hk
      · rename_i hki; rw [h2 k hki x hk]; simp
      · cases hk
    rw [n1, Option.none_or, List.flatten_cons, List.find?_append]
    have n3 : g.find? (hitR b s) = some r := by
      rw [hsplit2, List.find?_append, n2, Option.none_or, List.find?_cons_of_pos hit]
    rw [n3, Option.some_or]
  unfold bytesG
  rw [show (fun r : Rk => r.en.bx == b && r.en.sl == s) = hitR b s from rfl, e]
set_option maxHeartbeats 4000000 in
theorem RBytes_any (go : Option Addr) (gc : Nat) (gs : List (Drow Rk)) (hgl : gs.length ≤ 1000) (hdl : ∀ d ∈ gs, d.l.length ≤ 1000) (e : En) (w : World) (hr : RdAll w (grL go gs)) :
    Calls Tryz.prog 36 #[.agg (lbC go gs.length gc).toArray, .agg (enC e).toArray] w fun r w' => r = .returned (.tuple #[.string (bytesG (gs.map (·.l)) e.bx e.sl).1, .bool (bytesG (gs.map (·.l)) e.bx e.sl).2]) ∧ Below w.heap.size w w' := by
  refine sx_fn (S := SX) (M := []) (N := 52) (H0 := [.gen (rdsG (grL go gs))]) Tryz.func36 rfl rfl rfl (Sat.rdsM w [] _ fun j e hj => by
    match j, hj with
    | 0, hj => cases hj; exact ⟨rfl, hr⟩) ?_
  ((try refine sU ?_);repeat(refine sN fun _=>?_;try refine sU ?_))
  rename_i bl be
  have hml : (gs.map (·.l)).length = gs.length := List.length_map ..
  refine SxCode.loop (σ := Nat) [6, 4, 5] [9, 10, 11, 12, 13, 7, 16, 17, 18, 19, 20, 21, 22, 23, 26, 27, 28, 29, 30, 31, 32, 33, 8, 34, 35, 36, 37, 38, 39, 40, 41, 42, 43, 44, 45, 46, 47, 48, 49, 50, 51, 4, 5, 24, 25, 14, 15, 6] (fun i => [.int .i64 (i : Nat), .string ⟨#[]⟩, .bool false]) (fun _ => [.blk be 71 (enC e), .blk bl 36 (lbC go gs.length gc), .gen (rdsG (grL go gs))]) (fun i => i ≤ gs.length ∧ ∀ i', i' < i → ∀ g', (gs.map (·.l))[i']? = some g' → ∀ x ∈ g', hitR e.bx e.sl x = false) (fun i => gs.length - i) 0 [0, 1, 2] rfl rfl rfl rfl ⟨Nat.zero_le _, fun i' hi => absurd hi (Nat.not_lt_zero _)⟩ ?_
  rintro i ⟨hi, hall⟩
  by_cases hlt : i < gs.length
  · obtain ⟨d, hd⟩ : ∃ d, gs[i]? = some d := ⟨gs[i], by simp [hlt]⟩
    have hdm := List.mem_of_getElem? hd
    have hdl1 := hdl d hdm
    have hgd : (gs.map (·.l))[i]? = some d.l := by rw [List.getElem?_map, hd]; rfl
    have hi1 : i * 1 < ((dvE (α := Rk)).fl gs).length := by rw [dvE_len]; omega
    ((try refine sU ?_);repeat(refine sN fun _=>?_;try refine sU ?_))
    refine SxCode.loop (σ := Nat) [7, 4, 5] [16, 17, 18, 19, 20, 21, 22, 23, 26, 27, 28, 29, 30, 31, 32, 33, 8, 34, 35, 36, 37, 38, 39, 40, 41, 42, 43, 44, 45, 46, 47, 48, 49, 50, 51, 4, 5, 24, 25, 7] (fun j => [.int .i64 (j : Nat), .string ⟨#[]⟩, .bool false]) (fun _ => [.blk be 71 (enC e), .blk bl 36 (lbC go gs.length gc), .gen (rdsG (grL go gs))]) (fun j => j ≤ d.l.length ∧ ∀ j', j' < j → ∀ x, d.l[j']? = some x → hitR e.bx e.sl x = false) (fun j => d.l.length - j) 0 [0, 1, 2] rfl rfl rfl rfl ⟨Nat.zero_le _, fun i' hi => absurd hi (Nat.not_lt_zero _)⟩ ?_
    rintro j ⟨hj, hallj⟩
    by_cases hjlt : j < d.l.length
    · obtain ⟨r, hr1⟩ : ∃ r, d.l[j]? = some r := ⟨d.l[j], by simp [hjlt]⟩
      ((try refine sU ?_);repeat(refine sN fun _=>?_;try refine sU ?_))
      refine SxIA.of 2 rfl grL_head i rfl hlt hi1 fun g1 off ha => ?_
      ((try refine sU ?_);repeat(refine sN fun _=>?_;try refine sU ?_))
      refine SxLd.of 2 rfl grL_head ha rfl (j := i * 1) (dvE_at hd) ?_
      ((try refine sU ?_);repeat(refine sN fun _=>?_;try refine sU ?_))
      refine SxIA.of 2 rfl grL_head i rfl hlt hi1 fun g1 off ha => ?_
      ((try refine sU ?_);repeat(refine sN fun _=>?_;try refine sU ?_))
      refine SxLd.of 2 rfl grL_head ha rfl (j := i * 1) (dvE_at hd) ?_
      ((try refine sU ?_);repeat(refine sN fun _=>?_;try refine sU ?_))
      refine SxIA.of 2 rfl (grL_mem hdm) j rfl hjlt (by rw [rkE_len]; omega) fun g1 off ha => ?_
      ((try refine sU ?_);repeat(refine sN fun _=>?_;try refine sU ?_))
      refine SxLdN.of 2 rfl (grL_mem hdm) ha rfl (vs := rkC r) (rkC_len r) (rkE_at hr1) ?_
      ((try refine sU ?_);repeat(refine sN fun _=>?_;try refine sU ?_))
      refine SxSt.elem rkE (x := r) 0 rfl rfl ?_
      ((try refine sU ?_);repeat(refine sN fun _=>?_;try refine sU ?_))
      refine SxLd.blk 0 rfl (v := .int .u32 r.en.bx) (rkC_head (enC_tail r.en 1 _ rfl)) ?_
      ((try refine sU ?_);repeat(refine sN fun _=>?_;try refine sU ?_))
      refine SxLd.blk 1 rfl (v := .int .u32 e.bx) (enC_tail e 1 _ rfl) ?_
      by_cases hb : r.en.bx = e.bx
      · ((try refine sU ?_);repeat(refine sN fun _=>?_;try refine sU ?_))
        refine SxLd.blk 0 rfl (v := .int .i64 r.en.sl) (rkC_head (enC_tail r.en 2 _ rfl)) ?_
        ((try refine sU ?_);repeat(refine sN fun _=>?_;try refine sU ?_))
        refine SxLd.blk 1 rfl (v := .int .i64 e.sl) (enC_tail e 2 _ rfl) ?_
        by_cases hsl : r.en.sl = e.sl
        · have hit : hitR e.bx e.sl r = true := by unfold hitR; rw [hb, hsl]; simp
          have hres := bytesG_hit hgd hr1 hit hall hallj
          ((try refine sU ?_);repeat(refine sN fun _=>?_;try refine sU ?_))
          refine SxCode.drawAll rfl [] ?_
          ((try refine sU ?_);repeat(refine sN fun _=>?_;try refine sU ?_))
          refine SxLd.blk 0 rfl (v := .string r.s) (rkC_tail r 1) ?_
          ((try refine sU ?_);repeat(refine sN fun _=>?_;try refine sU ?_))
          refine SxLd.blk 0 rfl (v := .bool r.has) (rkC_tail r 0) ?_
          ((try refine sU ?_);repeat(refine sN fun _=>?_;try refine sU ?_))
          exact SxDone.mk fun w' hs => ⟨by rw [hres]; rfl, hs.touch.below⟩
        · have hit : hitR e.bx e.sl r = false := by unfold hitR; rw [show (r.en.sl == e.sl) = false by simp [hsl]]; simp
          ((try refine sU ?_);repeat(refine sN fun _=>?_;try refine sU ?_))
          refine SxRound.mk (j + 1) [1, 2, 3] rfl rfl rfl ⟨hjlt, fun j' hj' x hx => ?_⟩ (by omega)
          rcases Nat.lt_succ_iff_lt_or_eq.1 hj' with h2 | h2
          · exact hallj j' h2 x hx
          · subst h2
            obtain rfl := Option.some.inj (hr1.symm.trans hx)
            exact hit
      · have hit : hitR e.bx e.sl r = false := by unfold hitR; rw [show (r.en.bx == e.bx) = false by simp [hb]]; simp
        ((try refine sU ?_);repeat(refine sN fun _=>?_;try refine sU ?_))
        refine SxRound.mk (j + 1) [1, 2, 3] rfl rfl rfl ⟨hjlt, fun j' hj' x hx => ?_⟩ (by omega)
        rcases Nat.lt_succ_iff_lt_or_eq.1 hj' with h2 | h2
        · exact hallj j' h2 x hx
        · subst h2
          obtain rfl := Option.some.inj (hr1.symm.trans hx)
          exact hit
    · obtain rfl : j = d.l.length := by omega
      ((try refine sU ?_);repeat(refine sN fun _=>?_;try refine sU ?_))
      refine SxIA.of 2 rfl grL_head i rfl hlt hi1 fun g1 off ha => ?_
      ((try refine sU ?_);repeat(refine sN fun _=>?_;try refine sU ?_))
      refine SxLd.of 2 rfl grL_head ha rfl (j := i * 1) (dvE_at hd) ?_
      ((try refine sU ?_);repeat(refine sN fun _=>?_;try refine sU ?_))
      refine SxRound.mk (i + 1) [0, 1, 2] rfl rfl rfl ⟨hlt, fun i' hi' g' hg' x hx => ?_⟩ (by omega)
      rcases Nat.lt_succ_iff_lt_or_eq.1 hi' with h2 | h2
      · exact hall i' h2 g' hg' x hx
      · subst h2
        obtain rfl := Option.some.inj (hgd.symm.trans hg')
        obtain ⟨k, hk⟩ := List.getElem?_of_mem hx
        exact hallj k (List.getElem?_eq_some_iff.1 hk).1 x hk
  · obtain rfl : i = gs.length := by omega
    have hres : bytesG (gs.map (·.l)) e.bx e.sl = (⟨#[]⟩, false) := bytesG_no fun g hg r hr => by
      obtain ⟨k, hk⟩ := List.getElem?_of_mem hg
      exact hall k (by rw [← hml]; exact (List.getElem?_eq_some_iff.1 hk).1) g hk r hr
    ((try refine sU ?_);repeat(refine sN fun _=>?_;try refine sU ?_))
    exact SxDone.mk fun w' hs => ⟨by rw [hres]; rfl, hs.touch.below⟩
theorem enC_whole (e : En) : ((enC e).drop 0).take 35 = enC e := by rw [List.drop_zero, List.take_of_length_le (Nat.le_of_eq (enC_len e))]
theorem told2_any (gl : Nat) (go : Option Addr) (gc : Nat) (gs : List (Drow Rk)) (hgl : gs.length ≤ 1000) (hdl : ∀ d ∈ gs, d.l.length ≤ 1000) (e : En) (w : World) (hr : RdAll w (Lb.lib gl go gc gs).rds) :
    Calls Tryz.prog 35 #[.agg (enC e).toArray, .pointer (some ⟨gl, 0, none⟩)] w fun r w' => r = .returned (.tuple #[.string (bytesG (gs.map (·.l)) e.bx e.sl).1, .bool (bytesG (gs.map (·.l)) e.bx e.sl).2]) ∧ Below w.heap.size w w' := by
  refine sx_fn (S := SX) (M := []) (N := 10) (H0 := [.rd (some ⟨gl, 0, none⟩) (lbC go gs.length gc), .gen (rdsG (grL go gs))]) Tryz.func35 rfl rfl rfl (Sat.rdsM w [] _ fun j e hj => by
    match j, hj with
    | 0, hj => cases hj; exact ⟨rfl, hr.head⟩
    | 1, hj => cases hj; exact ⟨rfl, hr.tail⟩) ?_
  ((try refine sU ?_);repeat(refine sN fun _=>?_;try refine sU ?_))
  refine SxLdN.rd 1 rfl rfl (j := 0) rfl (vs := lbC go gs.length gc) rfl rfl ?_
  ((try refine sU ?_);repeat(refine sN fun _=>?_;try refine sU ?_))
  refine SxLdN.blk 0 rfl (vs := enC e) (enC_len e) (enC_whole e) ?_
  ((try refine sU ?_);repeat(refine sN fun _=>?_;try refine sU ?_))
  refine SxCall.quietS (fun w1 hs1 => RBytes_any go gc gs hgl hdl e w1 (hs1.rds1 2 rfl)) ?_
  ((try refine sU ?_);repeat(refine sN fun _=>?_;try refine sU ?_))
  exact SxDone.mk fun w' hs => ⟨rfl, hs.touch.below⟩
theorem New2_any (e : En) (w : World) : Calls Tryz.prog 38 #[.agg (enC e).toArray] w fun r w' => r = .returned (.tuple #[.string ⟨#[]⟩, .bool false]) ∧ Below w.heap.size w w' := by
  refine sx_fn (S := SX) (M := []) (N := 4) (H0 := []) Tryz.func38 rfl rfl rfl (Sat.nil _ _) ?_
  ((try refine sU ?_);repeat(refine sN fun _=>?_;try refine sU ?_))
  exact SxDone.mk fun w' hs => ⟨rfl, hs.touch.below⟩
def Lb.knF : Lb → Nat
  | .no => 37
  | .lib _ _ _ _ => 33
def Lb.btF : Lb → Nat
  | .no => 38
  | .lib _ _ _ _ => 35
def Lb.cap : Lb → Array Value
  | .no => #[]
  | .lib gl _ _ _ => #[.pointer (some ⟨gl, 0, none⟩)]
def Lb.kn (L : Lb) : Value := .func (.func L.knF) #[] L.cap
def Lb.bt (L : Lb) : Value := .func (.func L.btF) #[] L.cap
def Lb.ok : Lb → Prop
  | .no => True
  | .lib _ _ _ gs => gs.length ≤ 1000 ∧ ∀ d ∈ gs, d.l.length ≤ 1000
set_option maxHeartbeats 4000000 in
theorem told_any (L : Lb) (hL : L.ok) (bs : List Nb) (hbl : bs.length ≤ 1000000) (e : En) (g : Nat) (box man last fresh : Int) (mv : Value) (bo : Option Addr) (bc : Nat) (c : Nat → Int) (kn : Value) (left : ByteArray) (ch fp wt : Value) (n : Int) (w : World)
    (hr : Rd w (some ⟨g, 0, none⟩) (smC box man mv (.slice bo bs.length bc) last fresh c kn L.bt left ch fp wt n)) (hb : Rd w bo (mbE.fl (bs.map Nb.mb))) (hd : RdAll w (bxL bs)) (hl : RdAll w L.rds) :
    Calls Tryz.prog byN (byArgs g e) w fun r w' => r = .returned (.tuple #[.string (toldP L.G (bs.map Nb.bx) e).1, .bool (toldP L.G (bs.map Nb.bx) e).2]) ∧ Below w.heap.size w w' := by
  obtain ⟨t, ht⟩ : ∃ t, t = chunkP (bs.map Nb.bx) e.bx e.sl := ⟨_, rfl⟩
  have hto : toldP L.G (bs.map Nb.bx) e = if t.2.1 then (t.1, t.2.2) else bytesG L.G e.bx e.sl := by unfold toldP; rw [ht]
  rw [hto]
  obtain ⟨t1, t2, t3⟩ := t
  have hc := fun w1 hr1 hb1 hd1 => chunk_any bs hbl e g box man last fresh mv bo bc ([confV c 0, confV c 1, confV c 2, confV c 3, confV c 4, confV c 5, confV c 6, confV c 7, confV c 8, confV c 9, confV c 10, confV c 11, confV c 12, kn, L.bt, .string left, ch, fp, wt, .int .i64 n]) w1 hr1 hb1 hd1
  rw [← ht] at hc
  refine sx_fn (S := SX) (M := []) (N := 29) (H0 := [.rd (some ⟨g, 0, none⟩) (smC box man mv (.slice bo bs.length bc) last fresh c kn L.bt left ch fp wt n), .rd bo (mbE.fl (bs.map Nb.mb)), .gen (rdsG (bxL bs)), .gen (rdsG L.rds)]) Tryz.func71 rfl rfl rfl (Sat.rdsM w [] _ fun j e hj => by
    match j, hj with
    | 0, hj => cases hj; exact ⟨rfl, hr⟩
    | 1, hj => cases hj; exact ⟨rfl, hb⟩
    | 2, hj => cases hj; exact ⟨rfl, hd⟩
    | 3, hj => cases hj; exact ⟨rfl, hl⟩) ?_
  ((try refine sU ?_);repeat(refine sN fun _=>?_;try refine sU ?_))
  refine SxCode.drawAll rfl [] ?_
  ((try refine sU ?_);repeat(refine sN fun _=>?_;try refine sU ?_))
  refine SxLdN.blk 0 rfl (vs := enC e) (enC_len e) (enC_whole e) ?_
  ((try refine sU ?_);repeat(refine sN fun _=>?_;try refine sU ?_))
  refine SxCall.quietS (fun w1 hs1 => hc w1 (hs1.rd 1 rfl) (hs1.rd 2 rfl) (hs1.rds1 3 rfl)) ?_
  ((try refine sU ?_);repeat(refine sN fun _=>?_;try refine sU ?_))
  refine SxIf.mk (fun h2 => ?_) (fun h2 => ?_)
  · have h2' : t2 = true := h2
    subst h2'
    ((try refine sU ?_);repeat(refine sN fun _=>?_;try refine sU ?_))
    exact SxDone.mk fun w' hs => ⟨rfl, hs.touch.below⟩
  · have h2' : t2 = false := h2
    subst h2'
    cases L with
    | no =>
      ((try refine sU ?_);repeat(refine sN fun _=>?_;try refine sU ?_))
      refine SxCode.drawAll rfl [] ?_
      ((try refine sU ?_);repeat(refine sN fun _=>?_;try refine sU ?_))
      refine SxLd.rd 1 rfl rfl (j := 20) (v := btN) rfl rfl ?_
      ((try refine sU ?_);repeat(refine sN fun _=>?_;try refine sU ?_))
      refine SxLdN.blk 0 rfl (vs := enC e) (enC_len e) (enC_whole e) ?_
      ((try refine sU ?_);repeat(refine sN fun _=>?_;try refine sU ?_))
      refine SxCall.quiet (New2_any e) ?_
      ((try refine sU ?_);repeat(refine sN fun _=>?_;try refine sU ?_))
      exact SxDone.mk fun w' hs => ⟨rfl, hs.touch.below⟩
    | lib gl go gc gs =>
      ((try refine sU ?_);repeat(refine sN fun _=>?_;try refine sU ?_))
      refine SxCode.drawAll rfl [] ?_
      ((try refine sU ?_);repeat(refine sN fun _=>?_;try refine sU ?_))
      refine SxLd.rd 1 rfl rfl (j := 20) (v := (Lb.lib gl go gc gs).bt) rfl rfl ?_
      ((try refine sU ?_);repeat(refine sN fun _=>?_;try refine sU ?_))
      refine SxLdN.blk 0 rfl (vs := enC e) (enC_len e) (enC_whole e) ?_
      ((try refine sU ?_);repeat(refine sN fun _=>?_;try refine sU ?_))
      refine SxCall.quietS (fun w1 hs1 => told2_any gl go gc gs hL.1 hL.2 e w1 (hs1.rds1 4 rfl)) ?_
      ((try refine sU ?_);repeat(refine sN fun _=>?_;try refine sU ?_))
      exact SxDone.mk fun w' hs => ⟨rfl, hs.touch.below⟩
end Go.Proofs.YtlmefcepdadfjaaGreat
/- Layer 23: what the library tells of hooks. -/
namespace Go.Proofs.YtlmefcepdadfjaaGreat
open Go.RowKit

theorem knownG_take {gs : List (List Rk)} {i : Nat} {g : List Rk} (h : gs[i]? = some g) (hk : List Fq) : knownG (gs.take (i + 1)) hk = if hasK hk g then knownG (gs.take i) hk ++ g else knownG (gs.take i) hk := by
  unfold knownG
  rw [take_snocE h, List.filter_append, List.flatten_append]
  cases hp : hasK hk g with
  | true => simp [hp]
  | false => simp [hp]
theorem hasK_take {hk : List Fq} {g : List Rk} {j : Nat} {r : Rk} (h : g[j]? = some r) : hasK hk (g.take (j + 1)) = (hasK hk (g.take j) || decide (r.en.fq ∈ hk)) := by
  unfold hasK
  rw [take_snocE h, List.any_append]; simp
theorem knownG_len (hk : List Fq) : ∀ (gs : List (List Rk)) (m : Nat), (∀ g ∈ gs, g.length ≤ m) → (knownG gs hk).length ≤ gs.length * m
  | [], m, _ => by simp [knownG]
  | g :: gs, m, h => by
    have ih := knownG_len hk gs m fun x hx => h x (List.mem_cons_of_mem _ hx)
    have hg := h g (List.mem_cons_self ..)
    unfold knownG at ih ⊢
    rw [List.filter_cons]
    split
    · rw [List.flatten_cons, List.length_append, List.length_cons, Nat.succ_mul]; omega
    · rw [List.length_cons, Nat.succ_mul]; omega
set_option maxHeartbeats 4000000 in
theorem RKnown_any (go : Option Addr) (gc : Nat) (gs : List (Drow Rk)) (hgl : gs.length ≤ 1000) (hdl : ∀ d ∈ gs, d.l.length ≤ 1000) (hk : List Fp) (ho : Option Addr) (hc : Nat) (w : World) (hr : RdAll w (grL go gs)) (hh : Rd w ho (fpE.fl hk)) :
    Calls Tryz.prog 34 #[.agg (lbC go gs.length gc).toArray, .slice ho hk.length hc] w fun r w' => ∃ ao cap, r = .returned (.slice ao (knownG (gs.map (·.l)) hk).length cap) ∧ NewRow w w' ao (knownG (gs.map (·.l)) hk).length cap 94 37 (rkE.fl (knownG (gs.map (·.l)) hk)) := by
  refine sx_fn (S := SX) (M := []) (N := 56) (H0 := [.row none 0 0 94 37 [], .gen (rdsG (grL go gs)), .rd ho (fpE.fl hk)]) Tryz.func34 rfl rfl rfl (Sat.nilRow 94 37 (Sat.rdsM w [] _ fun j e hj => by
    match j, hj with
    | 0, hj => cases hj; exact ⟨rfl, hr⟩
    | 1, hj => cases hj; exact ⟨rfl, hh⟩)) ?_
  ((try refine sU ?_);repeat(refine sN fun _=>?_;try refine sU ?_))
  refine SxRun.pNeNil Tryz.underlying33 ?_
  ((try refine sU ?_);repeat(refine sN fun _=>?_;try refine sU ?_))
  rename_i bl
  have hml : (gs.map (·.l)).length = gs.length := List.length_map ..
  have hmx : ∀ g ∈ gs.map (·.l), g.length ≤ 1000 := fun g hg => by
    obtain ⟨d, hd, rfl⟩ := List.mem_map.1 hg
    exact hdl d hd
  have hkt : ∀ i, (knownG ((gs.map (·.l)).take i) hk).length ≤ 1000000 := fun i => by
    have h1 := knownG_len hk ((gs.map (·.l)).take i) 1000 fun g hg => hmx g (List.mem_of_mem_take hg)
    have h2 : ((gs.map (·.l)).take i).length * 1000 ≤ 1000 * 1000 := Nat.mul_le_mul_right _ (by rw [List.length_take]; omega)
    omega
  refine SxCode.loop (σ := Nat × Option Addr × Nat) [6, 5] [15, 16, 17, 18, 19, 7, 8, 22, 23, 24, 25, 26, 27, 28, 29, 32, 33, 34, 35, 36, 37, 38, 39, 40, 41, 42, 43, 44, 45, 46, 30, 31, 47, 48, 49, 50, 51, 52, 53, 54, 5, 20, 21, 6] (fun x => [.int .i64 (x.1 : Nat), .slice x.2.1 (knownG ((gs.map (·.l)).take x.1) hk).length x.2.2]) (fun x => [.blk bl 36 (lbC go gs.length gc), .row x.2.1 (knownG ((gs.map (·.l)).take x.1) hk).length x.2.2 94 37 (rkE.fl (knownG ((gs.map (·.l)).take x.1) hk)), .gen (rdsG (grL go gs)), .rd ho (fpE.fl hk)]) (fun x => x.1 ≤ gs.length) (fun x => gs.length - x.1) (0, none, 0) [0, 1, 2, 3] rfl rfl rfl rfl (Nat.zero_le _) ?_
  rintro ⟨i, oo, oc⟩ hi
  dsimp only at hi ⊢
  have hki := hkt i
  by_cases hlt : i < gs.length
  · obtain ⟨d, hd⟩ : ∃ d, gs[i]? = some d := ⟨gs[i], by simp [hlt]⟩
    have hdm := List.mem_of_getElem? hd
    have hdl1 := hdl d hdm
    have hgd : (gs.map (·.l))[i]? = some d.l := by rw [List.getElem?_map, hd]; rfl
    have hi1 : i * 1 < ((dvE (α := Rk)).fl gs).length := by rw [dvE_len]; omega
    have hnx := knownG_take hgd hk
    have hkn := hkt (i + 1)
    ((try refine sU ?_);repeat(refine sN fun _=>?_;try refine sU ?_))
    refine SxCode.loop (σ := Nat) [8, 7] [22, 23, 24, 25, 26, 27, 28, 29, 32, 33, 34, 35, 36, 37, 38, 39, 40, 41, 42, 43, 44, 45, 46, 7, 30, 31, 8] (fun j => [.int .i64 (j : Nat), .bool (hasK hk (d.l.take j))]) (fun _ => [.blk bl 36 (lbC go gs.length gc), .row oo (knownG ((gs.map (·.l)).take i) hk).length oc 94 37 (rkE.fl (knownG ((gs.map (·.l)).take i) hk)), .gen (rdsG (grL go gs)), .rd ho (fpE.fl hk)]) (fun j => j ≤ d.l.length) (fun j => d.l.length - j) 0 [0, 1, 2, 3] rfl rfl rfl rfl (Nat.zero_le _) ?_
    rintro j hj
    by_cases hjlt : j < d.l.length
    · obtain ⟨r, hr1⟩ : ∃ r, d.l[j]? = some r := ⟨d.l[j], by simp [hjlt]⟩
      have hst := hasK_take (hk := hk) hr1
      ((try refine sU ?_);repeat(refine sN fun _=>?_;try refine sU ?_))
      refine SxIA.of 2 rfl grL_head i rfl hlt hi1 fun g1 off ha => ?_
      ((try refine sU ?_);repeat(refine sN fun _=>?_;try refine sU ?_))
      refine SxLd.of 2 rfl grL_head ha rfl (j := i * 1) (dvE_at hd) ?_
      ((try refine sU ?_);repeat(refine sN fun _=>?_;try refine sU ?_))
      refine SxIf.mk (fun hb => ?_) (fun hb => ?_)
      · rw [hb, Bool.true_or] at hst
        ((try refine sU ?_);repeat(refine sN fun _=>?_;try refine sU ?_))
        exact SxRound.mk (j + 1) [0, 1, 2, 3] (by rw [hst]; rfl) rfl rfl hjlt (by omega)
      · rw [hb, Bool.false_or] at hst
        ((try refine sU ?_);repeat(refine sN fun _=>?_;try refine sU ?_))
        refine SxIA.of 2 rfl grL_head i rfl hlt hi1 fun g1 off ha => ?_
        ((try refine sU ?_);repeat(refine sN fun _=>?_;try refine sU ?_))
        refine SxLd.of 2 rfl grL_head ha rfl (j := i * 1) (dvE_at hd) ?_
        ((try refine sU ?_);repeat(refine sN fun _=>?_;try refine sU ?_))
        refine SxIA.of 2 rfl (grL_mem hdm) j rfl hjlt (by rw [rkE_len]; omega) fun g1 off ha => ?_
        ((try refine sU ?_);repeat(refine sN fun _=>?_;try refine sU ?_))
        refine SxLdN.of 2 rfl (grL_mem hdm) ha rfl (vs := fqC r.en.fq) (fqC_len _) (rk_fp hr1) ?_
        ((try refine sU ?_);repeat(refine sN fun _=>?_;try refine sU ?_))
        refine SxCall.quietS (fun w1 hs1 => RHas_any hk r.en.fq ho hc w1 (hs1.rd 3 rfl)) ?_
        ((try refine sU ?_);repeat(refine sN fun _=>?_;try refine sU ?_))
        exact SxRound.mk (j + 1) [0, 1, 2, 3] (by rw [hst]; rfl) rfl rfl hjlt (by omega)
    · obtain rfl : j = d.l.length := by omega
      rw [List.take_length]
      ((try refine sU ?_);repeat(refine sN fun _=>?_;try refine sU ?_))
      refine SxIA.of 2 rfl grL_head i rfl hlt hi1 fun g1 off ha => ?_
      ((try refine sU ?_);repeat(refine sN fun _=>?_;try refine sU ?_))
      refine SxLd.of 2 rfl grL_head ha rfl (j := i * 1) (dvE_at hd) ?_
      ((try refine sU ?_);repeat(refine sN fun _=>?_;try refine sU ?_))
      refine SxIf.mk (fun hb => ?_) (fun hb => ?_)
      · rw [if_pos hb] at hnx
        have hnl : (knownG ((gs.map (·.l)).take (i + 1)) hk).length = (knownG ((gs.map (·.l)).take i) hk).length + d.l.length := by rw [hnx, List.length_append]
        ((try refine sU ?_);repeat(refine sN fun _=>?_;try refine sU ?_))
        refine SxIA.of 2 rfl grL_head i rfl hlt hi1 fun g1 off ha => ?_
        ((try refine sU ?_);repeat(refine sN fun _=>?_;try refine sU ?_))
        refine SxLd.of 2 rfl grL_head ha rfl (j := i * 1) (dvE_at hd) ?_
        ((try refine sU ?_);repeat(refine sN fun _=>?_;try refine sU ?_))
        refine SxApp.from_ 1 rfl (vs := rkE.fl d.l) (fun _ _ _ hs => hs.rdIn 2 rfl (grL_mem hdm)) (rkE_len _) (rkE.fl_allOne _) (by unfold maxLen; omega) (by omega) (cs' := rkE.fl (knownG ((gs.map (·.l)).take (i + 1)) hk)) (by rw [hnx, rkE.fl_append]) fun ao' cap' => ?_
        ((try refine sU ?_);repeat(refine sN fun _=>?_;try refine sU ?_))
        exact SxRound.mk (i + 1, ao', cap') [0, 1, 2, 3] (by dsimp only; rw [hnl]; rfl) (by dsimp only; rw [hnl]; rfl) rfl hlt (by dsimp only; omega)
      · rw [if_neg (by rw [hb]; simp)] at hnx
        ((try refine sU ?_);repeat(refine sN fun _=>?_;try refine sU ?_))
        exact SxRound.mk (i + 1, oo, oc) [0, 1, 2, 3] (by dsimp only; rw [hnx]; rfl) (by dsimp only; rw [hnx]; rfl) rfl hlt (by dsimp only; omega)
  · obtain rfl : i = gs.length := by omega
    rw [List.take_of_length_le (by omega)]
    ((try refine sU ?_);repeat(refine sN fun _=>?_;try refine sU ?_))
    exact SxDone.mk fun w' hs => ⟨oo, oc, rfl, hs.newRow 1 rfl⟩
theorem knR_lenS (l : List Rk) : (knR l).length = l.length := List.length_map ..
theorem rk_en {l : List Rk} {k : Nat} {x : Rk} (h : l[k]? = some x) : ((rkE.fl l).drop (k * 37)).take 35 = enC x.en := by
  have h1 := rkE.fl_at h
  have h2 : rkE.k = 37 := rfl
  rw [h2] at h1
  have h3 : (((rkE.fl l).drop (k * 37)).take 37).take 35 = enC x.en := by
    rw [h1]; exact List.take_left' (enC_len x.en)
  rw [List.take_take] at h3
  exact h3
set_option maxHeartbeats 4000000 in
theorem told1_any (gl : Nat) (go : Option Addr) (gc : Nat) (gs : List (Drow Rk)) (hgl : gs.length ≤ 1000) (hdl : ∀ d ∈ gs, d.l.length ≤ 1000) (hk : List Fp) (ho : Option Addr) (hc : Nat) (w : World) (hr : RdAll w (Lb.lib gl go gc gs).rds) (hh : Rd w ho (fpE.fl hk)) :
    Calls Tryz.prog 33 #[.slice ho hk.length hc, .pointer (some ⟨gl, 0, none⟩)] w fun r w' => ∃ ao cap, r = .returned (.slice ao (knR (knownG (gs.map (·.l)) hk)).length cap) ∧ NewRow w w' ao (knR (knownG (gs.map (·.l)) hk)).length cap 71 35 (enE.fl (knR (knownG (gs.map (·.l)) hk))) := by
  obtain ⟨K, hK⟩ : ∃ K, K = knownG (gs.map (·.l)) hk := ⟨_, rfl⟩
  have hKl : K.length ≤ 1000000 := by
    have h1 := knownG_len hk (gs.map (·.l)) 1000 fun g hg => by
      obtain ⟨d, hd, rfl⟩ := List.mem_map.1 hg
      exact hdl d hd
    have h2 : (gs.map (·.l)).length * 1000 ≤ 1000 * 1000 := Nat.mul_le_mul_right _ (by rw [List.length_map]; omega)
    rw [hK]; omega
  have hkn := fun w1 hr1 hh1 => RKnown_any go gc gs hgl hdl hk ho hc w1 hr1 hh1
  rw [← hK] at hkn ⊢
  refine sx_fn (S := SX) (M := []) (N := 25) (H0 := [.row none 0 0 71 35 [], .rd (some ⟨gl, 0, none⟩) (lbC go gs.length gc), .gen (rdsG (grL go gs)), .rd ho (fpE.fl hk)]) Tryz.func33 rfl rfl rfl (Sat.nilRow 71 35 (Sat.rdsM w [] _ fun j e hj => by
    match j, hj with
    | 0, hj => cases hj; exact ⟨rfl, hr.head⟩
    | 1, hj => cases hj; exact ⟨rfl, hr.tail⟩
    | 2, hj => cases hj; exact ⟨rfl, hh⟩)) ?_
  ((try refine sU ?_);repeat(refine sN fun _=>?_;try refine sU ?_))
  refine SxLdN.rd 1 rfl rfl (j := 0) rfl (vs := lbC go gs.length gc) rfl rfl ?_
  ((try refine sU ?_);repeat(refine sN fun _=>?_;try refine sU ?_))
  refine SxCall.newRd (by rw [rkE_len]; unfold maxLen; omega) (fun w1 hs1 => hkn w1 (hs1.rds1 2 rfl) (hs1.rd 3 rfl)) fun ko kc => ?_
  ((try refine sU ?_);repeat(refine sN fun _=>?_;try refine sU ?_))
  refine SxCode.loop (σ := Nat × Option Addr × Nat) [6, 4] [10, 11, 12, 13, 16, 17, 18, 19, 20, 21, 22, 23, 4, 14, 15, 6] (fun x => [.int .i64 (x.1 : Nat), .slice x.2.1 x.1 x.2.2]) (fun x => [.row x.2.1 x.1 x.2.2 71 35 (enE.fl (knR (K.take x.1))), .rd ko (rkE.fl K)]) (fun x => x.1 ≤ K.length) (fun x => K.length - x.1) (0, none, 0) [1, 0] rfl rfl rfl rfl (Nat.zero_le _) ?_
  rintro ⟨i, oo, oc⟩ hi
  dsimp only at hi ⊢
  by_cases hlt : i < K.length
  · obtain ⟨r, hr1⟩ : ∃ r, K[i]? = some r := ⟨K[i], by simp [hlt]⟩
    have hnx : knR (K.take (i + 1)) = knR (K.take i) ++ [r.en] := by unfold knR; rw [take_snocE hr1, List.map_append]; rfl
    ((try refine sU ?_);repeat(refine sN fun _=>?_;try refine sU ?_))
    refine SxIA.rd 1 _ rfl i rfl hlt (by rw [rkE_len]; omega) fun g off ha => ?_
    ((try refine sU ?_);repeat(refine sN fun _=>?_;try refine sU ?_))
    refine SxLdN.rd 1 rfl ha rfl (vs := enC r.en) (enC_len _) (rk_en hr1) ?_
    ((try refine sU ?_);repeat(refine sN fun _=>?_;try refine sU ?_))
    refine SxFill.one rfl (enC_len _) ?_
    ((try refine sU ?_);repeat(refine sN fun _=>?_;try refine sU ?_))
    refine SxApp.mk 1 rfl 0 (.inr (.inr (.inr ⟨by decide, _, rfl⟩))) (m := 1) (by show (enE.enc r.en).length = 1 * 35; exact enE.len _) (enE.one _) (by unfold maxLen; omega) (by omega) (cs' := enE.fl (knR (K.take (i + 1)))) (by rw [hnx, enE.fl_append, enE.fl_one]; rfl) fun ao' cap' => ?_
    ((try refine sU ?_);repeat(refine sN fun _=>?_;try refine sU ?_))
    exact SxRound.mk (i + 1, ao', cap') [1, 2] rfl rfl rfl hlt (by dsimp only; omega)
  · obtain rfl : i = K.length := by omega
    rw [List.take_length]
    ((try refine sU ?_);repeat(refine sN fun _=>?_;try refine sU ?_))
    rw [knR_lenS]
    exact SxDone.mk fun w' hs => ⟨oo, oc, rfl, hs.newRow 0 rfl⟩
end Go.Proofs.YtlmefcepdadfjaaGreat
/- Package slices at api.Manifest. -/
namespace Go.Proofs.YtlmefcepdadfjaaGreat
open Go.RowKit

theorem rowMf_len (l : List Mb) : (mbE.fl l).length = l.length * 2 := mbE.fl_len l
theorem CloneMf_any (l : List Mb) (ao : Option Addr) (cap : Nat) (hl : l.length ≤ 1000000) (w : World) (hr : Rd w ao (mbE.fl l)) :
    Calls Tryz.prog 88 #[.slice ao l.length cap] w fun e w' => ∃ ao' cap', e = .returned (.slice ao' l.length cap') ∧ NewRow w w' ao' l.length cap' 67 2 (mbE.fl l) := by
  refine sx_fn (S := SX) (M := []) (N := 8) (H0 := [.row none 0 0 67 2 [], .rd ao (mbE.fl l)]) Tryz.func88 rfl rfl rfl ((Sat.oneRd _ hr).nilRow 67 2) ?_
  ((try refine sU ?_);repeat(refine sN fun _=>?_;try refine sU ?_))
  refine SxRun.sEqNil Tryz.underlying49 ?_
  cases ao with
  | none =>
    have h0 : l = [] := by
      cases l with
      | nil => rfl
      | cons x l => obtain ⟨g, off, h, _⟩ := hr.2 (mbE.fl_ne (by simp)); cases h
    subst h0
    ((try refine sU ?_);repeat(refine sN fun _=>?_;try refine sU ?_))
    exact SxDone.mk fun w' hs => ⟨none, 0, rfl, hs.newRow 0 rfl⟩
  | some a =>
    ((try refine sU ?_);repeat(refine sN fun _=>?_;try refine sU ?_))
    refine SxApp.mk 0 rfl 2 (.inr (.inl rfl)) (rowMf_len l) (mbE.fl_allOne l) (by unfold maxLen; omega) (by omega) rfl fun ao' cap' => ?_
    ((try refine sU ?_);repeat(refine sN fun _=>?_;try refine sU ?_))
    exact SxDone.mk fun w' hs => ⟨ao', cap', by rw [Nat.zero_add]; rfl, by have := hs.newRow 0 rfl; rw [Nat.zero_add] at this; exact this⟩
end Go.Proofs.YtlmefcepdadfjaaGreat
/- Package slices at stream.NewBox. -/
namespace Go.Proofs.YtlmefcepdadfjaaGreat
open Go.RowKit

theorem rowNb_len (l : List Mb) : (mbE.fl l).length = l.length * 2 := mbE.fl_len l
theorem CloneNb_any (l : List Mb) (ao : Option Addr) (cap : Nat) (hl : l.length ≤ 1000000) (w : World) (hr : Rd w ao (mbE.fl l)) :
    Calls Tryz.prog 89 #[.slice ao l.length cap] w fun e w' => ∃ ao' cap', e = .returned (.slice ao' l.length cap') ∧ NewRow w w' ao' l.length cap' 60 2 (mbE.fl l) := by
  refine sx_fn (S := SX) (M := []) (N := 8) (H0 := [.row none 0 0 60 2 [], .rd ao (mbE.fl l)]) Tryz.func89 rfl rfl rfl ((Sat.oneRd _ hr).nilRow 60 2) ?_
  ((try refine sU ?_);repeat(refine sN fun _=>?_;try refine sU ?_))
  refine SxRun.sEqNil Tryz.underlying50 ?_
  cases ao with
  | none =>
    have h0 : l = [] := by
      cases l with
      | nil => rfl
      | cons x l => obtain ⟨g, off, h, _⟩ := hr.2 (mbE.fl_ne (by simp)); cases h
    subst h0
    ((try refine sU ?_);repeat(refine sN fun _=>?_;try refine sU ?_))
    exact SxDone.mk fun w' hs => ⟨none, 0, rfl, hs.newRow 0 rfl⟩
  | some a =>
    ((try refine sU ?_);repeat(refine sN fun _=>?_;try refine sU ?_))
    refine SxApp.mk 0 rfl 2 (.inr (.inl rfl)) (rowNb_len l) (mbE.fl_allOne l) (by unfold maxLen; omega) (by omega) rfl fun ao' cap' => ?_
    ((try refine sU ?_);repeat(refine sN fun _=>?_;try refine sU ?_))
    exact SxDone.mk fun w' hs => ⟨ao', cap', by rw [Nat.zero_add]; rfl, by have := hs.newRow 0 rfl; rw [Nat.zero_add] at this; exact this⟩
end Go.Proofs.YtlmefcepdadfjaaGreat
