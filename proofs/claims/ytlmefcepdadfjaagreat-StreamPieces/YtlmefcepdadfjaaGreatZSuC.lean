/- Texts of this claim, one behind the other. -/
import Derived.Test.YtlmefcepdadfjaaGreatZStV
import Derived.Test.YtlmefcepdadfjaaGreatZRds
import Derived.Test.YtlmefcepdadfjaaGreatZStK
/- Layer 23, the document: how great a box is; what an entry's place holds. -/
namespace Go.Proofs.YtlmefcepdadfjaaGreat
open Go.RowKit

set_option maxHeartbeats 4000000 in
theorem Size_any (id : Int) (ao : Option Addr) (l : List ByteArray) (cap : Nat) (hl : l.length ≤ 100000) (hs : szB l ≤ 100000000) (w : World) (hr : Rd w ao (strE.fl l)) :
    Calls Tryz.prog 17 #[.agg (mbC (id, ao, l.length, cap)).toArray] w fun e w' => e = .returned (.int .i64 (szB l : Nat)) ∧ Below w.heap.size w w' := by
  refine sx_fn (S := SX) (M := []) (N := 21) (H0 := [.rd ao (strE.fl l)]) Tryz.func17 rfl rfl rfl (Sat.oneRd _ hr) ?_
  ((try refine sU ?_);repeat(refine sN fun _=>?_;try refine sU ?_))
  rename_i gb
  refine SxCode.loop (σ := Nat) [4, 3] [5, 6, 7, 8, 9, 12, 13, 14, 15, 16, 17, 18, 19, 3, 10, 11, 4] (fun k => [.int .i64 (k : Nat), .int .i64 (szB (l.take k) : Nat)]) (fun _ => [.blk gb 61 [.int .u32 id, .slice ao l.length cap], .rd ao (strE.fl l)]) (fun k => k ≤ l.length) (fun k => l.length - k) 0 [0, 1] rfl rfl rfl rfl (Nat.zero_le _) ?_
  rintro k hk
  by_cases hlt : k < l.length
  · obtain ⟨s, hs1⟩ : ∃ s, l[k]? = some s := ⟨l[k], by simp [hlt]⟩
    have hsn : szB (l.take (k + 1)) = szB (l.take k) + s.size := by rw [take_snocE hs1, szB_snoc]
    have hsm := szB_take l (k + 1)
    ((try refine sU ?_);repeat(refine sN fun _=>?_;try refine sU ?_))
    refine SxIA.rd 1 _ rfl k rfl hlt (by rw [rowSr_len]; omega) fun g off ha => ?_
    ((try refine sU ?_);repeat(refine sN fun _=>?_;try refine sU ?_))
    refine SxLd.rd 1 rfl ha rfl (j := k * 1) (rowSr_cell (j := 0) hs1 rfl) ?_
    ((try refine sU ?_);repeat(refine sN fun _=>?_;try refine sU ?_))
    refine SxRound.mk (k + 1) [0, 1] (by rw [hsn]; rfl) rfl rfl hlt (by omega)
  · obtain rfl : k = l.length := by omega
    rw [List.take_length]
    ((try refine sU ?_);repeat(refine sN fun _=>?_;try refine sU ?_))
    exact SxDone.mk fun w' hs => ⟨rfl, hs.touch.below⟩
theorem bx_first {bs : List Nb} {i : Nat} {x : Nb} {b : Int} (hx : bs[i]? = some x) (hb : x.1 = b) (hall : ∀ i', i' < i → ∀ y, bs[i']? = some y → y.1 ≠ b) : (bs.map Nb.bx).find? (fun y : Bx => y.1 == b) = some x.bx := by
  rw [List.find?_eq_some_iff_getElem]
  obtain ⟨hl, he⟩ := List.getElem?_eq_some_iff.1 hx
  refine ⟨by simp [Nb.bx, hb], i, by rw [List.length_map]; exact hl, by rw [List.getElem_map, he], fun j hj => ?_⟩
  have h4 := hall j hj (bs[j]'(by omega)) (by simp)
  rw [List.getElem_map]
  have : ((bs[j]'(by omega)).bx.1 == b) = false := by simpa [Nb.bx] using h4
  rw [this]; rfl
theorem bx_none {bs : List Nb} {b : Int} (hall : ∀ (i : Nat) (y : Nb), bs[i]? = some y → y.1 ≠ b) : (bs.map Nb.bx).find? (fun y : Bx => y.1 == b) = none := List.find?_eq_none.2 fun y hy => by
  obtain ⟨x, hx, rfl⟩ := List.mem_map.1 hy
  obtain ⟨i, hi⟩ := List.getElem?_of_mem hx
  have := hall i x hi
  simpa [Nb.bx] using this
set_option maxHeartbeats 8000000 in
theorem RMBytes_any (go : Option Addr) (gc : Nat) (gs : List (Drow Rk)) (hgl : gs.length ≤ 1000) (hdl : ∀ d ∈ gs, d.l.length ≤ 1000) (bs : List Nb) (hbl : bs.length ≤ 100000) (e : En) (g : Nat) (mv lv : Value) (bo : Option Addr) (bc : Nat) (w : World)
    (hr : Rd w (some ⟨g, 0, none⟩) [mv, .slice bo bs.length bc, lv]) (hb : Rd w bo (mbE.fl (bs.map Nb.mb))) (hd : RdAll w (bxL bs)) (hg : RdAll w (grL go gs)) :
    Calls Tryz.prog 19 #[.pointer (some ⟨g, 0, none⟩), .agg (enC e).toArray, .agg (lbC go gs.length gc).toArray] w fun r w' => r = .returned (.tuple #[.string (toldP (gs.map (·.l)) (bs.map Nb.bx) e).1, .bool (toldP (gs.map (·.l)) (bs.map Nb.bx) e).2]) ∧ Below w.heap.size w w' := by
  refine sx_fn (S := SX) (M := []) (N := 63) (H0 := [.rd (some ⟨g, 0, none⟩) [mv, .slice bo bs.length bc, lv], .rd bo (mbE.fl (bs.map Nb.mb)), .gen (rdsG (bxL bs)), .gen (rdsG (grL go gs))]) Tryz.func19 rfl rfl rfl (Sat.rdsM w [] _ fun j e hj => by
    match j, hj with
    | 0, hj => cases hj; exact ⟨rfl, hr⟩
    | 1, hj => cases hj; exact ⟨rfl, hb⟩
    | 2, hj => cases hj; exact ⟨rfl, hd⟩
    | 3, hj => cases hj; exact ⟨rfl, hg⟩) ?_
  ((try refine sU ?_);repeat(refine sN fun _=>?_;try refine sU ?_))
  rename_i be bl
  refine SxCode.loop (σ := Nat) [8, 6, 7] [9, 10, 11, 12, 13, 14, 15, 18, 19, 20, 21, 22, 23, 24, 25, 26, 27, 28, 29, 30, 31, 32, 33, 34, 35, 36, 37, 38, 39, 40, 41, 42, 43, 44, 45, 46, 47, 48, 49, 50, 51, 52, 53, 54, 55, 56, 57, 6, 7, 16, 17, 8] (fun i => [.int .i64 (i : Nat), .string ⟨#[]⟩, .bool false]) (fun _ => [.blk bl 36 (lbC go gs.length gc), .blk be 71 (enC e), .rd (some ⟨g, 0, none⟩) [mv, .slice bo bs.length bc, lv], .rd bo (mbE.fl (bs.map Nb.mb)), .gen (rdsG (bxL bs)), .gen (rdsG (grL go gs))]) (fun i => i ≤ bs.length ∧ ∀ i', i' < i → ∀ y, bs[i']? = some y → y.1 ≠ e.bx) (fun i => bs.length - i) 0 [0, 1, 2, 3, 4, 5] rfl rfl rfl rfl ⟨Nat.zero_le _, fun i' hi => absurd hi (Nat.not_lt_zero _)⟩ ?_
  rintro i ⟨hi, hall⟩
  by_cases hlt : i < bs.length
  · obtain ⟨x, hx⟩ : ∃ x, bs[i]? = some x := ⟨bs[i], by simp [hlt]⟩
    have hmem := List.mem_of_getElem? hx
    have hkl : i * 2 < (mbE.fl (bs.map Nb.mb)).length := by rw [mbE_len, List.length_map]; omega
    have hid := mbE.fl_cell (j := 0) (v := .int .u32 x.1) (Nb.mb_at hx) rfl
    have hco := mbE.fl_cell (j := 1) (v := .slice x.2.ao x.2.l.length x.2.cap) (Nb.mb_at hx) rfl
    ((try refine sU ?_);repeat(refine sN fun _=>?_;try refine sU ?_))
    refine SxLd.rd 2 rfl rfl (j := 1) (v := .slice bo bs.length bc) rfl rfl ?_
    ((try refine sU ?_);repeat(refine sN fun _=>?_;try refine sU ?_))
    refine SxCode.drawAll rfl [] ?_
    ((try refine sU ?_);repeat(refine sN fun _=>?_;try refine sU ?_))
    refine SxLd.rd 2 rfl rfl (j := 1) (v := .slice bo bs.length bc) rfl rfl ?_
    ((try refine sU ?_);repeat(refine sN fun _=>?_;try refine sU ?_))
    refine SxIA.rd 3 _ rfl i rfl hlt hkl fun g1 off ha => ?_
    ((try refine sU ?_);repeat(refine sN fun _=>?_;try refine sU ?_))
    refine SxLd.rd 3 rfl ha (by omega) (j := i * 2) (v := .int .u32 x.1) hid ?_
    ((try refine sU ?_);repeat(refine sN fun _=>?_;try refine sU ?_))
    refine SxLd.blk 1 rfl (v := .int .u32 e.bx) (enC_tail e 1 _ rfl) ?_
    by_cases hb1 : x.1 = e.bx
    · have hf := bx_first hx hb1 hall
      by_cases h0 : e.sl < 0
      · have ht : toldP (gs.map (·.l)) (bs.map Nb.bx) e = (⟨#[]⟩, false) := by unfold toldP; rw [chunkP_ge hf (by omega)]; rfl
        rw [ht]
        ((try refine sU ?_);repeat(refine sN fun _=>?_;try refine sU ?_))
        refine SxCode.drawAll rfl [] ?_
        ((try refine sU ?_);repeat(refine sN fun _=>?_;try refine sU ?_))
        refine SxLd.blk 1 rfl (v := .int .i64 e.sl) (enC_tail e 2 _ rfl) ?_
        ((try refine sU ?_);repeat(refine sN fun _=>?_;try refine sU ?_))
        exact SxDone.mk fun w' hs => ⟨rfl, hs.touch.below⟩
      · obtain ⟨j, hj⟩ : ∃ j : Nat, e.sl = j := ⟨e.sl.toNat, by omega⟩
        have hsl : (enC e)[34]? = some (.int .i64 (j : Nat)) := by rw [← hj]; exact enC_tail e 2 _ rfl
        rcases Nat.lt_or_ge j x.2.l.length with h1 | h1
        case' inl =>
          obtain ⟨t, ht⟩ : ∃ t, x.2.l[j]? = some t := ⟨x.2.l[j], by simp [h1]⟩
          have hto : toldP (gs.map (·.l)) (bs.map Nb.bx) e = (t, true) := by unfold toldP; rw [hj, chunkP_in hf ht]; rfl
        case' inr =>
          have hto : toldP (gs.map (·.l)) (bs.map Nb.bx) e = (⟨#[]⟩, false) := by
            unfold toldP
            rw [chunkP_ge hf (by show ¬ (0 ≤ e.sl ∧ e.sl < (x.2.l.length : Nat)); omega)]; rfl
        all_goals
          rw [hto]
          ((try refine sU ?_);repeat(refine sN fun _=>?_;try refine sU ?_))
          refine SxCode.drawAll rfl [] ?_
          ((try refine sU ?_);repeat(refine sN fun _=>?_;try refine sU ?_))
          refine SxLd.blk 1 rfl (v := .int .i64 (j : Nat)) hsl ?_
          ((try refine sU ?_);repeat(refine sN fun _=>?_;try refine sU ?_))
          refine SxLd.blk 1 rfl (v := .int .i64 (j : Nat)) hsl ?_
          ((try refine sU ?_);repeat(refine sN fun _=>?_;try refine sU ?_))
          refine SxLd.rd 2 rfl rfl (j := 1) (v := .slice bo bs.length bc) rfl rfl ?_
          ((try refine sU ?_);repeat(refine sN fun _=>?_;try refine sU ?_))
          refine SxIA.rd 3 _ rfl i rfl hlt hkl fun g1 off ha => ?_
          ((try refine sU ?_);repeat(refine sN fun _=>?_;try refine sU ?_))
          refine SxLd.rd 3 rfl ha (by omega) (j := i * 2 + 1) (v := .slice x.2.ao x.2.l.length x.2.cap) hco ?_
          ((try refine sU ?_);repeat(refine sN fun _=>?_;try refine sU ?_))
        · exact SxDone.mk fun w' hs => ⟨rfl, hs.touch.below⟩
        · refine SxCode.drawAll rfl [] ?_
          ((try refine sU ?_);repeat(refine sN fun _=>?_;try refine sU ?_))
          refine SxLd.rd 2 rfl rfl (j := 1) (v := .slice bo bs.length bc) rfl rfl ?_
          ((try refine sU ?_);repeat(refine sN fun _=>?_;try refine sU ?_))
          refine SxIA.rd 3 _ rfl i rfl hlt hkl fun g1 off ha => ?_
          ((try refine sU ?_);repeat(refine sN fun _=>?_;try refine sU ?_))
          refine SxLd.rd 3 rfl ha (by omega) (j := i * 2 + 1) (v := .slice x.2.ao x.2.l.length x.2.cap) hco ?_
          ((try refine sU ?_);repeat(refine sN fun _=>?_;try refine sU ?_))
          refine SxLd.blk 1 rfl (v := .int .i64 (j : Nat)) hsl ?_
          ((try refine sU ?_);repeat(refine sN fun _=>?_;try refine sU ?_))
          refine SxIA.of 4 rfl (bxL_mem hmem) j rfl h1 (by rw [rowSr_len]; omega) fun g2 off2 ha2 => ?_
          ((try refine sU ?_);repeat(refine sN fun _=>?_;try refine sU ?_))
          refine SxLd.of 4 rfl (bxL_mem hmem) ha2 rfl (j := j * 1) (rowSr_cell (j := 0) ht rfl) ?_
          ((try refine sU ?_);repeat(refine sN fun _=>?_;try refine sU ?_))
          exact SxDone.mk fun w' hs => ⟨rfl, hs.touch.below⟩
    · ((try refine sU ?_);repeat(refine sN fun _=>?_;try refine sU ?_))
      refine SxRound.mk (i + 1) [0, 1, 2, 3, 4, 5] rfl rfl rfl ⟨hlt, fun i' hi' y hy => ?_⟩ (by omega)
      rcases Nat.lt_succ_iff_lt_or_eq.1 hi' with h2 | h2
      · exact hall i' h2 y hy
      · subst h2
        obtain rfl := Option.some.inj (hx.symm.trans hy)
        exact hb1
  · obtain rfl : i = bs.length := by omega
    have hf : (bs.map Nb.bx).find? (fun y : Bx => y.1 == e.bx) = none := bx_none fun i' y hy => hall i' (List.getElem?_eq_some_iff.1 hy).1 y hy
    have ht : toldP (gs.map (·.l)) (bs.map Nb.bx) e = bytesG (gs.map (·.l)) e.bx e.sl := by unfold toldP chunkP; rw [hf]; rfl
    rw [ht]
    ((try refine sU ?_);repeat(refine sN fun _=>?_;try refine sU ?_))
    refine SxLd.rd 2 rfl rfl (j := 1) (v := .slice bo bs.length bc) rfl rfl ?_
    ((try refine sU ?_);repeat(refine sN fun _=>?_;try refine sU ?_))
    refine SxLdN.blk 1 rfl (vs := enC e) (enC_len e) (enC_whole e) ?_
    ((try refine sU ?_);repeat(refine sN fun _=>?_;try refine sU ?_))
    refine SxCall.quietS (fun w1 hs1 => RBytes_any go gc gs hgl hdl e w1 (hs1.rds1 5 rfl)) ?_
    ((try refine sU ?_);repeat(refine sN fun _=>?_;try refine sU ?_))
    exact SxDone.mk fun w' hs => ⟨rfl, hs.touch.below⟩
end Go.Proofs.YtlmefcepdadfjaaGreat
/- Layers 19 and 23: what is found asks of the text told only where one is told; the document's answer of what a made thing tells; plain. -/
namespace Go.Proofs.YtlmefcepdadfjaaGreat
open Go.RowKit

def tlN (tl : Nat → ByteArray × Bool) (i : Nat) : ByteArray × Bool := (if (tl i).2 then (tl i).1 else ⟨#[]⟩, (tl i).2)
theorem okT_norm (x : En) (t : ByteArray × Bool) (c : ByteArray) : okT x (if t.2 then t.1 else ⟨#[]⟩, t.2) c = okT x t c := by
  obtain ⟨s, b⟩ := t
  cases b <;> simp [okT]
theorem segG_norm (cs : List ByteArray) (kn : List En) (tl : Nat → ByteArray × Bool) (k : Nat) : segG cs kn (tlN tl) k = segG cs kn tl k := by
  have hp : ∀ c, pK kn (tlN tl) c = pK kn tl c := fun c => by
    funext i
    unfold pK
    split
    · exact okT_norm _ _ _
    · rfl
  induction k with
  | zero => rfl
  | succ k ih =>
    unfold segG
    rw [ih]
    split
    · unfold stepG; rw [hp]
    · rfl
def rkOf (G : List (List Rk)) (bs : List Bx) (e : En) : Rk := ⟨e, (toldP G bs e).2, (toldP G bs e).1⟩
theorem knR_up (G : List (List Rk)) (bs : List Bx) (es : List En) : knR (es.map (rkOf G bs)) = es := by unfold knR; rw [List.map_map]; exact List.map_id _
theorem tlR_up (G : List (List Rk)) (bs : List Bx) (es : List En) : tlR (es.map (rkOf G bs)) = tlN (tlL G es bs) := by
  funext i
  unfold tlR tlN tlL
  rw [List.getElem?_map]
  cases es[i]? <;> rfl
theorem docF_up (G : List (List Rk)) (bs : List Bx) (es : List En) (cs : List ByteArray) : docF cs (es.map (rkOf G bs)) cs.length = (segG cs es (tlL G es bs) cs.length).1 := by
  rw [← seg_docF, knR_up, tlR_up, segG_norm]
end Go.Proofs.YtlmefcepdadfjaaGreat
/- Layer 23, the document: the entries of the manifest ahead. -/
namespace Go.Proofs.YtlmefcepdadfjaaGreat
open Go.RowKit

set_option maxHeartbeats 8000000 in
theorem RMahead_any (go : Option Addr) (gc : Nat) (gs : List (Drow Rk)) (hgl : gs.length ≤ 1000) (hdl : ∀ d ∈ gs, d.l.length ≤ 1000) (ms : List Mr) (hml : ms.length ≤ 100000) (hme : ∀ m ∈ ms, m.2.l.length ≤ 10000) (bs : List Nb) (hbl : bs.length ≤ 100000) (box : Int) (g : Nat) (lv : Value) (mo bo : Option Addr) (mc bc : Nat) (w : World)
    (hr : Rd w (some ⟨g, 0, none⟩) [.slice mo ms.length mc, .slice bo bs.length bc, lv]) (hm : Rd w mo (mbE.fl (ms.map Mr.mb))) (hma : RdAll w (maL ms)) (hb : Rd w bo (mbE.fl (bs.map Nb.mb))) (hd : RdAll w (bxL bs)) (hg : RdAll w (grL go gs)) :
    Calls Tryz.prog 83 #[.pointer (some ⟨g, 0, none⟩), .int .u32 box, .agg (lbC go gs.length gc).toArray] w fun r w' => ∃ ao cap, r = .returned (.slice ao (aheadP (ms.map Mr.mn)).length cap) ∧ NewRow w w' ao (aheadP (ms.map Mr.mn)).length cap 94 37 (rkE.fl ((aheadP (ms.map Mr.mn)).map (rkOf (gs.map (·.l)) (bs.map Nb.bx)))) := by
  rcases List.eq_nil_or_concat ms with h0 | ⟨ms', m, h0⟩
  case' inl =>
    have hl : ms.length = 0 := by rw [h0]; rfl
    have hah : aheadP (ms.map Mr.mn) = [] := by rw [h0]; rfl
    rw [hah]
  case' inr =>
    rw [List.concat_eq_append] at h0
    have hah : aheadP (ms.map Mr.mn) = m.2.l := by
      unfold aheadP
      rw [h0, List.map_append, List.map_cons, List.map_nil, List.getLast?_concat]; rfl
    have hmm : m ∈ ms := by rw [h0]; simp
    have hl : ms.length = ms'.length + 1 := by rw [h0]; simp
    have hat : (ms.map Mr.mb)[ms'.length]? = some m.mb := Mr.mb_at (by rw [h0]; simp)
    have hme1 := hme m hmm
    rw [hah]
  all_goals
    refine sx_fn (S := SX) (M := []) (N := 58) (H0 := [.row none 0 0 94 37 [], .rd (some ⟨g, 0, none⟩) [.slice mo ms.length mc, .slice bo bs.length bc, lv], .rd mo (mbE.fl (ms.map Mr.mb)), .gen (rdsG (maL ms)), .rd bo (mbE.fl (bs.map Nb.mb)), .gen (rdsG (bxL bs)), .gen (rdsG (grL go gs))]) Tryz.func83 rfl rfl rfl (Sat.nilRow 94 37 (Sat.rdsM w [] _ fun j e hj => by
      match j, hj with
      | 0, hj => cases hj; exact ⟨rfl, hr⟩
      | 1, hj => cases hj; exact ⟨rfl, hm⟩
      | 2, hj => cases hj; exact ⟨rfl, hma⟩
      | 3, hj => cases hj; exact ⟨rfl, hb⟩
      | 4, hj => cases hj; exact ⟨rfl, hd⟩
      | 5, hj => cases hj; exact ⟨rfl, hg⟩)) ?_
    ((try refine sU ?_);repeat(refine sN fun _=>?_;try refine sU ?_))
  · refine SxLd.rd 2 rfl rfl (j := 0) (v := .slice mo ms.length mc) rfl rfl ?_
    ((try refine sU ?_);repeat(refine sN fun _=>?_;try refine sU ?_))
    refine SxCode.drawAll rfl [] ?_
    ((try refine sU ?_);repeat(refine sN fun _=>?_;try refine sU ?_))
    refine SxLd.rd 2 rfl rfl (j := 0) (v := .slice mo ms.length mc) rfl rfl ?_
    ((try refine sU ?_);repeat(refine sN fun _=>?_;try refine sU ?_))
    refine SxLd.rd 2 rfl rfl (j := 0) (v := .slice mo ms.length mc) rfl rfl ?_
    ((try refine sU ?_);repeat(refine sN fun _=>?_;try refine sU ?_))
    refine SxIA.rd 3 _ rfl ms'.length (by omega) (by omega) (by rw [mbE_len, List.length_map]; omega) fun g1 off ha => ?_
    ((try refine sU ?_);repeat(refine sN fun _=>?_;try refine sU ?_))
    refine SxLd.rd 3 rfl ha (by omega) (j := ms'.length * 2 + 1) (v := .slice m.2.ao m.2.l.length m.2.cap) (mbE.fl_cell hat rfl) ?_
    ((try refine sU ?_);repeat(refine sN fun _=>?_;try refine sU ?_))
    rename_i bl
    refine SxCode.loop (σ := Nat × Option Addr × Nat) [9, 7] [31, 32, 33, 34, 38, 39, 40, 41, 42, 43, 44, 37, 45, 46, 10, 11, 47, 48, 49, 50, 51, 52, 53, 54, 55, 56, 7, 35, 36, 9] (fun x => [.int .i64 (x.1 : Nat), .slice x.2.1 x.1 x.2.2]) (fun x => [.blk bl 36 (lbC go gs.length gc), .row x.2.1 x.1 x.2.2 94 37 (rkE.fl ((m.2.l.take x.1).map (rkOf (gs.map (·.l)) (bs.map Nb.bx)))), .rd (some ⟨g, 0, none⟩) [.slice mo ms.length mc, .slice bo bs.length bc, lv], .rd mo (mbE.fl (ms.map Mr.mb)), .gen (rdsG (maL ms)), .rd bo (mbE.fl (bs.map Nb.mb)), .gen (rdsG (bxL bs)), .gen (rdsG (grL go gs))]) (fun x => x.1 ≤ m.2.l.length) (fun x => m.2.l.length - x.1) (0, none, 0) [0, 1, 2, 3, 4, 5, 6, 7] rfl rfl rfl rfl (Nat.zero_le _) ?_
    rintro ⟨i, oo, oc⟩ hi
    dsimp only at hi ⊢
    by_cases hlt : i < m.2.l.length
    · obtain ⟨e, he⟩ : ∃ e, m.2.l[i]? = some e := ⟨m.2.l[i], by simp [hlt]⟩
      have hsn : (m.2.l.take (i + 1)).map (rkOf (gs.map (·.l)) (bs.map Nb.bx)) = (m.2.l.take i).map (rkOf (gs.map (·.l)) (bs.map Nb.bx)) ++ [rkOf (gs.map (·.l)) (bs.map Nb.bx) e] := by rw [take_snocE he, List.map_append]; rfl
      ((try refine sU ?_);repeat(refine sN fun _=>?_;try refine sU ?_))
      refine SxCode.drawAll rfl [] ?_
      ((try refine sU ?_);repeat(refine sN fun _=>?_;try refine sU ?_))
      refine SxIA.of 4 rfl (maL_mem hmm) i rfl hlt (by rw [enE_len1]; omega) fun g1 off ha => ?_
      ((try refine sU ?_);repeat(refine sN fun _=>?_;try refine sU ?_))
      refine SxLdN.of 4 rfl (maL_mem hmm) ha rfl (vs := enC e) (enC_len e) (enE_at1 he) ?_
      ((try refine sU ?_);repeat(refine sN fun _=>?_;try refine sU ?_))
      refine SxCall.quietS (fun w1 hs1 => RMBytes_any go gc gs hgl hdl bs hbl e g _ lv bo bc w1 (hs1.rd 2 rfl) (hs1.rd 5 rfl) (hs1.rds1 6 rfl) (hs1.rds1 7 rfl)) ?_
      ((try refine sU ?_);repeat(refine sN fun _=>?_;try refine sU ?_))
      refine SxIA.of 4 rfl (maL_mem hmm) i rfl hlt (by rw [enE_len1]; omega) fun g1 off ha => ?_
      ((try refine sU ?_);repeat(refine sN fun _=>?_;try refine sU ?_))
      refine SxLdN.of 4 rfl (maL_mem hmm) ha rfl (vs := enC e) (enC_len e) (enE_at1 he) ?_
      ((try refine sU ?_);repeat(refine sN fun _=>?_;try refine sU ?_))
      refine SxFill.first (n := 35) rfl (enC_len e) rfl ?_
      refine SxFill.tail (fun i => match i with | 1 => some (0, 1) | 2 => some (1, 1) | _ => none) (enC_len e) (by
        intro y hy
        simp only [List.mem_cons, List.not_mem_nil, or_false] at hy
        rcases hy with rfl | rfl <;> exact ⟨_, _, rfl, rfl⟩) ?_
      refine SxFill.ok rfl rfl ?_
      ((try refine sU ?_);repeat(refine sN fun _=>?_;try refine sU ?_))
      have hrk := rkC_len (rkOf (gs.map (·.l)) (bs.map Nb.bx) e)
      refine SxFill.one rfl hrk ?_
      ((try refine sU ?_);repeat(refine sN fun _=>?_;try refine sU ?_))
      refine SxApp.mk 2 rfl 0 (.inr (.inr (.inr ⟨by decide, _, rfl⟩))) (vs := rkC (rkOf (gs.map (·.l)) (bs.map Nb.bx) e)) (m := 1) (by rw [rkC_len]) (rkC_one _) (by unfold maxLen; omega) (by omega) (cs' := rkE.fl ((m.2.l.take (i + 1)).map (rkOf (gs.map (·.l)) (bs.map Nb.bx)))) (by rw [hsn, rkE.fl_append, rkE.fl_one]; rfl) fun ao' cap' => ?_
      ((try refine sU ?_);repeat(refine sN fun _=>?_;try refine sU ?_))
      exact SxRound.mk (i + 1, ao', cap') [1, 2, 3, 4, 5, 6, 7, 8] rfl rfl rfl hlt (by dsimp only; omega)
    · obtain rfl : i = m.2.l.length := by omega
      rw [List.take_length]
      ((try refine sU ?_);repeat(refine sN fun _=>?_;try refine sU ?_))
      exact SxDone.mk fun w' hs => ⟨oo, oc, rfl, hs.newRow 1 rfl⟩
  · refine SxLd.rd 2 rfl rfl (j := 0) (v := .slice mo ms.length mc) rfl rfl ?_
    ((try refine sU ?_);repeat(refine sN fun _=>?_;try refine sU ?_))
    exact SxDone.mk fun w' hs => ⟨none, 0, rfl, hs.newRow 1 rfl⟩
end Go.Proofs.YtlmefcepdadfjaaGreat
/- Layer 23, the document: a new chunk is put into a box. -/
namespace Go.Proofs.YtlmefcepdadfjaaGreat
open Go.RowKit

def dow (g : Nat) (mv : Value) (bs : List Nb) (bo : Option Addr) (bc : Nat) (lv : Value) : Hp :=
  [.blk g 58 [mv, .slice bo bs.length bc, lv], .row bo bs.length bc 61 2 (mbE.fl (bs.map Nb.mb)), .gen (rdsG (bxL bs))]
set_option maxHeartbeats 8000000 in
theorem RMput_sat {W : World} {M : List Nat} {R : Hp} {w : World} (box : Int) (mv lv : Value) (bs : List Nb) (bo : Option Addr) (bc : Nat) (c : Nat → Int)
    (hbl : bs.length ≤ 100000) (hcl : ∀ b ∈ bs, b.2.l.length ≤ 100000) (hfr : freshX (bs.map Nb.bx) ≤ 10000000) (g : Nat) (s : ByteArray) (hss : s.size ≤ 1000000)
    (hs : Sat W M (dow g mv bs bo bc lv ++ R) w) :
    Calls Tryz.prog 85 #[.pointer (some ⟨g, 0, none⟩), confA c, .int .u32 box, .string s] w fun e w' => ∃ (bs' : List Nb) (bo' : Option Addr) (bc' : Nat), e = .returned (.agg #[.int .u32 (putP c box (bs.map Nb.bx) s).2.1, .int .i64 (putP c box (bs.map Nb.bx) s).2.2]) ∧ bs'.map Nb.bx = (putP c box (bs.map Nb.bx) s).1 ∧
      Sat W M (dow g mv bs' bo' bc' lv ++ R) w' := by
  rcases List.eq_nil_or_concat bs with h0 | ⟨bs0, b, h0⟩
  · subst h0
    have hs' : Sat W M (.blk g 58 [mv, .slice bo 0 bc, lv] :: .row bo 0 bc 61 2 (mbE.fl []) :: .gen (rdsG []) :: R) w := hs
    refine sx_fn (S := SX) (N := 97) Tryz.func85 rfl rfl rfl hs' ?_
    ((try refine sU ?_);repeat(refine sN fun _=>?_;try refine sU ?_))
    refine SxCode.drawAll rfl [] ?_
    ((try refine sU ?_);repeat(refine sN fun _=>?_;try refine sU ?_))
    refine SxRng.u32 (x := ((0 : Nat) : Int)) (by omega) (by omega) ?_
    ((try refine sU ?_);repeat(refine sN fun _=>?_;try refine sU ?_))
    refine SxRng.u32e rfl ?_
    ((try refine sU ?_);repeat(refine sN fun _=>?_;try refine sU ?_))
    refine SxApp.mk 4 rfl 0 (.inr (.inr (.inr ⟨by decide, _, rfl⟩))) (vs := mbC ((box + ((0 : Nat) : Int)) % 4294967296, none, 0, 0)) (m := 1) rfl rfl (by unfold maxLen; omega) (by omega) (cs' := mbE.fl [((box + ((0 : Nat) : Int)) % 4294967296, none, 0, 0)]) rfl fun bo1 bc1 => ?_
    ((try refine sU ?_);repeat(refine sN fun _=>?_;try refine sU ?_))
    obtain ⟨id, hid⟩ : ∃ id, id = (box + ((0 : Nat) : Int)) % 4294967296 := ⟨_, rfl⟩
    rw [← hid]
    refine SxIA.row 4 _ _ _ rfl 0 (by omega) (by omega) fun gb hgb => ?_
    subst hgb
    ((try refine sU ?_);repeat(refine sN fun _=>?_;try refine sU ?_))
    refine SxLdN.row 4 rfl rfl rfl (vs := [.int .u32 id, .slice none 0 0]) rfl rfl ?_
    ((try refine sU ?_);repeat(refine sN fun _=>?_;try refine sU ?_))
    refine SxApp.mk 0 (cs := []) rfl 0 (.inl ⟨rfl, rfl, rfl⟩) (vs := []) (m := 0) rfl rfl (by unfold maxLen; omega) (by omega) (cs' := []) rfl fun a1 c1 => ?_
    ((try refine sU ?_);repeat(refine sN fun _=>?_;try refine sU ?_))
    refine SxApp.mk 1 (cs := []) rfl 0 (.inr (.inr (.inr ⟨by decide, _, rfl⟩))) (vs := [.string s]) (m := 1) rfl rfl (by unfold maxLen; omega) (by omega) (cs' := strE.fl [s]) rfl fun ao cap => ?_
    ((try refine sU ?_);repeat(refine sN fun _=>?_;try refine sU ?_))
    refine SxCode.drawAll rfl [8] ?_
    ((try refine sU ?_);repeat(refine sN fun _=>?_;try refine sU ?_))
    refine SxIA.row 7 _ _ _ rfl 0 (by omega) (by omega) fun gb1 hgb1 => ?_
    obtain rfl : gb = gb1 := by simpa using hgb1
    ((try refine sU ?_);repeat(refine sN fun _=>?_;try refine sU ?_))
    refine SxSt.row 7 rfl rfl (j := 0) (by omega) (by show (2 : Nat) ≤ 2; exact Nat.le_refl _) rfl (cs' := mbE.fl [(id, ao, 1, cap)]) rfl ?_
    ((try refine sU ?_);repeat(refine sN fun _=>?_;try refine sU ?_))
    refine SxDone.mk fun w' hs => ⟨[((id, ⟨ao, cap, [s]⟩) : Nb)], some ⟨gb, 0, none⟩, bc1, ?_, ?_, ?_⟩
    · rw [hid]; rfl
    · rw [hid]; rfl
    · have h1 := Weak.join (L' := bxL [((id, ⟨ao, cap, [s]⟩) : Nb)]) (by show (1 : Nat) ≤ maxLen; unfold maxLen; omega) 1 8 (by decide) rfl rfl (fun x hx => .inr (List.mem_singleton.1 hx)) _ _ _ hs
      exact h1.pick (ks := [6, 7, 8] ++ tailIx 9 R.length) (pickH_append (A := [_, _, _]) rfl (pickH_tail (L := R) 9 rfl rfl)) (nodup_tail 9 _ rfl rfl)
  · rw [List.concat_eq_append] at h0
    subst h0
    obtain ⟨k, hk⟩ : ∃ k, k = (bs0 ++ [b]).length := ⟨_, rfl⟩
    have hk1 : k = bs0.length + 1 := by rw [hk]; simp
    have hs' : Sat W M (.blk g 58 [mv, .slice bo k bc, lv] :: .row bo k bc 61 2 (mbE.fl ((bs0 ++ [b]).map Nb.mb)) :: .gen (rdsG (bxL (bs0 ++ [b]))) :: R) w := by rw [hk]; exact hs
    obtain ⟨gb, rfl⟩ := (Row.base (hs'.row 1 rfl)).1 (by omega)
    have hbl' := hcl b (by simp)
    have hat : ((bs0 ++ [b]).map Nb.mb)[bs0.length]? = some b.mb := Nb.mb_at (by simp)
    have hput := putP_snoc c box bs0 b s
    have hbm : (b.2.ao, strE.fl b.2.l) ∈ bxL (bs0 ++ [b]) := bxL_mem (by simp)
    have hszb : szB b.2.l ≤ 10000000 := by
      have h1 : freshX ((bs0 ++ [b]).map Nb.bx) = freshX (bs0.map Nb.bx) + szB b.2.l := by rw [List.map_append, List.map_cons, List.map_nil, freshX_snoc]; rfl
      omega
    rw [← hk] at hput
    rw [hput]
    have harm : (fitsB c b.bx s = true ∧ (b.2.l.length : Int) < c 11 ∧ (szB b.2.l : Int) + (s.size : Nat) ≤ c 12) ∨ (fitsB c b.bx s = false ∧ c 11 ≤ (b.2.l.length : Nat)) ∨ (fitsB c b.bx s = false ∧ (b.2.l.length : Int) < c 11 ∧ c 12 < (szB b.2.l : Int) + (s.size : Nat)) := by
      by_cases h1 : (b.2.l.length : Int) < c 11
      · by_cases h2 : (szB b.2.l : Int) + (s.size : Nat) ≤ c 12
        · exact .inl ⟨by unfold fitsB; rw [decide_eq_true_iff]; exact ⟨h1, h2⟩, h1, h2⟩
        · refine .inr (.inr ⟨?_, h1, by omega⟩)
          unfold fitsB; rw [decide_eq_false_iff_not]; rintro ⟨_, h3⟩
          exact h2 h3
      · refine .inr (.inl ⟨?_, by omega⟩)
        unfold fitsB; rw [decide_eq_false_iff_not]; rintro ⟨h3, _⟩; exact h1 h3
    clear hs
    have hkl : bs0.length * 2 < (mbE.fl ((bs0 ++ [b]).map Nb.mb)).length := by rw [mbE_len, List.length_map, ← hk]; omega
    have e11 : c (nat_lit 11) = c 11 := rfl
    have e12 : c (nat_lit 12) = c 12 := rfl
    rcases harm with ⟨hfit, ha1, ha2⟩ | ⟨hfit, ha1⟩ | ⟨hfit, ha1, ha2⟩
    all_goals
      rw [hfit]
      refine sx_fn (S := SX) (N := 97) Tryz.func85 rfl rfl rfl hs' ?_
      ((try refine sU ?_);repeat(refine sN fun _=>?_;try refine sU ?_))
      refine SxCode.drawAll rfl [] ?_
      ((try refine sU ?_);repeat(refine sN fun _=>?_;try refine sU ?_))
      refine SxIA.row 3 _ _ _ rfl bs0.length (by omega) (by omega) fun g' hg' => ?_
      obtain rfl : gb = g' := by simpa using hg'
      ((try refine sU ?_);repeat(refine sN fun _=>?_;try refine sU ?_))
      refine SxLd.row 3 rfl rfl (j := bs0.length * 2 + 1) (by omega) (v := .slice b.2.ao b.2.l.length b.2.cap) (mbE.fl_cell hat rfl) ?_
      ((try refine sU ?_);repeat(refine sN fun _=>?_;try refine sU ?_))
    · refine SxIA.row 3 _ _ _ rfl bs0.length (by omega) (by omega) fun g' hg' => ?_
      obtain rfl : gb = g' := by simpa using hg'
      ((try refine sU ?_);repeat(refine sN fun _=>?_;try refine sU ?_))
      refine SxLdN.row 3 rfl rfl rfl (vs := [.int .u32 b.1, .slice b.2.ao b.2.l.length b.2.cap]) rfl (mbE.fl_at hat) ?_
      ((try refine sU ?_);repeat(refine sN fun _=>?_;try refine sU ?_))
      refine SxCall.quietS (v := .int .i64 (szB b.2.l : Nat)) (fun w1 hs1 => Size_any b.1 b.2.ao b.2.l b.2.cap (by omega) (by omega) w1 (hs1.rdIn 4 rfl hbm)) ?_
      ((try refine sU ?_);repeat(refine sN fun _=>?_;try refine sU ?_))
      refine SxIA.row 3 _ _ _ rfl bs0.length (by omega) (by omega) fun g' hg' => ?_
      obtain rfl : gb = g' := by simpa using hg'
      ((try refine sU ?_);repeat(refine sN fun _=>?_;try refine sU ?_))
      refine SxLdN.row 3 rfl rfl rfl (vs := [.int .u32 b.1, .slice b.2.ao b.2.l.length b.2.cap]) rfl (mbE.fl_at hat) ?_
      ((try refine sU ?_);repeat(refine sN fun _=>?_;try refine sU ?_))
      refine SxApp.from_ 0 (cs := []) rfl (vs := strE.fl b.2.l) (fun _ _ _ hs => hs.rdIn 6 rfl hbm) (rowSr_len _) (strE.fl_allOne _) (by unfold maxLen; omega) (by omega) (cs' := strE.fl b.2.l) rfl fun a1 c1 => ?_
      ((try refine sU ?_);repeat(refine sN fun _=>?_;try refine sU ?_))
      refine SxApp.mk 1 rfl 0 (.inr (.inr (.inr ⟨by decide, _, rfl⟩))) (vs := [.string s]) (m := 1) rfl rfl (by unfold maxLen; omega) (by omega) (cs' := strE.fl (b.2.l ++ [s])) (by rw [strE.fl_append]; rfl) fun ao cap => ?_
      ((try refine sU ?_);repeat(refine sN fun _=>?_;try refine sU ?_))
      refine SxCode.drawAll rfl [8] ?_
      ((try refine sU ?_);repeat(refine sN fun _=>?_;try refine sU ?_))
      refine SxIA.row 6 _ _ _ rfl bs0.length (by omega) (by omega) fun g' hg' => ?_
      obtain rfl : gb = g' := by simpa using hg'
      ((try refine sU ?_);repeat(refine sN fun _=>?_;try refine sU ?_))
      have hset : splice (bs0.length * 2) [.int .u32 b.1, .slice ao (0 + b.2.l.length + 1) cap] (mbE.fl ((bs0 ++ [b]).map Nb.mb)) = mbE.fl ((bs0 ++ [((b.1, ⟨ao, cap, b.2.l ++ [s]⟩) : Nb)]).map Nb.mb) := by
        have h1 := mbE.fl_set (l := (bs0 ++ [b]).map Nb.mb) (i := bs0.length) (x := ((b.1, ao, (b.2.l ++ [s]).length, cap) : Mb)) (by simp)
        rw [show 0 + b.2.l.length + 1 = (b.2.l ++ [s]).length by simp]
        refine Eq.trans h1 ?_
        congr 1
        rw [List.map_append, List.set_append_right _ _ (by rw [List.length_map]; exact Nat.le_refl _), List.length_map, Nat.sub_self, List.map_append]
        simp [Nb.mb]
      refine SxSt.row 6 rfl rfl (j := bs0.length * 2) (by omega) (by rw [mbE_len, List.length_map, ← hk]; show bs0.length * 2 + 2 ≤ _; omega) rfl hset ?_
      ((try refine sU ?_);repeat(refine sN fun _=>?_;try refine sU ?_))
      have hk2 : (bs0 ++ [((b.1, ⟨ao, cap, b.2.l ++ [s]⟩) : Nb)]).length = k := by rw [hk1]; simp
      refine SxDone.mk fun w' hs => ⟨bs0 ++ [((b.1, ⟨ao, cap, b.2.l ++ [s]⟩) : Nb)], some ⟨gb, 0, none⟩, bc, ?_, ?_, ?_⟩
      · rw [if_pos rfl]
        show Ending.returned (.agg #[.int .u32 b.1, .int .i64 (((0 + b.2.l.length + 1 : Nat) : Int) - 1)]) = Ending.returned (.agg #[.int .u32 b.1, .int .i64 ((b.2.l.length : Nat) : Int)])
        rw [show (((0 + b.2.l.length + 1 : Nat) : Int) - 1) = ((b.2.l.length : Nat) : Int) by omega]
      · rw [if_pos rfl, List.map_append]; rfl
      · have h1 := Weak.join (L' := bxL (bs0 ++ [((b.1, ⟨ao, cap, b.2.l ++ [s]⟩) : Nb)])) (by rw [rowSr_len, List.length_append]; unfold maxLen; simp; omega) 1 7 (by decide) rfl rfl (fun x hx => by
          unfold bxL at hx ⊢
          rw [List.map_append] at hx ⊢
          rcases List.mem_append.1 hx with h | h
          · exact .inl (List.mem_append_left _ h)
          · exact .inr (List.mem_singleton.1 h)) _ _ _ hs
        unfold dow
        rw [hk2]
        exact h1.pick (ks := [5, 6, 7] ++ tailIx 8 R.length) (pickH_append (A := [_, _, _]) rfl (pickH_tail (L := R) 8 rfl rfl)) (nodup_tail 8 _ rfl rfl)
    case' inr.inr => 
      refine SxIA.row 3 _ _ _ rfl bs0.length (by omega) (by omega) fun g' hg' => ?_
      obtain rfl : gb = g' := by simpa using hg'
      ((try refine sU ?_);repeat(refine sN fun _=>?_;try refine sU ?_))
      refine SxLdN.row 3 rfl rfl rfl (vs := [.int .u32 b.1, .slice b.2.ao b.2.l.length b.2.cap]) rfl (mbE.fl_at hat) ?_
      ((try refine sU ?_);repeat(refine sN fun _=>?_;try refine sU ?_))
      refine SxCall.quietS (v := .int .i64 (szB b.2.l : Nat)) (fun w1 hs1 => Size_any b.1 b.2.ao b.2.l b.2.cap (by omega) (by omega) w1 (hs1.rdIn 4 rfl hbm)) ?_
      ((try refine sU ?_);repeat(refine sN fun _=>?_;try refine sU ?_))
    all_goals
      obtain ⟨id, hid⟩ : ∃ id, id = (box + ((k : Nat) : Int)) % 4294967296 := ⟨_, rfl⟩
      rw [← hid]
      refine SxRng.u32 (by omega) (by omega) ?_
      ((try refine sU ?_);repeat(refine sN fun _=>?_;try refine sU ?_))
      refine SxRng.u32e hid ?_
      ((try refine sU ?_);repeat(refine sN fun _=>?_;try refine sU ?_))
      have hatn : ((bs0 ++ [b]).map Nb.mb ++ [((id, none, 0, 0) : Mb)])[k]? = some (id, none, 0, 0) := by
        rw [hk, List.getElem?_append_right (by rw [List.length_map]; exact Nat.le_refl _), List.length_map, Nat.sub_self]; rfl
      refine SxApp.mk 4 rfl 0 (.inr (.inr (.inr ⟨by decide, _, rfl⟩))) (vs := mbC (id, none, 0, 0)) (m := 1) rfl rfl (by unfold maxLen; omega) (by omega) (cs' := mbE.fl ((bs0 ++ [b]).map Nb.mb ++ [((id, none, 0, 0) : Mb)])) (by rw [mbE.fl_append]; rfl) fun bo1 bc1 => ?_
      ((try refine sU ?_);repeat(refine sN fun _=>?_;try refine sU ?_))
      refine SxIA.row 4 _ _ _ rfl k (by omega) (by omega) fun gb1 hgb => ?_
      subst hgb
      ((try refine sU ?_);repeat(refine sN fun _=>?_;try refine sU ?_))
      refine SxLdN.row 4 rfl rfl rfl (vs := [.int .u32 id, .slice none 0 0]) rfl (mbE.fl_at hatn) ?_
      ((try refine sU ?_);repeat(refine sN fun _=>?_;try refine sU ?_))
      refine SxApp.mk 0 (cs := []) rfl 0 (.inl ⟨rfl, rfl, rfl⟩) (vs := []) (m := 0) rfl rfl (by unfold maxLen; omega) (by omega) (cs' := []) rfl fun a1 c1 => ?_
      ((try refine sU ?_);repeat(refine sN fun _=>?_;try refine sU ?_))
      refine SxApp.mk 1 (cs := []) rfl 0 (.inr (.inr (.inr ⟨by decide, _, rfl⟩))) (vs := [.string s]) (m := 1) rfl rfl (by unfold maxLen; omega) (by omega) (cs' := strE.fl [s]) rfl fun ao cap => ?_
      ((try refine sU ?_);repeat(refine sN fun _=>?_;try refine sU ?_))
      refine SxCode.drawAll rfl [8] ?_
      ((try refine sU ?_);repeat(refine sN fun _=>?_;try refine sU ?_))
      refine SxIA.row 7 _ _ _ rfl k (by omega) (by omega) fun gb2 hgb2 => ?_
      obtain rfl : gb1 = gb2 := by simpa using hgb2
      ((try refine sU ?_);repeat(refine sN fun _=>?_;try refine sU ?_))
      have hset : splice (k * 2) [.int .u32 id, .slice ao (0 + 0 + 1) cap] (mbE.fl ((bs0 ++ [b]).map Nb.mb ++ [((id, none, 0, 0) : Mb)])) = mbE.fl (((bs0 ++ [b]) ++ [((id, ⟨ao, cap, [s]⟩) : Nb)]).map Nb.mb) := by
        have h1 := mbE.fl_set (l := (bs0 ++ [b]).map Nb.mb ++ [((id, none, 0, 0) : Mb)]) (i := k) (x := ((id, ao, 1, cap) : Mb)) (by rw [hk]; simp)
        refine Eq.trans h1 ?_
        congr 1
        rw [List.set_append_right _ _ (by rw [List.length_map, hk]; exact Nat.le_refl _), List.length_map, ← hk, Nat.sub_self, List.map_append (l₁ := bs0 ++ [b])]
        simp [Nb.mb]
      refine SxSt.row 7 rfl rfl (j := k * 2) (by omega) (by rw [mbE_len, List.length_append, List.length_map, ← hk]; show k * 2 + 2 ≤ (k + 1) * 2; omega) rfl hset ?_
      ((try refine sU ?_);repeat(refine sN fun _=>?_;try refine sU ?_))
      have hk2 : ((bs0 ++ [b]) ++ [((id, ⟨ao, cap, [s]⟩) : Nb)]).length = k + 1 := by rw [List.length_append, ← hk]; rfl
      refine SxDone.mk fun w' hs => ⟨(bs0 ++ [b]) ++ [((id, ⟨ao, cap, [s]⟩) : Nb)], some ⟨gb1, 0, none⟩, bc1, ?_, ?_, ?_⟩
      · rw [if_neg (by simp)]; rfl
      · rw [if_neg (by simp), List.map_append (l₁ := bs0 ++ [b])]; rfl
      · have h1 := Weak.join (L' := bxL ((bs0 ++ [b]) ++ [((id, ⟨ao, cap, [s]⟩) : Nb)])) (by show (1 : Nat) ≤ maxLen; unfold maxLen; omega) 1 8 (by decide) rfl rfl (fun x hx => by
          unfold bxL at hx ⊢
          rw [List.map_append (l₁ := bs0 ++ [b])] at hx
          rcases List.mem_append.1 hx with h | h
          · exact .inl h
          · exact .inr (List.mem_singleton.1 h)) _ _ _ hs
        unfold dow
        rw [hk2]
        exact h1.pick (ks := [6, 7, 8] ++ tailIx 9 R.length) (pickH_append (A := [_, _, _]) rfl (pickH_tail (L := R) 9 rfl rfl)) (nodup_tail 9 _ rfl rfl)
end Go.Proofs.YtlmefcepdadfjaaGreat
