/- Texts of this claim, one behind the other. -/
import Derived.Test.YtlmefcepdadfjaaGreatZStU
import Derived.Test.YtlmefcepdadfjaaGreatZStV
import Derived.Test.YtlmefcepdadfjaaGreatZSuT
import Derived.Test.YtlmefcepdadfjaaGreatZStM
import Derived.Test.YtlmefcepdadfjaaGreatZGen
import Derived.Test.YtlmefcepdadfjaaGreatZSxO
import Derived.Test.YtlmefcepdadfjaaGreatZStO
/- Layer 23: all that is made is sound: its places hold the bytes that came. -/
namespace Go.Proofs.YtlmefcepdadfjaaGreat
open Go.RowKit

theorem Cuts.bd {k : Conf4} (hk : k.ok) {s r : ByteArray} {cs : List ByteArray} (h : Cuts k s cs r) : ∀ x ∈ cs, x.size ≤ k.mx := by
  induction h with
  | nil => intro x hx; cases hx
  | @snoc cs r h hn ih =>
    intro x hx
    rcases List.mem_append.1 hx with h1 | h1
    · exact ih x h1
    · obtain rfl := List.mem_singleton.1 h1
      have := (cutN_bd k hk r.data.toList hn).2
      simp; omega
theorem Whole.bd {k : Conf4} (hk : k.ok) {s : ByteArray} {cs : List ByteArray} (h : Whole k s cs) : ∀ x ∈ cs, x.size ≤ k.mx := by
  obtain ⟨c0, r, h1, h2, rfl⟩ := h
  intro x hx
  rcases List.mem_append.1 hx with h3 | h3
  · exact h1.bd hk x h3
  · unfold lastOf at h3
    split at h3
    · cases h3
    · obtain rfl := List.mem_singleton.1 h3
      have := cutN_short k hk _ h2
      rw [ba_lenS] at this
      omega
theorem Whole.join {k : Conf4} {s : ByteArray} {cs : List ByteArray} (h : Whole k s cs) : joinB cs = s.data.toList := by
  obtain ⟨c0, r, h1, h2, rfl⟩ := h
  rw [← h1.joinS]
  unfold lastOf
  split
  · rename_i h3
    have : r.data.toList = [] := List.eq_nil_of_length_eq_zero (by rw [ba_lenS]; exact h3)
    rw [this, List.append_nil, List.append_nil]
  · exact joinB_snoc c0 r
section
variable {c : Nat → Int} {box man : Int} {G : List (List Rk)}
theorem conC_bd (hc : conC c = true) : 1 ≤ c 11 ∧ c 1 ≤ c 12 ∧ (cf c).ok ∧ ((cf c).mx : Int) = c 1 := by
  have h := hc
  unfold conC inC at h
  simp only [Bool.and_eq_true, decide_eq_true_eq] at h
  have hm := (conC_may hc).1
  have h2 := (conf4_of hm).1
  rw [mayC_iff] at hm
  refine ⟨by omega, by omega, h2, ?_⟩
  show (((c 1).toNat : Nat) : Int) = c 1
  omega
theorem made_sound (hc : conC c = true) (h0 : 0 ≤ box) (ha : Apart box G) {A : ByteArray} {CS : List ByteArray} (hw : Whole (cf c) A CS) (hov : overC box man (madeP c box man G CS).ms.length (madeP c box man G CS).bs.length = false) : Sound c box G (madeP c box man G CS).bs (ents (madeP c box man G CS).ms) CS := by
  obtain ⟨h11, h12, hok, hmx⟩ := conC_bd hc
  have hsz : ∀ s ∈ CS, (s.size : Int) ≤ c 12 := fun s hs => by have := hw.bd hok s hs; omega
  have hb : box + (madeP c box man G CS).bs.length < 4294967296 := by
    unfold overC at hov
    simp only [Bool.or_eq_false_iff, decide_eq_false_iff_not] at hov
    omega
  have hle : (laidP c box man G CS).1.bs.length ≤ (madeP c box man G CS).bs.length := by
    unfold madeP lastP
    split
    · exact Nat.le_refl _
    · exact (layP_mono _ _).1
  obtain ⟨ds, h1, h2⟩ := laid_sound (man := man) (conC_may hc).2 h0 ha h11 CS hsz (by omega)
  unfold madeP lastP at hb ⊢
  split at hb
  · rename_i h3
    rw [if_pos h3]
    rw [h3, List.append_nil] at h1
    rw [h1] at h2
    exact h2
  · rename_i h3
    rw [if_neg h3]
    obtain ⟨es, h4, h5⟩ := lay_sound h0 ha h11 (fun s hs => hsz s (by rw [← h1]; exact List.mem_append_right _ hs)) h2 hb
    rw [h4, ents_snoc]
    rw [h1] at h5
    exact h5
end
end Go.Proofs.YtlmefcepdadfjaaGreat
/- Layer 23, the document: how great a box is; what an entry's place holds. -/
namespace Go.Proofs.YtlmefcepdadfjaaGreat
open Go.RowKit

set_option maxHeartbeats 4000000 in
theorem Size_any (id : Int) (ao : Option Addr) (l : List ByteArray) (cap : Nat) (hl : l.length ≤ 100000) (hs : szB l ≤ 100000000) (w : World) (hr : Rd w ao (strE.fl l)) :
    Calls Tryz.prog 17 #[.agg (mbC (id, ao, l.length, cap)).toArray] w fun e w' => e = .returned (.int .i64 (szB l : Nat)) ∧ Below w.heap.size w w' := by
  refine sx_fn (S := SX) (M := []) (N := 21) (H0 := [.rd ao (strE.fl l)]) Tryz.func17 rfl rfl rfl (Sat.oneRd _ hr) ?_
  ((try refine sU ?_);repeat(refine sN fun _=>?_;try refine sU ?_))
  rename_i gb
  refine SxCode.loop (σ := Nat) [4, 3] [5, 6, 7, 8, 9, 12, 13, 14, 15, 16, 17, 18, 19, 3, 10, 11, 4] (fun k => [.int .i64 (k : Nat), .int .i64 (szB (l.take k) : Nat)]) (fun _ => [.blk gb 61 [.int .u32 id, .slice ao l.length cap], .rd ao (strE.fl l)]) (fun k => k ≤ l.length) (fun k => l.length - k) 0 [0, 1] rfl rfl rfl rfl (Nat.zero_le _) ?_
  rintro k hk
  by_cases hlt : k < l.length
  · obtain ⟨s, hs1⟩ : ∃ s, l[k]? = some s := ⟨l[k], by simp [hlt]⟩
    have hsn : szB (l.take (k + 1)) = szB (l.take k) + s.size := by rw [take_snocE hs1, szB_snoc]
    have hsm := szB_take l (k + 1)
    ((try refine sU ?_);repeat(refine sN fun _=>?_;try refine sU ?_))
    refine SxIA.rd 1 _ rfl k rfl hlt (by rw [rowSr_len]; omega) fun g off ha => ?_
    ((try refine sU ?_);repeat(refine sN fun _=>?_;try refine sU ?_))
    refine SxLd.rd 1 rfl ha rfl (j := k * 1) (rowSr_cell (j := 0) hs1 rfl) ?_
    ((try refine sU ?_);repeat(refine sN fun _=>?_;try refine sU ?_))
    refine SxRound.mk (k + 1) [0, 1] (by rw [hsn]; rfl) rfl rfl hlt (by omega)
  · obtain rfl : k = l.length := by omega
    rw [List.take_length]
    ((try refine sU ?_);repeat(refine sN fun _=>?_;try refine sU ?_))
    exact SxDone.mk fun w' hs => ⟨rfl, hs.touch.below⟩
theorem bx_first {bs : List Nb} {i : Nat} {x : Nb} {b : Int} (hx : bs[i]? = some x) (hb : x.1 = b) (hall : ∀ i', i' < i → ∀ y, bs[i']? = some y → y.1 ≠ b) : (bs.map Nb.bx).find? (fun y : Bx => y.1 == b) = some x.bx := by
  rw [List.find?_eq_some_iff_getElem]
  obtain ⟨hl, he⟩ := List.getElem?_eq_some_iff.1 hx
  refine ⟨by simp [Nb.bx, hb], i, by rw [List.length_map]; exact hl, by rw [List.getElem_map, he], fun j hj => ?_⟩
  have h4 := hall j hj (bs[j]'(by omega)) (by simp)
  rw [List.getElem_map]
  have : ((bs[j]'(by omega)).bx.1 == b) = false := by simpa [Nb.bx] using h4
  rw [this]; rfl
theorem bx_none {bs : List Nb} {b : Int} (hall : ∀ (i : Nat) (y : Nb), bs[i]? = some y → y.1 ≠ b) : (bs.map Nb.bx).find? (fun y : Bx => y.1 == b) = none := List.find?_eq_none.2 fun y hy => by
  obtain ⟨x, hx, rfl⟩ := List.mem_map.1 hy
  obtain ⟨i, hi⟩ := List.getElem?_of_mem hx
  have := hall i x hi
  simpa [Nb.bx] using this
set_option maxHeartbeats 8000000 in
theorem RMBytes_any (go : Option Addr) (gc : Nat) (gs : List (Drow Rk)) (hgl : gs.length ≤ 1000) (hdl : ∀ d ∈ gs, d.l.length ≤ 1000) (bs : List Nb) (hbl : bs.length ≤ 100000) (e : En) (g : Nat) (mv lv : Value) (bo : Option Addr) (bc : Nat) (w : World)
    (hr : Rd w (some ⟨g, 0, none⟩) [mv, .slice bo bs.length bc, lv]) (hb : Rd w bo (mbE.fl (bs.map Nb.mb))) (hd : RdAll w (bxL bs)) (hg : RdAll w (grL go gs)) :
    Calls Tryz.prog 19 #[.pointer (some ⟨g, 0, none⟩), .agg (enC e).toArray, .agg (lbC go gs.length gc).toArray] w fun r w' => r = .returned (.tuple #[.string (toldP (gs.map (·.l)) (bs.map Nb.bx) e).1, .bool (toldP (gs.map (·.l)) (bs.map Nb.bx) e).2]) ∧ Below w.heap.size w w' := by
  refine sx_fn (S := SX) (M := []) (N := 63) (H0 := [.rd (some ⟨g, 0, none⟩) [mv, .slice bo bs.length bc, lv], .rd bo (mbE.fl (bs.map Nb.mb)), .gen (rdsG (bxL bs)), .gen (rdsG (grL go gs))]) Tryz.func19 rfl rfl rfl (Sat.rdsM w [] _ fun j e hj => by
    match j, hj with
    | 0, hj => cases hj; exact ⟨rfl, hr⟩
    | 1, hj => cases hj; exact ⟨rfl, hb⟩
    | 2, hj => cases hj; exact ⟨rfl, hd⟩
    | 3, hj => cases hj; exact ⟨rfl, hg⟩) ?_
  ((try refine sU ?_);repeat(refine sN fun _=>?_;try refine sU ?_))
  rename_i be bl
  refine SxCode.loop (σ := Nat) [8, 6, 7] [9, 10, 11, 12, 13, 14, 15, 18, 19, 20, 21, 22, 23, 24, 25, 26, 27, 28, 29, 30, 31, 32, 33, 34, 35, 36, 37, 38, 39, 40, 41, 42, 43, 44, 45, 46, 47, 48, 49, 50, 51, 52, 53, 54, 55, 56, 57, 6, 7, 16, 17, 8] (fun i => [.int .i64 (i : Nat), .string ⟨#[]⟩, .bool false]) (fun _ => [.blk bl 36 (lbC go gs.length gc), .blk be 71 (enC e), .rd (some ⟨g, 0, none⟩) [mv, .slice bo bs.length bc, lv], .rd bo (mbE.fl (bs.map Nb.mb)), .gen (rdsG (bxL bs)), .gen (rdsG (grL go gs))]) (fun i => i ≤ bs.length ∧ ∀ i', i' < i → ∀ y, bs[i']? = some y → y.1 ≠ e.bx) (fun i => bs.length - i) 0 [0, 1, 2, 3, 4, 5] rfl rfl rfl rfl ⟨Nat.zero_le _, fun i' hi => absurd hi (Nat.not_lt_zero _)⟩ ?_
  rintro i ⟨hi, hall⟩
  by_cases hlt : i < bs.length
  · obtain ⟨x, hx⟩ : ∃ x, bs[i]? = some x := ⟨bs[i], by simp [hlt]⟩
    have hmem := List.mem_of_getElem? hx
    have hkl : i * 2 < (mbE.fl (bs.map Nb.mb)).length := by rw [mbE_len, List.length_map]; omega
    have hid := mbE.fl_cell (j := 0) (v := .int .u32 x.1) (Nb.mb_at hx) rfl
    have hco := mbE.fl_cell (j := 1) (v := .slice x.2.ao x.2.l.length x.2.cap) (Nb.mb_at hx) rfl
    ((try refine sU ?_);repeat(refine sN fun _=>?_;try refine sU ?_))
    refine SxLd.rd 2 rfl rfl (j := 1) (v := .slice bo bs.length bc) rfl rfl ?_
    ((try refine sU ?_);repeat(refine sN fun _=>?_;try refine sU ?_))
    refine SxCode.drawAll rfl [] ?_
    ((try refine sU ?_);repeat(refine sN fun _=>?_;try refine sU ?_))
    refine SxLd.rd 2 rfl rfl (j := 1) (v := .slice bo bs.length bc) rfl rfl ?_
    ((try refine sU ?_);repeat(refine sN fun _=>?_;try refine sU ?_))
    refine SxIA.rd 3 _ rfl i rfl hlt hkl fun g1 off ha => ?_
    ((try refine sU ?_);repeat(refine sN fun _=>?_;try refine sU ?_))
    refine SxLd.rd 3 rfl ha (by omega) (j := i * 2) (v := .int .u32 x.1) hid ?_
    ((try refine sU ?_);repeat(refine sN fun _=>?_;try refine sU ?_))
    refine SxLd.blk 1 rfl (v := .int .u32 e.bx) (enC_tail e 1 _ rfl) ?_
    by_cases hb1 : x.1 = e.bx
    · have hf := bx_first hx hb1 hall
      by_cases h0 : e.sl < 0
      · have ht : toldP (gs.map (·.l)) (bs.map Nb.bx) e = (⟨#[]⟩, false) := by unfold toldP; rw [chunkP_ge hf (by omega)]; rfl
        rw [ht]
        ((try refine sU ?_);repeat(refine sN fun _=>?_;try refine sU ?_))
        refine SxCode.drawAll rfl [] ?_
        ((try refine sU ?_);repeat(refine sN fun _=>?_;try refine sU ?_))
        refine SxLd.blk 1 rfl (v := .int .i64 e.sl) (enC_tail e 2 _ rfl) ?_
        ((try refine sU ?_);repeat(refine sN fun _=>?_;try refine sU ?_))
        exact SxDone.mk fun w' hs => ⟨rfl, hs.touch.below⟩
      · obtain ⟨j, hj⟩ : ∃ j : Nat, e.sl = j := ⟨e.sl.toNat, by omega⟩
        have hsl : (enC e)[34]? = some (.int .i64 (j : Nat)) := by rw [← hj]; exact enC_tail e 2 _ rfl
        rcases Nat.lt_or_ge j x.2.l.length with h1 | h1
        case' inl =>
          obtain ⟨t, ht⟩ : ∃ t, x.2.l[j]? = some t := ⟨x.2.l[j], by simp [h1]⟩
          have hto : toldP (gs.map (·.l)) (bs.map Nb.bx) e = (t, true) := by unfold toldP; rw [hj, chunkP_in hf ht]; rfl
        case' inr =>
          have hto : toldP (gs.map (·.l)) (bs.map Nb.bx) e = (⟨#[]⟩, false) := by
            unfold toldP
            rw [chunkP_ge hf (by show ¬ (0 ≤ e.sl ∧ e.sl < (x.2.l.length : Nat)); omega)]; rfl
        all_goals
          rw [hto]
          ((try refine sU ?_);repeat(refine sN fun _=>?_;try refine sU ?_))
          refine SxCode.drawAll rfl [] ?_
          ((try refine sU ?_);repeat(refine sN fun _=>?_;try refine sU ?_))
          refine SxLd.blk 1 rfl (v := .int .i64 (j : Nat)) hsl ?_
          ((try refine sU ?_);repeat(refine sN fun _=>?_;try refine sU ?_))
          refine SxLd.blk 1 rfl (v := .int .i64 (j : Nat)) hsl ?_
          ((try refine sU ?_);repeat(refine sN fun _=>?_;try refine sU ?_))
          refine SxLd.rd 2 rfl rfl (j := 1) (v := .slice bo bs.length bc) rfl rfl ?_
          ((try refine sU ?_);repeat(refine sN fun _=>?_;try refine sU ?_))
          refine SxIA.rd 3 _ rfl i rfl hlt hkl fun g1 off ha => ?_
          ((try refine sU ?_);repeat(refine sN fun _=>?_;try refine sU ?_))
          refine SxLd.rd 3 rfl ha (by omega) (j := i * 2 + 1) (v := .slice x.2.ao x.2.l.length x.2.cap) hco ?_
          ((try refine sU ?_);repeat(refine sN fun _=>?_;try refine sU ?_))
        · exact SxDone.mk fun w' hs => ⟨rfl, hs.touch.below⟩
        · refine SxCode.drawAll rfl [] ?_
          ((try refine sU ?_);repeat(refine sN fun _=>?_;try refine sU ?_))
          refine SxLd.rd 2 rfl rfl (j := 1) (v := .slice bo bs.length bc) rfl rfl ?_
          ((try refine sU ?_);repeat(refine sN fun _=>?_;try refine sU ?_))
          refine SxIA.rd 3 _ rfl i rfl hlt hkl fun g1 off ha => ?_
          ((try refine sU ?_);repeat(refine sN fun _=>?_;try refine sU ?_))
          refine SxLd.rd 3 rfl ha (by omega) (j := i * 2 + 1) (v := .slice x.2.ao x.2.l.length x.2.cap) hco ?_
          ((try refine sU ?_);repeat(refine sN fun _=>?_;try refine sU ?_))
          refine SxLd.blk 1 rfl (v := .int .i64 (j : Nat)) hsl ?_
          ((try refine sU ?_);repeat(refine sN fun _=>?_;try refine sU ?_))
          refine SxIA.of 4 rfl (bxL_mem hmem) j rfl h1 (by rw [rowSr_len]; omega) fun g2 off2 ha2 => ?_
          ((try refine sU ?_);repeat(refine sN fun _=>?_;try refine sU ?_))
          refine SxLd.of 4 rfl (bxL_mem hmem) ha2 rfl (j := j * 1) (rowSr_cell (j := 0) ht rfl) ?_
          ((try refine sU ?_);repeat(refine sN fun _=>?_;try refine sU ?_))
          exact SxDone.mk fun w' hs => ⟨rfl, hs.touch.below⟩
    · ((try refine sU ?_);repeat(refine sN fun _=>?_;try refine sU ?_))
      refine SxRound.mk (i + 1) [0, 1, 2, 3, 4, 5] rfl rfl rfl ⟨hlt, fun i' hi' y hy => ?_⟩ (by omega)
      rcases Nat.lt_succ_iff_lt_or_eq.1 hi' with h2 | h2
      · exact hall i' h2 y hy
      · subst h2
        obtain rfl := Option.some.inj (hx.symm.trans hy)
        exact hb1
  · obtain rfl : i = bs.length := by omega
    have hf : (bs.map Nb.bx).find? (fun y : Bx => y.1 == e.bx) = none := bx_none fun i' y hy => hall i' (List.getElem?_eq_some_iff.1 hy).1 y hy
    have ht : toldP (gs.map (·.l)) (bs.map Nb.bx) e = bytesG (gs.map (·.l)) e.bx e.sl := by unfold toldP chunkP; rw [hf]; rfl
    rw [ht]
    ((try refine sU ?_);repeat(refine sN fun _=>?_;try refine sU ?_))
    refine SxLd.rd 2 rfl rfl (j := 1) (v := .slice bo bs.length bc) rfl rfl ?_
    ((try refine sU ?_);repeat(refine sN fun _=>?_;try refine sU ?_))
    refine SxLdN.blk 1 rfl (vs := enC e) (enC_len e) (enC_whole e) ?_
    ((try refine sU ?_);repeat(refine sN fun _=>?_;try refine sU ?_))
    refine SxCall.quietS (fun w1 hs1 => RBytes_any go gc gs hgl hdl e w1 (hs1.rds1 5 rfl)) ?_
    ((try refine sU ?_);repeat(refine sN fun _=>?_;try refine sU ?_))
    exact SxDone.mk fun w' hs => ⟨rfl, hs.touch.below⟩
end Go.Proofs.YtlmefcepdadfjaaGreat
/- A row joins what is only read. -/
namespace Go.Proofs.YtlmefcepdadfjaaGreat
open Go.RowKit

theorem Weak.join {H : Hp} {L : RdL} {ao : Option Addr} {n cap e k : Nat} {cs : List Value} (hm : cs.length ≤ maxLen) (p q : Nat) (hpq : p ≠ q) (hp : H[p]? = some (.row ao n cap e k cs)) (hq : H[q]? = some (.gen (rdsG L))) {L' : RdL} (hL : ∀ x ∈ L', x ∈ L ∨ x = (ao, cs)) : Weak H ((H.set p (.row none 0 0 e k [])).set q (.gen (rdsG L'))) := by
  refine Weak.merge p q hpq hp hq _ _ (fun W M w hs x hx => ?_) fun g hg => ?_
  · rcases hL x hx with h | rfl
    · exact hs.rds1 q hq x h
    · exact hs.rowRd p hp hm
  · obtain ⟨x, hx, hu⟩ := hg
    rcases hL x hx with h | rfl
    · exact .inl ⟨x, h, hu⟩
    · exact .inr hu.2
end Go.Proofs.YtlmefcepdadfjaaGreat
/- Layer 23, the document: weights, chunks, what is too much. -/
namespace Go.Proofs.YtlmefcepdadfjaaGreat
open Go.RowKit

theorem freshX_app (a b : List Bx) : freshX (a ++ b) = freshX a + freshX b := by simp [freshX]
end Go.Proofs.YtlmefcepdadfjaaGreat
/- Package slices at api.Place. -/
namespace Go.Proofs.YtlmefcepdadfjaaGreat
open Go.RowKit

theorem rowPl_at {l : List Pl} {k : Nat} {x : Pl} (h : l[k]? = some x) : ((plE.fl l).drop (k * 2)).take 2 = plE.enc x := plE.fl_at h
theorem rowPl_len (l : List Pl) : (plE.fl l).length = l.length * 2 := plE.fl_len l
end Go.Proofs.YtlmefcepdadfjaaGreat
/- The walk of the document's set of places. -/
namespace Go.Proofs.YtlmefcepdadfjaaGreat
open Go.RowKit

theorem takeWhile_atP {α : Type} {p : α → Bool} {l : List α} {k : Nat} (h1 : ∀ j y, j < k → l[j]? = some y → p y = true) (h2 : ∀ y, l[k]? = some y → p y = false) (hk : k ≤ l.length) : l.takeWhile p = l.take k ∧ l.dropWhile p = l.drop k := by
  induction k generalizing l with
  | zero =>
    cases l with
    | nil => exact ⟨rfl, rfl⟩
    | cons y r =>
      have := h2 y rfl
      rw [List.takeWhile_cons_of_neg (by rw [this]; simp), List.dropWhile_cons_of_neg (by rw [this]; simp)]
      exact ⟨rfl, rfl⟩
  | succ k ih =>
    cases l with
    | nil => simp at hk
    | cons y r =>
      have hy := h1 0 y (by omega) rfl
      obtain ⟨e1, e2⟩ := ih (l := r) (fun j z hj hz => h1 (j + 1) z (by omega) (by simpa using hz)) (fun z hz => h2 z (by simpa using hz)) (by simpa using hk)
      rw [List.takeWhile_cons_of_pos hy, List.dropWhile_cons_of_pos hy, e1, e2]
      exact ⟨rfl, rfl⟩
theorem strictP_at {l : List Pl} (h : l.Pairwise ltP) {i j : Nat} {x y : Pl} (hij : i < j) (hx : l[i]? = some x) (hy : l[j]? = some y) : ltP x y := by
  obtain ⟨hi, rfl⟩ := List.getElem?_eq_some_iff.1 hx
  obtain ⟨hj, rfl⟩ := List.getElem?_eq_some_iff.1 hy
  exact List.pairwise_iff_getElem.1 h i j hi hj hij
theorem at_stop {o : List Pl} {x : Pl} {k : Nat} (hst : o.Pairwise ltP) (hall : ∀ j y, j < k → o[j]? = some y → ltbP y x = true) (hno : ∀ y, o[k]? = some y → ltbP y x = false) : x ∈ o ↔ o[k]? = some x := by
  constructor
  · intro h
    obtain ⟨j, hj⟩ := List.getElem?_of_mem h
    rcases Nat.lt_trichotomy j k with h1 | h1 | h1
    · exact absurd ((ltbP_iff x x).1 (hall j x h1 hj)) (ltP_ord.irr x)
    · subst h1; exact hj
    · have hkl : k < o.length := by have := (List.getElem?_eq_some_iff.1 hj).1; omega
      obtain ⟨y, hy⟩ : ∃ y, o[k]? = some y := ⟨o[k], by simp [hkl]⟩
      have h2 := (ltbP_iff y x).2 (strictP_at hst h1 hy hj)
      rw [hno y hy] at h2
      cases h2
  · exact List.mem_of_getElem?
abbrev setRP (l : List Pl) : List Pl := setR ltbP l
set_option maxHeartbeats 4000000 in
theorem RSetP_any (l : List Pl) (hl : l.length ≤ 1000000) (ao : Option Addr) (cap : Nat) (w : World) (hr : Rd w ao (plE.fl l)) :
    Calls Tryz.prog 46 #[.slice ao l.length cap] w fun e w' => ∃ ao' cap', e = .returned (.slice ao' (setRP l).length cap') ∧ NewRow w w' ao' (setRP l).length cap' 109 2 (plE.fl (setRP l)) := by
  refine sx_fn (S := SX) (M := []) (N := 63) (H0 := [.row none 0 0 109 2 [], .rd ao (plE.fl l)]) Tryz.func46 rfl rfl rfl ((Sat.oneRd _ hr).nilRow 109 2) ?_
  ((try refine sU ?_);repeat(refine sN fun _=>?_;try refine sU ?_))
  refine SxCode.loop (σ := Nat × Option Addr × Nat) [4, 3] [7, 8, 9, 10, 5, 13, 14, 15, 16, 17, 18, 19, 20, 21, 22, 23, 24, 25, 26, 27, 28, 29, 30, 31, 32, 33, 34, 35, 36, 37, 38, 39, 40, 41, 42, 43, 44, 45, 46, 47, 48, 49, 6, 50, 51, 52, 53, 54, 55, 56, 57, 58, 59, 60, 61, 3, 11, 12, 4] (fun s => [.int .i64 (s.1 : Nat), .slice s.2.1 (setRP (l.take s.1)).length s.2.2]) (fun s => [.row s.2.1 (setRP (l.take s.1)).length s.2.2 109 2 (plE.fl (setRP (l.take s.1))), .rd ao (plE.fl l)])
    (fun s => s.1 ≤ l.length) (fun s => l.length - s.1) (0, none, 0) [0, 1] rfl rfl rfl rfl (Nat.zero_le _) ?_
  rintro ⟨i, oo, oc⟩ hi
  dsimp only at hi ⊢
  have hon := setR_len ltbP (l.take i)
  have hst := (setR_ok ltP_ord ltbP_iff (l.take i)).1
  rw [List.length_take] at hon
  obtain ⟨o, ho⟩ : ∃ o, o = setRP (l.take i) := ⟨_, rfl⟩
  rw [← ho]
  replace hst : o.Pairwise ltP := by rw [ho]; exact hst
  have hon : o.length ≤ i := by rw [ho]; show (setR ltbP _).length ≤ _; omega
  refine sx_base 0 rfl fun hoo hoc => ?_
  ((try refine sU ?_);repeat(refine sN fun _=>?_;try refine sU ?_))
  refine SxIf.dec (fun h => ?_) (fun h => ?_)
  · have hlt : i < l.length := by omega
    obtain ⟨x, hx⟩ : ∃ x, l[i]? = some x := ⟨l[i], by simp [hlt]⟩
    have hsn : setRP (l.take (i + 1)) = if x ∈ o then o else putIn ltbP x o := by
      rw [take_snocE hx]
      show setR ltbP _ = _
      rw [setR_snoc, show setR ltbP (l.take i) = o from ho.symm]

    ((try refine sU ?_);repeat(refine sN fun _=>?_;try refine sU ?_))
    refine SxCode.loop (σ := Nat) [5] [13, 14, 15, 16, 17, 18, 19, 20, 21, 22, 23, 24, 25, 26, 27, 28, 29, 5] (fun k => [.int .i64 (k : Nat)]) (fun _ => [.row oo o.length oc 109 2 (plE.fl o), .rd ao (plE.fl l)]) (fun k => k ≤ o.length ∧ ∀ j y, j < k → o[j]? = some y → ltbP y x = true) (fun k => o.length - k) 0 [0, 1] rfl rfl rfl rfl ⟨Nat.zero_le _, fun j y hj => absurd hj (Nat.not_lt_zero _)⟩ ?_
    rintro k ⟨hk, hall⟩
    have back : ∀ (hno : ∀ y, o[k]? = some y → ltbP y x = false), putIn ltbP x o = o.take k ++ x :: o.drop k := fun hno => by
      obtain ⟨e1, e2⟩ := takeWhile_atP (p := fun y => ltbP y x) hall hno hk
      unfold putIn
      rw [e1, e2]
    have hln : ∀ (hno : ∀ y, o[k]? = some y → ltbP y x = false) (hni : x ∉ o), (setRP (l.take (i + 1))).length = 0 + (k - 0) + 1 + (o.length - k) := fun hno hni => by
      rw [hsn, if_neg hni, back hno, List.length_append, List.length_cons, List.length_take, List.length_drop]
      omega
    ((try refine sU ?_);repeat(refine sN fun _=>?_;try refine sU ?_))
    refine SxCode.drawAll rfl [] ?_
    ((try refine sU ?_);repeat(refine sN fun _=>?_;try refine sU ?_))
    refine SxIf.dec (fun h5 => ?_) (fun h5 => ?_)
    · have hkl : k < o.length := by omega
      obtain ⟨y, hy⟩ : ∃ y, o[k]? = some y := ⟨o[k], by simp [hkl]⟩
      obtain ⟨g, rfl⟩ := hoo (by omega)
      ((try refine sU ?_);repeat(refine sN fun _=>?_;try refine sU ?_))
      refine SxIA.row 0 _ _ _ rfl k rfl hkl fun g' hg' => ?_
      obtain rfl : g = g' := by simpa using hg'
      ((try refine sU ?_);repeat(refine sN fun _=>?_;try refine sU ?_))
      refine SxLdN.row 0 rfl rfl rfl (vs := plE.enc y) (plE.len y) (rowPl_at hy) ?_
      ((try refine sU ?_);repeat(refine sN fun _=>?_;try refine sU ?_))
      refine SxIA.rd 1 _ rfl i rfl hlt (by rw [rowPl_len]; omega) fun gi off ha => ?_
      ((try refine sU ?_);repeat(refine sN fun _=>?_;try refine sU ?_))
      refine SxLdN.rd 1 rfl ha rfl (vs := plE.enc x) (plE.len x) (rowPl_at hx) ?_
      ((try refine sU ?_);repeat(refine sN fun _=>?_;try refine sU ?_))
      refine SxCall.quiet (RLessP_any y x) ?_
      ((try refine sU ?_);repeat(refine sN fun _=>?_;try refine sU ?_))
      refine ⟨fun hg => ?_, fun hg => ?_⟩
      · ((try refine sU ?_);repeat(refine sN fun _=>?_;try refine sU ?_))
        refine SxRound.mk (k + 1) [0, 1] rfl rfl rfl ⟨by omega, fun j z hj hz => ?_⟩ (by omega)
        rcases Nat.lt_succ_iff_lt_or_eq.1 hj with h6 | h6
        · exact hall j z h6 hz
        · subst h6
          obtain rfl := Option.some.inj (hy.symm.trans hz)
          exact hg
      · have hno : ∀ y, o[k]? = some y → ltbP y x = false := fun z hz => by
          obtain rfl := Option.some.inj (hy.symm.trans hz)
          exact hg
        have hiff := at_stop hst hall hno
        ((try refine sU ?_);repeat(refine sN fun _=>?_;try refine sU ?_))
        refine SxCode.drawAll rfl [] ?_
        ((try refine sU ?_);repeat(refine sN fun _=>?_;try refine sU ?_))
        refine SxIA.row 0 _ _ _ rfl k rfl hkl fun g' hg' => ?_
        obtain rfl : g = g' := by simpa using hg'
        ((try refine sU ?_);repeat(refine sN fun _=>?_;try refine sU ?_))
        refine SxLdN.row 0 rfl rfl rfl (vs := plE.enc y) (plE.len y) (rowPl_at hy) ?_
        ((try refine sU ?_);repeat(refine sN fun _=>?_;try refine sU ?_))
        refine SxIA.rd 1 _ rfl i rfl hlt (by rw [rowPl_len]; omega) fun gi off ha => ?_
        ((try refine sU ?_);repeat(refine sN fun _=>?_;try refine sU ?_))
        refine SxLdN.rd 1 rfl ha rfl (vs := plE.enc x) (plE.len x) (rowPl_at hx) ?_
        ((try refine sU ?_);repeat(refine sN fun _=>?_;try refine sU ?_))
        refine SxRun.eqPl (x := y) (y := x) ?_
        ((try refine sU ?_);repeat(refine sN fun _=>?_;try refine sU ?_))
        refine SxIf.dec (fun h7 => ?_) (fun h7 => ?_)
        · have hin : x ∈ o := hiff.2 (by rw [hy, h7])
          rw [if_pos hin] at hsn
          ((try refine sU ?_);repeat(refine sN fun _=>?_;try refine sU ?_))
          exact SxRound.mk (i + 1, some ⟨g, 0, none⟩, oc) [0, 1] (by dsimp only; rw [hsn]; rfl) (by dsimp only; rw [hsn]; rfl) rfl hlt (by dsimp only; omega)
        · have hni : x ∉ o := fun h8 => h7 (Option.some.inj (hy.symm.trans (hiff.1 h8)))
          ((try refine sU ?_);repeat(refine sN fun _=>?_;try refine sU ?_))
          refine SxBnd.mk 0 k rfl rfl (by omega) (by omega) fun o1 a1 a2 => ?_
          ((try refine sU ?_);repeat(refine sN fun _=>?_;try refine sU ?_))
          refine SxApp.from_ 0 rfl (vs := plE.fl (o.take k)) (fun W M w hs => by
            have h8 := (hs.rowRd 1 rfl (by rw [rowPl_len]; unfold maxLen; omega)).sub (ao' := o1) 0 (k * 2) (fun hz => by
              rw [rowPl_len] at hz
              exact a1 (by omega))
            have h9 := plE.fl_take o k
            rw [List.drop_zero, show (plE.fl o).take (k * 2) = _ from h9] at h8
            exact h8) (by rw [rowPl_len, List.length_take, Nat.min_eq_left (by omega)]; rfl) (plE.fl_allOne _) (by unfold maxLen; omega) (by omega) (cs' := plE.fl (o.take k)) rfl fun x1 c1 => ?_
          ((try refine sU ?_);repeat(refine sN fun _=>?_;try refine sU ?_))
          refine SxIA.rd 2 _ rfl i rfl hlt (by rw [rowPl_len]; omega) fun gi off ha => ?_
          ((try refine sU ?_);repeat(refine sN fun _=>?_;try refine sU ?_))
          refine SxLdN.rd 2 rfl ha rfl (vs := plE.enc x) (plE.len x) (rowPl_at hx) ?_
          ((try refine sU ?_);repeat(refine sN fun _=>?_;try refine sU ?_))
          refine SxApp.mk 1 rfl 0 (.inr (.inr (.inr ⟨by decide, _, rfl⟩))) (m := 1) (by show (plE.enc x).length = 1 * 2; exact plE.len x) (plE.one x) (by unfold maxLen; omega) (by omega) (cs' := plE.fl (o.take k ++ [x])) (by rw [plE.fl_append, plE.fl_one]; rfl) fun x2 c2 => ?_
          ((try refine sU ?_);repeat(refine sN fun _=>?_;try refine sU ?_))
          refine SxBnd.mk k o.length rfl rfl (by omega) (by omega) fun o2 b1 b2 => ?_
          ((try refine sU ?_);repeat(refine sN fun _=>?_;try refine sU ?_))
          refine SxApp.from_ 1 rfl (vs := plE.fl (o.drop k)) (fun W M w hs => by
            have h8 := (hs.rowRd 2 rfl (by rw [rowPl_len]; unfold maxLen; omega)).sub (ao' := o2) (k * 2) (o.length * 2) (fun hz => by
              rw [rowPl_len] at hz
              exact b1 (by omega))
            have h9 := plE.fl_drop o k
            rw [show (plE.fl o).drop (k * 2) = _ from h9, List.take_of_length_le (by rw [rowPl_len, List.length_drop]; omega)] at h8
            exact h8) (by rw [rowPl_len, List.length_drop]) (plE.fl_allOne _) (by unfold maxLen; omega) (by omega) (cs' := plE.fl (putIn ltbP x o)) (by rw [← plE.fl_append, back hno, List.append_assoc]; rfl) fun x3 c3 => ?_
          ((try refine sU ?_);repeat(refine sN fun _=>?_;try refine sU ?_))
          exact SxRound.mk (i + 1, x3, c3) [1, 3] (by dsimp only; rw [hln hno hni]; rfl) (by dsimp only; rw [hln hno hni, hsn, if_neg hni]; rfl) rfl hlt (by dsimp only; omega)
    · have hno : ∀ y, o[k]? = some y → ltbP y x = false := fun z hz => by
        rw [List.getElem?_eq_none (by omega)] at hz
        cases hz
      have hiff := at_stop hst hall hno
      have hni : x ∉ o := fun h8 => by
        have := hiff.1 h8
        rw [List.getElem?_eq_none (by omega)] at this
        cases this
      ((try refine sU ?_);repeat(refine sN fun _=>?_;try refine sU ?_))
      refine SxCode.drawAll rfl [] ?_
      ((try refine sU ?_);repeat(refine sN fun _=>?_;try refine sU ?_))
      refine SxBnd.mk 0 k rfl rfl (by omega) (by omega) fun o1 a1 a2 => ?_
      ((try refine sU ?_);repeat(refine sN fun _=>?_;try refine sU ?_))
      refine SxApp.from_ 0 rfl (vs := plE.fl (o.take k)) (fun W M w hs => by
        have h8 := (hs.rowRd 1 rfl (by rw [rowPl_len]; unfold maxLen; omega)).sub (ao' := o1) 0 (k * 2) (fun hz => by
          rw [rowPl_len] at hz
          exact a1 (by omega))
        have h9 := plE.fl_take o k
        rw [List.drop_zero, show (plE.fl o).take (k * 2) = _ from h9] at h8
        exact h8) (by rw [rowPl_len, List.length_take, Nat.min_eq_left (by omega)]; rfl) (plE.fl_allOne _) (by unfold maxLen; omega) (by omega) (cs' := plE.fl (o.take k)) rfl fun x1 c1 => ?_
      ((try refine sU ?_);repeat(refine sN fun _=>?_;try refine sU ?_))
      refine SxIA.rd 2 _ rfl i rfl hlt (by rw [rowPl_len]; omega) fun gi off ha => ?_
      ((try refine sU ?_);repeat(refine sN fun _=>?_;try refine sU ?_))
      refine SxLdN.rd 2 rfl ha rfl (vs := plE.enc x) (plE.len x) (rowPl_at hx) ?_
      ((try refine sU ?_);repeat(refine sN fun _=>?_;try refine sU ?_))
      refine SxApp.mk 1 rfl 0 (.inr (.inr (.inr ⟨by decide, _, rfl⟩))) (m := 1) (by show (plE.enc x).length = 1 * 2; exact plE.len x) (plE.one x) (by unfold maxLen; omega) (by omega) (cs' := plE.fl (o.take k ++ [x])) (by rw [plE.fl_append, plE.fl_one]; rfl) fun x2 c2 => ?_
      ((try refine sU ?_);repeat(refine sN fun _=>?_;try refine sU ?_))
      refine SxBnd.mk k o.length rfl rfl (by omega) (by omega) fun o2 b1 b2 => ?_
      ((try refine sU ?_);repeat(refine sN fun _=>?_;try refine sU ?_))
      refine SxApp.from_ 1 rfl (vs := plE.fl (o.drop k)) (fun W M w hs => by
        have h8 := (hs.rowRd 2 rfl (by rw [rowPl_len]; unfold maxLen; omega)).sub (ao' := o2) (k * 2) (o.length * 2) (fun hz => by
          rw [rowPl_len] at hz
          exact b1 (by omega))
        have h9 := plE.fl_drop o k
        rw [show (plE.fl o).drop (k * 2) = _ from h9, List.take_of_length_le (by rw [rowPl_len, List.length_drop]; omega)] at h8
        exact h8) (by rw [rowPl_len, List.length_drop]) (plE.fl_allOne _) (by unfold maxLen; omega) (by omega) (cs' := plE.fl (putIn ltbP x o)) (by rw [← plE.fl_append, back hno, List.append_assoc]; rfl) fun x3 c3 => ?_
      ((try refine sU ?_);repeat(refine sN fun _=>?_;try refine sU ?_))
      exact SxRound.mk (i + 1, x3, c3) [1, 3] (by dsimp only; rw [hln hno hni]; rfl) (by dsimp only; rw [hln hno hni, hsn, if_neg hni]; rfl) rfl hlt (by dsimp only; omega)
  · obtain rfl : i = l.length := by omega
    rw [List.take_length] at ho
    subst ho
    ((try refine sU ?_);repeat(refine sN fun _=>?_;try refine sU ?_))
    exact SxDone.mk fun w' hs => ⟨oo, oc, rfl, hs.newRow 0 rfl⟩
end Go.Proofs.YtlmefcepdadfjaaGreat
/- The walks of layer 15: number, Check, Size; Entry, May, Same. -/
namespace Go.Proofs.YtlmefcepdadfjaaGreat
open Go.RowKit

def mnV (id : Int) (ao : Option Addr) (n cap : Nat) : Value := .agg #[.int .u32 id, .slice ao n cap]
def okNo (x : Int) : Prop := 1 ≤ x ∧ x ≤ 4294967294
instance (x : Int) : Decidable (okNo x) := by unfold okNo; infer_instance
def okEn (e : En) : Prop := 1 ≤ e.ln ∧ e.ln ≤ 4096 ∧ okNo e.bx ∧ 0 ≤ e.sl ∧ e.sl < 256
instance (e : En) : Decidable (okEn e) := by unfold okEn; infer_instance
def allEn (es : List En) : Prop := ∀ e ∈ es, okEn e
instance (es : List En) : Decidable (allEn es) := by unfold allEn; infer_instance
def mayM (id : Int) (es : List En) : Prop := okNo id ∧ 1 ≤ es.length ∧ es.length ≤ 256 ∧ allEn es
instance (id : Int) (es : List En) : Decidable (mayM id es) := by unfold mayM; infer_instance
end Go.Proofs.YtlmefcepdadfjaaGreat
/- Layer 15: the document's places of a manifest. -/
namespace Go.Proofs.YtlmefcepdadfjaaGreat
open Go.RowKit

def plsOf (es : List En) : List Pl := es.map En.pl
theorem plsOf_len (es : List En) : (plsOf es).length = es.length := List.length_map ..
set_option maxHeartbeats 4000000 in
theorem RMPlaces_any (id : Int) (es : List En) (hes : es.length ≤ 1000000) (ao : Option Addr) (ac : Nat) (w : World) (ha : Rd w ao (enE.fl es)) :
    Calls Tryz.prog 18 #[mnV id ao es.length ac] w fun e w' => ∃ ao' cap', e = .returned (.slice ao' (setRP (plsOf es)).length cap') ∧ NewRow w w' ao' (setRP (plsOf es)).length cap' 109 2 (plE.fl (setRP (plsOf es))) := by
  refine sx_fn (S := SX) (M := []) (N := 30) (H0 := [.row none 0 0 109 2 [], .rd ao (enE.fl es)]) Tryz.func18 rfl rfl rfl ((Sat.oneRd _ ha).nilRow 109 2) ?_
  ((try refine sU ?_);repeat(refine sN fun _=>?_;try refine sU ?_))
  rename_i b1
  refine SxCode.loop (σ := Nat × Option Addr × Nat) [4, 3] [5, 6, 7, 8, 9, 12, 13, 14, 15, 16, 17, 18, 19, 20, 21, 22, 23, 24, 25, 26, 27, 3, 10, 11, 4] (fun x => [.int .i64 (x.1 : Nat), .slice x.2.1 x.1 x.2.2]) (fun x => [.row x.2.1 x.1 x.2.2 109 2 (plE.fl (plsOf (es.take x.1))), .blk b1 67 [.int .u32 id, .slice ao es.length ac], .rd ao (enE.fl es)]) (fun x => x.1 ≤ es.length) (fun x => es.length - x.1) (0, none, 0) [1, 0, 2] rfl rfl rfl rfl (Nat.zero_le _) ?_
  rintro ⟨k, ro, rc⟩ hk
  dsimp only at hk ⊢
  ((try refine sU ?_);repeat(refine sN fun _=>?_;try refine sU ?_))
  refine SxIf.dec (fun h => ?_) (fun h => ?_)
  · have hlt : k < es.length := by omega
    obtain ⟨x, hx⟩ : ∃ x, es[k]? = some x := ⟨es[k], by simp [hlt]⟩
    have hsm : plsOf (es.take (k + 1)) = plsOf (es.take k) ++ [x.pl] := by rw [take_snocE hx]; exact List.map_append
    have l1 : (enC x)[33]? = some (.int .u32 x.bx) := enC_tail x 1 _ rfl
    have l2 : (enC x)[34]? = some (.int .i64 x.sl) := enC_tail x 2 _ rfl
    ((try refine sU ?_);repeat(refine sN fun _=>?_;try refine sU ?_))
    refine SxCode.draw rfl [.blk b1 67 [.int .u32 id, .slice ao es.length ac], .rd ao (enE.fl es)] [] [1, 2] rfl rfl ?_
    ((try refine sU ?_);repeat(refine sN fun _=>?_;try refine sU ?_))
    refine SxIA.rd 1 (enE.fl es) rfl k rfl hlt (by rw [rowEn_len]; omega) fun g off hga => ?_
    ((try refine sU ?_);repeat(refine sN fun _=>?_;try refine sU ?_))
    refine SxLd.rd 1 rfl hga (by omega) (j := k * 35 + 33) (v := .int .u32 x.bx) (rowEn_cell (j := 33) hx l1) ?_
    ((try refine sU ?_);repeat(refine sN fun _=>?_;try refine sU ?_))
    refine SxIA.rd 1 (enE.fl es) rfl k rfl hlt (by rw [rowEn_len]; omega) fun g off hga => ?_
    ((try refine sU ?_);repeat(refine sN fun _=>?_;try refine sU ?_))
    refine SxLd.rd 1 rfl hga (by omega) (j := k * 35 + 34) (v := .int .i64 x.sl) (rowEn_cell (j := 34) hx l2) ?_
    ((try refine sU ?_);repeat(refine sN fun _=>?_;try refine sU ?_))
    refine SxApp.mk 1 rfl 0 (.inr (.inr (.inr ⟨by decide, _, rfl⟩))) (vs := plC x.pl) (m := 1) rfl rfl (by unfold maxLen; omega) (by omega) (cs' := plE.fl (plsOf (es.take (k + 1)))) (by rw [hsm, plE.fl_append, plE.fl_one]; rfl) fun ao' cap' => ?_
    ((try refine sU ?_);repeat(refine sN fun _=>?_;try refine sU ?_))
    exact SxRound.mk (k + 1, ao', cap') [1, 2, 3] rfl rfl rfl hlt (by dsimp only; omega)
  · obtain rfl : k = es.length := by omega
    rw [List.take_length]
    have hle : (plsOf es).length = es.length := plsOf_len es
    ((try refine sU ?_);repeat(refine sN fun _=>?_;try refine sU ?_))
    refine SxCall.newRow (fun w hs => by
      have h := RSetP_any (plsOf es) (by omega) ro rc w (hs.rowRd 0 rfl (by rw [rowPl_len, hle]; unfold maxLen; omega))
      rw [hle] at h
      exact h) fun ao' cap' => ?_
    ((try refine sU ?_);repeat(refine sN fun _=>?_;try refine sU ?_))
    exact SxDone.mk fun w' hs => ⟨ao', cap', rfl, hs.newRow 0 rfl⟩
theorem mem_setRP {x : Pl} {l : List Pl} : x ∈ setRP l ↔ x ∈ l := (setR_ok ltP_ord ltbP_iff l).2 x
end Go.Proofs.YtlmefcepdadfjaaGreat
