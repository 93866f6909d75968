/- The law of layer 15: ManifestBack. -/
import Derived.Test.YtdbappehchgbcaaZMnM
namespace Go.Proofs.Ytdbappehchgbcaa
open Go.RowKit

/-- Moves of places to as many others of one box, and back. -/
def thereM (b : Int) (ps : List Pl) : List Mv := ps.mapIdx fun i p => ⟨p, ⟨b, (i : Nat)⟩⟩
def backM (b : Int) (ps : List Pl) : List Mv := ps.mapIdx fun i p => ⟨⟨b, (i : Nat)⟩, p⟩
theorem thereM_at {b : Int} {ps : List Pl} {i : Nat} {p : Pl} (h : ps[i]? = some p) : (thereM b ps)[i]? = some ⟨p, ⟨b, (i : Nat)⟩⟩ := by
  unfold thereM; rw [List.getElem?_mapIdx, h]; rfl
theorem backM_at {b : Int} {ps : List Pl} {i : Nat} {p : Pl} (h : ps[i]? = some p) : (backM b ps)[i]? = some ⟨⟨b, (i : Nat)⟩, p⟩ := by
  unfold backM; rw [List.getElem?_mapIdx, h]; rfl
theorem thereM_fr {b : Int} {ps : List Pl} {i : Nat} {m : Mv} (h : (thereM b ps)[i]? = some m) : ps[i]? = some m.fr := by
  unfold thereM at h; rw [List.getElem?_mapIdx] at h
  obtain ⟨p, hp, rfl⟩ := Option.map_eq_some_iff.1 h
  exact hp
theorem backM_fr {b : Int} {ps : List Pl} {i : Nat} {m : Mv} (h : (backM b ps)[i]? = some m) : m.fr = ⟨b, (i : Nat)⟩ := by
  unfold backM at h; rw [List.getElem?_mapIdx] at h
  obtain ⟨p, hp, rfl⟩ := Option.map_eq_some_iff.1 h
  rfl
theorem thereM_len (b : Int) (ps : List Pl) : (thereM b ps).length = ps.length := List.length_mapIdx
theorem backM_len (b : Int) (ps : List Pl) : (backM b ps).length = ps.length := List.length_mapIdx
theorem hit_there {b : Int} {ps : List Pl} (hst : ps.Pairwise ltP) {i : Nat} {p : Pl} (h : ps[i]? = some p) : hitM (thereM b ps) p = some ⟨p, ⟨b, (i : Nat)⟩⟩ := by
  refine find_at (k := i) (fun j y hj hy => decide_eq_false fun he => ?_) (thereM_at h) (decide_eq_true rfl)
  have := strictP_at hst hj (thereM_fr hy) h
  rw [he] at this
  exact ltP_ord.irr p this
theorem hit_back {b : Int} {ps : List Pl} {i : Nat} {p : Pl} (h : ps[i]? = some p) : hitM (backM b ps) ⟨b, (i : Nat)⟩ = some ⟨⟨b, (i : Nat)⟩, p⟩ := by
  refine find_at (k := i) (fun j y hj hy => decide_eq_false fun he => ?_) (backM_at h) (decide_eq_true rfl)
  rw [backM_fr hy] at he
  simp only [Pl.mk.injEq, true_and] at he
  omega
theorem back_one {b : Int} {ps : List Pl} (hst : ps.Pairwise ltP) {e : En} (h : e.pl ∈ ps) : (hitM (thereM b ps) e.pl).isSome = true ∧ (hitM (backM b ps) (turn1 (thereM b ps) e).pl).isSome = true ∧ turn1 (backM b ps) (turn1 (thereM b ps) e) = e := by
  obtain ⟨i, hi⟩ := List.getElem?_of_mem h
  have h1 := hit_there (b := b) hst hi
  have h2 := hit_back (b := b) hi
  have e1 := turn1_some h1
  have h3 : hitM (backM b ps) (turn1 (thereM b ps) e).pl = some ⟨⟨b, (i : Nat)⟩, e.pl⟩ := by rw [e1]; exact h2
  refine ⟨by rw [h1]; rfl, by rw [h3]; rfl, ?_⟩
  rw [turn1_some h3, e1]
  rfl
theorem back_all {b : Int} {ps : List Pl} (hst : ps.Pairwise ltP) {es : List En} (h : ∀ e ∈ es, e.pl ∈ ps) : turnN (thereM b ps) es = es.length ∧ turnN (backM b ps) (es.map (turn1 (thereM b ps))) = es.length ∧ (es.map (turn1 (thereM b ps))).map (turn1 (backM b ps)) = es := by
  refine ⟨?_, ?_, ?_⟩
  · unfold turnN
    rw [List.filter_eq_self.2 fun e he => (back_one hst (h e he)).1]
  · unfold turnN
    rw [List.filter_eq_self.2, List.length_map]
    intro e he
    obtain ⟨x, hx, rfl⟩ := List.mem_map.1 he
    exact (back_one hst (h x hx)).2.1
  · rw [List.map_map]
    conv => rhs; rw [← List.map_id es]
    exact List.map_congr_left fun e he => (back_one hst (h e he)).2.2
set_option maxHeartbeats 8000000 in
theorem ManifestBack_law (w : World) (cs : List Value) (h : FitR Try.prog w 4 [.int .u32, .slice 55] cs) (b : Nat) (hb : b < 4294967296) :
    Calls Try.prog 6 #[.agg cs.toArray, .int .u32 (b : Nat)] w fun e w' => e = .returned (.bool true) ∧ Below w.heap.size w w' := by
  obtain ⟨id, ao, n, ac, he, hn, es, hes, hr⟩ := open_mn h
  rw [he]
  clear h he
  unfold maxLen at hn
  have hf1 := few15_any id ao n ac
  refine sx_fn (S := SX) (M := []) (N := 94) (H0 := [.row none 0 0 47 4 [], .row none 0 0 47 4 [], .rd ao (enE.fl es)]) Try.func6 rfl rfl rfl (Sat.nilRow 47 4 (Sat.nilRow 47 4 (Sat.oneRd _ hr))) ?_
  by_cases hn1 : n ≤ 30
  rotate_left
  · rw [decide_eq_false hn1] at hf1
    ((try refine sx_use ?_); (repeat (refine SxNew.mk fun _ => ?_; (try refine sx_use ?_))))
    refine SxCall.quiet hf1 ?_
    ((try refine sx_use ?_); (repeat (refine SxNew.mk fun _ => ?_; (try refine sx_use ?_))))
    refine SxCall.quiet mn_awake ?_
    ((try refine sx_use ?_); (repeat (refine SxNew.mk fun _ => ?_; (try refine sx_use ?_))))
    exact SxDone.mk fun w' hs => ⟨rfl, hs.touch.below⟩
  rw [decide_eq_true hn1] at hf1
  obtain rfl : n = es.length := by omega
  ((try refine sx_use ?_); (repeat (refine SxNew.mk fun _ => ?_; (try refine sx_use ?_))))
  refine SxCall.quiet hf1 ?_
  ((try refine sx_use ?_); (repeat (refine SxNew.mk fun _ => ?_; (try refine sx_use ?_))))
  rename_i b2
  refine SxCode.loop (σ := Nat) [5, 4] [19, 20, 21, 22, 23, 26, 27, 28, 29, 30, 31, 32, 33, 34, 4, 24, 25, 5] (fun k => [.int .i64 (k : Nat), .bool false]) (fun _ => [.blk b2 25 [.int .u32 id, .slice ao es.length ac], .row none 0 0 47 4 [], .row none 0 0 47 4 [], .rd ao (enE.fl es)]) (fun k => k ≤ es.length) (fun k => es.length - k) 0 [0, 1, 2, 3] rfl rfl rfl rfl (Nat.zero_le _) ?_
  rintro k hk
  ((try refine sx_use ?_); (repeat (refine SxNew.mk fun _ => ?_; (try refine sx_use ?_))))
  refine SxIf.dec (fun h => ?_) (fun h => ?_)
  · have hlt : k < es.length := by omega
    obtain ⟨x, hx⟩ : ∃ x, es[k]? = some x := ⟨es[k], by simp [hlt]⟩
    have l1 : (enC x)[33]? = some (.int .u32 x.bx) := enC_tail x 1 _ rfl
    ((try refine sx_use ?_); (repeat (refine SxNew.mk fun _ => ?_; (try refine sx_use ?_))))
    refine SxIA.rd 3 _ rfl k rfl hlt (by rw [rowEn_len]; omega) fun g off hga => ?_
    ((try refine sx_use ?_); (repeat (refine SxNew.mk fun _ => ?_; (try refine sx_use ?_))))
    refine SxLd.rd 3 rfl hga (by omega) (j := k * 35 + 33) (v := .int .u32 x.bx) (rowEn_cell (j := 33) hx l1) ?_
    ((try refine sx_use ?_); (repeat (refine SxNew.mk fun _ => ?_; (try refine sx_use ?_))))
    refine SxIf.eq (fun h1 => ?_) (fun h1 => ?_)
    · ((try refine sx_use ?_); (repeat (refine SxNew.mk fun _ => ?_; (try refine sx_use ?_))))
      refine SxCall.quiet mn_awake ?_
      ((try refine sx_use ?_); (repeat (refine SxNew.mk fun _ => ?_; (try refine sx_use ?_))))
      exact SxDone.mk fun w' hs => ⟨rfl, hs.touch.below⟩
    · ((try refine sx_use ?_); (repeat (refine SxNew.mk fun _ => ?_; (try refine sx_use ?_))))
      exact SxRound.mk (k + 1) [0, 1, 2, 3] rfl rfl rfl hlt (by omega)
  obtain rfl : k = es.length := by omega
  obtain ⟨ps, hps⟩ : ∃ ps, ps = setRP (plsOf es) := ⟨_, rfl⟩
  have hpr := fun (w : World) (hr : Rd w ao (enE.fl es)) => RMPlaces_any id es (by omega) ao ac w hr
  rw [← hps] at hpr
  have hpl : ps.length ≤ 30 := by
    have h1 : (setRP (plsOf es)).length ≤ _ := setR_len ltbP (plsOf es)
    rw [← hps, plsOf_len] at h1
    omega
  have hok := setR_ok ltP_ord ltbP_iff (plsOf es)
  obtain ⟨a1, a2, a3⟩ := back_all (b := (b : Nat)) (ps := ps) (by rw [hps]; exact hok.1) (es := es) (fun e he => by rw [hps]; exact (hok.2 _).2 (List.mem_map_of_mem he))
  have htl := thereM_len (b : Nat) ps
  have hbl := backM_len (b : Nat) ps
  clear hok hps
  ((try refine sx_use ?_); (repeat (refine SxNew.mk fun _ => ?_; (try refine sx_use ?_))))
  refine SxCall.newRow (fun w hs => hpr w (hs.rd 3 rfl)) fun po pc => ?_
  ((try refine sx_use ?_); (repeat (refine SxNew.mk fun _ => ?_; (try refine sx_use ?_))))
  refine SxCode.loop (σ := Nat × (Option Addr × Nat) × (Option Addr × Nat)) [9, 7, 8] [37, 38, 39, 40, 43, 44, 45, 10, 46, 47, 48, 49, 50, 51, 52, 53, 54, 7, 55, 56, 57, 58, 59, 60, 61, 62, 63, 8, 41, 42, 9] (fun s => [.int .i64 (s.1 : Nat), .slice s.2.1.1 s.1 s.2.1.2, .slice s.2.2.1 s.1 s.2.2.2]) (fun s => [.row po ps.length pc 45 2 (plE.fl ps), .blk b2 25 [.int .u32 id, .slice ao es.length ac], .row s.2.1.1 s.1 s.2.1.2 47 4 (mvE.fl ((thereM (b : Nat) ps).take s.1)), .row s.2.2.1 s.1 s.2.2.2 47 4 (mvE.fl ((backM (b : Nat) ps).take s.1)), .rd ao (enE.fl es)]) (fun s => s.1 ≤ ps.length) (fun s => ps.length - s.1) (0, (none, 0), (none, 0)) [0, 1, 2, 3, 4] rfl rfl rfl rfl (Nat.zero_le _) ?_
  rintro ⟨k, ⟨to, tc⟩, ⟨bo, bc⟩⟩ hk2
  dsimp only at hk2 ⊢
  refine sx_base 0 rfl fun hpo hpc => ?_
  ((try refine sx_use ?_); (repeat (refine SxNew.mk fun _ => ?_; (try refine sx_use ?_))))
  refine SxIf.dec (fun h => ?_) (fun h => ?_)
  · have hlt : k < ps.length := by omega
    obtain ⟨x, hx⟩ : ∃ x, ps[k]? = some x := ⟨ps[k], by simp [hlt]⟩
    obtain ⟨gp, rfl⟩ := hpo (by omega)
    have hx1 := thereM_at (b := (b : Nat)) hx
    have hx2 := backM_at (b := (b : Nat)) hx
    ((try refine sx_use ?_); (repeat (refine SxNew.mk fun _ => ?_; (try refine sx_use ?_))))
    rename_i b10
    refine SxCode.draw rfl [.blk b10 45 (plC ⟨(b : Nat), (k : Nat)⟩), .row (some ⟨gp, 0, none⟩) ps.length pc 45 2 (plE.fl ps)] [] [0, 1] rfl rfl ?_
    ((try refine sx_use ?_); (repeat (refine SxNew.mk fun _ => ?_; (try refine sx_use ?_))))
    refine SxIA.row 1 _ _ _ rfl k rfl hlt fun g' hg' => ?_
    obtain rfl : gp = g' := by simpa using hg'
    ((try refine sx_use ?_); (repeat (refine SxNew.mk fun _ => ?_; (try refine sx_use ?_))))
    refine SxLdN.row 1 rfl rfl rfl (vs := plC x) rfl (rowPl_at hx) ?_
    ((try refine sx_use ?_); (repeat (refine SxNew.mk fun _ => ?_; (try refine sx_use ?_))))
    (try (refine SxStable.mk [1, 2] rfl rfl ?_; ((try refine sx_use ?_); (repeat (refine SxNew.mk fun _ => ?_; (try refine sx_use ?_))))))
    refine SxApp.mk 4 rfl 0 (.inr (.inr (.inr ⟨by decide, _, rfl⟩))) (vs := mvC ⟨x, ⟨(b : Nat), (k : Nat)⟩⟩) (m := 1) rfl rfl (by unfold maxLen; omega) (by omega) (cs' := mvE.fl ((thereM (b : Nat) ps).take (k + 1))) (by rw [mvE.fl_snoc hx1]; rfl) fun to' tc' => ?_
    ((try refine sx_use ?_); (repeat (refine SxNew.mk fun _ => ?_; (try refine sx_use ?_))))
    (try (refine SxStable.mk [1, 2] rfl rfl ?_; ((try refine sx_use ?_); (repeat (refine SxNew.mk fun _ => ?_; (try refine sx_use ?_))))))
    refine SxCode.draw rfl [.blk b10 45 (plC ⟨(b : Nat), (k : Nat)⟩), .row (some ⟨gp, 0, none⟩) ps.length pc 45 2 (plE.fl ps)] [] [1, 2] rfl rfl ?_
    ((try refine sx_use ?_); (repeat (refine SxNew.mk fun _ => ?_; (try refine sx_use ?_))))
    refine SxIA.row 1 _ _ _ rfl k rfl hlt fun g' hg' => ?_
    obtain rfl : gp = g' := by simpa using hg'
    ((try refine sx_use ?_); (repeat (refine SxNew.mk fun _ => ?_; (try refine sx_use ?_))))
    refine SxLdN.row 1 rfl rfl rfl (vs := plC x) rfl (rowPl_at hx) ?_
    ((try refine sx_use ?_); (repeat (refine SxNew.mk fun _ => ?_; (try refine sx_use ?_))))
    (try (refine SxStable.mk [2, 3] rfl rfl ?_; ((try refine sx_use ?_); (repeat (refine SxNew.mk fun _ => ?_; (try refine sx_use ?_))))))
    refine SxApp.mk 6 rfl 0 (.inr (.inr (.inr ⟨by decide, _, rfl⟩))) (vs := mvC ⟨⟨(b : Nat), (k : Nat)⟩, x⟩) (m := 1) rfl rfl (by unfold maxLen; omega) (by omega) (cs' := mvE.fl ((backM (b : Nat) ps).take (k + 1))) (by rw [mvE.fl_snoc hx2]; rfl) fun bo' bc' => ?_
    ((try refine sx_use ?_); (repeat (refine SxNew.mk fun _ => ?_; (try refine sx_use ?_))))
    (try (refine SxStable.mk [2, 3] rfl rfl ?_; ((try refine sx_use ?_); (repeat (refine SxNew.mk fun _ => ?_; (try refine sx_use ?_))))))
    exact SxRound.mk (k + 1, (to', tc'), (bo', bc')) [3, 4, 5, 6, 7] rfl rfl rfl hlt (by dsimp only; omega)
  · obtain rfl : k = ps.length := by omega
    have e1 : (thereM (b : Nat) ps).take ps.length = thereM (b : Nat) ps := by rw [← htl, List.take_length]
    have e2 : (backM (b : Nat) ps).take ps.length = backM (b : Nat) ps := by rw [← hbl, List.take_length]
    rw [e1, e2]
    have hT := fun (w : World) (ha : Rd w ao (enE.fl es)) (hb : Rd w to (mvE.fl (thereM (b : Nat) ps))) => MTurn_any id es (by omega) (thereM (b : Nat) ps) ao to ac tc w ha hb
    rw [htl, a1] at hT
    have hml : (es.map (turn1 (thereM (b : Nat) ps))).length = es.length := List.length_map ..
    have hU := fun (xo : Option Addr) (xc : Nat) (w : World) (ha : Rd w xo (enE.fl (es.map (turn1 (thereM (b : Nat) ps))))) (hb : Rd w bo (mvE.fl (backM (b : Nat) ps))) => MTurn_any id (es.map (turn1 (thereM (b : Nat) ps))) (by omega) (backM (b : Nat) ps) xo bo xc bc w ha hb
    rw [hbl, a2, a3, hml] at hU
    ((try refine sx_use ?_); (repeat (refine SxNew.mk fun _ => ?_; (try refine sx_use ?_))))
    refine SxCall.newRow (v := fun a c => .tuple #[mnV id a es.length c, .int .i64 (es.length : Nat)]) (fun w hs => hT w (hs.rd 4 rfl) (hs.rowRd 2 rfl (by rw [rowMv_len, htl]; unfold maxLen; omega))) fun ga gc => ?_
    ((try refine sx_use ?_); (repeat (refine SxNew.mk fun _ => ?_; (try refine sx_use ?_))))
    refine SxCall.newRow (v := fun a c => .tuple #[mnV id a es.length c, .int .i64 (es.length : Nat)]) (fun w hs => hU ga gc w (hs.rowRd 1 rfl (by rw [rowEn_len, hml]; unfold maxLen; omega)) (hs.rowRd 5 rfl (by rw [rowMv_len, hbl]; unfold maxLen; omega))) fun ra rc => ?_
    ((try refine sx_use ?_); (repeat (refine SxNew.mk fun _ => ?_; (try refine sx_use ?_))))
    refine SxCall.quietS (v := .bool true) (fun w hs => by
      have h := RMSame_any id id es es ra ao rc ac w (hs.rowRd 1 rfl (by rw [rowEn_len]; unfold maxLen; omega)) (hs.rd 8 rfl)
      rw [decide_eq_true ⟨rfl, rfl⟩] at h
      exact h) ?_
    ((try refine sx_use ?_); (repeat (refine SxNew.mk fun _ => ?_; (try refine sx_use ?_))))
    refine SxCall.quiet mn_awake ?_
    ((try refine sx_use ?_); (repeat (refine SxNew.mk fun _ => ?_; (try refine sx_use ?_))))
    exact SxDone.mk fun w' hs => ⟨rfl, hs.touch.below⟩
end Go.Proofs.Ytdbappehchgbcaa
