/- Layer 20: Sub. -/
import Derived.Test.YtcpbgacdoigpnaaZLvF
namespace Go.Proofs.Ytcpbgacdoigpnaa
open Go.RowKit

set_option maxHeartbeats 8000000 in
theorem Sub_any (gt gm : Nat) (d : List (Pl × Nat)) (l : List Pl) (hd : Tab d l) (hl : l.length ≤ 1000000) (id : Int) (es : List En) (hes : es.length ≤ 1000000) (ao : Option Addr) (ac : Nat) (w : World) (ht : TabR w gt gm) (hm : MapT w gm d) (hne : gt ≠ gm) (hr : Rd w ao (enE.fl es)) (hrn : ¬ (Ent.rd ao (enE.fl es)).uses gm) :
    Calls Try.prog 9 #[.pointer (some ⟨gt, 0, none⟩), mnV id ao es.length ac] w fun e w' => e = .returned (.int .i64 (if okSub l (plsOf es) then 0 else 6)) ∧ w.grownBy w' (some gm) ∧ ∃ d', Tab d' (if okSub l (plsOf es) then subL l (plsOf es) else l) ∧ MapT w' gm d' := by
  have hsl : (plsOf es).length = es.length := plsOf_len es
  obtain ⟨ps, hps⟩ : ∃ ps, ps = setP (plsOf es) := ⟨_, rfl⟩
  have hP := fun (w : World) (hr : Rd w ao (enE.fl es)) => MPlaces_any id es hes ao ac w hr
  rw [← hps] at hP
  have hst : ps.Pairwise ltP := by rw [hps]; exact setS_strict ltP_ord cfP_iff _
  have hmem : ∀ p, p ∈ ps ↔ p ∈ plsOf es := fun p => by rw [hps]; exact setS_mem cfP _ p
  have hpl : ps.length ≤ es.length := by have h : (setP (plsOf es)).length ≤ _ := setS_len cfP (plsOf es); rw [← hps] at h; omega
  obtain ⟨s, hse⟩ : ∃ s, s = plsOf es := ⟨_, rfl⟩
  rw [← hse] at hsl hmem ⊢
  refine sx_fn (S := SX) (M := [gm]) (H0 := [mapE plKey gm (kvT d), tabR gt gm, .rd ao (enE.fl es)]) (N := 75) Try.func9 rfl rfl rfl (Sat.cons_own (Sat.rdsM w [gm] _ fun i e hi => by
    match i, hi with
    | 0, hi => cases hi; exact ⟨rfl, ht⟩
    | 1, hi => cases hi; exact ⟨rfl, hr⟩) (g := gm) hm (fun b hb => hb) (.inl (by simp)) fun i x hi => by
    match i, hi with
    | 0, hi => cases hi; exact fun h => hne (by simpa using h.2)
    | 1, hi => cases hi; exact hrn) ?_
  ((try refine sx_use ?_); (repeat (refine SxNew.mk fun _ => ?_; (try refine sx_use ?_))))
  refine SxCall.quietS (fun w hs => made_any gt gm w (hs.rd 2 rfl)) ?_
  ((try refine sx_use ?_); (repeat (refine SxNew.mk fun _ => ?_; (try refine sx_use ?_))))
  refine SxCall.mk fun w hs => (New_sat hs).mono ?_
  rintro e w' ⟨g2, m2, rfl, hs'⟩
  refine ⟨_, _, rfl, hs', ?_⟩
  clear hs' w'
  ((try refine sx_use ?_); (repeat (refine SxNew.mk fun _ => ?_; (try refine sx_use ?_))))
  refine SxCall.add 1 2 [⟨id, ao, ac, es⟩] rfl rfl Tab.nil (by simp only [plsM, List.flatMap_cons, List.flatMap_nil, List.append_nil, List.length_nil, plsOf_len]; omega) (fun w hs => ⟨hs.rowRd 0 rfl (by show 2 ≤ maxLen; decide), row_apart hs (q := 2) (r := 0) rfl rfl⟩) (fun m hm w hs => by
    simp only [List.mem_singleton] at hm
    subst hm
    exact ⟨hs.rd 6 rfl, rd_apart hs (q := 2) (r := 6) rfl rfl⟩) fun dg hdg => ?_
  replace hdg : Tab dg s := by rw [hse]; simpa [plsM] using hdg
  ((try refine sx_use ?_); (repeat (refine SxNew.mk fun _ => ?_; (try refine sx_use ?_))))
  refine SxCall.newRow (fun w hs => hP w (hs.rd 6 rfl)) fun po pc => ?_
  ((try refine sx_use ?_); (repeat (refine SxNew.mk fun _ => ?_; (try refine sx_use ?_))))
  refine SxCode.loop (σ := Nat) [23, 4] [24, 25, 26, 8, 27, 28, 29, 30, 31, 32, 33, 34, 35, 36, 37, 38, 39, 4, 40, 23] (fun k => [.int .i64 (k : Nat), .int .i64 0]) (fun _ => [.row po ps.length pc 25 2 (plE.fl ps), tabE g2 m2, mapE plKey m2 (kvT dg), mapE plKey gm (kvT d), tabR gt gm]) (fun k => k ≤ ps.length ∧ ∀ p ∈ ps.take k, s.count p ≤ l.count p) (fun k => ps.length - k) 0 [0, 2, 3, 5, 6] rfl rfl rfl rfl ⟨Nat.zero_le _, fun p hp => by simp at hp⟩ ?_
  rintro k ⟨hk, hall⟩
  refine sx_base 0 rfl fun hpo _ => ?_
  ((try refine sx_use ?_); (repeat (refine SxNew.mk fun _ => ?_; (try refine sx_use ?_))))
  refine SxIf.dec (fun h => ?_) (fun h => ?_)
  · have hlt : k < ps.length := by omega
    obtain ⟨x, hx⟩ : ∃ x, ps[k]? = some x := ⟨ps[k], by simp [hlt]⟩
    obtain ⟨gp, rfl⟩ := hpo (by omega)
    ((try refine sx_use ?_); (repeat (refine SxNew.mk fun _ => ?_; (try refine sx_use ?_))))
    refine SxIA.row 0 _ _ _ rfl k rfl hlt fun g' hg' => ?_
    obtain rfl : gp = g' := by simpa using hg'
    ((try refine sx_use ?_); (repeat (refine SxNew.mk fun _ => ?_; (try refine sx_use ?_))))
    refine SxLdN.row 0 rfl rfl rfl (vs := plC x) rfl (rowPl_at hx) ?_
    ((try refine sx_use ?_); (repeat (refine SxNew.mk fun _ => ?_; (try refine sx_use ?_))))
    refine SxCode.drawAll rfl [] ?_
    ((try refine sx_use ?_); (repeat (refine SxNew.mk fun _ => ?_; (try refine sx_use ?_))))
    refine SxLd.rd 5 rfl rfl (j := 0) rfl rfl ?_
    ((try refine sx_use ?_); (repeat (refine SxNew.mk fun _ => ?_; (try refine sx_use ?_))))
    refine any_fix 5 (.int .i64 (s.count x : Nat)) rfl rfl rfl rfl rfl rfl rfl rfl (fun a w ha hs => look_run plKey rfl Try.underlying59 rfl rfl (IsMap.e plKey (p := 3) rfl) (plKey_ok x) (hdg.look x) a w ha hs) ?_
    refine any_fix 11 (.int .i64 (l.count x : Nat)) rfl rfl rfl rfl rfl rfl rfl rfl (fun a w ha hs => look_run plKey rfl Try.underlying59 rfl rfl (IsMap.e plKey (p := 4) rfl) (plKey_ok x) (hd.look x) a w ha hs) ?_
    ((try refine sx_use ?_); (repeat (refine SxNew.mk fun _ => ?_; (try refine sx_use ?_))))
    refine SxIf.dec (fun h1 => ?_) (fun h1 => ?_)
    · have hbad : ¬ okSub l s := fun h2 => by have := h2 x ((hmem x).1 (List.mem_of_getElem? hx)); omega
      rw [if_neg hbad, if_neg hbad]
      ((try refine sx_use ?_); (repeat (refine SxNew.mk fun _ => ?_; (try refine sx_use ?_))))
      exact SxDone.mk fun w' hs => ⟨rfl, hs.touch.grown, d, hd, mapT_of hs 4 rfl⟩
    · ((try refine sx_use ?_); (repeat (refine SxNew.mk fun _ => ?_; (try refine sx_use ?_))))
      refine SxRound.mk (k + 1) [1, 2, 3, 4, 5] rfl rfl rfl ⟨hlt, fun p hp => ?_⟩ (by omega)
      rw [take_snocE hx] at hp
      rcases List.mem_append.1 hp with h2 | h2
      · exact hall p h2
      · simp at h2; subst h2; omega
  obtain rfl : k = ps.length := by omega
  rw [List.take_length] at hall
  have hok : okSub l s := fun p hp => hall p ((hmem p).2 hp)
  rw [if_pos hok, if_pos hok]
  clear h hk
  ((try refine sx_use ?_); (repeat (refine SxNew.mk fun _ => ?_; (try refine sx_use ?_))))
  refine SxCode.loop (σ := Nat × List (Pl × Nat)) [43] [44, 45, 46, 10, 47, 48, 49, 50, 51, 52, 53, 54, 55, 56, 57, 58, 59, 60, 61, 62, 63, 64, 65, 66, 67, 68, 69, 70, 71, 72, 73, 74, 43] (fun x => [.int .i64 (x.1 : Nat)]) (fun x => [.row po ps.length pc 25 2 (plE.fl ps), tabE g2 m2, mapE plKey m2 (kvT dg), mapE plKey gm (kvT x.2), tabR gt gm]) (fun x => x.1 ≤ ps.length ∧ Tab x.2 (subL l (inS s (ps.take x.1)))) (fun x => ps.length - x.1) (0, d) [0, 1, 2, 3, 4] rfl rfl rfl rfl ⟨Nat.zero_le _, hd.congr fun p => by rw [subL_count, inS_count, if_neg (by simp), Nat.sub_zero]⟩ ?_
  rintro ⟨k, dk⟩ ⟨hk, hdk⟩
  dsimp only at hk hdk ⊢
  ((try refine sx_use ?_); (repeat (refine SxNew.mk fun _ => ?_; (try refine sx_use ?_))))
  refine SxIf.dec (fun h => ?_) (fun h => ?_)
  · have hlt : k < ps.length := by omega
    obtain ⟨x, hx⟩ : ∃ x, ps[k]? = some x := ⟨ps[k], by simp [hlt]⟩
    obtain ⟨gp, rfl⟩ := hpo (by omega)
    have hxs := (hmem x).1 (List.mem_of_getElem? hx)
    have h1 := hok x hxs
    have h2 := List.count_pos_iff.2 hxs
    have hcl : l.count x ≤ l.length := List.count_le_length
    obtain ⟨t1, t2, t3⟩ := sub_step (l := l) (s := s) hx hst
    obtain ⟨j, hj, h0⟩ : ∃ j : Nat, dk[j]? = some (x, l.count x) ∧ 0 < l.count x := by
      rcases hdk.has x with ⟨j, hj, h0⟩ | ⟨hc, _⟩
      · rw [t1] at hj h0; exact ⟨j, hj, h0⟩
      · omega
    have hlk : LookIs SX 3 (kvT dk) (plV x) false (.int .i64 (l.count x : Nat)) := .inl ⟨j, _, kvT_at hj, rfl⟩
    have hjl := (List.getElem?_eq_some_iff.1 hj).1
    have hatv : ∀ v : Value, ((kvT dk).set j (plV x, v))[j]? = some (plV x, v) := fun v => by rw [List.getElem?_set_self (by rw [kvT_len]; exact hjl)]
    ((try refine sx_use ?_); (repeat (refine SxNew.mk fun _ => ?_; (try refine sx_use ?_))))
    refine SxIA.row 0 _ _ _ rfl k rfl hlt fun g' hg' => ?_
    obtain rfl : gp = g' := by simpa using hg'
    ((try refine sx_use ?_); (repeat (refine SxNew.mk fun _ => ?_; (try refine sx_use ?_))))
    refine SxLdN.row 0 rfl rfl rfl (vs := plC x) rfl (rowPl_at hx) ?_
    ((try refine sx_use ?_); (repeat (refine SxNew.mk fun _ => ?_; (try refine sx_use ?_))))
    rename_i b10
    refine SxCode.draw rfl [.blk b10 25 (plC x), tabE g2 m2, mapE plKey m2 (kvT dg), tabR gt gm] [] [0, 2, 3, 5] rfl rfl ?_
    ((try refine sx_use ?_); (repeat (refine SxNew.mk fun _ => ?_; (try refine sx_use ?_))))
    refine SxLd.rd 3 rfl rfl (j := 0) rfl rfl ?_
    ((try refine sx_use ?_); (repeat (refine SxNew.mk fun _ => ?_; (try refine sx_use ?_))))
    refine any_fix 11 (.int .i64 (s.count x : Nat)) rfl rfl rfl rfl rfl rfl rfl rfl (fun a w ha hs => look_run plKey rfl Try.underlying59 rfl rfl (IsMap.e plKey (p := 2) rfl) (plKey_ok x) (hdg.look x) a w ha hs) ?_
    refine any_two rfl rfl rfl rfl rfl rfl rfl ?_ ?_
    case' refine_1 =>
      ((try refine sx_use ?_); (repeat (refine SxNew.mk fun _ => ?_; (try refine sx_use ?_))))
      refine SxSem.lookG plKey rfl Try.underlying59 rfl rfl (IsMap.e plKey (p := 4) rfl) (plKey_ok x) hlk ?_
      refine SxStable.mk [0, 2, 3, 5] rfl rfl ?_
      ((try refine sx_use ?_); (repeat (refine SxNew.mk fun _ => ?_; (try refine sx_use ?_))))
      refine SxSem.mapEntry plKey 4 rfl Try.underlying59 rfl rfl rfl (plKey_ok x) (.inl ⟨j, _, kvT_at hj, fun b => ?_⟩)
      refine SxStable.mk [0, 2, 3, 5] rfl rfl ?_
      ((try refine sx_use ?_); (repeat (refine SxNew.mk fun _ => ?_; (try refine sx_use ?_))))
      refine SxSem.entryStore plKey 4 rfl rfl rfl rfl rfl (kvT_at hj) ?_
      refine SxStable.mk [0, 2, 3, 5] rfl rfl ?_
    case' refine_2 =>
      ((try refine sx_use ?_); (repeat (refine SxNew.mk fun _ => ?_; (try refine sx_use ?_))))
      refine SxSem.mapEntry plKey 4 rfl Try.underlying59 rfl rfl rfl (plKey_ok x) (.inl ⟨j, _, kvT_at hj, fun b => ?_⟩)
      refine SxStable.mk [0, 2, 3, 5] rfl rfl ?_
      ((try refine sx_use ?_); (repeat (refine SxNew.mk fun _ => ?_; (try refine sx_use ?_))))
      refine SxSem.lookG plKey rfl Try.underlying59 rfl rfl (IsMap.b plKey (p := 4) rfl) (plKey_ok x) hlk ?_
      refine SxStable.mk [0, 2, 3, 5] rfl rfl ?_
      ((try refine sx_use ?_); (repeat (refine SxNew.mk fun _ => ?_; (try refine sx_use ?_))))
      refine SxSem.entryStore plKey 4 rfl rfl rfl rfl rfl (kvT_at hj) ?_
      refine SxStable.mk [0, 2, 3, 5] rfl rfl ?_
    all_goals
      ((try refine sx_use ?_); (repeat (refine SxNew.mk fun _ => ?_; (try refine sx_use ?_))))
      refine SxCode.drawAll rfl [] ?_
      ((try refine sx_use ?_); (repeat (refine SxNew.mk fun _ => ?_; (try refine sx_use ?_))))
      refine SxLd.rd 5 rfl rfl (j := 0) rfl rfl ?_
      ((try refine sx_use ?_); (repeat (refine SxNew.mk fun _ => ?_; (try refine sx_use ?_))))
      refine SxSem.lookG plKey rfl Try.underlying59 rfl rfl (IsMap.e plKey (p := 4) rfl) (plKey_ok x) (.inl ⟨j, _, hatv _, rfl⟩) ?_
      ((try refine sx_use ?_); (repeat (refine SxNew.mk fun _ => ?_; (try refine sx_use ?_))))
      have hv : ((l.count x : Nat) : Int) - (s.count x : Nat) = ((l.count x - s.count x : Nat) : Int) := by omega
      refine SxIf.eq (fun h3 => ?_) (fun h3 => ?_)
      · have hT := hdk.del hj (l' := subL l (inS s (ps.take (k + 1)))) (by omega) (fun q hq => by rw [t3 q hq])
        ((try refine sx_use ?_); (repeat (refine SxNew.mk fun _ => ?_; (try refine sx_use ?_))))
        refine SxCode.draw rfl [.blk b10 25 (plC x), tabR gt gm] [] [0, 5] rfl rfl ?_
        ((try refine sx_use ?_); (repeat (refine SxNew.mk fun _ => ?_; (try refine sx_use ?_))))
        refine SxLd.rd 1 rfl rfl (j := 0) rfl rfl ?_
        ((try refine sx_use ?_); (repeat (refine SxNew.mk fun _ => ?_; (try refine sx_use ?_))))
        refine SxSem.del 4 rfl rfl Try.underlying59 rfl rfl rfl (plKey_ok x) (.inl ⟨j, _, hatv _, ?_⟩)
        ((try refine sx_use ?_); (repeat (refine SxNew.mk fun _ => ?_; (try refine sx_use ?_))))
        (try refine SxStable.mk [0, 5] rfl rfl ?_)
        (try ((try refine sx_use ?_); (repeat (refine SxNew.mk fun _ => ?_; (try refine sx_use ?_)))))
        exact SxRound.mk (k + 1, dk.eraseIdx j) [1, 2, 3, 4, 5] rfl (by dsimp only; rw [← kvT_erase dk j _ x]; rfl) rfl ⟨hlt, hT⟩ (by dsimp only; omega)
      · have hT := hdk.upd hj (l' := subL l (inS s (ps.take (k + 1)))) t2 (by omega) (fun q hq => by rw [t3 q hq])
        ((try refine sx_use ?_); (repeat (refine SxNew.mk fun _ => ?_; (try refine sx_use ?_))))
        exact SxRound.mk (k + 1, dk.set j (x, l.count x - s.count x)) [1, 2, 3, 4, 5] rfl (by dsimp only; rw [kvT_set, ← hv]; rfl) rfl ⟨hlt, hT⟩ (by dsimp only; omega)
  · obtain rfl : k = ps.length := by omega
    rw [List.take_length] at hdk
    ((try refine sx_use ?_); (repeat (refine SxNew.mk fun _ => ?_; (try refine sx_use ?_))))
    exact SxDone.mk fun w' hs => ⟨rfl, hs.touch.grown, dk, hdk.congr (sub_all fun p hp => (hmem p).2 hp), mapT_of hs 3 rfl⟩
end Go.Proofs.Ytcpbgacdoigpnaa
