/- Layer 26: DupTurns. -/
import Derived.Test.YtdififdnnpgjoaaZDuO
import Derived.Test.YtdififdnnpgjoaaZMnI
namespace Go.Proofs.Ytdififdnnpgjoaa
open Go.RowKit

theorem SxBI.min3 {P : Program} {tys : List TypeId} {a b c : Int} {A : Value → Prop} (h : A (.int .i64 (if c < (if b < a then b else a) then c else (if b < a then b else a)))) : SxBI P .min tys [.int .i64 a, .int .i64 b, .int .i64 c] A :=
  SxBI.mk _ (fun ty cst w => by simp [builtin, Builtin.min_, Builtin.min2]) h
theorem Rd.takeD {w : World} {ao : Option Addr} {cs : List Value} (h : Rd w ao cs) (m : Nat) : Rd w ao (cs.take m) := by
  have := h.sub (ao' := ao) 0 m (fun _ => by cases ao with | none => rfl | some a => simp [Addr.add])
  rw [List.drop_zero] at this
  exact this
theorem ao_sameD {ao ao' : Option Addr} {cap k : Nat} (h1 : 0 < cap → ao' = ao.map (·.add (0 * k))) (h2 : 0 = cap → ao' = ao) : ao' = ao := by
  rcases Nat.eq_zero_or_pos cap with h | h
  · exact h2 h.symm
  · rw [h1 h]
    cases ao with
    | none => rfl
    | some a => simp [Addr.add]
theorem open_mnD {w : World} {d : Nat} {cs : List Value} (h : FitR Try.prog w (d + 1) [.int .u32, .slice 80] cs) : ∃ (id : Int) (ao : Option Addr) (n cap : Nat), Value.agg cs.toArray = mnV id ao n cap ∧ n ≤ cap ∧ n ≤ maxLen ∧ ∃ l : List En, l.length = min n 1000 ∧ Rd w ao (enE.fl l) := by
  obtain ⟨hl, hf⟩ := h
  match cs, hl with
  | [x, y], _ =>
    obtain ⟨a, rfl, _⟩ := fitK_int (hf 0 _ _ rfl rfl)
    have hy := hf 1 _ _ rfl rfl
    obtain ⟨ao, n, cap, rfl, h1, h2⟩ := open_ens hy
    obtain ⟨ao', n', cap', he, h3, _⟩ := hy
    simp only [Value.slice.injEq] at he
    obtain ⟨rfl, rfl, rfl⟩ := he
    exact ⟨a, ao, n, cap, rfl, h3, h1, h2⟩
theorem open_plsD {w : World} {d : Nat} {v : Value} (hv : FitK Try.prog w (d + 1) (.slice 29) v) : ∃ (ao : Option Addr) (n cap : Nat), v = .slice ao n cap ∧ n ≤ cap ∧ n ≤ maxLen ∧ ∃ l : List Pl, l.length = min n 1000 ∧ Rd w ao (plE.fl l) := by
  obtain ⟨ao, n, cap, rfl, h1, h2⟩ := open_pls hv
  obtain ⟨ao', n', cap', he, h3, _⟩ := hv
  simp only [Value.slice.injEq] at he
  obtain ⟨rfl, rfl, rfl⟩ := he
  exact ⟨ao, n, cap, rfl, h3, h1, h2⟩
set_option maxHeartbeats 4000000 in
theorem Turn_any26 (id : Int) (es : List En) (hes : es.length ≤ 1000000) (ms : List Mv) (ao bo : Option Addr) (ac bc : Nat) (w : World) (ha : Rd w ao (enE.fl es)) (hb : Rd w bo (mvE.fl ms)) :
    Calls Try.prog 23 #[mnV id ao es.length ac, .slice bo ms.length bc] w fun e w' => ∃ ao' cap', e = .returned (.tuple #[mnV id ao' es.length cap', .bool (!decide (es = es.map (turn1 ms)))]) ∧ NewRow w w' ao' es.length cap' 80 35 (enE.fl (es.map (turn1 ms))) := by
  have hml : (es.map (turn1 ms)).length = es.length := List.length_map ..
  refine sx_fn (S := SX) (M := []) (N := 19) (H0 := [.rd ao (enE.fl es), .rd bo (mvE.fl ms)]) Try.func23 rfl rfl rfl (Sat.twoRd _ ha hb) ?_
  ((try refine sx_use ?_); (repeat (refine SxNew.mk fun _ => ?_; (try refine sx_use ?_))))
  refine SxCall.newRow (v := fun ao' cap' => .tuple #[mnV id ao' es.length cap', .int .i64 (turnN ms es : Nat)]) (fun w1 hs => MTurn_any id es hes ms ao bo ac bc w1 (hs.rd 2 rfl) (hs.rd 3 rfl)) fun co cc => ?_
  ((try refine sx_use ?_); (repeat (refine SxNew.mk fun _ => ?_; (try refine sx_use ?_))))
  rename_i b2 b4 b6
  refine SxCode.draw rfl [.blk b6 57 [.int .u32 id, .slice co es.length cc], .blk b2 57 [.int .u32 id, .slice ao es.length ac]] [5] [0, 3] rfl rfl ?_
  ((try refine sx_use ?_); (repeat (refine SxNew.mk fun _ => ?_; (try refine sx_use ?_))))
  refine any_two rfl rfl rfl rfl rfl rfl rfl ?_ ?_
  all_goals
    ((try refine sx_use ?_); (repeat (refine SxNew.mk fun _ => ?_; (try refine sx_use ?_))))
    refine SxStable.mk [0, 3] rfl rfl ?_
    ((try refine sx_use ?_); (repeat (refine SxNew.mk fun _ => ?_; (try refine sx_use ?_))))
    (try refine SxStable.mk [0, 3] rfl rfl ?_)
    (try ((try refine sx_use ?_); (repeat (refine SxNew.mk fun _ => ?_; (try refine sx_use ?_)))))
    refine SxCall.quietS (v := .bool (decide (es = es.map (turn1 ms)))) (fun w1 hs => by
      have h := MSame_any id id es (es.map (turn1 ms)) ao co ac cc w1 (hs.rd 4 rfl) (hs.rowRd 1 rfl (by rw [rowEn_len, hml]; unfold maxLen; omega))
      rw [hml] at h
      have e : decide (id = id ∧ es = es.map (turn1 ms)) = decide (es = es.map (turn1 ms)) := by rw [decide_eq_decide]; simp
      rw [e] at h
      exact h) ?_
    ((try refine sx_use ?_); (repeat (refine SxNew.mk fun _ => ?_; (try refine sx_use ?_))))
    (try refine SxStable.mk [0, 3] rfl rfl ?_)
    (try ((try refine sx_use ?_); (repeat (refine SxNew.mk fun _ => ?_; (try refine sx_use ?_)))))
    exact SxDone.mk fun w' hs => ⟨co, cc, rfl, hs.newRow 1 rfl⟩
theorem mvZ_take (fs ts : List Pl) (k : Nat) : (mvZ fs ts).take k = mvZ (fs.take k) (ts.take k) := by unfold mvZ; rw [List.take_zipWith]
set_option maxHeartbeats 16000000 in
set_option maxRecDepth 20000 in
theorem DupTurns_law (w : World) (cs : List Value) (h : FitR Try.prog w 4 [.int .u32, .slice 80] cs) (v2 : Value) (hv2 : FitK Try.prog w 4 (.slice 29) v2) (v3 : Value) (hv3 : FitK Try.prog w 4 (.slice 29) v3) :
    Calls Try.prog 7 #[.agg cs.toArray, v2, v3] w fun e w' => e = .returned (.bool true) ∧ Below w.heap.size w w' := by
  obtain ⟨id, ao, n, ac, he, hnc, hn, es0, hes, hr⟩ := open_mnD h
  obtain ⟨fo, fn, fc, rfl, hfc, hfn, fs0, hfs, hfr⟩ := open_plsD hv2
  obtain ⟨to, tn, tc, rfl, htc, htn, ts0, hts, htr⟩ := open_plsD hv3
  rw [he]
  clear h hv2 hv3 he
  unfold maxLen at hn hfn htn
  obtain ⟨E, hE⟩ : ∃ E, E = es0.take 60 := ⟨_, rfl⟩
  have hEl : E.length = min n 60 := by rw [hE, List.length_take]; omega
  have hEr : Rd w ao (enE.fl E) := by
    have h1 := hr.takeD (60 * 35)
    have e : (enE.fl es0).take (60 * 35) = enE.fl (es0.take 60) := enE.fl_take es0 60
    rw [e, ← hE] at h1; exact h1
  obtain ⟨N, hN⟩ : ∃ N, N = min (min fn tn) 20 := ⟨_, rfl⟩
  have hNf : N ≤ fs0.length := by omega
  have hNt : N ≤ ts0.length := by omega
  obtain ⟨fs, hF⟩ : ∃ fs, fs = fs0.take N := ⟨_, rfl⟩
  obtain ⟨ts, hT⟩ : ∃ ts, ts = ts0.take N := ⟨_, rfl⟩
  have hFl : fs.length = N := by rw [hF, List.length_take]; omega
  have hTl : ts.length = N := by rw [hT, List.length_take]; omega
  have hFr : Rd w fo (plE.fl fs) := by
    have h1 := hfr.takeD (N * 2)
    rw [show (plE.fl fs0).take (N * 2) = _ from plE.fl_take fs0 N, ← hF] at h1; exact h1
  have hTr : Rd w to (plE.fl ts) := by
    have h1 := htr.takeD (N * 2)
    rw [show (plE.fl ts0).take (N * 2) = _ from plE.fl_take ts0 N, ← hT] at h1; exact h1
  have hml : (mvZ fs ts).length = N := by rw [mvZ_len]; omega
  refine sx_fn (S := SX) (M := []) (N := 75) (H0 := [.row none 0 0 54 4 [], .rd ao (enE.fl E), .rd fo (plE.fl fs), .rd to (plE.fl ts)]) Try.func7 rfl rfl rfl (Sat.nilRow 54 4 (Sat.rdsM w [] _ fun j e hj => by
    match j, hj with
    | 0, hj => cases hj; exact ⟨rfl, hEr⟩
    | 1, hj => cases hj; exact ⟨rfl, hFr⟩
    | 2, hj => cases hj; exact ⟨rfl, hTr⟩)) ?_
  ((try refine sx_use ?_); (repeat (refine SxNew.mk fun _ => ?_; (try refine sx_use ?_))))
  rename_i bm
  refine SxIf.dec (fun h => ?_) (fun h => ?_)
  case' refine_1 =>
    ((try refine sx_use ?_); (repeat (refine SxNew.mk fun _ => ?_; (try refine sx_use ?_))))
    refine SxBnd.mk 0 60 rfl rfl (by omega) (by omega) ?_
    ((try refine sx_use ?_); (repeat (refine SxNew.mk fun _ => ?_; (try refine sx_use ?_))))
    intro ao' h1 h2
    have e : ao' = ao := ao_sameD h1 h2
    subst e
    rw [show (60 - 0 : Nat) = E.length by omega, Nat.sub_zero]
    ((try refine sx_use ?_); (repeat (refine SxNew.mk fun _ => ?_; (try refine sx_use ?_))))
  case' refine_2 =>
    obtain rfl : n = E.length := by omega
    ((try refine sx_use ?_); (repeat (refine SxNew.mk fun _ => ?_; (try refine sx_use ?_))))
  all_goals
    refine SxBI.min3 ?_
    rw [show (if (20 : Int) < (if ((tn : Nat) : Int) < ((fn : Nat) : Int) then ((tn : Nat) : Int) else ((fn : Nat) : Int)) then (20 : Int) else (if ((tn : Nat) : Int) < ((fn : Nat) : Int) then ((tn : Nat) : Int) else ((fn : Nat) : Int))) = ((N : Nat) : Int) by
      rw [hN]; split <;> split <;> omega]
    ((try refine sx_use ?_); (repeat (refine SxNew.mk fun _ => ?_; (try refine sx_use ?_))))
    refine SxCode.loop (σ := Nat × Option Addr × Nat) [9, 8] [27, 28, 29, 32, 33, 34, 35, 36, 37, 38, 39, 40, 41, 42, 43, 8, 30, 31, 9] (fun x => [.int .i64 (x.1 : Nat), .slice x.2.1 x.1 x.2.2]) (fun x => [.blk bm 57 [.int .u32 id, .slice _ E.length ac], .row x.2.1 x.1 x.2.2 54 4 (mvE.fl ((mvZ fs ts).take x.1)), .rd _ (enE.fl E), .rd fo (plE.fl fs), .rd to (plE.fl ts)]) (fun x => x.1 ≤ N) (fun x => N - x.1) (0, none, 0) [0, 1, 2, 3, 4] rfl rfl rfl rfl (Nat.zero_le _) ?_
    rintro ⟨k, ro, rc⟩ hk
    dsimp only at hk ⊢
    by_cases hlt : k < N
    · obtain ⟨f, hf⟩ : ∃ f, fs[k]? = some f := ⟨fs[k]'(by omega), by simp [show k < fs.length by omega]⟩
      obtain ⟨t, ht⟩ : ∃ t, ts[k]? = some t := ⟨ts[k]'(by omega), by simp [show k < ts.length by omega]⟩
      have hz := mvZ_at hf ht
      have hsn := take_snocE hz
      ((try refine sx_use ?_); (repeat (refine SxNew.mk fun _ => ?_; (try refine sx_use ?_))))
      refine SxCode.draw rfl [.rd fo (plE.fl fs), .rd to (plE.fl ts)] [] [3, 4] rfl rfl ?_
      ((try refine sx_use ?_); (repeat (refine SxNew.mk fun _ => ?_; (try refine sx_use ?_))))
      refine SxIA.rd 0 _ rfl k rfl (by omega) (by rw [rowPl_len]; omega) fun g off ha => ?_
      ((try refine sx_use ?_); (repeat (refine SxNew.mk fun _ => ?_; (try refine sx_use ?_))))
      refine SxLdN.rd 0 rfl ha rfl (vs := plC f) rfl (rowPl_at hf) ?_
      ((try refine sx_use ?_); (repeat (refine SxNew.mk fun _ => ?_; (try refine sx_use ?_))))
      refine SxIA.rd 1 _ rfl k rfl (by omega) (by rw [rowPl_len]; omega) fun g off ha => ?_
      ((try refine sx_use ?_); (repeat (refine SxNew.mk fun _ => ?_; (try refine sx_use ?_))))
      refine SxLdN.rd 1 rfl ha rfl (vs := plC t) rfl (rowPl_at ht) ?_
      ((try refine sx_use ?_); (repeat (refine SxNew.mk fun _ => ?_; (try refine sx_use ?_))))
      (try refine SxStable.mk [4, 5] rfl rfl ?_)
      (try ((try refine sx_use ?_); (repeat (refine SxNew.mk fun _ => ?_; (try refine sx_use ?_)))))
      refine SxApp.mk 2 rfl 0 (.inr (.inr (.inr ⟨by decide, _, rfl⟩))) (vs := mvC ⟨f, t⟩) (m := 1) rfl rfl (by unfold maxLen; omega) (by omega) (cs' := mvE.fl ((mvZ fs ts).take (k + 1))) (by rw [hsn, mvE.fl_append, mvE.fl_one]; rfl) fun ao1 cap1 => ?_
      ((try refine sx_use ?_); (repeat (refine SxNew.mk fun _ => ?_; (try refine sx_use ?_))))
      (try refine SxStable.mk [4, 5] rfl rfl ?_)
      (try ((try refine sx_use ?_); (repeat (refine SxNew.mk fun _ => ?_; (try refine sx_use ?_)))))
      exact SxRound.mk (k + 1, ao1, cap1) [1, 2, 3, 4, 5] rfl rfl rfl hlt (by first | omega | (dsimp only; omega))
    · obtain rfl : k = N := by omega
      rw [List.take_of_length_le (by omega)]
      ((try refine sx_use ?_); (repeat (refine SxNew.mk fun _ => ?_; (try refine sx_use ?_))))
      obtain ⟨G, hG⟩ : ∃ G, G = E.map (turn1 (mvZ fs ts)) := ⟨_, rfl⟩
      have hGl : G.length = E.length := by rw [hG]; exact List.length_map ..
      refine SxCall.newRow (v := fun a c => .tuple #[mnV id a E.length c, .bool (!decide (E = G))]) (n := E.length) (e := 80) (k := 35) (cs := enE.fl G) (fun w1 hs => by
        have h1 := Turn_any26 id E (by omega) (mvZ fs ts) _ ro ac rc w1 (hs.rd 2 rfl) (hs.rowRd 1 rfl (by rw [rowMv_len]; unfold maxLen; omega))
        rw [hml, ← hG] at h1
        exact h1) fun co cc => ?_
      ((try refine sx_use ?_); (repeat (refine SxNew.mk fun _ => ?_; (try refine sx_use ?_))))
      rename_i b10
      refine SxCode.draw rfl [.blk bm 57 [.int .u32 id, .slice _ E.length ac]] [12] [2] rfl rfl ?_
      ((try refine sx_use ?_); (repeat (refine SxNew.mk fun _ => ?_; (try refine sx_use ?_))))
      refine SxBnd.mk 0 k rfl rfl (by omega) (by omega) fun o1 h1 h2 => ?_
      obtain rfl : o1 = fo := ao_sameD h1 h2
      ((try refine sx_use ?_); (repeat (refine SxNew.mk fun _ => ?_; (try refine sx_use ?_))))
      refine SxBnd.mk 0 k rfl rfl (by omega) (by omega) fun o2 h3 h4 => ?_
      obtain rfl : o2 = to := ao_sameD h3 h4
      ((try refine sx_use ?_); (repeat (refine SxNew.mk fun _ => ?_; (try refine sx_use ?_))))
      refine any_two rfl rfl rfl rfl rfl rfl rfl ?_ ?_
      case' refine_1 =>
        ((try refine sx_use ?_); (repeat (refine SxNew.mk fun _ => ?_; (try refine sx_use ?_))))
        refine SxCall.newRow (v := fun a c => .tuple #[mnV id a E.length c, .int .i64 (turnN (mvZ fs ts) E : Nat)]) (n := E.length) (e := 80) (k := 35) (cs := enE.fl G) (fun w1 hs => by
          have h1 := RMTurn_any id E (by omega) fs ts _ _ _ ac fc tc w1 (hs.rd 4 rfl) (hs.rd 5 rfl) (hs.rd 6 rfl)
          rw [← hG, hFl, hTl] at h1
          exact h1) fun wo wc => ?_
        refine SxStable.mk [3] rfl rfl ?_
        ((try refine sx_use ?_); (repeat (refine SxNew.mk fun _ => ?_; (try refine sx_use ?_))))
        (try refine SxStable.mk [4] rfl rfl ?_)
        (try ((try refine sx_use ?_); (repeat (refine SxNew.mk fun _ => ?_; (try refine sx_use ?_)))))
      case' refine_2 =>
        ((try refine sx_use ?_); (repeat (refine SxNew.mk fun _ => ?_; (try refine sx_use ?_))))
        refine SxStable.mk [3] rfl rfl ?_
        ((try refine sx_use ?_); (repeat (refine SxNew.mk fun _ => ?_; (try refine sx_use ?_))))
        refine SxCall.newRow (v := fun a c => .tuple #[mnV id a E.length c, .int .i64 (turnN (mvZ fs ts) E : Nat)]) (n := E.length) (e := 80) (k := 35) (cs := enE.fl G) (fun w1 hs => by
          have h1 := RMTurn_any id E (by omega) fs ts _ _ _ ac fc tc w1 (hs.rd 5 rfl) (hs.rd 6 rfl) (hs.rd 7 rfl)
          rw [← hG, hFl, hTl] at h1
          exact h1) fun wo wc => ?_
        refine SxStable.mk [4] rfl rfl ?_
        ((try refine sx_use ?_); (repeat (refine SxNew.mk fun _ => ?_; (try refine sx_use ?_))))
      all_goals
        refine SxCall.quietS (v := .bool true) (fun w1 hs => by
          have r2 : Rd w1 wo (enE.fl G) := by
            first
              | exact hs.rowRd 1 (n := E.length) (cs := enE.fl G) rfl (by rw [rowEn_len]; unfold maxLen; omega)
              | exact hs.rowRd 0 (n := E.length) (cs := enE.fl G) rfl (by rw [rowEn_len]; unfold maxLen; omega)
          have h1 := RMSame_any id id G G co wo cc wc w1 (hs.rowRd 3 rfl (by rw [rowEn_len]; unfold maxLen; omega)) r2
          rw [hGl, decide_eq_true ⟨rfl, rfl⟩] at h1
          exact h1) ?_
        ((try refine sx_use ?_); (repeat (refine SxNew.mk fun _ => ?_; (try refine sx_use ?_))))
        refine SxCall.quietS (v := .bool (decide (E = G))) (fun w1 hs => by
          have r2 : Rd w1 wo (enE.fl G) := by
            first
              | exact hs.rowRd 1 (n := E.length) (cs := enE.fl G) rfl (by rw [rowEn_len]; unfold maxLen; omega)
              | exact hs.rowRd 0 (n := E.length) (cs := enE.fl G) rfl (by rw [rowEn_len]; unfold maxLen; omega)
          have h1 := RMSame_any id id G E wo _ wc ac w1 r2 (hs.rd 6 rfl)
          rw [hGl] at h1
          have e : decide (id = id ∧ G = E) = decide (E = G) := by rw [decide_eq_decide]; exact ⟨fun h => h.2.symm, fun h => ⟨rfl, h.symm⟩⟩
          rw [e] at h1
          exact h1) ?_
        ((try refine sx_use ?_); (repeat (refine SxNew.mk fun _ => ?_; (try refine sx_use ?_))))
        refine SxRun.blEq Try.underlying4 ?_
        rw [beq_self_eq_true]
        ((try refine sx_use ?_); (repeat (refine SxNew.mk fun _ => ?_; (try refine sx_use ?_))))
        refine SxCall.quiet du_awake ?_
        ((try refine sx_use ?_); (repeat (refine SxNew.mk fun _ => ?_; (try refine sx_use ?_))))
        exact SxDone.mk fun w' hs => ⟨rfl, hs.touch.below⟩
end Go.Proofs.Ytdififdnnpgjoaa
