/- Layer 20: LiveCounts. -/
import Derived.Test.YtcpbgacdoigpnaaZLvH
import Derived.Test.YtcpbgacdoigpnaaZLvJ
import Derived.Test.YtcpbgacdoigpnaaZFrame
namespace Go.Proofs.Ytcpbgacdoigpnaa
open Go.RowKit

/-- A call that came in. -/
structure Ac (w : World) where
  sub : Bool
  again : Bool
  at_ : Nat
  lt : at_ < 256
  m : Mw w
instance (w : World) : Inhabited (Ac w) := ⟨⟨false, false, 0, by decide, default⟩⟩
def acC {w : World} (a : Ac w) : List Value := [.bool a.sub, .bool a.again, .int .u8 (a.at_ : Nat), .int .u32 a.m.1.id, .slice a.m.1.ao a.m.1.n a.m.1.cap]
def acE (w : World) : Enc (Ac w) := ⟨acC, 5, by decide, fun _ => rfl, fun _ => rfl⟩
theorem open_acs {w : World} {d : Nat} {v : Value} (hv : FitK Try.prog w (d + 2) (.slice 33) v) : ∃ (ao : Option Addr) (n cap : Nat), v = .slice ao n cap ∧ n ≤ maxLen ∧ ∃ l : List (Ac w), l.length = min n 1000 ∧ Rd w ao ((acE w).fl l) :=
  open_rows (acE w) (by show 5 ≤ 100; decide) [.bool, .bool, .int .u8, .int .u32, .slice 65] hv (by kernel_rfl) (by kernel_rfl) rfl fun cs h => by
    obtain ⟨hl, hf⟩ := h
    match cs, hl with
    | [a, b, c, x, y], _ =>
      obtain ⟨a, rfl⟩ := fitK_bool (hf 0 _ _ rfl rfl)
      obtain ⟨b, rfl⟩ := fitK_bool (hf 1 _ _ rfl rfl)
      obtain ⟨c, rfl, hc⟩ := fitK_int (hf 2 _ _ rfl rfl)
      obtain ⟨c, hc8, rfl⟩ := nat_u8 hc
      obtain ⟨id, rfl, _⟩ := fitK_int (hf 3 _ _ rfl rfl)
      have hy := hf 4 _ _ rfl rfl
      obtain ⟨ao, n, cap, rfl, h1, h2⟩ := open_ens hy
      obtain ⟨ao', n', cap', he, h3, _⟩ := hy
      simp only [Value.slice.injEq] at he
      obtain ⟨rfl, rfl, rfl⟩ := he
      exact ⟨⟨a, b, c, hc8, ⟨⟨id, ao, n, cap⟩, h3, h2⟩⟩, rfl⟩
theorem rowAc_len {w : World} (l : List (Ac w)) : ((acE w).fl l).length = l.length * 5 := (acE w).fl_len l
theorem rowAc_at {w : World} {l : List (Ac w)} {k : Nat} {x : Ac w} (h : l[k]? = some x) : (((acE w).fl l).drop (k * 5)).take 5 = acC x := (acE w).fl_at h
theorem rowAc_man {w : World} {l : List (Ac w)} {k : Nat} {x : Ac w} (h : l[k]? = some x) : (((acE w).fl l).drop (k * 5 + 3)).take 2 = (mwE w).enc x.m := by
  have h1 := rowAc_at h
  have h2 : (((acE w).fl l).drop (k * 5 + 3)).take 2 = (((((acE w).fl l).drop (k * 5)).take 5).drop 3).take 2 := by
    rw [List.drop_take, List.take_take, List.drop_drop]
    rfl
  rw [h2, h1]
  rfl
set_option maxHeartbeats 16000000 in
theorem LiveCounts_law (w : World) (v1 : Value) (hv1 : FitK Try.prog w 4 (.slice 33) v1) (ps : List Value) (h3 : FitR Try.prog w 4 [.int .u32, .int .i64] ps) :
    Calls Try.prog 3 #[v1, .agg ps.toArray] w fun e w' => e = .returned (.bool true) ∧ Below w.heap.size w w' := by
  obtain ⟨ao, n, ac, rfl, hn, acs, has, har⟩ := open_acs hv1
  obtain ⟨P, rfl⟩ := open_pl ps h3
  clear hv1 h3
  unfold maxLen at hn
  refine sx_fn (S := SX) (M := []) (H0 := [.row none 0 0 25 2 [], .rd ao ((acE w).fl acs)]) (N := 93) Try.func3 rfl rfl rfl ((Sat.oneRd _ har).nilRow 25 2) ?_
  ((try refine sx_use ?_); (repeat (refine SxNew.mk fun _ => ?_; (try refine sx_use ?_))))
  rename_i bp
  refine SxCall.newT fun gt gm => ?_
  ((try refine sx_use ?_); (repeat (refine SxNew.mk fun _ => ?_; (try refine sx_use ?_))))
  obtain ⟨N, hN⟩ : ∃ N, N = min n 12 := ⟨_, rfl⟩
  have hNa : N ≤ acs.length := by omega
  refine SxCode.loop (σ := Nat × List (Pl × Nat) × List Pl × Option Addr × Nat) [7, 6, 4] [14, 15, 16, 17, 18, 19, 20, 21, 24, 25, 26, 27, 8, 28, 29, 30, 31, 32, 33, 34, 35, 36, 37, 38, 39, 40, 41, 42, 43, 44, 45, 46, 9, 47, 48, 50, 51, 52, 49, 53, 54, 10, 11, 55, 56, 57, 12, 58, 59, 60, 61, 62, 63, 64, 65, 66, 67, 68, 69, 4, 70, 6, 71, 72, 73, 74, 75, 76, 77, 78, 79, 80, 81, 82, 83, 84, 85, 86, 87, 88, 89, 90, 91, 22, 23, 7] (fun x => [.int .i64 (x.1 : Nat), .slice x.2.2.2.1 x.2.2.1.length x.2.2.2.2, .bool false])
    (fun x => [.row x.2.2.2.1 x.2.2.1.length x.2.2.2.2 25 2 (plE.fl x.2.2.1), (.blk bp 25 (plC P)), tabE gt gm, mapE plKey gm (kvT x.2.1), .rd ao ((acE w).fl acs)]) (fun x => x.1 ≤ N ∧ Tab x.2.1 x.2.2.1 ∧ x.2.2.1.length ≤ x.1 * 40) (fun x => N - x.1) (0, [], [], none, 0) [3, 2, 0, 1, 4] rfl rfl rfl rfl ⟨Nat.zero_le _, Tab.nil, Nat.le_refl _⟩ ?_
  rintro ⟨k, d, l, lo, lc⟩ ⟨hk, hd, hll⟩
  dsimp only at hk hd hll ⊢
  refine sx_base 0 rfl fun hlo hlc => ?_
  by_cases hlt : k < N
  · obtain ⟨x, hx⟩ : ∃ x, acs[k]? = some x := ⟨acs[k]'(by omega), by simp [show k < acs.length by omega]⟩
    ((try refine sx_use ?_); (repeat (refine SxNew.mk fun _ => ?_; (try refine sx_use ?_))))
    (try refine SxIf.yes (by omega) ?_)
    (try ((try refine sx_use ?_); (repeat (refine SxNew.mk fun _ => ?_; (try refine sx_use ?_)))))
    refine SxIA.rd 4 _ rfl k rfl (by omega) (by rw [rowAc_len]; omega) fun g off ha => ?_
    ((try refine sx_use ?_); (repeat (refine SxNew.mk fun _ => ?_; (try refine sx_use ?_))))
    refine SxLdN.rd 4 rfl ha rfl (vs := acC x) rfl (rowAc_at hx) ?_
    ((try refine sx_use ?_); (repeat (refine SxNew.mk fun _ => ?_; (try refine sx_use ?_))))
    refine ⟨fun hag => ?_, fun hag => ?_⟩
    case' refine_1 =>
      by_cases h0 : 0 < k
    case' pos =>
      have hat := x.lt
      obtain ⟨y, hy⟩ : ∃ y, acs[x.at_ % k]? = some y := by
        have := Nat.mod_lt x.at_ h0
        exact ⟨acs[x.at_ % k]'(by omega), by simp [show x.at_ % k < acs.length by omega]⟩
      obtain ⟨m, hm⟩ : ∃ m, m = y.m := ⟨_, rfl⟩
      have hlm := (List.getElem?_eq_some_iff.1 hy).1
      ((try refine sx_use ?_); (repeat (refine SxNew.mk fun _ => ?_; (try refine sx_use ?_))))
      (try refine SxIf.yes (by omega) ?_)
      (try ((try refine sx_use ?_); (repeat (refine SxNew.mk fun _ => ?_; (try refine sx_use ?_)))))
      refine SxIA.rd 5 _ rfl (x.at_ % k) (by omega) (by omega) (by rw [rowAc_len]; omega) fun g off ha => ?_
      ((try refine sx_use ?_); (repeat (refine SxNew.mk fun _ => ?_; (try refine sx_use ?_))))
      refine SxLdN.rd 5 rfl ha (by omega) (j := x.at_ % k * 5 + 3) (vs := (mwE w).enc y.m) rfl (rowAc_man hy) ?_
      ((try refine sx_use ?_); (repeat (refine SxNew.mk fun _ => ?_; (try refine sx_use ?_))))
      refine SxCall.quiet (v := .agg (mfE.enc m.few).toArray) (fun w' => by rw [hm]; exact y.m.few_any w') ?_
    case' neg =>
      obtain ⟨m, hm⟩ : ∃ m, m = x.m := ⟨_, rfl⟩
      ((try refine sx_use ?_); (repeat (refine SxNew.mk fun _ => ?_; (try refine sx_use ?_))))
      (try refine SxIf.no (by omega) ?_)
      (try ((try refine sx_use ?_); (repeat (refine SxNew.mk fun _ => ?_; (try refine sx_use ?_)))))
      refine SxCall.quiet (v := .agg (mfE.enc m.few).toArray) (fun w' => by rw [hm]; exact x.m.few_any w') ?_
    case' refine_2 =>
      obtain ⟨m, hm⟩ : ∃ m, m = x.m := ⟨_, rfl⟩
      ((try refine sx_use ?_); (repeat (refine SxNew.mk fun _ => ?_; (try refine sx_use ?_))))
      refine SxCall.quiet (v := .agg (mfE.enc m.few).toArray) (fun w' => by rw [hm]; exact x.m.few_any w') ?_
    all_goals
      have hml := m.few_len
      have hle : m.few.es.length ≤ 1000000 := by omega
      have hpl : (plsOf m.few.es).length = m.few.es.length := plsOf_len _
      clear hm
      ((try refine sx_use ?_); (repeat (refine SxNew.mk fun _ => ?_; (try refine sx_use ?_))))
      refine ⟨fun hsub => ?_, fun hsub => ?_⟩
      · by_cases hok : okSub l (plsOf m.few.es)
        case' pos =>
          have hsl := subL_len l (plsOf m.few.es)
          ((try refine sx_use ?_); (repeat (refine SxNew.mk fun _ => ?_; (try refine sx_use ?_))))
          refine SxCall.newRow (v := fun ao cap => .tuple #[.slice ao _ cap, .bool true]) (fun w1 hs => (RSub_any l (by omega) lo lc hlc m.few.id m.few.es hle m.few.ao m.few.cap w1 (hs.rowRd 2 rfl (by rw [rowPl_len]; unfold maxLen; omega)) (m.few_rd.kept hs.touch.below)).mono fun e w' h => h.elim (fun h => h.2) (fun h => absurd hok h.1)) fun ro rc => ?_
          ((try refine sx_use ?_); (repeat (refine SxNew.mk fun _ => ?_; (try refine sx_use ?_))))
          refine SxCall.sub 5 6 m.few rfl rfl hd (by omega) hle (fun w' hs => ⟨m.few_rd.kept hs.touch.below, old_apart hs (q := 6) rfl m.few_rd⟩) fun d' hd' => ?_
          rw [if_pos hok] at hd' ⊢
          ((try refine sx_use ?_); (repeat (refine SxNew.mk fun _ => ?_; (try refine sx_use ?_))))
          (try refine SxRun.blNe Try.underlying4 ?_)
          (try ((try refine sx_use ?_); (repeat (refine SxNew.mk fun _ => ?_; (try refine sx_use ?_)))))
          refine SxCode.drawAll rfl [] ?_
          ((try refine sx_use ?_); (repeat (refine SxNew.mk fun _ => ?_; (try refine sx_use ?_))))
          refine SxCall.quietS (fun w1 hs => lsame_any (by omega) _ _ w1 (tv_of hs 5 6 rfl rfl hd') (hs.rowRd 0 rfl (by rw [rowPl_len]; unfold maxLen; omega))) ?_
          ((try refine sx_use ?_); (repeat (refine SxNew.mk fun _ => ?_; (try refine sx_use ?_))))
          refine SxCall.quietS (fun w1 hs => Count_tv P w1 (tv_of hs 5 6 rfl rfl hd')) ?_
          ((try refine sx_use ?_); (repeat (refine SxNew.mk fun _ => ?_; (try refine sx_use ?_))))
          refine SxCall.quietS (fun w1 hs => RCount_any (subL l (plsOf m.few.es)) P _ _ w1 (hs.rowRd 0 rfl (by rw [rowPl_len]; unfold maxLen; omega))) ?_
          ((try refine sx_use ?_); (repeat (refine SxNew.mk fun _ => ?_; (try refine sx_use ?_))))
          (try refine SxIf.neF rfl ?_)
          (try ((try refine sx_use ?_); (repeat (refine SxNew.mk fun _ => ?_; (try refine sx_use ?_)))))
          exact SxRound.mk (k + 1, d', (subL l (plsOf m.few.es)), ro, rc) [0, 4, 5, 6, 7] rfl rfl rfl ⟨hlt, hd', by dsimp only; skip; omega⟩ (by dsimp only; omega)
        · ((try refine sx_use ?_); (repeat (refine SxNew.mk fun _ => ?_; (try refine sx_use ?_))))
          refine SxCall.quietS (v := .tuple #[.slice lo l.length lc, .bool false]) (fun w1 hs => (RSub_any l (by omega) lo lc hlc m.few.id m.few.es hle m.few.ao m.few.cap w1 (hs.rowRd 2 rfl (by rw [rowPl_len]; unfold maxLen; omega)) (m.few_rd.kept hs.touch.below)).mono fun e w' h => h.elim (fun h => absurd h.1 hok) (fun h => h.2)) ?_
          ((try refine sx_use ?_); (repeat (refine SxNew.mk fun _ => ?_; (try refine sx_use ?_))))
          refine SxCall.sub 4 5 m.few rfl rfl hd (by omega) hle (fun w' hs => ⟨m.few_rd.kept hs.touch.below, old_apart hs (q := 5) rfl m.few_rd⟩) fun d' hd' => ?_
          rw [if_neg hok] at hd' ⊢
          ((try refine sx_use ?_); (repeat (refine SxNew.mk fun _ => ?_; (try refine sx_use ?_))))
          (try refine SxRun.blNe Try.underlying4 ?_)
          (try ((try refine sx_use ?_); (repeat (refine SxNew.mk fun _ => ?_; (try refine sx_use ?_)))))
          refine SxCode.drawAll rfl [] ?_
          ((try refine sx_use ?_); (repeat (refine SxNew.mk fun _ => ?_; (try refine sx_use ?_))))
          refine SxCall.quietS (fun w1 hs => lsame_any (by omega) _ _ w1 (tv_of hs 4 5 rfl rfl hd') (hs.rowRd 2 rfl (by rw [rowPl_len]; unfold maxLen; omega))) ?_
          ((try refine sx_use ?_); (repeat (refine SxNew.mk fun _ => ?_; (try refine sx_use ?_))))
          refine SxCall.quietS (fun w1 hs => Count_tv P w1 (tv_of hs 4 5 rfl rfl hd')) ?_
          ((try refine sx_use ?_); (repeat (refine SxNew.mk fun _ => ?_; (try refine sx_use ?_))))
          refine SxCall.quietS (fun w1 hs => RCount_any l P _ _ w1 (hs.rowRd 2 rfl (by rw [rowPl_len]; unfold maxLen; omega))) ?_
          ((try refine sx_use ?_); (repeat (refine SxNew.mk fun _ => ?_; (try refine sx_use ?_))))
          (try refine SxIf.neF rfl ?_)
          (try ((try refine sx_use ?_); (repeat (refine SxNew.mk fun _ => ?_; (try refine sx_use ?_)))))
          exact SxRound.mk (k + 1, d', l, lo, lc) [2, 3, 4, 5, 6] rfl rfl rfl ⟨hlt, hd', by dsimp only; skip; omega⟩ (by dsimp only; omega)
      · ((try refine sx_use ?_); (repeat (refine SxNew.mk fun _ => ?_; (try refine sx_use ?_))))
        refine SxCall.add 5 6 [m.few] rfl rfl hd (by rw [show plsM [m.few] = plsOf m.few.es ++ [] from plsM_cons _ _, List.append_nil, plsOf_len]; omega) (fun w' hs => ⟨hs.rowRd 0 rfl (by show 2 ≤ maxLen; decide), row_apart hs (q := 6) (r := 0) rfl rfl⟩) (fun m' hm' w' hs => by
          simp only [List.mem_singleton] at hm'
          subst hm'
          exact ⟨m.few_rd.kept hs.touch.below, old_apart hs (q := 6) rfl m.few_rd⟩) fun d' hd' => ?_
        replace hd' : Tab d' (l ++ plsOf m.few.es) := by
          have e : plsM [m.few] = plsOf m.few.es := by unfold plsM; simp
          rw [e] at hd'; exact hd'
        have hal : (l ++ plsOf m.few.es).length = l.length + m.few.es.length := by rw [List.length_append, hpl]
        ((try refine sx_use ?_); (repeat (refine SxNew.mk fun _ => ?_; (try refine sx_use ?_))))
        refine SxCall.newRow (fun w1 hs => ROf_any m.few.id m.few.es hle m.few.ao m.few.cap w1 (m.few_rd.kept hs.touch.below)) fun oo oc => ?_
        ((try refine sx_use ?_); (repeat (refine SxNew.mk fun _ => ?_; (try refine sx_use ?_))))
        refine SxApp.mk 4 rfl 0 (.inr (.inr (.inr ⟨by decide, _, rfl⟩))) (vs := plE.fl (plsOf m.few.es)) (m := (plsOf m.few.es).length) (by rw [rowPl_len]) (plE.fl_allOne _) (by unfold maxLen; omega) (by omega) (cs' := plE.fl (l ++ plsOf m.few.es)) (by rw [plE.fl_append]) fun ro rc => ?_
        rw [← List.length_append]
        ((try refine sx_use ?_); (repeat (refine SxNew.mk fun _ => ?_; (try refine sx_use ?_))))
        refine SxCode.drawAll rfl [] ?_
        ((try refine sx_use ?_); (repeat (refine SxNew.mk fun _ => ?_; (try refine sx_use ?_))))
        refine SxCall.quietS (fun w1 hs => lsame_any (by omega) _ _ w1 (tv_of hs 6 7 rfl rfl hd') (hs.rowRd 4 rfl (by rw [rowPl_len]; unfold maxLen; omega))) ?_
        ((try refine sx_use ?_); (repeat (refine SxNew.mk fun _ => ?_; (try refine sx_use ?_))))
        refine SxCall.quietS (fun w1 hs => Count_tv P w1 (tv_of hs 6 7 rfl rfl hd')) ?_
        ((try refine sx_use ?_); (repeat (refine SxNew.mk fun _ => ?_; (try refine sx_use ?_))))
        refine SxCall.quietS (fun w1 hs => RCount_any (l ++ plsOf m.few.es) P _ _ w1 (hs.rowRd 4 rfl (by rw [rowPl_len]; unfold maxLen; omega))) ?_
        ((try refine sx_use ?_); (repeat (refine SxNew.mk fun _ => ?_; (try refine sx_use ?_))))
        (try refine SxIf.neF rfl ?_)
        (try ((try refine sx_use ?_); (repeat (refine SxNew.mk fun _ => ?_; (try refine sx_use ?_)))))
        exact SxRound.mk (k + 1, d', (l ++ plsOf m.few.es), ro, rc) [4, 5, 6, 7, 8] rfl rfl rfl ⟨hlt, hd', by dsimp only; skip; omega⟩ (by dsimp only; omega)
  obtain rfl : k = N := by omega
  by_cases h12 : n ≤ 12
  case' pos => ((try refine sx_use ?_); (repeat (refine SxNew.mk fun _ => ?_; (try refine sx_use ?_))))
  case' neg => ((try refine sx_use ?_); (repeat (refine SxNew.mk fun _ => ?_; (try refine sx_use ?_))))
  all_goals
    refine SxCall.quiet lv_awake ?_
    ((try refine sx_use ?_); (repeat (refine SxNew.mk fun _ => ?_; (try refine sx_use ?_))))
    exact SxDone.mk fun w' hs => ⟨rfl, hs.touch.below⟩
end Go.Proofs.Ytcpbgacdoigpnaa
