/- The walk over the package's feed: all whole blocks. -/
import Derived.Test.YtipmmknecadkkaaZShaG
namespace Go.Proofs.Ytipmmknecadkkaa
open Go.RowKit

theorem imp_mono {L : Nat → Bool} {i a b : Nat} (h : L a = true → L b = true) (hne : a ≠ i) : setL L i a = true → setL L i b = true := by
  unfold setL
  rw [if_neg hne]
  intro h1
  split
  · rfl
  · exact h h1
theorem wp_extract {P : Program} {o : Oper} {a : Act} {w : World} {K : Act → World → Prop} {Q : Exit → Act → World → Prop} (x : Operand) (n : Nat) (ho : o.op = .extract x n) (vs : Array Value) (hx : a.eval x = .tuple vs) (v : Value) (hv : vs[n]? = some v) (h : K (a.put o.dst v) w) : o.wp P a w K Q := by
  unfold Oper.wp execOp
  simp [ho, hx, hv, Instr.extract]
  exact h
theorem wp_cut64 {P : Program} {o : Oper} {a : Act} {w : World} {K : Act → World → Prop} {Q : Exit → Act → World → Prop} (t : TypeId) (x : Operand) (ho : o.op = .slice t x none (some (.const (.int .i64 64))) none) (hu : P.underlying t = some .string) (q : ByteArray) (hx : a.eval x = .string q) (hq : 64 ≤ q.size)
    (h : K (a.put o.dst (.string (q.extract 0 64))) w) : o.wp P a w K Q := by
  have e := (run_sliceAt_string (w := w) t (.string q) none (some (.int .i64 64)) none hu).trans (run_slice_string_h w t q hu .i64 64 (by omega) (by omega))
  unfold Oper.wp execOp
  simp [ho, hx, show a.eval (.const (.int .i64 64)) = .int .i64 64 from rfl, e]
  exact h
theorem cut_next (str : ByteArray) (k : Nat) (hk : 64 * (k + 1) ≤ str.size) : (str.extract (64 * k) str.size).extract 64 (str.extract (64 * k) str.size).size = str.extract (64 * (k + 1)) str.size := by
  apply ByteArray.ext
  simp
  congr 1
  · omega
theorem cut_head (str : ByteArray) (k : Nat) (hk : 64 * (k + 1) ≤ str.size) : ((str.extract (64 * k) str.size).extract 0 64).data.toList = (str.data.toList.drop (64 * k)).take 64 := by
  simp [List.take_take]
  omega
def strSz : Value → Nat | .string s => s.size | _ => 0
/-- The state behind the first whole blocks. -/
def fedS (l : List UInt8) (s : Nat → Nat) : Nat → Nat → Nat
  | 0 => s
  | k + 1 => blockF ((l.drop (64 * k)).take 64) (fedS l s k)
theorem blockF_lt (b : List UInt8) (s : Nat → Nat) (j : Nat) : blockF b s j < 4294967296 := Nat.mod_lt _ (by omega)
theorem fedS_lt (l : List UInt8) (s : Nat → Nat) (hs : ∀ j, s j < 4294967296) (k j : Nat) : fedS l s k j < 4294967296 := by
  cases k with
  | zero => exact hs j
  | succ k => exact blockF_lt _ _ j
def FeedW (g2 g4 : Nat) (st st2 : Nat → Nat) (w0 : World) (filled : Bool) (w : World) : Prop :=
  Below g2 w0 w ∧ Blk w g4 86 (tab 8 (stV fun _ => 0)) ∧ (filled = false → Blk w g2 86 (tab 8 (stV st))) ∧ (filled = true → Blk w g2 86 (tab 8 (stV st2)))
section
variable {g2 g4 : Nat} {st st2 : Nat → Nat} {w0 w w' : World} {filled : Bool}
theorem FeedW.lt (h : FeedW g2 g4 st st2 w0 filled w) : g2 < w.heap.size := by
  obtain ⟨_, _, h1, h2⟩ := h
  cases filled
  · exact (h1 rfl).lt
  · exact (h2 rfl).lt
theorem FeedW.kept (h : FeedW g2 g4 st st2 w0 filled w) (hb : Below w.heap.size w w') : FeedW g2 g4 st st2 w0 filled w' :=
  ⟨h.1.trans (hb.mono (Nat.le_of_lt h.lt)), h.2.1.kept hb, fun hf => (h.2.2.1 hf).kept hb, fun hf => (h.2.2.2 hf).kept hb⟩
theorem FeedW.fill (h : FeedW g2 g4 st st2 w0 filled w) (hb : Blk w' g2 86 (tab 8 (stV st2))) (ho : Only g2 w w') (hne : g2 ≠ g4) : FeedW g2 g4 st st2 w0 true w' :=
  ⟨h.1.trans (ho.below (Nat.le_refl _)), ho.other h.2.1 hne.symm, (fun hf => by cases hf), fun _ => hb⟩
end
def IFeed (g2 g4 : Nat) (st st2 : Nat → Nat) (q : ByteArray) (w0 : World) (A : Array Value) (L : Nat → Bool) (a : Act) (w : World) : Prop :=
  FrameI A [10, 11, 12, 13, 9, 14, 15] a ∧
  FeedW g2 g4 st st2 w0 (L 7) w ∧
  (L 7 = true → L 0 = true) ∧
  (L 0 = true → a.tmps.getD 10 undef = .agg (tab 8 (stV st)).toArray) ∧
  (L 1 = true → a.tmps.getD 11 undef = .string q) ∧
  (L 2 = true → a.tmps.getD 12 undef = .string (q.extract 0 64)) ∧
  (L 3 = true → a.tmps.getD 13 undef = .tuple #[.agg (tab 8 (stV st2)).toArray, .int .i64 0]) ∧
  (L 4 = true → a.tmps.getD 9 undef = .tuple #[.agg (tab 8 (stV st2)).toArray, .int .i64 0]) ∧
  (L 5 = true → a.tmps.getD 14 undef = .agg (tab 8 (stV st2)).toArray) ∧
  (L 6 = true → a.tmps.getD 15 undef = .int .i64 0)
set_option maxHeartbeats 4000000 in
set_option maxRecDepth 100000 in
theorem feed_any (s : Nat → Nat) (hs : ∀ j, s j < 4294967296) (str : ByteArray) (hl : str.size ≤ 1000000) (w : World) :
    Calls Try.prog 41 #[.agg (tab 8 (stV s)).toArray, .string str] w fun e w' => e = .returned (.tuple #[.agg (tab 8 (stV (fedS str.data.toList s (str.size / 64)))).toArray, .string (str.extract (64 * (str.size / 64)) str.size)]) ∧ Below w.heap.size w w' := by
  go_enter Try.func41, Try.ntmps41
  go_wp2_with (with_reducible refine wpList_box_tab (o := ⟨some 2, _, _, _, _, _⟩) rfl 86 _ rfl 8 (stV s) rfl ?_)
  intro w1 hb1 hbel1 hsz1
  go_wp2_with (with_reducible refine wpList_alloc_blk (o := ⟨some 4, _, _, _, _, _⟩) rfl 86 rfl (.agg (tab 8 (stV fun _ => 0)).toArray) (by kernel_rfl) ?_)
  intro w2 hb2 hbel2 hsz2
  have hb12 := hb1.kept hbel2
  have hbel := kp_step hbel1 hbel2
  obtain ⟨g2, hg2⟩ : ∃ g, w.heap.size = g := ⟨_, rfl⟩
  obtain ⟨g4, hg4⟩ : ∃ g, w1.heap.size = g := ⟨_, rfl⟩
  rw [hg2] at hb12 hbel
  rw [hg4] at hb2
  simp only [hg2, hg4]
  have hg24 : g2 ≠ g4 := by omega
  have hle : g2 ≤ g4 := by omega
  have HG2 := Go.Lib.hid hg2
  clear hb1 hbel1 hbel2 hsz1 hsz2 hg2 hg4
  go_wp2_with fail
  go_loopw [1] (fun sv wr => ∃ (k : Nat) (q : ByteArray), 64 * k ≤ str.size ∧ sv = .string q ∧ Hid (q = str.extract (64 * k) str.size) ∧ q.size ≤ 1000000 ∧ Blk wr g2 86 (tab 8 (stV (fedS str.data.toList s k))) ∧ Blk wr g4 86 (tab 8 (stV fun _ => 0)) ∧ Below g2 w wr) (fun sv _ => strSz sv)
  case atStart => exact ⟨0, str, by omega, rfl, Go.Lib.hid (by rw [Nat.mul_zero]; apply ByteArray.ext; simp), hl, hb12, hb2, hbel⟩
  case round =>
    obtain ⟨k, q, hk, rfl, hq, hql, hbs, hb4, hbl⟩ := hrel
    clear hb12 hb2 hbel
    have hqs : q.size = str.size - 64 * k := by rw [hq.out]; simp
    have HB2R := Go.Lib.hid hbs; have HB4R := Go.Lib.hid hb4; have HBEL := Go.Lib.hid hbl
    by_cases h64 : 64 ≤ q.size
    · have hxs : (q.extract 64 q.size).size = q.size - 64 := by simp
      have hqn : q.extract 64 q.size = str.extract (64 * (k + 1)) str.size := by
        rw [hq.out]
        exact cut_next str k (by omega)
      have hqd : (q.extract 0 64).data.toList = (str.data.toList.drop (64 * k)).take 64 := by
        rw [hq.out]
        exact cut_head str k (by omega)
      have hst2 : fedS str.data.toList s (k + 1) = blockF (q.extract 0 64).data.toList (fedS str.data.toList s k) := by rw [hqd]; rfl
      have hbk : ∀ W : World, Calls Try.prog 43 #[.agg (tab 8 (stV (fedS str.data.toList s k))).toArray, .string (q.extract 0 64)] W fun e w' => e = .returned (.tuple #[.agg (tab 8 (stV (fedS str.data.toList s (k + 1)))).toArray, .int .i64 0]) ∧ Below W.heap.size W w' := fun W => by
        rw [hst2]
        exact Block_yes _ (fedS_lt _ _ hs k) (q.extract 0 64) (by simp; omega) W
      have hk2 : 64 * (k + 1) ≤ str.size := by omega
      have HBK := Go.Lib.hid hbk; have HQN := Go.Lib.hid hqn; have HXS := Go.Lib.hid hxs
      clear hqs hxs hqn hqd hst2 hbk hbs hb4 hbl
      generalize hst : fedS str.data.toList s k = st at *
      generalize hst2 : fedS str.data.toList s (k + 1) = st2 at *
      have HST2 := Go.Lib.hid hst2
      clear hst hst2
      go_wp2_with fail
      refine wp_region_inv2 (by kernel_rfl) (by kernel_rfl) (IFeed g2 g4 st st2 q wr) ?_ ?_ ?_
      · exact ⟨FrameI.refl _ _, ⟨(Below.refl _ _).drew, HB4R.out, fun _ => HB2R.out, absF⟩, absF, absF, absF, absF, absF, absF, absF, absF⟩
      · intro L a wx i o hI ho hL hd
        obtain ⟨hF, hW, h70, h0, h1, h2, h3, h4, h5, h6⟩ := hI
        have hsz : a.tmps.size = 20 := hF.size
        have hi : i < 8 := (Array.getElem?_eq_some_iff.1 ho).1
        obtain rfl | rfl | rfl | rfl | rfl | rfl | rfl | rfl : i = 0 ∨ i = 1 ∨ i = 2 ∨ i = 3 ∨ i = 4 ∨ i = 5 ∨ i = 6 ∨ i = 7 := by omega
        all_goals
          have ho' := ho
          simp only [List.getElem?_toArray, List.getElem?_cons_zero, List.getElem?_cons_succ, Option.some.injEq] at ho'
          subst ho'
        · have hbs := hW.2.2.1 (by cases h7 : L 7 with | false => rfl | true => exact absurd (h70 h7) (by rw [hL]; decide))
          refine wpOp_of ho rfl (wp_load_tab 86 _ rfl g2 86 (hF.keep 2 (by decide)) 8 (stV st) _ hbs Try.underlying86 rfl (by kernel_rfl) ?_)
          exact ⟨hF.put (by decide) _, (by rw [setL_ne (by decide)]; exact hW), imp_mono h70 (by decide), (fun _ => slot_same (by omega)), (imp_set h1 (by decide) (fun h => slot_other h (by decide))), (imp_set h2 (by decide) (fun h => slot_other h (by decide))), (imp_set h3 (by decide) (fun h => slot_other h (by decide))), (imp_set h4 (by decide) (fun h => slot_other h (by decide))), (imp_set h5 (by decide) (fun h => slot_other h (by decide))), (imp_set h6 (by decide) (fun h => slot_other h (by decide)))⟩
        · refine wpOp_of ho rfl (wp_move _ rfl ?_)
          rw [show a.eval (.tmp 1) = .string q from hF.keep 1 (by decide)]
          exact ⟨hF.put (by decide) _, (by rw [setL_ne (by decide)]; exact hW), imp_mono h70 (by decide), (imp_set h0 (by decide) (fun h => slot_other h (by decide))), (fun _ => slot_same (by omega)), (imp_set h2 (by decide) (fun h => slot_other h (by decide))), (imp_set h3 (by decide) (fun h => slot_other h (by decide))), (imp_set h4 (by decide) (fun h => slot_other h (by decide))), (imp_set h5 (by decide) (fun h => slot_other h (by decide))), (imp_set h6 (by decide) (fun h => slot_other h (by decide)))⟩
        · have d1 := h1 (hd { on := 1, ground := Ground.data } (by simp) rfl)
          refine wpOp_of ho rfl (wp_cut64 _ _ rfl Try.underlying9 q d1 (by assumption) ?_)
          exact ⟨hF.put (by decide) _, (by rw [setL_ne (by decide)]; exact hW), imp_mono h70 (by decide), (imp_set h0 (by decide) (fun h => slot_other h (by decide))), (imp_set h1 (by decide) (fun h => slot_other h (by decide))), (fun _ => slot_same (by omega)), (imp_set h3 (by decide) (fun h => slot_other h (by decide))), (imp_set h4 (by decide) (fun h => slot_other h (by decide))), (imp_set h5 (by decide) (fun h => slot_other h (by decide))), (imp_set h6 (by decide) (fun h => slot_other h (by decide)))⟩
        · have d0 := h0 (hd { on := 0, ground := Ground.data } (by simp) rfl)
          have d2 := h2 (hd { on := 2, ground := Ground.data } (by simp) rfl)
          refine wpOp_of ho rfl (wp_call 43 _ _ rfl Try.f43 Try.func43 (by kernel_rfl) (by kernel_rfl) #[.agg (tab 8 (stV st)).toArray, .string (q.extract 0 64)] ?_ ((HBK.out _).mono ?_))
          · simp only [List.map_toArray, List.map_cons, List.map_nil]
            rw [show a.eval (.tmp 10) = .agg (tab 8 (stV st)).toArray from d0, show a.eval (.tmp 12) = .string (q.extract 0 64) from d2]
          rintro e w3 ⟨rfl, hb3⟩
          refine ⟨_, rfl, ?_⟩
          exact ⟨hF.put (by decide) _, (by rw [setL_ne (by decide)]; exact hW.kept hb3), imp_mono h70 (by decide), (imp_set h0 (by decide) (fun h => slot_other h (by decide))), (imp_set h1 (by decide) (fun h => slot_other h (by decide))), (imp_set h2 (by decide) (fun h => slot_other h (by decide))), (fun _ => slot_same (by omega)), (imp_set h4 (by decide) (fun h => slot_other h (by decide))), (imp_set h5 (by decide) (fun h => slot_other h (by decide))), (imp_set h6 (by decide) (fun h => slot_other h (by decide)))⟩
        · have d3 := h3 (hd { on := 3, ground := Ground.data } (by simp) rfl)
          refine wpOp_of ho rfl (wp_move _ rfl ?_)
          rw [show a.eval (.tmp 13) = _ from d3]
          exact ⟨hF.put (by decide) _, (by rw [setL_ne (by decide)]; exact hW), imp_mono h70 (by decide), (imp_set h0 (by decide) (fun h => slot_other h (by decide))), (imp_set h1 (by decide) (fun h => slot_other h (by decide))), (imp_set h2 (by decide) (fun h => slot_other h (by decide))), (imp_set h3 (by decide) (fun h => slot_other h (by decide))), (fun _ => slot_same (by omega)), (imp_set h5 (by decide) (fun h => slot_other h (by decide))), (imp_set h6 (by decide) (fun h => slot_other h (by decide)))⟩
        · have d4 := h4 (hd { on := 4, ground := Ground.data } (by simp) rfl)
          refine wpOp_of ho rfl (wp_extract _ 0 rfl _ d4 _ rfl ?_)
          exact ⟨hF.put (by decide) _, (by rw [setL_ne (by decide)]; exact hW), imp_mono h70 (by decide), (imp_set h0 (by decide) (fun h => slot_other h (by decide))), (imp_set h1 (by decide) (fun h => slot_other h (by decide))), (imp_set h2 (by decide) (fun h => slot_other h (by decide))), (imp_set h3 (by decide) (fun h => slot_other h (by decide))), (imp_set h4 (by decide) (fun h => slot_other h (by decide))), (fun _ => slot_same (by omega)), (imp_set h6 (by decide) (fun h => slot_other h (by decide)))⟩
        · have d4 := h4 (hd { on := 4, ground := Ground.data } (by simp) rfl)
          refine wpOp_of ho rfl (wp_extract _ 1 rfl _ d4 _ rfl ?_)
          exact ⟨hF.put (by decide) _, (by rw [setL_ne (by decide)]; exact hW), imp_mono h70 (by decide), (imp_set h0 (by decide) (fun h => slot_other h (by decide))), (imp_set h1 (by decide) (fun h => slot_other h (by decide))), (imp_set h2 (by decide) (fun h => slot_other h (by decide))), (imp_set h3 (by decide) (fun h => slot_other h (by decide))), (imp_set h4 (by decide) (fun h => slot_other h (by decide))), (imp_set h5 (by decide) (fun h => slot_other h (by decide))), (fun _ => slot_same (by omega))⟩
        · have d5 := h5 (hd { on := 5, ground := Ground.data } (by simp) rfl)
          have d0 : L 0 = true := hd { on := 0, ground := Ground.phase } (by simp) rfl
          refine wpOp_of ho rfl (wp_store_tab 86 (.tmp 2) (.tmp 14) rfl g2 86 8 (stV st2) (stV st) (hF.keep 2 (by decide)) d5 (hW.2.2.1 hL) (by kernel_rfl) (fun _ => rfl) ?_)
          intro w3 hb3 ho3
          exact ⟨hF, (by rw [setL_eq]; exact hW.fill hb3 ho3 hg24), (fun _ => by rw [setL_ne (by decide)]; exact d0), (imp_set h0 (by decide) id), (imp_set h1 (by decide) id), (imp_set h2 (by decide) id), (imp_set h3 (by decide) id), (imp_set h4 (by decide) id), (imp_set h5 (by decide) id), (imp_set h6 (by decide) id)⟩
      · intro L a wx hI hall
        obtain ⟨hF, hW, h70, h0, h1, h2, h3, h4, h5, h6⟩ := hI
        have e0 := h0 (hall 0 (by decide))
        have e1 := h1 (hall 1 (by decide))
        have e2 := h2 (hall 2 (by decide))
        have e3 := h3 (hall 3 (by decide))
        have e4 := h4 (hall 4 (by decide))
        have e5 := h5 (hall 5 (by decide))
        have e6 := h6 (hall 6 (by decide))
        have t7 : L 7 = true := hall 7 (by decide)
        have hA := hF.eq [(10, .agg (tab 8 (stV st)).toArray), (11, .string q), (12, .string (q.extract 0 64)), (13, .tuple #[.agg (tab 8 (stV st2)).toArray, .int .i64 0]), (9, .tuple #[.agg (tab 8 (stV st2)).toArray, .int .i64 0]), (14, .agg (tab 8 (stV st2)).toArray), (15, .int .i64 0)]
          (by
            intro x hx
            simp only [List.mem_cons, List.not_mem_nil, or_false] at hx
            rcases hx with rfl | rfl | rfl | rfl | rfl | rfl | rfl
            · exact ⟨show (10 : Nat) < 20 by decide, e0⟩
            · exact ⟨show (11 : Nat) < 20 by decide, e1⟩
            · exact ⟨show (12 : Nat) < 20 by decide, e2⟩
            · exact ⟨show (13 : Nat) < 20 by decide, e3⟩
            · exact ⟨show (9 : Nat) < 20 by decide, e4⟩
            · exact ⟨show (14 : Nat) < 20 by decide, e5⟩
            · exact ⟨show (15 : Nat) < 20 by decide, e6⟩)
          (by
            intro s hs
            simp only [List.mem_cons, List.not_mem_nil, or_false] at hs
            rcases hs with rfl | rfl | rfl | rfl | rfl | rfl | rfl <;> rfl)
        rw [hA]
        simp only [putAll, List.setIfInBounds_toArray, List.set_cons_zero, List.set_cons_succ]
        clear hA hF hall h0 h1 h2 h3 h4 h5 h6 e0 e1 e2 e3 e4 e5 e6
        obtain ⟨k1, k2, _, k3⟩ := hW
        have hb2n := k3 (by rw [t7])
        have HB2N := Go.Lib.hid hb2n; have HB4N := Go.Lib.hid k2; have HBLN := Go.Lib.hid k1
        clear hb2n k1 k2 k3 h70 t7
        go_wp2_with fail
        go_roundw
        case rel => exact ⟨k + 1, q.extract 64 q.size, by omega, by simp, HQN.out, by rw [HXS.out]; omega, by rw [HST2.out]; exact HB2N.out, HB4N.out, HBEL.out.trans HBLN.out⟩
        case measure => rw [show strSz (.string q) = q.size from rfl]; simp [strSz]; omega
    · have hke : k = str.size / 64 := by omega
      clear hqs
      go_wp2_with (first
        | (with_reducible refine wpList_load_tab (o := ⟨some 18, _, _, _, _, _⟩) rfl 86 _ rfl g2 86 rfl 8 _ _ hbs Try.underlying86 rfl (by kernel_rfl) ?_)
        | (with_reducible refine wpList_store_tab (o := ⟨none, .store 86 (.tmp 4) (.tmp 18), _, _, _, _⟩) rfl 86 _ _ rfl g4 86 8 _ _ rfl rfl hb4 (by kernel_rfl) (fun _ => rfl) ?_))
      intro w4 hb5 ho4
      go_wp2_with fail
      refine bodyPost_ret (results_cell2_tab rfl _ _ g4 86 8 _ _ _ rfl rfl hb5 Try.underlying86 rfl (by kernel_rfl)) rfl ⟨by rw [hq.out, hke]; rfl, ?_⟩
      rw [HG2.out]
      exact hbl.trans (ho4.below hle)
end Go.Proofs.Ytipmmknecadkkaa
