/- Layer 20: the law's same. -/
import Derived.Test.YtcpbgacdoigpnaaZLvI
namespace Go.Proofs.Ytcpbgacdoigpnaa
open Go.RowKit

/-- All counts of some places. -/
def cntS (l ks : List Pl) : Nat := (ks.map fun p => l.count p).sum
theorem cntS_snoc (l ks : List Pl) (x : Pl) : cntS l (ks ++ [x]) = cntS l ks + l.count x := by unfold cntS; rw [List.map_append, List.sum_append]; simp
theorem cntS_cons (a : Pl) (l ks : List Pl) : cntS (a :: l) ks = cntS l ks + ks.count a := by
  induction ks with
  | nil => rfl
  | cons k ks ih =>
    have e1 : cntS (a :: l) (k :: ks) = (a :: l).count k + cntS (a :: l) ks := by unfold cntS; rw [List.map_cons, List.sum_cons]
    have e2 : cntS l (k :: ks) = l.count k + cntS l ks := by unfold cntS; rw [List.map_cons, List.sum_cons]
    rw [e1, e2, ih, List.count_cons, List.count_cons]
    have e3 : (a == k) = (k == a) := Bool.eq_iff_iff.2 (by rw [beq_iff_eq, beq_iff_eq]; exact eq_comm)
    rw [e3]; omega
theorem cntS_le {ks : List Pl} (hn : ks.Nodup) : ∀ l : List Pl, cntS l ks ≤ l.length
  | [] => by
    have : cntS [] ks = 0 := by
      unfold cntS
      induction ks with
      | nil => rfl
      | cons k ks ih => rw [List.map_cons, List.sum_cons, ih (List.nodup_cons.1 hn).2]; rfl
    rw [this]; exact Nat.le_refl _
  | a :: l => by
    have h1 := cntS_le hn l
    have h2 := (List.nodup_iff_count.1 hn) a
    rw [cntS_cons, List.length_cons]; omega
theorem cntS_all {ks : List Pl} (hn : ks.Nodup) : ∀ l : List Pl, (∀ p ∈ l, p ∈ ks) → cntS l ks = l.length
  | [], _ => by have := cntS_le hn []; simp at this; simpa using this
  | a :: l, h => by
    have h1 := cntS_all hn l fun p hp => h p (List.mem_cons_of_mem _ hp)
    have h2 := (List.nodup_iff_count.1 hn) a
    have h3 := List.count_pos_iff.2 (h a (List.mem_cons_self ..))
    rw [cntS_cons, List.length_cons]; omega
theorem strictP_nodup {s : List Pl} (h : s.Pairwise ltP) : s.Nodup := List.nodup_iff_pairwise_ne.2 (h.imp fun {a b} (hab : ltP a b) (e : a = b) => ltP_ord.irr a (by subst e; exact hab))
set_option maxHeartbeats 8000000 in
theorem lsame_any {v : Value} {l : List Pl} (hl : l.length ≤ 1000000) (ao : Option Addr) (ac : Nat) (w : World) (h : TV w v l) (hr : Rd w ao (plE.fl l)) :
    Calls Try.prog 12 #[v, .slice ao l.length ac] w fun e w' => e = .returned (.bool true) ∧ Below w.heap.size w w' := by
  have hsl : (setP l).length ≤ l.length := setS_len cfP l
  have hL := fun (w : World) (h : TV w v l) => Live_tv hl w h
  have hB := fun (w : World) (h : TV w v l) => Boxes_tv hl w h
  have hS := fun (b : Int) (w : World) (h : TV w v l) => Slots_tv hl b w h
  have hRL := fun (w : World) (h : Rd w ao (plE.fl l)) => RLive_any l hl ao ac w h
  have hRB := fun (w : World) (h : Rd w ao (plE.fl l)) => RBoxes_any l hl ao ac w h
  have hRS := fun (b : Int) (w : World) (h : Rd w ao (plE.fl l)) => RSlots_any l hl b ao ac w h
  obtain ⟨s, hs⟩ : ∃ s, s = setP l := ⟨_, rfl⟩
  have hst : s.Pairwise ltP := by rw [hs]; exact setS_strict ltP_ord cfP_iff _
  have hsm : ∀ p ∈ l, p ∈ s := fun p hp => by rw [hs]; exact (setS_mem cfP l p).2 hp
  rw [← hs] at hsl hL hB hS hRL hRB hRS
  have hbs := boxL_len s
  have hv : ∃ a, v = .pointer a := by rcases h with ⟨rfl, _⟩ | ⟨gt, _, _, rfl, _⟩ <;> exact ⟨_, rfl⟩
  obtain ⟨pa, rfl⟩ := hv
  refine sx_fn (S := SX) (M := []) (H0 := [.rd ao (plE.fl l)]) (N := 74) Try.func12 rfl rfl rfl (Sat.oneRd _ hr) ?_
  ((try refine sx_use ?_); (repeat (refine SxNew.mk fun _ => ?_; (try refine sx_use ?_))))
  refine SxCall.newRow (fun w1 hs => hL w1 (h.below hs.touch.below)) fun so sc => ?_
  ((try refine sx_use ?_); (repeat (refine SxNew.mk fun _ => ?_; (try refine sx_use ?_))))
  refine SxCall.newRow (fun w1 hs => hB w1 (h.below hs.touch.below)) fun bo bc => ?_
  ((try refine sx_use ?_); (repeat (refine SxNew.mk fun _ => ?_; (try refine sx_use ?_))))
  refine SxCall.newRow (fun w1 hs => hRL w1 (hs.rd 2 rfl)) fun so2 sc2 => ?_
  ((try refine sx_use ?_); (repeat (refine SxNew.mk fun _ => ?_; (try refine sx_use ?_))))
  refine SxCall.quietS (v := .bool true) (fun w1 hs => by
    have h5 := RSamePl_any s s so so2 sc sc2 w1 (hs.rowRd 2 rfl (by rw [rowPl_len]; unfold maxLen; omega)) (hs.rowRd 0 rfl (by rw [rowPl_len]; unfold maxLen; omega))
    rw [decide_eq_true rfl] at h5
    exact h5) ?_
  ((try refine sx_use ?_); (repeat (refine SxNew.mk fun _ => ?_; (try refine sx_use ?_))))
  refine SxCall.newRow (fun w1 hs => hRB w1 (hs.rd 3 rfl)) fun bo2 bc2 => ?_
  ((try refine sx_use ?_); (repeat (refine SxNew.mk fun _ => ?_; (try refine sx_use ?_))))
  refine SxCall.quietS (v := .bool true) (fun w1 hs => by
    have h5 := RSame18_any (boxL s) (boxL s) bo bo2 bc bc2 w1 (hs.rowRd 2 rfl (by rw [List.length_map]; unfold maxLen; omega)) (hs.rowRd 0 rfl (by rw [List.length_map]; unfold maxLen; omega))
    rw [decide_eq_true rfl] at h5
    exact h5) ?_
  ((try refine sx_use ?_); (repeat (refine SxNew.mk fun _ => ?_; (try refine sx_use ?_))))
  refine SxCode.loop (σ := Nat) [8, 7, 4] [27, 28, 29, 30, 33, 34, 35, 36, 37, 38, 9, 39, 40, 41, 42, 43, 44, 45, 46, 4, 47, 48, 49, 7, 31, 32, 8] (fun k => [.int .i64 (k : Nat), .int .i64 (cntS l (s.take k) : Nat), .bool false]) (fun _ => [.row bo (boxL s).length bc 23 1 ((boxL s).map u32V), .row so s.length sc 25 2 (plE.fl s), .rd ao (plE.fl l)]) (fun k => k ≤ s.length) (fun k => s.length - k) 0 [2, 3, 4] rfl rfl rfl rfl (Nat.zero_le _) ?_
  rintro k hk
  have hcl := cntS_le (strictP_nodup (hst.sublist (List.take_sublist k s))) l
  refine sx_base 1 rfl fun hso _ => ?_
  ((try refine sx_use ?_); (repeat (refine SxNew.mk fun _ => ?_; (try refine sx_use ?_))))
  refine SxIf.dec (fun h1 => ?_) (fun h1 => ?_)
  · have hlt : k < s.length := by omega
    obtain ⟨x, hx⟩ : ∃ x, s[k]? = some x := ⟨s[k], by simp [hlt]⟩
    have hsn : cntS l (s.take (k + 1)) = cntS l (s.take k) + l.count x := by rw [take_snocE hx, cntS_snoc]
    have hcl2 := cntS_le (strictP_nodup (hst.sublist (List.take_sublist (k + 1) s))) l
    obtain ⟨gs, rfl⟩ := hso (by omega)
    ((try refine sx_use ?_); (repeat (refine SxNew.mk fun _ => ?_; (try refine sx_use ?_))))
    refine SxIA.row 1 _ _ _ rfl k rfl hlt fun g' hg' => ?_
    obtain rfl : gs = g' := by simpa using hg'
    ((try refine sx_use ?_); (repeat (refine SxNew.mk fun _ => ?_; (try refine sx_use ?_))))
    refine SxLdN.row 1 rfl rfl rfl (vs := plC x) rfl (rowPl_at hx) ?_
    ((try refine sx_use ?_); (repeat (refine SxNew.mk fun _ => ?_; (try refine sx_use ?_))))
    refine SxCall.quietS (fun w1 hs => Count_tv x w1 (h.below hs.touch.below)) ?_
    ((try refine sx_use ?_); (repeat (refine SxNew.mk fun _ => ?_; (try refine sx_use ?_))))
    refine SxIA.row 1 _ _ _ rfl k rfl hlt fun g' hg' => ?_
    obtain rfl : gs = g' := by simpa using hg'
    ((try refine sx_use ?_); (repeat (refine SxNew.mk fun _ => ?_; (try refine sx_use ?_))))
    refine SxLdN.row 1 rfl rfl rfl (vs := plC x) rfl (rowPl_at hx) ?_
    ((try refine sx_use ?_); (repeat (refine SxNew.mk fun _ => ?_; (try refine sx_use ?_))))
    refine SxCall.quietS (fun w1 hs => RCount_any l x ao ac w1 (hs.rd 2 rfl)) ?_
    ((try refine sx_use ?_); (repeat (refine SxNew.mk fun _ => ?_; (try refine sx_use ?_))))
    (try refine SxIf.neF rfl ?_)
    (try ((try refine sx_use ?_); (repeat (refine SxNew.mk fun _ => ?_; (try refine sx_use ?_)))))
    exact SxRound.mk (k + 1) [0, 1, 2] (by rw [hsn]; rfl) rfl rfl hlt (by omega)
  obtain rfl : k = s.length := by omega
  rw [List.take_length, cntS_all (strictP_nodup hst) l hsm]
  clear h1 hk hcl
  ((try refine sx_use ?_); (repeat (refine SxNew.mk fun _ => ?_; (try refine sx_use ?_))))
  refine SxCode.loop (σ := Nat) [10, 4] [50, 51, 52, 53, 56, 57, 58, 59, 60, 61, 62, 63, 64, 65, 66, 67, 68, 69, 4, 54, 55, 10] (fun k => [.int .i64 (k : Nat), .bool false]) (fun _ => [.row bo (boxL s).length bc 23 1 ((boxL s).map u32V), .rd ao (plE.fl l)]) (fun k => k ≤ (boxL s).length) (fun k => (boxL s).length - k) 0 [0, 2] rfl rfl rfl rfl (Nat.zero_le _) ?_
  rintro k hk
  refine sx_base 0 rfl fun hbo _ => ?_
  ((try refine sx_use ?_); (repeat (refine SxNew.mk fun _ => ?_; (try refine sx_use ?_))))
  refine SxIf.dec (fun h1 => ?_) (fun h1 => ?_)
  · have hlt : k < (boxL s).length := by omega
    obtain ⟨b, hb⟩ : ∃ b, (boxL s)[k]? = some b := ⟨(boxL s)[k], by simp [hlt]⟩
    have hbv : ((boxL s).map u32V)[k]? = some (.int .u32 b) := by rw [List.getElem?_map, hb]; rfl
    have hsb := slotL_len s b
    obtain ⟨gb, rfl⟩ := hbo (by omega)
    ((try refine sx_use ?_); (repeat (refine SxNew.mk fun _ => ?_; (try refine sx_use ?_))))
    refine SxCode.drawAll rfl [] ?_
    ((try refine sx_use ?_); (repeat (refine SxNew.mk fun _ => ?_; (try refine sx_use ?_))))
    refine SxIA.row 0 _ _ _ rfl k rfl hlt fun g' hg' => ?_
    obtain rfl : gb = g' := by simpa using hg'
    ((try refine sx_use ?_); (repeat (refine SxNew.mk fun _ => ?_; (try refine sx_use ?_))))
    refine SxLd.row 0 rfl rfl (j := k) (by omega) hbv ?_
    ((try refine sx_use ?_); (repeat (refine SxNew.mk fun _ => ?_; (try refine sx_use ?_))))
    refine SxIA.row 0 _ _ _ rfl k rfl hlt fun g' hg' => ?_
    obtain rfl : gb = g' := by simpa using hg'
    ((try refine sx_use ?_); (repeat (refine SxNew.mk fun _ => ?_; (try refine sx_use ?_))))
    refine SxLd.row 0 rfl rfl (j := k) (by omega) hbv ?_
    ((try refine sx_use ?_); (repeat (refine SxNew.mk fun _ => ?_; (try refine sx_use ?_))))
    refine SxCall.newRow (fun w1 hs => hS b w1 (h.below hs.touch.below)) fun xo xc => ?_
    ((try refine sx_use ?_); (repeat (refine SxNew.mk fun _ => ?_; (try refine sx_use ?_))))
    refine SxCall.newRow (fun w1 hs => hRS b w1 (hs.rd 2 rfl)) fun yo yc => ?_
    ((try refine sx_use ?_); (repeat (refine SxNew.mk fun _ => ?_; (try refine sx_use ?_))))
    refine SxCall.quietS (v := .bool true) (fun w1 hs => by
      have h5 := RInts_any (slotL s b) (slotL s b) xo yo xc yc w1 (hs.rowRd 1 rfl (by rw [List.length_map]; unfold maxLen; omega)) (hs.rowRd 0 rfl (by rw [List.length_map]; unfold maxLen; omega))
      rw [decide_eq_true rfl] at h5
      exact h5) ?_
    ((try refine sx_use ?_); (repeat (refine SxNew.mk fun _ => ?_; (try refine sx_use ?_))))
    exact SxRound.mk (k + 1) [2, 3] rfl rfl rfl hlt (by omega)
  · obtain rfl : k = (boxL s).length := by omega
    ((try refine sx_use ?_); (repeat (refine SxNew.mk fun _ => ?_; (try refine sx_use ?_))))
    refine SxDone.mk fun w' hs => ⟨?_, hs.touch.below⟩
    show Ending.returned (.bool (((l.length : Nat) : Int) == (l.length : Nat))) = _
    rw [beq_self_eq_true]
end Go.Proofs.Ytcpbgacdoigpnaa
