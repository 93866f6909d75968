/- Layer 20: the document's walks for LiveCounts. -/
import Derived.Test.YtcpbgacdoigpnaaZLvG
namespace Go.Proofs.Ytcpbgacdoigpnaa
open Go.RowKit

theorem RSamePl_any (a b : List Pl) (ao bo : Option Addr) (ac bc : Nat) (w : World) (ha : Rd w ao (plE.fl a)) (hb : Rd w bo (plE.fl b)) :
    Calls Try.prog 24 #[.slice ao a.length ac, .slice bo b.length bc] w fun e w' => e = .returned (.bool (decide (a = b))) ∧ Below w.heap.size w w' := by
  have hal : a.length * 2 ≤ maxLen := by have := ha.1; rw [rowPl_len] at this; exact this
  unfold maxLen at hal
  refine sx_fn (S := SX) (M := []) (N := 26) (H0 := [.rd ao (plE.fl a), .rd bo (plE.fl b)]) Try.func24 rfl rfl rfl (Sat.twoRd _ ha hb) ?_
  ((try refine sx_use ?_); (repeat (refine SxNew.mk fun _ => ?_; (try refine sx_use ?_))))
  refine SxIf.ne (fun h => ?_) (fun h => ?_)
  · ((try refine sx_use ?_); (repeat (refine SxNew.mk fun _ => ?_; (try refine sx_use ?_))))
    exact SxDone.mk fun w' hs => ⟨by rw [decide_eq_false fun he => h (by rw [he])]; rfl, hs.touch.below⟩
  have hl : a.length = b.length := by omega
  ((try refine sx_use ?_); (repeat (refine SxNew.mk fun _ => ?_; (try refine sx_use ?_))))
  refine SxCode.loop (σ := Nat) [5, 4] [11, 12, 13, 14, 17, 18, 19, 20, 21, 22, 23, 24, 25, 4, 15, 16, 5] (fun k => [.int .i64 (k : Nat), .bool false]) (fun _ => [.rd ao (plE.fl a), .rd bo (plE.fl b)]) (fun k => k ≤ a.length ∧ a.take k = b.take k) (fun k => a.length - k) 0 [0, 1] rfl rfl rfl rfl ⟨Nat.zero_le _, rfl⟩ ?_
  rintro k ⟨hk, he⟩
  ((try refine sx_use ?_); (repeat (refine SxNew.mk fun _ => ?_; (try refine sx_use ?_))))
  refine SxIf.dec (fun h => ?_) (fun h => ?_)
  · have hlt : k < a.length := by omega
    obtain ⟨x, hx⟩ : ∃ x, a[k]? = some x := ⟨a[k], by simp [hlt]⟩
    obtain ⟨y, hy⟩ : ∃ y, b[k]? = some y := ⟨b[k]'(by omega), by simp [show k < b.length by omega]⟩
    ((try refine sx_use ?_); (repeat (refine SxNew.mk fun _ => ?_; (try refine sx_use ?_))))
    (try refine SxCode.drawAll rfl [] ?_)
    (try ((try refine sx_use ?_); (repeat (refine SxNew.mk fun _ => ?_; (try refine sx_use ?_)))))
    refine SxIA.rd 0 _ rfl k rfl hlt (by rw [rowPl_len]; omega) fun g off ha => ?_
    ((try refine sx_use ?_); (repeat (refine SxNew.mk fun _ => ?_; (try refine sx_use ?_))))
    refine SxLdN.rd 0 rfl ha rfl (vs := plC x) rfl (rowPl_at hx) ?_
    ((try refine sx_use ?_); (repeat (refine SxNew.mk fun _ => ?_; (try refine sx_use ?_))))
    refine SxIA.rd 1 _ rfl k rfl (by omega) (by rw [rowPl_len]; omega) fun g off ha => ?_
    ((try refine sx_use ?_); (repeat (refine SxNew.mk fun _ => ?_; (try refine sx_use ?_))))
    refine SxLdN.rd 1 rfl ha rfl (vs := plC y) rfl (rowPl_at hy) ?_
    ((try refine sx_use ?_); (repeat (refine SxNew.mk fun _ => ?_; (try refine sx_use ?_))))
    refine SxRun.nePl (x := x) (y := y) ?_
    ((try refine sx_use ?_); (repeat (refine SxNew.mk fun _ => ?_; (try refine sx_use ?_))))
    refine SxIf.nt (SxIf.dec (fun h2 => ?_) (fun h2 => ?_))
    · ((try refine sx_use ?_); (repeat (refine SxNew.mk fun _ => ?_; (try refine sx_use ?_))))
      exact SxRound.mk (k + 1) [0, 1] rfl rfl rfl ⟨hlt, by rw [take_snocE hx, take_snocE hy, he, h2]⟩ (by omega)
    · have h3 : a ≠ b := fun e => h2 (by subst e; exact Option.some.inj (hx.symm.trans hy))
      ((try refine sx_use ?_); (repeat (refine SxNew.mk fun _ => ?_; (try refine sx_use ?_))))
      exact SxDone.mk fun w' hs => ⟨by rw [decide_eq_false h3]; rfl, hs.touch.below⟩
  · obtain rfl : k = a.length := by omega
    rw [List.take_length, hl, List.take_length] at he
    ((try refine sx_use ?_); (repeat (refine SxNew.mk fun _ => ?_; (try refine sx_use ?_))))
    exact SxDone.mk fun w' hs => ⟨by rw [decide_eq_true he]; rfl, hs.touch.below⟩
theorem RSame18_any (a b : List Int) (ao bo : Option Addr) (ac bc : Nat) (w : World) (ha : Rd w ao (a.map u32V)) (hb : Rd w bo (b.map u32V)) :
    Calls Try.prog 26 #[.slice ao a.length ac, .slice bo b.length bc] w fun e w' => e = .returned (.bool (decide (a = b))) ∧ Below w.heap.size w w' := by
  have hal : a.length ≤ maxLen := by have := ha.1; rw [List.length_map] at this; exact this
  unfold maxLen at hal
  refine sx_fn (S := SX) (M := []) (N := 26) (H0 := [.rd ao (a.map u32V), .rd bo (b.map u32V)]) Try.func26 rfl rfl rfl (Sat.twoRd _ ha hb) ?_
  ((try refine sx_use ?_); (repeat (refine SxNew.mk fun _ => ?_; (try refine sx_use ?_))))
  refine SxIf.ne (fun h => ?_) (fun h => ?_)
  · ((try refine sx_use ?_); (repeat (refine SxNew.mk fun _ => ?_; (try refine sx_use ?_))))
    exact SxDone.mk fun w' hs => ⟨by rw [decide_eq_false fun he => h (by rw [he])]; rfl, hs.touch.below⟩
  have hl : a.length = b.length := by omega
  ((try refine sx_use ?_); (repeat (refine SxNew.mk fun _ => ?_; (try refine sx_use ?_))))
  refine SxCode.loop (σ := Nat) [5, 4] [11, 12, 13, 14, 17, 18, 19, 20, 21, 22, 23, 24, 25, 4, 15, 16, 5] (fun k => [.int .i64 (k : Nat), .bool false]) (fun _ => [.rd ao (a.map u32V), .rd bo (b.map u32V)]) (fun k => k ≤ a.length ∧ a.take k = b.take k) (fun k => a.length - k) 0 [0, 1] rfl rfl rfl rfl ⟨Nat.zero_le _, rfl⟩ ?_
  rintro k ⟨hk, he⟩
  ((try refine sx_use ?_); (repeat (refine SxNew.mk fun _ => ?_; (try refine sx_use ?_))))
  refine SxIf.dec (fun h => ?_) (fun h => ?_)
  · have hlt : k < a.length := by omega
    obtain ⟨x, hx⟩ : ∃ x, a[k]? = some x := ⟨a[k], by simp [hlt]⟩
    obtain ⟨y, hy⟩ : ∃ y, b[k]? = some y := ⟨b[k]'(by omega), by simp [show k < b.length by omega]⟩
    ((try refine sx_use ?_); (repeat (refine SxNew.mk fun _ => ?_; (try refine sx_use ?_))))
    (try refine SxCode.drawAll rfl [] ?_)
    (try ((try refine sx_use ?_); (repeat (refine SxNew.mk fun _ => ?_; (try refine sx_use ?_)))))
    refine SxIA.rd 0 _ rfl k rfl hlt (by rw [List.length_map]; omega) fun g off ha => ?_
    ((try refine sx_use ?_); (repeat (refine SxNew.mk fun _ => ?_; (try refine sx_use ?_))))
    refine SxLd.rd 0 rfl ha rfl (j := k * 1) (v := .int .u32 x) (by rw [Nat.mul_one, List.getElem?_map, hx]; rfl) ?_
    ((try refine sx_use ?_); (repeat (refine SxNew.mk fun _ => ?_; (try refine sx_use ?_))))
    refine SxIA.rd 1 _ rfl k rfl (by omega) (by rw [List.length_map]; omega) fun g off ha => ?_
    ((try refine sx_use ?_); (repeat (refine SxNew.mk fun _ => ?_; (try refine sx_use ?_))))
    refine SxLd.rd 1 rfl ha rfl (j := k * 1) (v := .int .u32 y) (by rw [Nat.mul_one, List.getElem?_map, hy]; rfl) ?_
    ((try refine sx_use ?_); (repeat (refine SxNew.mk fun _ => ?_; (try refine sx_use ?_))))
    refine SxIf.ne (fun h2 => ?_) (fun h2 => ?_)
    · have h3 : a ≠ b := fun e => h2 (by subst e; exact Option.some.inj (hx.symm.trans hy))
      ((try refine sx_use ?_); (repeat (refine SxNew.mk fun _ => ?_; (try refine sx_use ?_))))
      exact SxDone.mk fun w' hs => ⟨by rw [decide_eq_false h3]; rfl, hs.touch.below⟩
    · ((try refine sx_use ?_); (repeat (refine SxNew.mk fun _ => ?_; (try refine sx_use ?_))))
      exact SxRound.mk (k + 1) [0, 1] rfl rfl rfl ⟨hlt, by rw [take_snocE hx, take_snocE hy, he, h2]⟩ (by omega)
  · obtain rfl : k = a.length := by omega
    rw [List.take_length, hl, List.take_length] at he
    ((try refine sx_use ?_); (repeat (refine SxNew.mk fun _ => ?_; (try refine sx_use ?_))))
    exact SxDone.mk fun w' hs => ⟨by rw [decide_eq_true he]; rfl, hs.touch.below⟩
theorem RCount_any (l : List Pl) (x : Pl) (ao : Option Addr) (ac : Nat) (w : World) (ha : Rd w ao (plE.fl l)) :
    Calls Try.prog 14 #[.slice ao l.length ac, .agg (plC x).toArray] w fun e w' => e = .returned (.int .i64 (l.count x : Nat)) ∧ Below w.heap.size w w' := by
  have hal : l.length * 2 ≤ maxLen := by have := ha.1; rw [rowPl_len] at this; exact this
  unfold maxLen at hal
  refine sx_fn (S := SX) (M := []) (N := 22) (H0 := [.rd ao (plE.fl l)]) Try.func14 rfl rfl rfl (Sat.oneRd _ ha) ?_
  ((try refine sx_use ?_); (repeat (refine SxNew.mk fun _ => ?_; (try refine sx_use ?_))))
  rename_i bx
  refine SxCode.loop (σ := Nat) [6, 5] [7, 8, 9, 10, 13, 14, 15, 16, 17, 18, 19, 20, 5, 11, 12, 6] (fun k => [.int .i64 (k : Nat), .int .i64 ((l.take k).count x : Nat)]) (fun _ => [.blk bx 25 (plC x), .rd ao (plE.fl l)]) (fun k => k ≤ l.length) (fun k => l.length - k) 0 [0, 1] rfl rfl rfl rfl (Nat.zero_le _) ?_
  rintro k hk
  have hc : (l.take k).count x ≤ (l.take k).length := List.count_le_length
  rw [List.length_take] at hc
  ((try refine sx_use ?_); (repeat (refine SxNew.mk fun _ => ?_; (try refine sx_use ?_))))
  refine SxIf.dec (fun h => ?_) (fun h => ?_)
  · have hlt : k < l.length := by omega
    obtain ⟨y, hy⟩ : ∃ y, l[k]? = some y := ⟨l[k], by simp [hlt]⟩
    have hsn := count_snoc (l.take k) y x
    rw [← take_snocE hy] at hsn
    ((try refine sx_use ?_); (repeat (refine SxNew.mk fun _ => ?_; (try refine sx_use ?_))))
    (try refine SxCode.drawAll rfl [] ?_)
    (try ((try refine sx_use ?_); (repeat (refine SxNew.mk fun _ => ?_; (try refine sx_use ?_)))))
    refine SxIA.rd 1 _ rfl k rfl hlt (by rw [rowPl_len]; omega) fun g off ha => ?_
    ((try refine sx_use ?_); (repeat (refine SxNew.mk fun _ => ?_; (try refine sx_use ?_))))
    refine SxLdN.rd 1 rfl ha rfl (vs := plC y) rfl (rowPl_at hy) ?_
    ((try refine sx_use ?_); (repeat (refine SxNew.mk fun _ => ?_; (try refine sx_use ?_))))
    refine SxRun.eqPl (x := y) (y := x) ?_
    ((try refine sx_use ?_); (repeat (refine SxNew.mk fun _ => ?_; (try refine sx_use ?_))))
    refine SxIf.dec (fun h2 => ?_) (fun h2 => ?_)
    · rw [if_pos h2.symm] at hsn
      ((try refine sx_use ?_); (repeat (refine SxNew.mk fun _ => ?_; (try refine sx_use ?_))))
      exact SxRound.mk (k + 1) [0, 1] (by rw [hsn]; rfl) rfl rfl hlt (by omega)
    · rw [if_neg fun e => h2 e.symm, Nat.add_zero] at hsn
      ((try refine sx_use ?_); (repeat (refine SxNew.mk fun _ => ?_; (try refine sx_use ?_))))
      exact SxRound.mk (k + 1) [0, 1] (by rw [hsn]; rfl) rfl rfl hlt (by omega)
  · obtain rfl : k = l.length := by omega
    rw [List.take_length]
    ((try refine sx_use ?_); (repeat (refine SxNew.mk fun _ => ?_; (try refine sx_use ?_))))
    exact SxDone.mk fun w' hs => ⟨rfl, hs.touch.below⟩
set_option maxHeartbeats 4000000 in
theorem ROf_any (id : Int) (es : List En) (hes : es.length ≤ 1000000) (ao : Option Addr) (ac : Nat) (w : World) (ha : Rd w ao (enE.fl es)) :
    Calls Try.prog 11 #[mnV id ao es.length ac] w fun e w' => ∃ ao' cap', e = .returned (.slice ao' (plsOf es).length cap') ∧ NewRow w w' ao' (plsOf es).length cap' 25 2 (plE.fl (plsOf es)) := by
  refine sx_fn (S := SX) (M := []) (N := 29) (H0 := [.row none 0 0 25 2 [], .rd ao (enE.fl es)]) Try.func11 rfl rfl rfl ((Sat.oneRd _ ha).nilRow 25 2) ?_
  ((try refine sx_use ?_); (repeat (refine SxNew.mk fun _ => ?_; (try refine sx_use ?_))))
  rename_i b1
  refine SxCode.loop (σ := Nat × Option Addr × Nat) [4, 3] [5, 6, 7, 8, 9, 12, 13, 14, 15, 16, 17, 18, 19, 20, 21, 22, 23, 24, 25, 26, 27, 3, 10, 11, 4] (fun x => [.int .i64 (x.1 : Nat), .slice x.2.1 x.1 x.2.2]) (fun x => [.row x.2.1 x.1 x.2.2 25 2 (plE.fl (plsOf (es.take x.1))), .blk b1 31 [.int .u32 id, .slice ao es.length ac], .rd ao (enE.fl es)]) (fun x => x.1 ≤ es.length) (fun x => es.length - x.1) (0, none, 0) [1, 0, 2] rfl rfl rfl rfl (Nat.zero_le _) ?_
  rintro ⟨k, ro, rc⟩ hk
  dsimp only at hk ⊢
  ((try refine sx_use ?_); (repeat (refine SxNew.mk fun _ => ?_; (try refine sx_use ?_))))
  refine SxIf.dec (fun h => ?_) (fun h => ?_)
  · have hlt : k < es.length := by omega
    obtain ⟨x, hx⟩ : ∃ x, es[k]? = some x := ⟨es[k], by simp [hlt]⟩
    have hsm : plsOf (es.take (k + 1)) = plsOf (es.take k) ++ [x.pl] := by rw [take_snocE hx]; exact List.map_append
    have l1 : (enC x)[33]? = some (.int .u32 x.bx) := enC_tail x 1 _ rfl
    have l2 : (enC x)[34]? = some (.int .i64 x.sl) := enC_tail x 2 _ rfl
    ((try refine sx_use ?_); (repeat (refine SxNew.mk fun _ => ?_; (try refine sx_use ?_))))
    refine SxCode.draw rfl [.blk b1 31 [.int .u32 id, .slice ao es.length ac], .rd ao (enE.fl es)] [] [1, 2] rfl rfl ?_
    ((try refine sx_use ?_); (repeat (refine SxNew.mk fun _ => ?_; (try refine sx_use ?_))))
    refine SxIA.rd 1 (enE.fl es) rfl k rfl hlt (by rw [rowEn_len]; omega) fun g off hga => ?_
    ((try refine sx_use ?_); (repeat (refine SxNew.mk fun _ => ?_; (try refine sx_use ?_))))
    refine SxLd.rd 1 rfl hga (by omega) (j := k * 35 + 33) (v := .int .u32 x.bx) (rowEn_cell (j := 33) hx l1) ?_
    ((try refine sx_use ?_); (repeat (refine SxNew.mk fun _ => ?_; (try refine sx_use ?_))))
    refine SxIA.rd 1 (enE.fl es) rfl k rfl hlt (by rw [rowEn_len]; omega) fun g off hga => ?_
    ((try refine sx_use ?_); (repeat (refine SxNew.mk fun _ => ?_; (try refine sx_use ?_))))
    refine SxLd.rd 1 rfl hga (by omega) (j := k * 35 + 34) (v := .int .i64 x.sl) (rowEn_cell (j := 34) hx l2) ?_
    ((try refine sx_use ?_); (repeat (refine SxNew.mk fun _ => ?_; (try refine sx_use ?_))))
    refine SxApp.mk 1 rfl 0 (.inr (.inr (.inr ⟨by decide, _, rfl⟩))) (vs := plC x.pl) (m := 1) rfl rfl (by unfold maxLen; omega) (by omega) (cs' := plE.fl (plsOf (es.take (k + 1)))) (by rw [hsm, plE.fl_append, plE.fl_one]; rfl) fun ao' cap' => ?_
    ((try refine sx_use ?_); (repeat (refine SxNew.mk fun _ => ?_; (try refine sx_use ?_))))
    exact SxRound.mk (k + 1, ao', cap') [1, 2, 3] rfl rfl rfl hlt (by dsimp only; omega)
  · obtain rfl : k = es.length := by omega
    rw [List.take_length]
    have hle : (plsOf es).length = es.length := plsOf_len es
    ((try refine sx_use ?_); (repeat (refine SxNew.mk fun _ => ?_; (try refine sx_use ?_))))
    rw [← hle]
    exact SxDone.mk fun w' hs => ⟨ro, rc, rfl, hs.newRow 0 rfl⟩
theorem RLive_any (l : List Pl) (hl : l.length ≤ 1000000) (ao : Option Addr) (ac : Nat) (w : World) (ha : Rd w ao (plE.fl l)) :
    Calls Try.prog 25 #[.slice ao l.length ac] w fun e w' => ∃ ao' cap', e = .returned (.slice ao' (setP l).length cap') ∧ NewRow w w' ao' (setP l).length cap' 25 2 (plE.fl (setP l)) := by
  refine sx_fn (S := SX) (M := []) (N := 5) (H0 := [.rd ao (plE.fl l)]) Try.func25 rfl rfl rfl (Sat.oneRd _ ha) ?_
  ((try refine sx_use ?_); (repeat (refine SxNew.mk fun _ => ?_; (try refine sx_use ?_))))
  refine SxCall.newRow (fun w hs => by
    have h := RSetP_any l hl ao ac w (hs.rd 0 rfl)
    rw [setRP_eq] at h
    exact h) fun ao' cap' => ?_
  ((try refine sx_use ?_); (repeat (refine SxNew.mk fun _ => ?_; (try refine sx_use ?_))))
  exact SxDone.mk fun w' hs => ⟨ao', cap', rfl, hs.newRow 0 rfl⟩
theorem plE_cell0 {l : List Pl} {k : Nat} {x : Pl} (h : l[k]? = some x) : (plE.fl l)[k * 2]? = some (.int .u32 x.bx) := plE.fl_cell (j := 0) h rfl
theorem plE_cell1 {l : List Pl} {k : Nat} {x : Pl} (h : l[k]? = some x) : (plE.fl l)[k * 2 + 1]? = some (.int .i64 x.sl) := plE.fl_cell (j := 1) h rfl
set_option maxHeartbeats 4000000 in
theorem RBoxes_any (l : List Pl) (hl : l.length ≤ 1000000) (ao : Option Addr) (ac : Nat) (w : World) (ha : Rd w ao (plE.fl l)) :
    Calls Try.prog 27 #[.slice ao l.length ac] w fun e w' => ∃ ao' cap', e = .returned (.slice ao' (boxL (setP l)).length cap') ∧ NewRow w w' ao' (boxL (setP l)).length cap' 23 1 ((boxL (setP l)).map u32V) := by
  have hsl : (setP l).length ≤ l.length := setS_len cfP l
  have hL := fun (w : World) (h : Rd w ao (plE.fl l)) => RLive_any l hl ao ac w h
  obtain ⟨s, hs⟩ : ∃ s, s = setP l := ⟨_, rfl⟩
  rw [← hs] at hsl hL ⊢
  refine sx_fn (S := SX) (M := []) (H0 := [.row none 0 0 23 1 [], .rd ao (plE.fl l)]) (N := 39) Try.func27 rfl rfl rfl ((Sat.oneRd _ ha).nilRow 23 1) ?_
  ((try refine sx_use ?_); (repeat (refine SxNew.mk fun _ => ?_; (try refine sx_use ?_))))
  refine SxCall.newRow (fun w1 hs => hL w1 (hs.rd 1 rfl)) fun so sc => ?_
  ((try refine sx_use ?_); (repeat (refine SxNew.mk fun _ => ?_; (try refine sx_use ?_))))
  refine SxCode.loop (σ := Nat × Option Addr × Nat) [5, 3] [8, 9, 10, 11, 14, 15, 16, 17, 18, 19, 20, 21, 22, 23, 24, 25, 26, 27, 28, 29, 30, 31, 32, 33, 34, 35, 36, 37, 3, 12, 13, 5] (fun x => [.int .i64 (x.1 : Nat), .slice x.2.1 (boxL (s.take x.1)).length x.2.2]) (fun x => [.row so s.length sc 25 2 (plE.fl s), .row x.2.1 (boxL (s.take x.1)).length x.2.2 23 1 ((boxL (s.take x.1)).map u32V)]) (fun x => x.1 ≤ s.length) (fun x => s.length - x.1) (0, none, 0) [0, 1] rfl rfl rfl rfl (Nat.zero_le _) ?_
  rintro ⟨k, ro, rc⟩ hk
  dsimp only at hk ⊢
  have hbl := boxL_len (s.take k)
  rw [List.length_take] at hbl
  refine sx_base 0 rfl fun hso _ => ?_
  ((try refine sx_use ?_); (repeat (refine SxNew.mk fun _ => ?_; (try refine sx_use ?_))))
  refine SxIf.dec (fun h => ?_) (fun h => ?_)
  · have hlt : k < s.length := by omega
    obtain ⟨x, hx⟩ : ∃ x, s[k]? = some x := ⟨s[k], by simp [hlt]⟩
    have hsn : boxL (s.take (k + 1)) = boxStep (boxL (s.take k)) x := by rw [take_snocE hx, boxL_snoc]
    have put : ∀ (h0 : boxL (s.take (k + 1)) = boxL (s.take k) ++ [x.bx]), ((boxL (s.take k)).map u32V) ++ [.int .u32 x.bx] = (boxL (s.take (k + 1))).map u32V := fun h0 => by rw [h0, List.map_append]; rfl
    obtain ⟨gs, rfl⟩ := hso (by omega)
    rcases Nat.eq_zero_or_pos k with hk0 | hk0
    case' inl =>
      have ha : boxL (s.take (k + 1)) = boxL (s.take k) ++ [x.bx] := by
        rw [hsn]; unfold boxStep; rw [if_neg (by rw [hk0]; simp [boxL])]
      ((try refine sx_use ?_); (repeat (refine SxNew.mk fun _ => ?_; (try refine sx_use ?_))))
      refine SxCode.drawAll rfl [] ?_
      ((try refine sx_use ?_); (repeat (refine SxNew.mk fun _ => ?_; (try refine sx_use ?_))))
      (try refine SxIf.eqT (by omega) ?_)
      (try ((try refine sx_use ?_); (repeat (refine SxNew.mk fun _ => ?_; (try refine sx_use ?_)))))
    case' inr =>
      obtain ⟨y, hy⟩ : ∃ y, s[k - 1]? = some y := ⟨s[k - 1]'(by omega), by simp [show k - 1 < s.length by omega]⟩
      have hlast : (boxL (s.take k)).getLast? = some y.bx := by
        have := take_snocE hy
        rw [show k - 1 + 1 = k by omega] at this
        rw [this, boxL_last]
      ((try refine sx_use ?_); (repeat (refine SxNew.mk fun _ => ?_; (try refine sx_use ?_))))
      refine SxCode.drawAll rfl [] ?_
      ((try refine sx_use ?_); (repeat (refine SxNew.mk fun _ => ?_; (try refine sx_use ?_))))
      (try refine SxIf.eqF (by omega) ?_)
      (try ((try refine sx_use ?_); (repeat (refine SxNew.mk fun _ => ?_; (try refine sx_use ?_)))))
      refine SxIA.row 0 _ _ _ rfl k rfl hlt fun g' hg' => ?_
      obtain rfl : gs = g' := by simpa using hg'
      ((try refine sx_use ?_); (repeat (refine SxNew.mk fun _ => ?_; (try refine sx_use ?_))))
      refine SxLd.row 0 rfl rfl (j := k * 2) (by omega) (plE_cell0 hx) ?_
      ((try refine sx_use ?_); (repeat (refine SxNew.mk fun _ => ?_; (try refine sx_use ?_))))
      refine SxIA.row 0 _ _ _ rfl (k - 1) (by omega) (by omega) fun g' hg' => ?_
      obtain rfl : gs = g' := by simpa using hg'
      ((try refine sx_use ?_); (repeat (refine SxNew.mk fun _ => ?_; (try refine sx_use ?_))))
      refine SxLd.row 0 rfl rfl (j := (k - 1) * 2) (by omega) (plE_cell0 hy) ?_
      ((try refine sx_use ?_); (repeat (refine SxNew.mk fun _ => ?_; (try refine sx_use ?_))))
      refine SxIf.ne (fun h1 => ?_) (fun h1 => ?_)
      case' refine_2 =>
        have ha : boxL (s.take (k + 1)) = boxL (s.take k) := by rw [hsn]; unfold boxStep; rw [if_pos (by rw [hlast, h1])]
        ((try refine sx_use ?_); (repeat (refine SxNew.mk fun _ => ?_; (try refine sx_use ?_))))
        exact SxRound.mk (k + 1, ro, rc) [0, 1] (by dsimp only; rw [ha]; rfl) (by dsimp only; rw [ha]; rfl) rfl hlt (by dsimp only; omega)
      have ha : boxL (s.take (k + 1)) = boxL (s.take k) ++ [x.bx] := by
        rw [hsn]; unfold boxStep; rw [if_neg (by rw [hlast]; simpa using fun e => h1 e.symm)]
      ((try refine sx_use ?_); (repeat (refine SxNew.mk fun _ => ?_; (try refine sx_use ?_))))
    all_goals
      have hp := put ha
      refine SxIA.row 0 _ _ _ rfl k rfl hlt fun g' hg' => ?_
      obtain rfl : gs = g' := by simpa using hg'
      ((try refine sx_use ?_); (repeat (refine SxNew.mk fun _ => ?_; (try refine sx_use ?_))))
      refine SxLd.row 0 rfl rfl (j := k * 2) (by omega) (plE_cell0 hx) ?_
      ((try refine sx_use ?_); (repeat (refine SxNew.mk fun _ => ?_; (try refine sx_use ?_))))
      refine SxApp.mk 2 rfl 0 (.inr (.inr (.inr ⟨by decide, _, rfl⟩))) (vs := [.int .u32 x.bx]) (m := 1) rfl rfl (by unfold maxLen; omega) (by omega) (cs' := (boxL (s.take (k + 1))).map u32V) hp fun ao' cap' => ?_
      ((try refine sx_use ?_); (repeat (refine SxNew.mk fun _ => ?_; (try refine sx_use ?_))))
      exact SxRound.mk (k + 1, ao', cap') [1, 2] (by dsimp only; rw [ha, List.length_append]; rfl) (by dsimp only; rw [ha, List.length_append]; rfl) rfl hlt (by dsimp only; omega)
  · obtain rfl : k = s.length := by omega
    rw [List.take_length]
    ((try refine sx_use ?_); (repeat (refine SxNew.mk fun _ => ?_; (try refine sx_use ?_))))
    exact SxDone.mk fun w' hs => ⟨ro, rc, rfl, hs.newRow 1 rfl⟩
set_option maxHeartbeats 4000000 in
theorem RSlots_any (l : List Pl) (hl : l.length ≤ 1000000) (b : Int) (ao : Option Addr) (ac : Nat) (w : World) (ha : Rd w ao (plE.fl l)) :
    Calls Try.prog 29 #[.slice ao l.length ac, .int .u32 b] w fun e w' => ∃ ao' cap', e = .returned (.slice ao' (slotL (setP l) b).length cap') ∧ NewRow w w' ao' (slotL (setP l) b).length cap' 3 1 ((slotL (setP l) b).map i64V) := by
  have hsl : (setP l).length ≤ l.length := setS_len cfP l
  have hL := fun (w : World) (h : Rd w ao (plE.fl l)) => RLive_any l hl ao ac w h
  obtain ⟨s, hs⟩ : ∃ s, s = setP l := ⟨_, rfl⟩
  rw [← hs] at hsl hL ⊢
  refine sx_fn (S := SX) (M := []) (H0 := [.row none 0 0 3 1 [], .rd ao (plE.fl l)]) (N := 32) Try.func29 rfl rfl rfl ((Sat.oneRd _ ha).nilRow 3 1) ?_
  ((try refine sx_use ?_); (repeat (refine SxNew.mk fun _ => ?_; (try refine sx_use ?_))))
  refine SxCall.newRow (fun w1 hs => hL w1 (hs.rd 1 rfl)) fun so sc => ?_
  ((try refine sx_use ?_); (repeat (refine SxNew.mk fun _ => ?_; (try refine sx_use ?_))))
  refine SxCode.loop (σ := Nat × Option Addr × Nat) [7, 5] [10, 11, 12, 13, 16, 17, 18, 19, 20, 21, 22, 23, 24, 25, 26, 27, 28, 29, 30, 5, 14, 15, 7] (fun x => [.int .i64 (x.1 : Nat), .slice x.2.1 (slotL (s.take x.1) b).length x.2.2]) (fun x => [.row so s.length sc 25 2 (plE.fl s), .row x.2.1 (slotL (s.take x.1) b).length x.2.2 3 1 ((slotL (s.take x.1) b).map i64V)]) (fun x => x.1 ≤ s.length) (fun x => s.length - x.1) (0, none, 0) [0, 1] rfl rfl rfl rfl (Nat.zero_le _) ?_
  rintro ⟨k, ro, rc⟩ hk
  dsimp only at hk ⊢
  have hbl := slotL_len (s.take k) b
  rw [List.length_take] at hbl
  refine sx_base 0 rfl fun hso _ => ?_
  ((try refine sx_use ?_); (repeat (refine SxNew.mk fun _ => ?_; (try refine sx_use ?_))))
  refine SxIf.dec (fun h => ?_) (fun h => ?_)
  · have hlt : k < s.length := by omega
    obtain ⟨x, hx⟩ : ∃ x, s[k]? = some x := ⟨s[k], by simp [hlt]⟩
    have hsn : slotL (s.take (k + 1)) b = slotL (s.take k) b ++ (if x.bx = b then [x.sl] else []) := by rw [take_snocE hx, slotL_snoc]
    obtain ⟨gs, rfl⟩ := hso (by omega)
    ((try refine sx_use ?_); (repeat (refine SxNew.mk fun _ => ?_; (try refine sx_use ?_))))
    refine SxIA.row 0 _ _ _ rfl k rfl hlt fun g' hg' => ?_
    obtain rfl : gs = g' := by simpa using hg'
    ((try refine sx_use ?_); (repeat (refine SxNew.mk fun _ => ?_; (try refine sx_use ?_))))
    refine SxLd.row 0 rfl rfl (j := k * 2) (by omega) (plE_cell0 hx) ?_
    ((try refine sx_use ?_); (repeat (refine SxNew.mk fun _ => ?_; (try refine sx_use ?_))))
    refine SxIf.eq (fun h1 => ?_) (fun h1 => ?_)
    · rw [if_pos h1] at hsn
      ((try refine sx_use ?_); (repeat (refine SxNew.mk fun _ => ?_; (try refine sx_use ?_))))
      refine SxIA.row 0 _ _ _ rfl k rfl hlt fun g' hg' => ?_
      obtain rfl : gs = g' := by simpa using hg'
      ((try refine sx_use ?_); (repeat (refine SxNew.mk fun _ => ?_; (try refine sx_use ?_))))
      refine SxLd.row 0 rfl rfl (j := k * 2 + 1) (by omega) (plE_cell1 hx) ?_
      ((try refine sx_use ?_); (repeat (refine SxNew.mk fun _ => ?_; (try refine sx_use ?_))))
      refine SxApp.mk 2 rfl 0 (.inr (.inr (.inr ⟨by decide, _, rfl⟩))) (vs := [.int .i64 x.sl]) (m := 1) rfl rfl (by unfold maxLen; omega) (by omega) (cs' := (slotL (s.take (k + 1)) b).map i64V) (by rw [hsn, List.map_append]; rfl) fun ao' cap' => ?_
      ((try refine sx_use ?_); (repeat (refine SxNew.mk fun _ => ?_; (try refine sx_use ?_))))
      exact SxRound.mk (k + 1, ao', cap') [1, 2] (by dsimp only; rw [hsn, List.length_append]; rfl) (by dsimp only; rw [hsn, List.length_append]; rfl) rfl hlt (by dsimp only; omega)
    · rw [if_neg h1, List.append_nil] at hsn
      ((try refine sx_use ?_); (repeat (refine SxNew.mk fun _ => ?_; (try refine sx_use ?_))))
      exact SxRound.mk (k + 1, ro, rc) [0, 1] (by dsimp only; rw [hsn]; rfl) (by dsimp only; rw [hsn]; rfl) rfl hlt (by dsimp only; omega)
  · obtain rfl : k = s.length := by omega
    rw [List.take_length]
    ((try refine sx_use ?_); (repeat (refine SxNew.mk fun _ => ?_; (try refine sx_use ?_))))
    exact SxDone.mk fun w' hs => ⟨ro, rc, rfl, hs.newRow 1 rfl⟩
set_option maxHeartbeats 4000000 in
theorem RSub_any (l : List Pl) (hl : l.length ≤ 1000000) (lo : Option Addr) (lc : Nat) (hlc : l.length ≤ lc) (id : Int) (es : List En) (hes : es.length ≤ 1000000) (ao : Option Addr) (ac : Nat) (w : World) (hr : Rd w lo (plE.fl l)) (ha : Rd w ao (enE.fl es)) :
    Calls Try.prog 8 #[.slice lo l.length lc, mnV id ao es.length ac] w fun e w' =>
      (okSub l (plsOf es) ∧ ∃ ao' cap', e = .returned (.tuple #[.slice ao' (subL l (plsOf es)).length cap', .bool true]) ∧ NewRow w w' ao' (subL l (plsOf es)).length cap' 25 2 (plE.fl (subL l (plsOf es)))) ∨
      (¬ okSub l (plsOf es) ∧ e = .returned (.tuple #[.slice lo l.length lc, .bool false]) ∧ Below w.heap.size w w') := by
  have hsl : (plsOf es).length = es.length := plsOf_len es
  have hO := fun (w : World) (h : Rd w ao (enE.fl es)) => ROf_any id es hes ao ac w h
  obtain ⟨s, hs⟩ : ∃ s, s = plsOf es := ⟨_, rfl⟩
  rw [← hs] at hsl hO ⊢
  refine sx_fn (S := SX) (M := []) (N := 62) (H0 := [.row none 0 0 25 2 [], .rd lo (plE.fl l), .rd ao (enE.fl es)]) Try.func8 rfl rfl rfl ((Sat.twoRd _ hr ha).nilRow 25 2) ?_
  ((try refine sx_use ?_); (repeat (refine SxNew.mk fun _ => ?_; (try refine sx_use ?_))))
  refine SxCall.newRow (fun w1 hs => hO w1 (hs.rd 3 rfl)) fun so sc => ?_
  ((try refine sx_use ?_); (repeat (refine SxNew.mk fun _ => ?_; (try refine sx_use ?_))))
  refine SxCode.loop (σ := Nat) [7, 4, 5] [12, 13, 14, 15, 18, 19, 20, 21, 22, 23, 24, 25, 26, 27, 28, 29, 30, 31, 4, 5, 16, 17, 7] (fun k => [.int .i64 (k : Nat), .slice none 0 0, .bool false]) (fun _ => [.row so s.length sc 25 2 (plE.fl s), .row none 0 0 25 2 [], .rd lo (plE.fl l)]) (fun k => k ≤ s.length ∧ ∀ p ∈ s.take k, s.count p ≤ l.count p) (fun k => s.length - k) 0 [0, 2, 3] rfl rfl rfl rfl ⟨Nat.zero_le _, fun p hp => by simp at hp⟩ ?_
  rintro k ⟨hk, hall⟩
  refine sx_base 0 rfl fun hso _ => ?_
  ((try refine sx_use ?_); (repeat (refine SxNew.mk fun _ => ?_; (try refine sx_use ?_))))
  refine SxIf.dec (fun h => ?_) (fun h => ?_)
  · have hlt : k < s.length := by omega
    obtain ⟨x, hx⟩ : ∃ x, s[k]? = some x := ⟨s[k], by simp [hlt]⟩
    obtain ⟨gs, rfl⟩ := hso (by omega)
    ((try refine sx_use ?_); (repeat (refine SxNew.mk fun _ => ?_; (try refine sx_use ?_))))
    refine SxCode.drawAll rfl [] ?_
    ((try refine sx_use ?_); (repeat (refine SxNew.mk fun _ => ?_; (try refine sx_use ?_))))
    refine SxIA.row 0 _ _ _ rfl k rfl hlt fun g' hg' => ?_
    obtain rfl : gs = g' := by simpa using hg'
    ((try refine sx_use ?_); (repeat (refine SxNew.mk fun _ => ?_; (try refine sx_use ?_))))
    refine SxLdN.row 0 rfl rfl rfl (vs := plC x) rfl (rowPl_at hx) ?_
    ((try refine sx_use ?_); (repeat (refine SxNew.mk fun _ => ?_; (try refine sx_use ?_))))
    refine SxIA.row 0 _ _ _ rfl k rfl hlt fun g' hg' => ?_
    obtain rfl : gs = g' := by simpa using hg'
    ((try refine sx_use ?_); (repeat (refine SxNew.mk fun _ => ?_; (try refine sx_use ?_))))
    refine SxLdN.row 0 rfl rfl rfl (vs := plC x) rfl (rowPl_at hx) ?_
    ((try refine sx_use ?_); (repeat (refine SxNew.mk fun _ => ?_; (try refine sx_use ?_))))
    refine SxCall.quietS (fun w1 hs => RCount_any s x _ sc w1 (hs.rowRd 0 rfl (by rw [rowPl_len]; unfold maxLen; omega))) ?_
    ((try refine sx_use ?_); (repeat (refine SxNew.mk fun _ => ?_; (try refine sx_use ?_))))
    refine SxCall.quietS (fun w1 hs => RCount_any l x lo lc w1 (hs.rd 2 rfl)) ?_
    ((try refine sx_use ?_); (repeat (refine SxNew.mk fun _ => ?_; (try refine sx_use ?_))))
    refine SxIf.dec (fun h1 => ?_) (fun h1 => ?_)
    · have hbad : ¬ okSub l s := fun h2 => by have := h2 x (List.mem_of_getElem? hx); omega
      ((try refine sx_use ?_); (repeat (refine SxNew.mk fun _ => ?_; (try refine sx_use ?_))))
      exact SxDone.mk fun w' hs => .inr ⟨hbad, rfl, hs.touch.below⟩
    · ((try refine sx_use ?_); (repeat (refine SxNew.mk fun _ => ?_; (try refine sx_use ?_))))
      refine SxRound.mk (k + 1) [0, 1, 2] rfl rfl rfl ⟨hlt, fun p hp => ?_⟩ (by omega)
      rw [take_snocE hx] at hp
      rcases List.mem_append.1 hp with h2 | h2
      · exact hall p h2
      · simp at h2; subst h2; omega
  obtain rfl : k = s.length := by omega
  rw [List.take_length] at hall
  have hok : okSub l s := hall
  clear h hk
  have hrl : l.length * 2 ≤ maxLen := by have := hr.1; rw [rowPl_len] at this; exact this
  ((try refine sx_use ?_); (repeat (refine SxNew.mk fun _ => ?_; (try refine sx_use ?_))))
  refine SxCode.loop (σ := Nat × Option Addr × Nat) [9, 8] [32, 33, 34, 35, 38, 39, 40, 41, 42, 43, 44, 45, 46, 47, 48, 49, 50, 51, 52, 53, 54, 55, 56, 57, 58, 59, 60, 8, 36, 37, 9] (fun x => [.int .i64 (x.1 : Nat), .slice x.2.1 (subK l s x.1).length x.2.2]) (fun x => [.row so s.length sc 25 2 (plE.fl s), .row x.2.1 (subK l s x.1).length x.2.2 25 2 (plE.fl (subK l s x.1)), .rd lo (plE.fl l)]) (fun x => x.1 ≤ l.length) (fun x => l.length - x.1) (0, none, 0) [0, 1, 2] rfl rfl rfl rfl (Nat.zero_le _) ?_
  rintro ⟨k, ro, rc⟩ hk
  dsimp only at hk ⊢
  have hkl := subK_len l s k hk
  ((try refine sx_use ?_); (repeat (refine SxNew.mk fun _ => ?_; (try refine sx_use ?_))))
  refine SxIf.dec (fun h => ?_) (fun h => ?_)
  · have hlt : k < l.length := by omega
    obtain ⟨x, hx⟩ : ∃ x, l[k]? = some x := ⟨l[k], by simp [hlt]⟩
    have htl : (l.take (k + 1)).length = k + 1 := by rw [List.length_take]; omega
    have hsn : subK l s (k + 1) = if s.count x < (l.take (k + 1)).count x then subK l s k ++ [x] else subK l s k := by rw [subK, hx]
    ((try refine sx_use ?_); (repeat (refine SxNew.mk fun _ => ?_; (try refine sx_use ?_))))
    refine SxCode.drawAll rfl [] ?_
    ((try refine sx_use ?_); (repeat (refine SxNew.mk fun _ => ?_; (try refine sx_use ?_))))
    refine SxBnd.mk 0 (k + 1) rfl (by omega) (by omega) (by omega) fun o1 a1 a2 => ?_
    ((try refine sx_use ?_); (repeat (refine SxNew.mk fun _ => ?_; (try refine sx_use ?_))))
    refine SxIA.rd 2 _ rfl k rfl hlt (by rw [rowPl_len]; omega) fun g off ha => ?_
    ((try refine sx_use ?_); (repeat (refine SxNew.mk fun _ => ?_; (try refine sx_use ?_))))
    refine SxLdN.rd 2 rfl ha rfl (vs := plC x) rfl (rowPl_at hx) ?_
    ((try refine sx_use ?_); (repeat (refine SxNew.mk fun _ => ?_; (try refine sx_use ?_))))
    refine SxIA.rd 2 _ rfl k rfl hlt (by rw [rowPl_len]; omega) fun g' off' ha' => ?_
    ((try refine sx_use ?_); (repeat (refine SxNew.mk fun _ => ?_; (try refine sx_use ?_))))
    refine SxLdN.rd 2 rfl ha' rfl (vs := plC x) rfl (rowPl_at hx) ?_
    ((try refine sx_use ?_); (repeat (refine SxNew.mk fun _ => ?_; (try refine sx_use ?_))))
    refine SxCall.quietS (v := .int .i64 ((l.take (k + 1)).count x : Nat)) (fun w1 hs => by
      have h8 := (hs.rd 2 rfl).sub (ao' := o1) 0 ((k + 1) * 2) (fun hz => by rw [rowPl_len] at hz; exact a1 (by omega))
      have h9 := plE.fl_take l (k + 1)
      rw [List.drop_zero, show (plE.fl l).take ((k + 1) * 2) = _ from h9] at h8
      have h7 := RCount_any (l.take (k + 1)) x o1 (lc - 0) w1 h8
      rw [htl] at h7
      exact h7) ?_
    ((try refine sx_use ?_); (repeat (refine SxNew.mk fun _ => ?_; (try refine sx_use ?_))))
    refine SxCall.quietS (fun w1 hs => RCount_any s x _ sc w1 (hs.rowRd 0 rfl (by rw [rowPl_len]; unfold maxLen; omega))) ?_
    ((try refine sx_use ?_); (repeat (refine SxNew.mk fun _ => ?_; (try refine sx_use ?_))))
    refine SxIf.dec (fun h1 => ?_) (fun h1 => ?_)
    · rw [if_pos (by omega)] at hsn
      ((try refine sx_use ?_); (repeat (refine SxNew.mk fun _ => ?_; (try refine sx_use ?_))))
      refine SxIA.rd 2 _ rfl k rfl hlt (by rw [rowPl_len]; omega) fun g' off' ha' => ?_
      ((try refine sx_use ?_); (repeat (refine SxNew.mk fun _ => ?_; (try refine sx_use ?_))))
      refine SxLdN.rd 2 rfl ha' rfl (vs := plC x) rfl (rowPl_at hx) ?_
      ((try refine sx_use ?_); (repeat (refine SxNew.mk fun _ => ?_; (try refine sx_use ?_))))
      refine SxApp.mk 2 rfl 0 (.inr (.inr (.inr ⟨by decide, _, rfl⟩))) (vs := plC x) (m := 1) rfl rfl (by unfold maxLen; omega) (by omega) (cs' := plE.fl (subK l s (k + 1))) (by rw [hsn, plE.fl_append, plE.fl_one]; rfl) fun ao' cap' => ?_
      ((try refine sx_use ?_); (repeat (refine SxNew.mk fun _ => ?_; (try refine sx_use ?_))))
      exact SxRound.mk (k + 1, ao', cap') [1, 2, 3] (by dsimp only; rw [hsn, List.length_append]; rfl) (by dsimp only; rw [hsn, List.length_append]; rfl) rfl hlt (by dsimp only; omega)
    · rw [if_neg (by omega)] at hsn
      ((try refine sx_use ?_); (repeat (refine SxNew.mk fun _ => ?_; (try refine sx_use ?_))))
      exact SxRound.mk (k + 1, ro, rc) [0, 1, 2] (by dsimp only; rw [hsn]; rfl) (by dsimp only; rw [hsn]; rfl) rfl hlt (by dsimp only; omega)
  · obtain rfl : k = l.length := by omega
    ((try refine sx_use ?_); (repeat (refine SxNew.mk fun _ => ?_; (try refine sx_use ?_))))
    exact SxDone.mk fun w' hs => .inl ⟨hok, ro, rc, rfl, hs.newRow 1 rfl⟩
end Go.Proofs.Ytcpbgacdoigpnaa
