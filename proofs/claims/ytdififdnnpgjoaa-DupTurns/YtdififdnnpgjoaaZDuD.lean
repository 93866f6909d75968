/- Layer 26: the document's: places, the chunk of a place, the canonical place, whether two rows are the same. -/
import Derived.Test.YtdififdnnpgjoaaZDuC
namespace Go.Proofs.Ytdififdnnpgjoaa
open Go.RowKit

theorem setP_len (l : List Pl) : (setP l).length ≤ l.length := setS_len cfP l
theorem plsS_len (L : List Ck) : (plsS L).length ≤ L.length := by
  have := setP_len (L.map (·.pl))
  rw [List.length_map] at this; exact this
set_option maxHeartbeats 4000000 in
theorem RPlaces_any (l : List Ck) (hl : l.length ≤ 100000) (ao : Option Addr) (ac : Nat) (w : World) (hr : Rd w ao (ckE.fl l)) :
    Calls Try.prog 34 #[.slice ao l.length ac] w fun e w' => ∃ ao' cap', e = .returned (.slice ao' (plsS l).length cap') ∧ NewRow w w' ao' (plsS l).length cap' 29 2 (plE.fl (plsS l)) := by
  refine sx_fn (S := SX) (M := []) (N := 21) (H0 := [.row none 0 0 29 2 [], .rd ao (ckE.fl l)]) Try.func34 rfl rfl rfl ((Sat.oneRd _ hr).nilRow 29 2) ?_
  ((try refine sx_use ?_); (repeat (refine SxNew.mk fun _ => ?_; (try refine sx_use ?_))))
  refine SxCode.loop (σ := Nat × Option Addr × Nat) [4, 3] [5, 6, 7, 8, 11, 12, 13, 14, 15, 16, 17, 18, 3, 9, 10, 4] (fun x => [.int .i64 (x.1 : Nat), .slice x.2.1 x.1 x.2.2]) (fun x => [.row x.2.1 x.1 x.2.2 29 2 (plE.fl ((l.take x.1).map (·.pl))), .rd ao (ckE.fl l)]) (fun x => x.1 ≤ l.length) (fun x => l.length - x.1) (0, none, 0) [0, 1] rfl rfl rfl rfl (Nat.zero_le _) ?_
  rintro ⟨k, ro, rc⟩ hk
  dsimp only at hk ⊢
  by_cases hlt : k < l.length
  · obtain ⟨c, hc⟩ : ∃ c, l[k]? = some c := ⟨l[k], by simp [hlt]⟩
    have hsn : (l.take (k + 1)).map (·.pl) = (l.take k).map (·.pl) ++ [c.pl] := by rw [take_snocE hc]; exact List.map_append
    ((try refine sx_use ?_); (repeat (refine SxNew.mk fun _ => ?_; (try refine sx_use ?_))))
    refine SxIA.rd 1 _ rfl k rfl hlt (by rw [ckE_len]; omega) fun g off ha => ?_
    ((try refine sx_use ?_); (repeat (refine SxNew.mk fun _ => ?_; (try refine sx_use ?_))))
    refine SxLdN.rd 1 rfl ha rfl (vs := plC c.pl) rfl (ckE_pl hc) ?_
    ((try refine sx_use ?_); (repeat (refine SxNew.mk fun _ => ?_; (try refine sx_use ?_))))
    refine SxApp.mk 1 rfl 0 (.inr (.inr (.inr ⟨by decide, _, rfl⟩))) (vs := plC c.pl) (m := 1) rfl rfl (by unfold maxLen; omega) (by omega) (cs' := plE.fl ((l.take (k + 1)).map (·.pl))) (by rw [hsn, plE.fl_append, plE.fl_one]; rfl) fun ao' cap' => ?_
    ((try refine sx_use ?_); (repeat (refine SxNew.mk fun _ => ?_; (try refine sx_use ?_))))
    exact SxRound.mk (k + 1, ao', cap') [1, 2] rfl rfl rfl hlt (by first | omega | (dsimp only; omega))
  · obtain rfl : k = l.length := by omega
    rw [List.take_length]
    ((try refine sx_use ?_); (repeat (refine SxNew.mk fun _ => ?_; (try refine sx_use ?_))))
    refine SxCall.newRow (v := fun a c => .slice a (plsS l).length c) (n := (plsS l).length) (e := 29) (k := 2) (cs := plE.fl (plsS l)) (fun w1 hs => by
      have h := RSetP_any (l.map (·.pl)) (by rw [List.length_map]; omega) ro rc w1 (hs.rowRd 0 rfl (by rw [rowPl_len, List.length_map]; unfold maxLen; omega))
      rw [setRP_eq, List.length_map] at h
      exact h) fun so sc => ?_
    ((try refine sx_use ?_); (repeat (refine SxNew.mk fun _ => ?_; (try refine sx_use ?_))))
    exact SxDone.mk fun w' hs => ⟨so, sc, rfl, hs.newRow 0 rfl⟩
theorem find_take {α : Type} {p : α → Bool} {l : List α} {k : Nat} (h : ∀ j y, j < k → l[j]? = some y → p y = false) {x : α} (hx : l[k]? = some x) (hp : p x = true) : l.find? p = some x := by
  have hk := (List.getElem?_eq_some_iff.1 hx).1
  have e : l = l.take k ++ x :: l.drop (k + 1) := by
    have h1 := List.drop_eq_getElem_cons hk
    rw [(List.getElem?_eq_some_iff.1 hx).2] at h1
    rw [← h1, List.take_append_drop]
  rw [e, List.find?_append]
  have h0 : (l.take k).find? p = none := List.find?_eq_none.2 fun y hy => by
    obtain ⟨j, hj⟩ := List.getElem?_of_mem hy
    rw [List.getElem?_take] at hj
    split at hj
    · rw [h j y (by assumption) hj]; simp
    · cases hj
  rw [h0, List.find?_cons_of_pos hp]; rfl
theorem find_none {α : Type} {p : α → Bool} {l : List α} (h : ∀ j y, j < l.length → l[j]? = some y → p y = false) : l.find? p = none := List.find?_eq_none.2 fun y hy => by
  obtain ⟨j, hj⟩ := List.getElem?_of_mem hy
  rw [h j y (List.getElem?_eq_some_iff.1 hj).1 hj]; simp
theorem zeroCk_C : ckC zeroCk = [.int .u32 0, .int .i64 0] ++ (zerosL [.int .u8 0] 32 ++ [.string ⟨#[]⟩]) := rfl
set_option maxHeartbeats 4000000 in
theorem RAt_any (l : List Ck) (hl : l.length ≤ 100000) (p : Pl) (ao : Option Addr) (ac : Nat) (w : World) (hr : Rd w ao (ckE.fl l)) :
    Calls Try.prog 35 #[.slice ao l.length ac, .agg (plC p).toArray] w fun e w' => e = .returned (.agg (ckC (atC l p)).toArray) ∧ Below w.heap.size w w' := by
  refine sx_fn (S := SX) (M := []) (N := 24) (H0 := [.rd ao (ckE.fl l)]) Try.func35 rfl rfl rfl (Sat.oneRd _ hr) ?_
  ((try refine sx_use ?_); (repeat (refine SxNew.mk fun _ => ?_; (try refine sx_use ?_))))
  rename_i bp br
  refine SxCode.loop (σ := Nat) [5] [6, 7, 8, 9, 12, 13, 14, 15, 16, 17, 18, 19, 20, 21, 22, 10, 11, 5] (fun k => [.int .i64 (k : Nat)]) (fun _ => [.blk br 34 (ckC zeroCk), .blk bp 29 (plC p), .rd ao (ckE.fl l)]) (fun k => k ≤ l.length ∧ ∀ j y, j < k → l[j]? = some y → decide (y.pl = p) = false) (fun k => l.length - k) 0 [0, 1, 2] rfl rfl rfl rfl ⟨Nat.zero_le _, fun j y hj => absurd hj (Nat.not_lt_zero _)⟩ ?_
  rintro k ⟨hk, hall⟩
  by_cases hlt : k < l.length
  · obtain ⟨c, hc⟩ : ∃ c, l[k]? = some c := ⟨l[k], by simp [hlt]⟩
    ((try refine sx_use ?_); (repeat (refine SxNew.mk fun _ => ?_; (try refine sx_use ?_))))
    refine SxCode.drawAll rfl [] ?_
    ((try refine sx_use ?_); (repeat (refine SxNew.mk fun _ => ?_; (try refine sx_use ?_))))
    refine SxIA.rd 2 _ rfl k rfl hlt (by rw [ckE_len]; omega) fun g off ha => ?_
    ((try refine sx_use ?_); (repeat (refine SxNew.mk fun _ => ?_; (try refine sx_use ?_))))
    refine SxLdN.rd 2 rfl ha rfl (vs := plC c.pl) rfl (ckE_pl hc) ?_
    ((try refine sx_use ?_); (repeat (refine SxNew.mk fun _ => ?_; (try refine sx_use ?_))))
    refine SxRun.eqPl ?_
    ((try refine sx_use ?_); (repeat (refine SxNew.mk fun _ => ?_; (try refine sx_use ?_))))
    refine SxIf.dec (fun h => ?_) (fun h => ?_)
    · have hf : atC l p = c := by unfold atC; rw [find_take hall hc (by simpa using h)]; rfl
      ((try refine sx_use ?_); (repeat (refine SxNew.mk fun _ => ?_; (try refine sx_use ?_))))
      refine SxIA.rd 2 _ rfl k rfl hlt (by rw [ckE_len]; omega) fun g off ha => ?_
      ((try refine sx_use ?_); (repeat (refine SxNew.mk fun _ => ?_; (try refine sx_use ?_))))
      refine SxLdN.rd 2 rfl ha rfl (vs := ckC c) (ckC_len c) (ckE_at hc) ?_
      ((try refine sx_use ?_); (repeat (refine SxNew.mk fun _ => ?_; (try refine sx_use ?_))))
      refine SxSt.elem ckE (x := c) 0 rfl (ckC_len zeroCk) ?_
      ((try refine sx_use ?_); (repeat (refine SxNew.mk fun _ => ?_; (try refine sx_use ?_))))
      refine SxLdN.blk 0 rfl (vs := ckC c) (ckC_len c) (ckC_all c) ?_
      ((try refine sx_use ?_); (repeat (refine SxNew.mk fun _ => ?_; (try refine sx_use ?_))))
      exact SxDone.mk fun w' hs => ⟨by rw [hf]; rfl, hs.touch.below⟩
    · ((try refine sx_use ?_); (repeat (refine SxNew.mk fun _ => ?_; (try refine sx_use ?_))))
      exact SxRound.mk (k + 1) [0, 1, 2] rfl rfl rfl ⟨hlt, fun j y hj hy => by
        rcases Nat.lt_succ_iff_lt_or_eq.1 hj with h6 | h6
        · exact hall j y h6 hy
        · subst h6
          obtain rfl := Option.some.inj (hc.symm.trans hy)
          exact decide_eq_false h⟩ (by first | omega | (dsimp only; omega))
  · obtain rfl : k = l.length := by omega
    have hf : atC l p = zeroCk := by unfold atC; rw [find_none hall]; rfl
    ((try refine sx_use ?_); (repeat (refine SxNew.mk fun _ => ?_; (try refine sx_use ?_))))
    exact SxDone.mk fun w' hs => ⟨by rw [hf]; rfl, hs.touch.below⟩
theorem canonC_take {l : List Ck} {k : Nat} {x c : Ck} (hx : l[k]? = some x) : canonC (l.take (k + 1)) c = if twB x c && ltbP x.pl (canonC (l.take k) c) then x.pl else canonC (l.take k) c := by
  rw [take_snocE hx, canonC_snoc]
set_option maxHeartbeats 4000000 in
theorem RCanon_any (l : List Ck) (hl : l.length ≤ 100000) (c : Ck) (ao : Option Addr) (ac : Nat) (w : World) (hr : Rd w ao (ckE.fl l)) :
    Calls Try.prog 36 #[.slice ao l.length ac, .agg (ckC c).toArray] w fun e w' => e = .returned (.agg (plC (canonC l c)).toArray) ∧ Below w.heap.size w w' := by
  refine sx_fn (S := SX) (M := []) (N := 36) (H0 := [.rd ao (ckE.fl l)]) Try.func36 rfl rfl rfl (Sat.oneRd _ hr) ?_
  ((try refine sx_use ?_); (repeat (refine SxNew.mk fun _ => ?_; (try refine sx_use ?_))))
  rename_i bc br bp
  refine SxCode.loop (σ := Nat) [6] [9, 10, 11, 12, 15, 16, 17, 18, 19, 20, 21, 22, 23, 24, 25, 26, 27, 28, 29, 30, 31, 32, 33, 34, 13, 14, 6] (fun k => [.int .i64 (k : Nat)]) (fun k => [.blk bp 29 (plC (canonC (l.take k) c)), .blk br 29 (plC ⟨0, 0⟩), .blk bc 34 (ckC c), .rd ao (ckE.fl l)]) (fun k => k ≤ l.length) (fun k => l.length - k) 0 [0, 1, 2, 3] rfl rfl rfl rfl (Nat.zero_le _) ?_
  rintro k hk
  by_cases hlt : k < l.length
  · obtain ⟨x, hx⟩ : ∃ x, l[k]? = some x := ⟨l[k], by simp [hlt]⟩
    have hst := canonC_take (c := c) hx
    obtain ⟨p, hp⟩ : ∃ p, p = canonC (l.take k) c := ⟨_, rfl⟩
    rw [← hp] at hst ⊢
    ((try refine sx_use ?_); (repeat (refine SxNew.mk fun _ => ?_; (try refine sx_use ?_))))
    refine SxCode.drawAll rfl [] ?_
    ((try refine sx_use ?_); (repeat (refine SxNew.mk fun _ => ?_; (try refine sx_use ?_))))
    refine SxIA.rd 3 _ rfl k rfl hlt (by rw [ckE_len]; omega) fun g off ha => ?_
    ((try refine sx_use ?_); (repeat (refine SxNew.mk fun _ => ?_; (try refine sx_use ?_))))
    refine SxLdN.rd 3 rfl ha rfl (vs := ckC x) (ckC_len x) (ckE_at hx) ?_
    ((try refine sx_use ?_); (repeat (refine SxNew.mk fun _ => ?_; (try refine sx_use ?_))))
    refine SxLdN.blk 2 rfl (vs := ckC c) (ckC_len c) (ckC_all c) ?_
    ((try refine sx_use ?_); (repeat (refine SxNew.mk fun _ => ?_; (try refine sx_use ?_))))
    refine SxCall.quiet (RTwins_any x c) ?_
    ((try refine sx_use ?_); (repeat (refine SxNew.mk fun _ => ?_; (try refine sx_use ?_))))
    refine ⟨fun h1 => ?_, fun h1 => ?_⟩
    · rw [h1, Bool.true_and] at hst
      ((try refine sx_use ?_); (repeat (refine SxNew.mk fun _ => ?_; (try refine sx_use ?_))))
      refine SxIA.rd 3 _ rfl k rfl hlt (by rw [ckE_len]; omega) fun g off ha => ?_
      ((try refine sx_use ?_); (repeat (refine SxNew.mk fun _ => ?_; (try refine sx_use ?_))))
      refine SxLdN.rd 3 rfl ha rfl (vs := plC x.pl) rfl (ckE_pl hx) ?_
      ((try refine sx_use ?_); (repeat (refine SxNew.mk fun _ => ?_; (try refine sx_use ?_))))
      refine SxCall.quiet (RLessP_any x.pl p) ?_
      ((try refine sx_use ?_); (repeat (refine SxNew.mk fun _ => ?_; (try refine sx_use ?_))))
      refine ⟨fun h2 => ?_, fun h2 => ?_⟩
      · rw [h2, if_pos rfl] at hst
        ((try refine sx_use ?_); (repeat (refine SxNew.mk fun _ => ?_; (try refine sx_use ?_))))
        refine SxIA.rd 3 _ rfl k rfl hlt (by rw [ckE_len]; omega) fun g off ha => ?_
        ((try refine sx_use ?_); (repeat (refine SxNew.mk fun _ => ?_; (try refine sx_use ?_))))
        refine SxLdN.rd 3 rfl ha rfl (vs := plC x.pl) rfl (ckE_pl hx) ?_
        ((try refine sx_use ?_); (repeat (refine SxNew.mk fun _ => ?_; (try refine sx_use ?_))))
        exact SxRound.mk (k + 1) [0, 1, 2, 3] rfl (by rw [hst]; rfl) rfl hlt (by first | omega | (dsimp only; omega))
      · rw [h2, if_neg (by simp)] at hst
        ((try refine sx_use ?_); (repeat (refine SxNew.mk fun _ => ?_; (try refine sx_use ?_))))
        exact SxRound.mk (k + 1) [0, 1, 2, 3] rfl (by rw [hst]; rfl) rfl hlt (by first | omega | (dsimp only; omega))
    · rw [h1, Bool.false_and, if_neg (by simp)] at hst
      ((try refine sx_use ?_); (repeat (refine SxNew.mk fun _ => ?_; (try refine sx_use ?_))))
      exact SxRound.mk (k + 1) [0, 1, 2, 3] rfl (by rw [hst]; rfl) rfl hlt (by first | omega | (dsimp only; omega))
  · obtain rfl : k = l.length := by omega
    rw [List.take_length]
    ((try refine sx_use ?_); (repeat (refine SxNew.mk fun _ => ?_; (try refine sx_use ?_))))
    exact SxDone.mk fun w' hs => ⟨rfl, hs.touch.below⟩
set_option maxHeartbeats 4000000 in
theorem RSame_any26 (a b : List Ck) (hla : a.length ≤ 100000) (ao bo : Option Addr) (ac bc : Nat) (w : World) (ha : Rd w ao (ckE.fl a)) (hb : Rd w bo (ckE.fl b)) :
    Calls Try.prog 10 #[.slice ao a.length ac, .slice bo b.length bc] w fun e w' => e = .returned (.bool (decide (a = b))) ∧ Below w.heap.size w w' := by
  refine sx_fn (S := SX) (M := []) (N := 26) (H0 := [.rd ao (ckE.fl a), .rd bo (ckE.fl b)]) Try.func10 rfl rfl rfl (Sat.twoRd _ ha hb) ?_
  by_cases hlen : a.length = b.length
  · ((try refine sx_use ?_); (repeat (refine SxNew.mk fun _ => ?_; (try refine sx_use ?_))))
    refine SxCode.loop (σ := Nat) [5, 4] [11, 12, 13, 14, 17, 18, 19, 20, 21, 22, 23, 24, 25, 4, 15, 16, 5] (fun k => [.int .i64 (k : Nat), .bool false]) (fun _ => [.rd ao (ckE.fl a), .rd bo (ckE.fl b)]) (fun k => k ≤ a.length ∧ a.take k = b.take k) (fun k => a.length - k) 0 [0, 1] rfl rfl rfl rfl ⟨Nat.zero_le _, rfl⟩ ?_
    rintro k ⟨hk, heq⟩
    by_cases hlt : k < a.length
    · obtain ⟨x, hx⟩ : ∃ x, a[k]? = some x := ⟨a[k], by simp [hlt]⟩
      obtain ⟨y, hy⟩ : ∃ y, b[k]? = some y := ⟨b[k]'(by omega), by simp [show k < b.length by omega]⟩
      ((try refine sx_use ?_); (repeat (refine SxNew.mk fun _ => ?_; (try refine sx_use ?_))))
      refine SxCode.drawAll rfl [] ?_
      ((try refine sx_use ?_); (repeat (refine SxNew.mk fun _ => ?_; (try refine sx_use ?_))))
      refine SxIA.rd 0 _ rfl k rfl hlt (by rw [ckE_len]; omega) fun g off ha => ?_
      ((try refine sx_use ?_); (repeat (refine SxNew.mk fun _ => ?_; (try refine sx_use ?_))))
      refine SxLdN.rd 0 rfl ha rfl (vs := ckC x) (ckC_len x) (ckE_at hx) ?_
      ((try refine sx_use ?_); (repeat (refine SxNew.mk fun _ => ?_; (try refine sx_use ?_))))
      refine SxIA.rd 1 _ rfl k rfl (by omega) (by rw [ckE_len]; omega) fun g off ha => ?_
      ((try refine sx_use ?_); (repeat (refine SxNew.mk fun _ => ?_; (try refine sx_use ?_))))
      refine SxLdN.rd 1 rfl ha rfl (vs := ckC y) (ckC_len y) (ckE_at hy) ?_
      ((try refine sx_use ?_); (repeat (refine SxNew.mk fun _ => ?_; (try refine sx_use ?_))))
      refine SxRun.neCk ?_
      ((try refine sx_use ?_); (repeat (refine SxNew.mk fun _ => ?_; (try refine sx_use ?_))))
      refine SxIf.nt (SxIf.dec (fun h => ?_) (fun h => ?_))
      · ((try refine sx_use ?_); (repeat (refine SxNew.mk fun _ => ?_; (try refine sx_use ?_))))
        exact SxRound.mk (k + 1) [0, 1] rfl rfl rfl ⟨hlt, by rw [take_snocE hx, take_snocE hy, heq, h]⟩ (by first | omega | (dsimp only; omega))
      · ((try refine sx_use ?_); (repeat (refine SxNew.mk fun _ => ?_; (try refine sx_use ?_))))
        exact SxDone.mk fun w' hs => ⟨by
          rw [decide_eq_false (fun e => h (by rw [e, hy] at hx; exact (Option.some.inj hx).symm))]; rfl, hs.touch.below⟩
    · obtain rfl : k = a.length := by omega
      rw [List.take_length, List.take_of_length_le (by omega)] at heq
      ((try refine sx_use ?_); (repeat (refine SxNew.mk fun _ => ?_; (try refine sx_use ?_))))
      exact SxDone.mk fun w' hs => ⟨by rw [decide_eq_true heq]; rfl, hs.touch.below⟩
  · ((try refine sx_use ?_); (repeat (refine SxNew.mk fun _ => ?_; (try refine sx_use ?_))))
    exact SxDone.mk fun w' hs => ⟨by rw [decide_eq_false (fun e => hlen (by rw [e]))]; rfl, hs.touch.below⟩
end Go.Proofs.Ytdififdnnpgjoaa
