/- The walks of layer 32: the document's mark, May, Keep. -/
import Derived.Test.YtiobcjahgmkmiaaZRtK
namespace Go.Proofs.Ytiobcjahgmkmiaa
open Go.RowKit

theorem Rnum_any (b : Bk) (hb : inDays b.day) (j : Nat) (hj : j < 3) (w : World) : Calls Try.prog 53 #[.agg (bkC b).toArray, .int .i64 (j : Nat)] w fun e w' => e = .returned (.int .i64 (keyOf (j + 1) 0 b)) ∧ Below w.heap.size w w' := by
  obtain ⟨h1, h2⟩ := dn_eq hb
  refine sx_fn (S := SX) (M := []) (N := 17) (H0 := []) Try.func53 rfl rfl rfl (Sat.nil _ _) ?_
  have hc : j = 0 ∨ j = 1 ∨ j = 2 := by omega
  rcases hc with rfl | rfl | rfl
  · ((try refine sx_use ?_); (repeat (refine SxNew.mk fun _ => ?_; (try refine sx_use ?_))))
    exact SxDone.mk fun w' hs => ⟨rfl, hs.touch.below⟩
  · have hW := RWeek_in (dn b) h2
    rw [← h1] at hW
    ((try refine sx_use ?_); (repeat (refine SxNew.mk fun _ => ?_; (try refine sx_use ?_))))
    refine SxCall.quiet hW ?_
    ((try refine sx_use ?_); (repeat (refine SxNew.mk fun _ => ?_; (try refine sx_use ?_))))
    exact SxDone.mk fun w' hs => ⟨rfl, hs.touch.below⟩
  · obtain ⟨y, m, d, hD, he⟩ := exists_date h2
    have hM := RMonth_in y m d hD
    rw [he, ← h1, ← monI_eq hD, he] at hM
    ((try refine sx_use ?_); (repeat (refine SxNew.mk fun _ => ?_; (try refine sx_use ?_))))
    refine SxCall.quiet hM ?_
    ((try refine sx_use ?_); (repeat (refine SxNew.mk fun _ => ?_; (try refine sx_use ?_))))
    exact SxDone.mk fun w' hs => ⟨rfl, hs.touch.below⟩
theorem allOne_bools : ∀ f : List Bool, allOne (f.map Value.bool) = true
  | [] => rfl
  | _ :: f => allOne_bools f
set_option maxHeartbeats 4000000 in
theorem mark_any (s : List Bk) (hsl : s.length ≤ 100000) (hd : ∀ b ∈ s, inDays b.day) (q : List Bool) (hq : q.length = s.length) (j : Nat) (hj : j < 3) (most : Int) (hm : okN most) (ao bo : Option Addr) (ac bc : Nat) (w : World) (hr : Rd w ao (bkE.fl s)) (hb : Rd w bo (q.map .bool)) :
    Calls Try.prog 42 #[.slice ao s.length ac, .slice bo q.length bc, .int .i64 (j : Nat), .int .i64 most] w fun e w' => ∃ ao' cap', e = .returned (.slice ao' (orL q (rs (j + 1) most s s.length).2).length cap') ∧ NewRow w w' ao' (orL q (rs (j + 1) most s s.length).2).length cap' 4 1 ((orL q (rs (j + 1) most s s.length).2).map .bool) := by
  obtain ⟨hm1, hm2⟩ := hm
  refine sx_fn (S := SX) (M := []) (N := 48) (H0 := [.rd ao (bkE.fl s), .rd bo (q.map .bool)]) Try.func42 rfl rfl rfl (Sat.twoRd _ hr hb) ?_
  ((try refine sx_use ?_); (repeat (refine SxNew.mk fun _ => ?_; (try refine sx_use ?_))))
  refine SxApp.mk 0 rfl 2 (.inr (.inl rfl)) (by rw [List.length_map]; omega) (allOne_bools q) (by unfold maxLen; omega) (by omega) (cs' := (orL q (rs (j + 1) most s 0).2).map .bool) (by rw [show (rs (j + 1) most s 0).2 = [] from rfl, orL_nil]; rfl) fun kg kc => ?_
  rw [Nat.zero_add]
  ((try refine sx_use ?_); (repeat (refine SxNew.mk fun _ => ?_; (try refine sx_use ?_))))
  refine SxCode.loop (σ := Nat) [10, 3] [14, 15, 16, 17, 18, 19, 20, 21, 24, 25, 26, 27, 28, 29, 30, 31, 32, 33, 34, 35, 36, 37, 38, 39, 40, 41, 42, 43, 44, 45, 46, 3, 22, 23, 10] (fun i => [.int .i64 (i : Nat), .int .i64 (rs (j + 1) most s i).1])
    (fun i => [.row kg q.length kc 4 1 ((orL q (rs (j + 1) most s i).2).map .bool), .rd ao (bkE.fl s)]) (fun i => i ≤ s.length) (fun i => s.length - i) 0 [0, 1] rfl rfl rfl rfl (Nat.zero_le _) ?_
  rintro i hi
  obtain ⟨sl1, sl2, sl3⟩ := rs_len (j + 1) most s i hi
  refine sx_base 0 rfl fun hkg hkc => ?_
  ((try refine sx_use ?_); (repeat (refine SxNew.mk fun _ => ?_; (try refine sx_use ?_))))
  refine SxIf.dec (fun h => ?_) (fun h => ?_)
  · have hlt : i < s.length := by omega
    obtain ⟨b, hb⟩ : ∃ b, s[i]? = some b := ⟨s[i], by simp [hlt]⟩
    have hbd := hd b (List.mem_of_getElem? hb)
    obtain ⟨gk, rfl⟩ := hkg (by omega)
    ((try refine sx_use ?_); (repeat (refine SxNew.mk fun _ => ?_; (try refine sx_use ?_))))
    refine SxIf.dec (fun h1 => ?_) (fun h1 => ?_)
    · by_cases h0 : i = 0
      · subst h0
        have hy := rs_yes (j := j + 1) (most := most) hb ⟨h1, .inl rfl⟩
        ((try refine sx_use ?_); (repeat (refine SxNew.mk fun _ => ?_; (try refine sx_use ?_))))
        refine SxCode.drawAll rfl [] ?_
        ((try refine sx_use ?_); (repeat (refine SxNew.mk fun _ => ?_; (try refine sx_use ?_))))
        refine SxIA.row 0 _ _ _ rfl 0 rfl (by omega) fun g' hg' => ?_
        obtain rfl : gk = g' := by simpa using hg'
        ((try refine sx_use ?_); (repeat (refine SxNew.mk fun _ => ?_; (try refine sx_use ?_))))
        (try refine SxP.mk rfl ?_)
        refine SxSt.row 0 rfl rfl (j := 0) (by omega) (by rw [List.length_map, orL_len, hq]; show 0 + 1 ≤ _; omega) rfl (cs' := (orL q ((rs (j + 1) most s 0).2 ++ [true])).map .bool) (by
          rw [orL_true _ _ (by rw [sl1, hq]; exact hlt), sl1, List.map_set]
          exact splice_at (by rw [List.length_map, orL_len, hq]; exact hlt) _) ?_
        ((try refine sx_use ?_); (repeat (refine SxNew.mk fun _ => ?_; (try refine sx_use ?_))))
        refine SxRound.mk (0 + 1) [0, 1] (by rw [hy]; rfl) (by rw [hy]; rfl) rfl hlt (by omega)
      · obtain ⟨a, ha⟩ : ∃ a, s[i - 1]? = some a := ⟨s[i - 1], by simp [show i - 1 < s.length by omega]⟩
        have had := hd a (List.mem_of_getElem? ha)
        ((try refine sx_use ?_); (repeat (refine SxNew.mk fun _ => ?_; (try refine sx_use ?_))))
        refine SxCode.drawAll rfl [] ?_
        ((try refine sx_use ?_); (repeat (refine SxNew.mk fun _ => ?_; (try refine sx_use ?_))))
        refine SxIA.rd 1 _ rfl i rfl hlt (by rw [rowBr_len]; omega) fun g off hga => ?_
        ((try refine sx_use ?_); (repeat (refine SxNew.mk fun _ => ?_; (try refine sx_use ?_))))
        refine SxLdN.rd 1 rfl hga rfl (vs := bkC b) rfl (rowBr_at hb) ?_
        ((try refine sx_use ?_); (repeat (refine SxNew.mk fun _ => ?_; (try refine sx_use ?_))))
        refine SxIA.rd 1 _ rfl (i - 1) (by omega) (by omega) (by rw [rowBr_len]; omega) fun g off hga => ?_
        ((try refine sx_use ?_); (repeat (refine SxNew.mk fun _ => ?_; (try refine sx_use ?_))))
        refine SxLdN.rd 1 rfl hga rfl (vs := bkC a) rfl (rowBr_at ha) ?_
        ((try refine sx_use ?_); (repeat (refine SxNew.mk fun _ => ?_; (try refine sx_use ?_))))
        refine SxCall.quiet (Rnum_any b hbd j hj) ?_
        ((try refine sx_use ?_); (repeat (refine SxNew.mk fun _ => ?_; (try refine sx_use ?_))))
        refine SxCall.quiet (Rnum_any a had j hj) ?_
        ((try refine sx_use ?_); (repeat (refine SxNew.mk fun _ => ?_; (try refine sx_use ?_))))
        refine SxIf.ne (fun h2 => ?_) (fun h2 => ?_)
        · have hy := rs_yes (j := j + 1) (most := most) hb ⟨h1, .inr fun x hx => by obtain rfl := Option.some.inj (ha.symm.trans hx); exact h2⟩
          ((try refine sx_use ?_); (repeat (refine SxNew.mk fun _ => ?_; (try refine sx_use ?_))))
          refine SxIA.row 0 _ _ _ rfl i rfl (by omega) fun g' hg' => ?_
          obtain rfl : gk = g' := by simpa using hg'
          ((try refine sx_use ?_); (repeat (refine SxNew.mk fun _ => ?_; (try refine sx_use ?_))))
          (try refine SxP.mk rfl ?_)
          refine SxSt.row 0 rfl rfl (j := i) (by omega) (by rw [List.length_map, orL_len, hq]; show i + 1 ≤ _; omega) rfl (cs' := (orL q ((rs (j + 1) most s i).2 ++ [true])).map .bool) (by
            rw [orL_true _ _ (by rw [sl1, hq]; exact hlt), sl1, List.map_set]
            exact splice_at (by rw [List.length_map, orL_len, hq]; exact hlt) _) ?_
          ((try refine sx_use ?_); (repeat (refine SxNew.mk fun _ => ?_; (try refine sx_use ?_))))
          refine SxRound.mk (i + 1) [0, 1] (by rw [hy]; rfl) (by rw [hy]; rfl) rfl hlt (by omega)
        · have hn := rs_no (j := j + 1) (most := most) hb (fun hh => by
            rcases hh.2 with h3 | h3
            · exact h0 h3
            · exact h3 a ha h2)
          ((try refine sx_use ?_); (repeat (refine SxNew.mk fun _ => ?_; (try refine sx_use ?_))))
          refine SxRound.mk (i + 1) [0, 1] (by rw [hn]; rfl) (by rw [hn, orL_false _ _ (by rw [sl1, hq]; exact hlt)]; rfl) rfl hlt (by omega)
    · obtain ⟨d, hd2⟩ : ∃ d, s.length = i + d := ⟨s.length - i, by omega⟩
      have hst := (rs_stop (j := j + 1) (most := most) (s := s) q hq (i := i) (by omega) d (by omega)).2
      rw [← hd2] at hst
      ((try refine sx_use ?_); (repeat (refine SxNew.mk fun _ => ?_; (try refine sx_use ?_))))
      refine SxDone.mk fun w' hs => ⟨some ⟨gk, 0, none⟩, kc, ?_, ?_⟩
      · rw [orL_len]; rfl
      · have := hs.newRow 0 rfl
        rw [hst, orL_len]
        exact this
  · obtain rfl : i = s.length := by omega
    ((try refine sx_use ?_); (repeat (refine SxNew.mk fun _ => ?_; (try refine sx_use ?_))))
    refine SxDone.mk fun w' hs => ⟨kg, kc, ?_, ?_⟩
    · rw [orL_len]; rfl
    · have := hs.newRow 0 rfl
      rw [orL_len]
      exact this
theorem May_any (p : Pol) (l : List Bk) (hl : l.length ≤ 100000) (ao : Option Addr) (cap : Nat) (w : World) (hr : Rd w ao (bkE.fl l)) :
    Calls Try.prog 25 #[.agg (polC p).toArray, .slice ao l.length cap] w fun e w' => e = .returned (.int .i64 (if mayP p ∧ mayD l then 0 else errK p)) ∧ Below w.heap.size w w' := by
  refine sx_fn (S := SX) (M := []) (N := 53) (H0 := [.rd ao (bkE.fl l)]) Try.func25 rfl rfl rfl (Sat.oneRd _ hr) ?_
  ((try refine sx_use ?_); (repeat (refine SxNew.mk fun _ => ?_; (try refine sx_use ?_))))
  rename_i gp g4
  refine SxCode.loop (σ := Nat) [6, 4] [17, 18, 21, 22, 23, 24, 25, 26, 27, 28, 29, 30, 31, 32, 4, 19, 20, 6] (fun k => [.int .i64 (k : Nat), .int .i64 0]) (fun _ => [.row (some ⟨g4, 0, none⟩) 4 4 3 1 (polC p), .rd ao (bkE.fl l)]) (fun k => k ≤ 4 ∧ ∀ j, j < k → okN (p.at j)) (fun k => 4 - k) 0 [0, 2] rfl rfl rfl rfl ⟨Nat.zero_le _, fun j hj => absurd hj (Nat.not_lt_zero _)⟩ ?_
  rintro k ⟨hk, hall⟩
  by_cases hk4 : k < 4
  · have bad : ¬ okN (p.at k) → (if mayP p ∧ mayD l then (0 : Int) else errK p) = 1 := fun h => by
      rw [if_neg fun hp => h (mayP_at.1 hp.1 k hk4)]; unfold errK; rw [if_neg fun hp => h (mayP_at.1 hp k hk4)]
    ((try refine sx_use ?_); (repeat (refine SxNew.mk fun _ => ?_; (try refine sx_use ?_))))
    refine SxIA.row 0 _ _ _ rfl k rfl hk4 fun g' hg' => ?_
    obtain rfl : g4 = g' := by simpa using hg'
    ((try refine sx_use ?_); (repeat (refine SxNew.mk fun _ => ?_; (try refine sx_use ?_))))
    refine SxLd.row 0 rfl rfl rfl (by rw [Nat.mul_one]; exact polC_at p k hk4) ?_
    ((try refine sx_use ?_); (repeat (refine SxNew.mk fun _ => ?_; (try refine sx_use ?_))))
    refine SxIf.dec (fun h1 => ?_) (fun h1 => ?_)
    · ((try refine sx_use ?_); (repeat (refine SxNew.mk fun _ => ?_; (try refine sx_use ?_))))
      exact SxDone.mk fun w' hs => ⟨by rw [bad fun h => by have := h.1; omega]; rfl, hs.touch.below⟩
    · ((try refine sx_use ?_); (repeat (refine SxNew.mk fun _ => ?_; (try refine sx_use ?_))))
      refine SxIA.row 0 _ _ _ rfl k rfl hk4 fun g' hg' => ?_
      obtain rfl : g4 = g' := by simpa using hg'
      ((try refine sx_use ?_); (repeat (refine SxNew.mk fun _ => ?_; (try refine sx_use ?_))))
      refine SxLd.row 0 rfl rfl rfl (by rw [Nat.mul_one]; exact polC_at p k hk4) ?_
      ((try refine sx_use ?_); (repeat (refine SxNew.mk fun _ => ?_; (try refine sx_use ?_))))
      refine SxIf.dec (fun h2 => ?_) (fun h2 => ?_)
      · ((try refine sx_use ?_); (repeat (refine SxNew.mk fun _ => ?_; (try refine sx_use ?_))))
        exact SxDone.mk fun w' hs => ⟨by rw [bad fun h => by have := h.2; omega]; rfl, hs.touch.below⟩
      · ((try refine sx_use ?_); (repeat (refine SxNew.mk fun _ => ?_; (try refine sx_use ?_))))
        refine SxRound.mk (k + 1) [0, 1] rfl rfl rfl ⟨by omega, fun j hj => ?_⟩ (by omega)
        rcases Nat.lt_succ_iff_lt_or_eq.1 hj with h3 | h3
        · exact hall j h3
        · subst h3; exact ⟨by omega, by omega⟩
  obtain rfl : k = 4 := by omega
  have hp : mayP p := mayP_at.2 hall
  have he : errK p = 5 := by unfold errK; rw [if_pos hp]
  clear hk hk4
  ((try refine sx_use ?_); (repeat (refine SxNew.mk fun _ => ?_; (try refine sx_use ?_))))
  refine SxCode.loop (σ := Nat) [7, 4] [33, 34, 35, 36, 39, 40, 41, 42, 43, 44, 45, 46, 47, 48, 49, 50, 51, 52, 4, 37, 38, 7] (fun k => [.int .i64 (k : Nat), .int .i64 0]) (fun _ => [.rd ao (bkE.fl l)]) (fun k => k ≤ l.length ∧ ∀ b ∈ l.take k, inDays b.day) (fun k => l.length - k) 0 [1] rfl rfl rfl rfl ⟨Nat.zero_le _, fun b hb => by simp at hb⟩ ?_
  rintro k ⟨hk, hd⟩
  ((try refine sx_use ?_); (repeat (refine SxNew.mk fun _ => ?_; (try refine sx_use ?_))))
  refine SxIf.dec (fun h => ?_) (fun h => ?_)
  · have hlt : k < l.length := by omega
    obtain ⟨b, hb⟩ : ∃ b, l[k]? = some b := ⟨l[k], by simp [hlt]⟩
    have bad : ¬ inDays b.day → (if mayP p ∧ mayD l then (0 : Int) else errK p) = 5 := fun h => by
      rw [if_neg fun hp => h (hp.2 b (List.mem_of_getElem? hb)), he]
    ((try refine sx_use ?_); (repeat (refine SxNew.mk fun _ => ?_; (try refine sx_use ?_))))
    refine SxIA.rd 0 _ rfl k rfl hlt (by rw [rowBr_len]; omega) fun g off ha => ?_
    ((try refine sx_use ?_); (repeat (refine SxNew.mk fun _ => ?_; (try refine sx_use ?_))))
    refine SxLd.rd 0 rfl ha (by omega) (j := k * 2 + 1) (v := .int .i64 b.day) (rowBr_cell (j := 1) hb rfl) ?_
    ((try refine sx_use ?_); (repeat (refine SxNew.mk fun _ => ?_; (try refine sx_use ?_))))
    refine SxIf.dec (fun h1 => ?_) (fun h1 => ?_)
    · ((try refine sx_use ?_); (repeat (refine SxNew.mk fun _ => ?_; (try refine sx_use ?_))))
      exact SxDone.mk fun w' hs => ⟨by rw [bad fun h => by have := h.1; omega]; rfl, hs.touch.below⟩
    · ((try refine sx_use ?_); (repeat (refine SxNew.mk fun _ => ?_; (try refine sx_use ?_))))
      refine SxIA.rd 0 _ rfl k rfl hlt (by rw [rowBr_len]; omega) fun g off ha => ?_
      ((try refine sx_use ?_); (repeat (refine SxNew.mk fun _ => ?_; (try refine sx_use ?_))))
      refine SxLd.rd 0 rfl ha (by omega) (j := k * 2 + 1) (v := .int .i64 b.day) (rowBr_cell (j := 1) hb rfl) ?_
      ((try refine sx_use ?_); (repeat (refine SxNew.mk fun _ => ?_; (try refine sx_use ?_))))
      refine SxIf.dec (fun h2 => ?_) (fun h2 => ?_)
      · ((try refine sx_use ?_); (repeat (refine SxNew.mk fun _ => ?_; (try refine sx_use ?_))))
        exact SxDone.mk fun w' hs => ⟨by rw [bad fun h => by have := h.2; omega]; rfl, hs.touch.below⟩
      · ((try refine sx_use ?_); (repeat (refine SxNew.mk fun _ => ?_; (try refine sx_use ?_))))
        refine SxRound.mk (k + 1) [0] rfl rfl rfl ⟨hlt, fun x hx => ?_⟩ (by omega)
        rw [take_snocE hb, List.mem_append, List.mem_singleton] at hx
        rcases hx with hx | hx
        · exact hd x hx
        · subst hx; exact ⟨by omega, by omega⟩
  · obtain rfl : k = l.length := by omega
    rw [List.take_length] at hd
    ((try refine sx_use ?_); (repeat (refine SxNew.mk fun _ => ?_; (try refine sx_use ?_))))
    exact SxDone.mk fun w' hs => ⟨by rw [if_pos ⟨hp, hd⟩]; rfl, hs.touch.below⟩
end Go.Proofs.Ytiobcjahgmkmiaa
