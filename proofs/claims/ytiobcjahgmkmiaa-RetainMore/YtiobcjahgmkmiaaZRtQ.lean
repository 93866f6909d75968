/- The laws of layer 32: RetainSorts, RetainKeeps, RetainMore. -/
import Derived.Test.YtiobcjahgmkmiaaZRtP
import Derived.Test.YtiobcjahgmkmiaaZTwo
namespace Go.Proofs.Ytiobcjahgmkmiaa
open Go.RowKit

set_option maxHeartbeats 4000000 in
theorem RetainSorts_law (w : World) (v : Value) (hv : FitK Try.prog w 4 (.slice 61) v) :
    Calls Try.prog 5 #[v] w fun e w' => e = .returned (.bool true) ∧ Below w.heap.size w w' := by
  obtain ⟨ao, n, cap, rfl, hn, l, hl, hr⟩ := open_bks hv
  clear hv
  have ho := ours_any n hn l hl ao cap
  obtain ⟨L, hL⟩ : ∃ L, L = l.take 40 := ⟨_, rfl⟩
  have hLl : L.length ≤ 40 := by rw [hL, List.length_take]; omega
  rw [← hL] at ho
  have hR := sortR_eq L
  have hS := setS_len cfK L
  obtain ⟨S, hSe⟩ : ∃ S, S = sortK L := ⟨_, rfl⟩
  have h1 := fun (ao : Option Addr) (cap : Nat) (w : World) (hr : Rd w ao (bkE.fl L)) => Sort_any L (by omega) ao cap w hr
  have h2 := fun (ao : Option Addr) (cap : Nat) (w : World) (hr : Rd w ao (bkE.fl L)) => RSort_any L (by omega) ao cap w hr
  rw [hR] at h2
  simp only [← hSe] at h1 h2 hS
  refine sx_fn (S := SX) (M := []) (N := 19) (H0 := [.rd ao (bkE.fl l)]) Try.func5 rfl rfl rfl (Sat.oneRd _ hr) ?_
  ((try refine sx_use ?_); (repeat (refine SxNew.mk fun _ => ?_; (try refine sx_use ?_))))
  refine SxCall.mk fun w hs => (ho w (hs.rd 0 rfl)).mono ?_
  rintro e w' ⟨a1, c1, a2, c2, rfl, k1, k2⟩
  refine ⟨_, _, rfl, hs.twoNew k1 k2 (by rw [rowBk_len]; unfold maxLen; omega) (by rw [rowBk_len]; unfold maxLen; omega), ?_⟩
  ((try refine sx_use ?_); (repeat (refine SxNew.mk fun _ => ?_; (try refine sx_use ?_))))
  refine SxCall.newRow (fun w hs => h1 a1 c1 w (hs.rd 0 rfl)) fun b1 d1 => ?_
  ((try refine sx_use ?_); (repeat (refine SxNew.mk fun _ => ?_; (try refine sx_use ?_))))
  refine SxCall.newRow (fun w hs => theirs_any S (by omega) b1 d1 w (hs.rowRd 0 rfl (by rw [rowBk_len]; unfold maxLen; omega))) fun b2 d2 => ?_
  ((try refine sx_use ?_); (repeat (refine SxNew.mk fun _ => ?_; (try refine sx_use ?_))))
  refine SxCall.newRow (fun w hs => h2 a2 c2 w (hs.rd 3 rfl)) fun b3 d3 => ?_
  ((try refine sx_use ?_); (repeat (refine SxNew.mk fun _ => ?_; (try refine sx_use ?_))))
  refine SxCall.quietS (fun w hs => RSameBr_any S S b2 b3 d2 d3 w (hs.rowRd 1 rfl (by rw [rowBk_len]; unfold maxLen; omega)) (hs.rowRd 0 rfl (by rw [rowBk_len]; unfold maxLen; omega))) ?_
  rw [show decide (S = S) = true from decide_eq_true rfl]
  ((try refine sx_use ?_); (repeat (refine SxNew.mk fun _ => ?_; (try refine sx_use ?_))))
  refine SxCall.quiet rt_awake ?_
  ((try refine sx_use ?_); (repeat (refine SxNew.mk fun _ => ?_; (try refine sx_use ?_))))
  exact SxDone.mk fun w' hs => ⟨rfl, hs.touch.below⟩
theorem open_pol {w : World} {d : Nat} (cs : List Value) (h : FitR Try.prog w d [.int .i64, .int .i64, .int .i64, .int .i64] cs) : ∃ p : Pol, cs = polC p := by
  obtain ⟨hl, hf⟩ := h
  match cs, hl with
  | [x, y, z, t], _ =>
    obtain ⟨n1, rfl, _⟩ := fitK_int (hf 0 _ _ rfl rfl)
    obtain ⟨n2, rfl, _⟩ := fitK_int (hf 1 _ _ rfl rfl)
    obtain ⟨n3, rfl, _⟩ := fitK_int (hf 2 _ _ rfl rfl)
    obtain ⟨n4, rfl, _⟩ := fitK_int (hf 3 _ _ rfl rfl)
    exact ⟨⟨n1, n2, n3, n4⟩, rfl⟩
theorem errK_ne (p : Pol) : errK p ≠ 0 := by unfold errK; split <;> decide
set_option maxHeartbeats 4000000 in
theorem RetainKeeps_law (w : World) (cs : List Value) (h : FitR Try.prog w 4 [.int .i64, .int .i64, .int .i64, .int .i64] cs) (v : Value) (hv : FitK Try.prog w 4 (.slice 61) v) :
    Calls Try.prog 7 #[.agg cs.toArray, v] w fun e w' => e = .returned (.bool true) ∧ Below w.heap.size w w' := by
  obtain ⟨p, rfl⟩ := open_pol cs h
  obtain ⟨ao, n, cap, rfl, hn, l, hl, hr⟩ := open_bks hv
  clear hv h
  have ho := ours_any n hn l hl ao cap
  obtain ⟨L, hL⟩ : ∃ L, L = l.take 40 := ⟨_, rfl⟩
  have hLl : L.length ≤ 40 := by rw [hL, List.length_take]; omega
  rw [← hL] at ho
  by_cases hok : mayP p ∧ mayD L
  · obtain ⟨hp, hd⟩ := hok
    have hS := setS_len cfK L
    have hsum := kept_sum p L
    have hag := kept_again p L
    have hdK : mayD (keptK p L).1 := fun b hb => hd b (kept_in p L hb)
    have m1 := fun (ao : Option Addr) (cap : Nat) (w : World) (hr : Rd w ao (bkE.fl L)) => Keep_ok p L (by omega) hp hd ao cap w hr
    have m2 := fun (ao : Option Addr) (cap : Nat) (w : World) (hr : Rd w ao (bkE.fl L)) => Drop_ok p L (by omega) hp hd ao cap w hr
    have m3 := fun (ao : Option Addr) (cap : Nat) (w : World) (hr : Rd w ao (bkE.fl L)) => May_any p L (by omega) ao cap w hr
    have m4 := fun (ao : Option Addr) (cap : Nat) (w : World) (hr : Rd w ao (bkE.fl L)) => RKeep_any p L (by omega) hp hd ao cap w hr
    have m5 := fun (ao : Option Addr) (cap : Nat) (w : World) (hr : Rd w ao (bkE.fl (keptK p L).1)) => Keep_ok p (keptK p L).1 (by change (sortK L).length ≤ L.length at hS; omega) hp hdK ao cap w hr
    have m6 := fun (ao : Option Addr) (cap : Nat) (w : World) (hr : Rd w ao (bkE.fl L)) => RSort_any L (by omega) ao cap w hr
    rw [if_pos ⟨hp, hd⟩] at m3
    rw [hag] at m5
    rw [sortR_eq] at m6
    change (sortK L).length ≤ L.length at hS
    obtain ⟨K, hK⟩ : ∃ K, K = (keptK p L).1 := ⟨_, rfl⟩
    obtain ⟨D, hD⟩ : ∃ D, D = (keptK p L).2 := ⟨_, rfl⟩
    obtain ⟨S, hSe⟩ : ∃ S, S = sortK L := ⟨_, rfl⟩
    simp only [← hK, ← hD, ← hSe] at m1 m2 m4 m5 m6 hsum hS
    clear hK hD hSe hag hdK hd hp
    refine sx_fn (S := SX) (M := []) (N := 111) (H0 := [.rd ao (bkE.fl l)]) Try.func7 rfl rfl rfl (Sat.oneRd _ hr) ?_
    ((try refine sx_use ?_); (repeat (refine SxNew.mk fun _ => ?_; (try refine sx_use ?_))))
    refine SxCall.mk fun w hs => (ho w (hs.rd 1 rfl)).mono ?_
    rintro e w' ⟨a1, c1, a2, c2, rfl, k1, k2⟩
    refine ⟨_, _, rfl, hs.twoNew k1 k2 (by rw [rowBk_len]; unfold maxLen; omega) (by rw [rowBk_len]; unfold maxLen; omega), ?_⟩
    ((try refine sx_use ?_); (repeat (refine SxNew.mk fun _ => ?_; (try refine sx_use ?_))))
    refine SxCall.newRow (v := fun a c => .tuple #[.slice a K.length c, .int .i64 0]) (fun w hs => m1 a1 c1 w (hs.rd 1 rfl)) fun x1 y1 => ?_
    ((try refine sx_use ?_); (repeat (refine SxNew.mk fun _ => ?_; (try refine sx_use ?_))))
    refine SxCall.newRow (v := fun a c => .tuple #[.slice a D.length c, .int .i64 0]) (fun w hs => m2 a1 c1 w (hs.rd 2 rfl)) fun x2 y2 => ?_
    ((try refine sx_use ?_); (repeat (refine SxNew.mk fun _ => ?_; (try refine sx_use ?_))))
    refine SxCall.quietS (fun w hs => m3 a2 c2 w (hs.rd 4 rfl)) ?_
    ((try refine sx_use ?_); (repeat (refine SxNew.mk fun _ => ?_; (try refine sx_use ?_))))
    refine SxCall.quiet rt_awake ?_
    ((try refine sx_use ?_); (repeat (refine SxNew.mk fun _ => ?_; (try refine sx_use ?_))))
    refine SxCall.mk fun w hs => (m4 a2 c2 w (hs.rd 4 rfl)).mono ?_
    rintro e w' ⟨x3, y3, x4, y4, rfl, k3, k4⟩
    refine ⟨_, _, rfl, hs.twoNew k3 k4 (by rw [rowBk_len]; unfold maxLen; omega) (by rw [rowBk_len]; unfold maxLen; omega), ?_⟩
    ((try refine sx_use ?_); (repeat (refine SxNew.mk fun _ => ?_; (try refine sx_use ?_))))
    refine SxCall.newRow (v := fun a c => .tuple #[.slice a K.length c, .int .i64 0]) (fun w hs => m5 x1 y1 w (hs.rowRd 3 rfl (by rw [rowBk_len]; unfold maxLen; omega))) fun x5 y5 => ?_
    ((try refine sx_use ?_); (repeat (refine SxNew.mk fun _ => ?_; (try refine sx_use ?_))))
    refine SxCall.newRow (fun w hs => theirs_any K (by omega) x1 y1 w (hs.rowRd 4 rfl (by rw [rowBk_len]; unfold maxLen; omega))) fun x6 y6 => ?_
    ((try refine sx_use ?_); (repeat (refine SxNew.mk fun _ => ?_; (try refine sx_use ?_))))
    refine SxCall.quietS (fun w hs => RSameBr_any K K x6 x3 y6 y3 w (hs.rowRd 0 rfl (by rw [rowBk_len]; unfold maxLen; omega)) (hs.rd 2 rfl)) ?_
    rw [show decide (K = K) = true from decide_eq_true rfl]
    ((try refine sx_use ?_); (repeat (refine SxNew.mk fun _ => ?_; (try refine sx_use ?_))))
    refine SxCall.newRow (fun w hs => theirs_any D (by omega) x2 y2 w (hs.rowRd 4 rfl (by rw [rowBk_len]; unfold maxLen; omega))) fun x7 y7 => ?_
    ((try refine sx_use ?_); (repeat (refine SxNew.mk fun _ => ?_; (try refine sx_use ?_))))
    refine SxCall.quietS (fun w hs => RSameBr_any D D x7 x4 y7 y4 w (hs.rowRd 0 rfl (by rw [rowBk_len]; unfold maxLen; omega)) (hs.rd 4 rfl)) ?_
    rw [show decide (D = D) = true from decide_eq_true rfl]
    ((try refine sx_use ?_); (repeat (refine SxNew.mk fun _ => ?_; (try refine sx_use ?_))))
    refine SxCall.newRow (fun w hs => m6 a2 c2 w (hs.rd 9 rfl)) fun x8 y8 => ?_
    ((try refine sx_use ?_); (repeat (refine SxNew.mk fun _ => ?_; (try refine sx_use ?_))))
    refine SxCall.newRow (fun w hs => theirs_any K (by omega) x5 y5 w (hs.rowRd 3 rfl (by rw [rowBk_len]; unfold maxLen; omega))) fun x9 y9 => ?_
    ((try refine sx_use ?_); (repeat (refine SxNew.mk fun _ => ?_; (try refine sx_use ?_))))
    refine SxCall.quietS (fun w hs => RSameBr_any K K x9 x3 y9 y3 w (hs.rowRd 0 rfl (by rw [rowBk_len]; unfold maxLen; omega)) (hs.rd 5 rfl)) ?_
    rw [show decide (K = K) = true from decide_eq_true rfl]
    ((try refine sx_use ?_); (repeat (refine SxNew.mk fun _ => ?_; (try refine sx_use ?_))))
    exact SxDone.mk fun w' hs => ⟨rfl, hs.touch.below⟩
  · have m1 := fun (ao : Option Addr) (cap : Nat) (w : World) (hr : Rd w ao (bkE.fl L)) => Keep_err p L (by omega) hok ao cap w hr
    have m2 := fun (ao : Option Addr) (cap : Nat) (w : World) (hr : Rd w ao (bkE.fl L)) => Drop_err p L (by omega) hok ao cap w hr
    have m3 := fun (ao : Option Addr) (cap : Nat) (w : World) (hr : Rd w ao (bkE.fl L)) => May_any p L (by omega) ao cap w hr
    rw [if_neg hok] at m3
    have hne := errK_ne p
    obtain ⟨E, hE⟩ : ∃ E, E = errK p := ⟨_, rfl⟩
    rw [← hE] at hne
    simp only [← hE] at m1 m2 m3
    clear hE
    refine sx_fn (S := SX) (M := []) (N := 111) (H0 := [.rd ao (bkE.fl l)]) Try.func7 rfl rfl rfl (Sat.oneRd _ hr) ?_
    ((try refine sx_use ?_); (repeat (refine SxNew.mk fun _ => ?_; (try refine sx_use ?_))))
    refine SxCall.mk fun w hs => (ho w (hs.rd 1 rfl)).mono ?_
    rintro e w' ⟨a1, c1, a2, c2, rfl, k1, k2⟩
    refine ⟨_, _, rfl, hs.twoNew k1 k2 (by rw [rowBk_len]; unfold maxLen; omega) (by rw [rowBk_len]; unfold maxLen; omega), ?_⟩
    ((try refine sx_use ?_); (repeat (refine SxNew.mk fun _ => ?_; (try refine sx_use ?_))))
    refine SxCall.quietS (fun w hs => m1 a1 c1 w (hs.rd 1 rfl)) ?_
    ((try refine sx_use ?_); (repeat (refine SxNew.mk fun _ => ?_; (try refine sx_use ?_))))
    refine SxCall.quietS (fun w hs => m2 a1 c1 w (hs.rd 1 rfl)) ?_
    ((try refine sx_use ?_); (repeat (refine SxNew.mk fun _ => ?_; (try refine sx_use ?_))))
    refine SxCall.quietS (fun w hs => m3 a2 c2 w (hs.rd 2 rfl)) ?_
    ((try refine sx_use ?_); (repeat (refine SxNew.mk fun _ => ?_; (try refine sx_use ?_))))
    refine SxCall.quiet rt_awake ?_
    ((try refine sx_use ?_); (repeat (refine SxNew.mk fun _ => ?_; (try refine sx_use ?_))))
    exact SxDone.mk fun w' hs => ⟨rfl, hs.touch.below⟩
end Go.Proofs.Ytiobcjahgmkmiaa
