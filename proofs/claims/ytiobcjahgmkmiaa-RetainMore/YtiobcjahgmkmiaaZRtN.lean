/- The walks of layer 32: the law's ours, theirs, one, awake. -/
import Derived.Test.YtiobcjahgmkmiaaZRtM
import Derived.Test.YtiobcjahgmkmiaaZOpnR
namespace Go.Proofs.Ytiobcjahgmkmiaa
open Go.RowKit

instance : Inhabited Bk := ⟨⟨[], 0⟩⟩
theorem open_bk {w : World} {d : Nat} (cs : List Value) (h : FitR Try.prog w d [.str, .int .i64] cs) : ∃ b : Bk, cs = bkE.enc b := by
  obtain ⟨hl, hf⟩ := h
  match cs, hl with
  | [x, y], _ =>
    obtain ⟨s, rfl, hs⟩ := fitK_str (hf 0 _ _ rfl rfl)
    obtain ⟨n, rfl, hn⟩ := fitK_int (hf 1 _ _ rfl rfl)
    exact ⟨⟨s.data.toList, n⟩, rfl⟩
theorem open_bks {w : World} {d : Nat} {v : Value} (hv : FitK Try.prog w (d + 1) (.slice 61) v) : ∃ (ao : Option Addr) (n cap : Nat), v = .slice ao n cap ∧ n ≤ maxLen ∧ ∃ l : List Bk, l.length = min n 1000 ∧ Rd w ao (bkE.fl l) :=
  open_rows bkE (by decide) [.str, .int .i64] hv (by kernel_rfl) (by kernel_rfl) rfl fun cs h => open_bk cs h
theorem one_any (b : Bool) (w : World) : Calls Try.prog 18 #[.bool b] w fun e w' => e = .returned (.int .i64 (if b = true then 1 else 0)) ∧ Below w.heap.size w w' := by
  cases b with
  | true =>
    refine sx_fn (S := SX) (M := []) (N := 4) (H0 := []) Try.func18 rfl rfl rfl (Sat.nil _ _) ?_
    ((try refine sx_use ?_); (repeat (refine SxNew.mk fun _ => ?_; (try refine sx_use ?_))))
    exact SxDone.mk fun w' hs => ⟨rfl, hs.touch.below⟩
  | false =>
    refine sx_fn (S := SX) (M := []) (N := 4) (H0 := []) Try.func18 rfl rfl rfl (Sat.nil _ _) ?_
    ((try refine sx_use ?_); (repeat (refine SxNew.mk fun _ => ?_; (try refine sx_use ?_))))
    exact SxDone.mk fun w' hs => ⟨rfl, hs.touch.below⟩
theorem theirs_any (l : List Bk) (hl : l.length ≤ 100000) (ao : Option Addr) (cap : Nat) (w : World) (hr : Rd w ao (bkE.fl l)) :
    Calls Try.prog 21 #[.slice ao l.length cap] w fun e w' => ∃ a1 c1, e = .returned (.slice a1 l.length c1) ∧ NewRow w w' a1 l.length c1 61 2 (bkE.fl l) := by
  refine sx_fn (S := SX) (M := []) (N := 26) (H0 := [.row none 0 0 61 2 [], .rd ao (bkE.fl l)]) Try.func21 rfl rfl rfl ((Sat.oneRd _ hr).nilRow 61 2) ?_
  ((try refine sx_use ?_); (repeat (refine SxNew.mk fun _ => ?_; (try refine sx_use ?_))))
  refine SxCode.loop (σ := Nat × Option Addr × Nat) [4, 3] [5, 6, 7, 8, 11, 12, 13, 14, 15, 16, 17, 18, 19, 20, 21, 22, 23, 24, 3, 9, 10, 4] (fun s => [.int .i64 (s.1 : Nat), .slice s.2.1 (l.take s.1).length s.2.2]) (fun s => [.row s.2.1 (l.take s.1).length s.2.2 61 2 (bkE.fl (l.take s.1)), .rd ao (bkE.fl l)]) (fun s => s.1 ≤ l.length) (fun s => l.length - s.1) (0, none, 0) [0, 1] rfl rfl rfl rfl (Nat.zero_le _) ?_
  rintro ⟨i, bo, bc⟩ hi
  dsimp only at hi ⊢
  have htl : (l.take i).length = i := by rw [List.length_take]; omega
  ((try refine sx_use ?_); (repeat (refine SxNew.mk fun _ => ?_; (try refine sx_use ?_))))
  refine SxIf.dec (fun h => ?_) (fun h => ?_)
  · have hlt : i < l.length := by omega
    obtain ⟨b, hb⟩ : ∃ b, l[i]? = some b := ⟨l[i], by simp [hlt]⟩
    have hsn : l.take (i + 1) = l.take i ++ [b] := by rw [List.take_add_one, hb]; rfl
    ((try refine sx_use ?_); (repeat (refine SxNew.mk fun _ => ?_; (try refine sx_use ?_))))
    refine SxCode.draw rfl [.rd ao (bkE.fl l)] [14] [1] rfl rfl ?_
    ((try refine sx_use ?_); (repeat (refine SxNew.mk fun _ => ?_; (try refine sx_use ?_))))
    refine SxIA.rd 0 _ rfl i rfl hlt (by rw [rowBk_len]; omega) fun g off ha => ?_
    ((try refine sx_use ?_); (repeat (refine SxNew.mk fun _ => ?_; (try refine sx_use ?_))))
    refine SxLd.rd 0 rfl ha rfl (rowBk_cell (j := 0) hb rfl) ?_
    ((try refine sx_use ?_); (repeat (refine SxNew.mk fun _ => ?_; (try refine sx_use ?_))))
    refine SxIA.rd 0 _ rfl i rfl hlt (by rw [rowBk_len]; omega) fun g off ha => ?_
    ((try refine sx_use ?_); (repeat (refine SxNew.mk fun _ => ?_; (try refine sx_use ?_))))
    refine SxLd.rd 0 rfl ha rfl (rowBk_cell (j := 1) hb rfl) ?_
    ((try refine sx_use ?_); (repeat (refine SxNew.mk fun _ => ?_; (try refine sx_use ?_))))
    refine SxStable.mk [2] rfl rfl ?_
    ((try refine sx_use ?_); (repeat (refine SxNew.mk fun _ => ?_; (try refine sx_use ?_))))
    refine SxApp.mk 1 rfl 0 (.inr (.inr (.inr ⟨by decide, _, rfl⟩))) (vs := bkC b) (m := 1) rfl rfl (by unfold maxLen; omega) (by omega) (cs' := bkE.fl (l.take i ++ [b])) (by rw [bkE.fl_append, bkE.fl_one]; rfl) fun x3 c3 => ?_
    ((try refine sx_use ?_); (repeat (refine SxNew.mk fun _ => ?_; (try refine sx_use ?_))))
    refine SxStable.mk [2] rfl rfl ?_
    ((try refine sx_use ?_); (repeat (refine SxNew.mk fun _ => ?_; (try refine sx_use ?_))))
    exact SxRound.mk (i + 1, x3, c3) [1, 2] (by dsimp only; rw [hsn, List.length_append]; rfl) (by dsimp only; rw [hsn, List.length_append]; rfl) rfl hlt (by dsimp only; omega)
  · obtain rfl : i = l.length := by omega
    rw [List.take_length]
    ((try refine sx_use ?_); (repeat (refine SxNew.mk fun _ => ?_; (try refine sx_use ?_))))
    exact SxDone.mk fun w' hs => ⟨_, _, rfl, hs.newRow 0 rfl⟩
theorem ours_any (n : Nat) (hn : n ≤ maxLen) (l : List Bk) (hl : l.length = min n 1000) (ao : Option Addr) (cap : Nat) (w : World) (hr : Rd w ao (bkE.fl l)) :
    Calls Try.prog 19 #[.slice ao n cap] w fun e w' => ∃ a1 c1 a2 c2, e = .returned (.tuple #[.slice a1 (l.take 40).length c1, .slice a2 (l.take 40).length c2]) ∧ NewRow w w' a1 (l.take 40).length c1 55 2 (bkE.fl (l.take 40)) ∧ NewRow w w' a2 (l.take 40).length c2 61 2 (bkE.fl (l.take 40)) := by
  unfold maxLen at hn
  refine sx_fn (S := SX) (M := []) (N := 40) (H0 := [.row none 0 0 55 2 [], .row none 0 0 61 2 [], .rd ao (bkE.fl l)]) Try.func19 rfl rfl rfl (Sat.nilRow 55 2 (Sat.nilRow 61 2 (Sat.oneRd _ hr))) ?_
  ((try refine sx_use ?_); (repeat (refine SxNew.mk fun _ => ?_; (try refine sx_use ?_))))
  refine SxCode.loop (σ := Nat × (Option Addr × Nat) × (Option Addr × Nat)) [6, 4, 5] [7, 8, 9, 10, 11, 12, 13, 14, 17, 18, 19, 20, 21, 22, 23, 24, 25, 26, 27, 28, 29, 30, 4, 31, 32, 33, 34, 35, 36, 37, 5, 15, 16, 6] (fun s => [.int .i64 (s.1 : Nat), .slice s.2.1.1 (l.take s.1).length s.2.1.2, .slice s.2.2.1 (l.take s.1).length s.2.2.2])
    (fun s => [.row s.2.1.1 (l.take s.1).length s.2.1.2 55 2 (bkE.fl (l.take s.1)), .row s.2.2.1 (l.take s.1).length s.2.2.2 61 2 (bkE.fl (l.take s.1)), .rd ao (bkE.fl l)]) (fun s => s.1 ≤ l.length ∧ s.1 ≤ 40) (fun s => l.length - s.1) (0, (none, 0), (none, 0)) [0, 1, 2] rfl rfl rfl rfl ⟨Nat.zero_le _, Nat.zero_le _⟩ ?_
  rintro ⟨i, ⟨bo, bc⟩, ⟨co, cc⟩⟩ ⟨hi, hi40⟩
  dsimp only at hi hi40 ⊢
  have htl : (l.take i).length = i := by rw [List.length_take]; omega
  ((try refine sx_use ?_); (repeat (refine SxNew.mk fun _ => ?_; (try refine sx_use ?_))))
  refine SxIf.dec (fun h => ?_) (fun h => ?_)
  · ((try refine sx_use ?_); (repeat (refine SxNew.mk fun _ => ?_; (try refine sx_use ?_))))
    refine SxIf.dec (fun h2 => ?_) (fun h2 => ?_)
    · have hlt : i < l.length := by omega
      obtain ⟨b, hb⟩ : ∃ b, l[i]? = some b := ⟨l[i], by simp [hlt]⟩
      have hsn : l.take (i + 1) = l.take i ++ [b] := by rw [List.take_add_one, hb]; rfl
      ((try refine sx_use ?_); (repeat (refine SxNew.mk fun _ => ?_; (try refine sx_use ?_))))
      refine SxCode.draw rfl [.rd ao (bkE.fl l)] [14] [2] rfl rfl ?_
      ((try refine sx_use ?_); (repeat (refine SxNew.mk fun _ => ?_; (try refine sx_use ?_))))
      refine SxIA.rd 0 _ rfl i rfl (by omega) (by rw [rowBk_len]; omega) fun g off ha => ?_
      ((try refine sx_use ?_); (repeat (refine SxNew.mk fun _ => ?_; (try refine sx_use ?_))))
      refine SxLd.rd 0 rfl ha rfl (rowBk_cell (j := 0) hb rfl) ?_
      ((try refine sx_use ?_); (repeat (refine SxNew.mk fun _ => ?_; (try refine sx_use ?_))))
      refine SxIA.rd 0 _ rfl i rfl (by omega) (by rw [rowBk_len]; omega) fun g off ha => ?_
      ((try refine sx_use ?_); (repeat (refine SxNew.mk fun _ => ?_; (try refine sx_use ?_))))
      refine SxLd.rd 0 rfl ha rfl (rowBk_cell (j := 1) hb rfl) ?_
      ((try refine sx_use ?_); (repeat (refine SxNew.mk fun _ => ?_; (try refine sx_use ?_))))
      refine SxStable.mk [3] rfl rfl ?_
      ((try refine sx_use ?_); (repeat (refine SxNew.mk fun _ => ?_; (try refine sx_use ?_))))
      refine SxApp.mk 1 rfl 0 (.inr (.inr (.inr ⟨by decide, _, rfl⟩))) (vs := bkC b) (m := 1) rfl rfl (by unfold maxLen; omega) (by omega) (cs' := bkE.fl (l.take i ++ [b])) (by rw [bkE.fl_append, bkE.fl_one]; rfl) fun x3 c3 => ?_
      ((try refine sx_use ?_); (repeat (refine SxNew.mk fun _ => ?_; (try refine sx_use ?_))))
      refine SxStable.mk [3] rfl rfl ?_
      ((try refine sx_use ?_); (repeat (refine SxNew.mk fun _ => ?_; (try refine sx_use ?_))))
      refine SxIA.rd 3 _ rfl i rfl (by omega) (by rw [rowBk_len]; omega) fun g off ha => ?_
      ((try refine sx_use ?_); (repeat (refine SxNew.mk fun _ => ?_; (try refine sx_use ?_))))
      refine SxLdN.rd 3 rfl ha rfl (vs := bkC b) rfl (rowBk_at hb) ?_
      ((try refine sx_use ?_); (repeat (refine SxNew.mk fun _ => ?_; (try refine sx_use ?_))))
      refine SxApp.mk 3 rfl 0 (.inr (.inr (.inr ⟨by decide, _, rfl⟩))) (vs := bkC b) (m := 1) rfl rfl (by unfold maxLen; omega) (by omega) (cs' := bkE.fl (l.take i ++ [b])) (by rw [bkE.fl_append, bkE.fl_one]; rfl) fun x4 c4 => ?_
      ((try refine sx_use ?_); (repeat (refine SxNew.mk fun _ => ?_; (try refine sx_use ?_))))
      exact SxRound.mk (i + 1, (x3, c3), (x4, c4)) [2, 3, 4] (by dsimp only; rw [hsn, List.length_append]; rfl) (by dsimp only; rw [hsn, List.length_append]; rfl) rfl ⟨hlt, by dsimp only; omega⟩ (by dsimp only; omega)
    · obtain rfl : i = 40 := by omega
      ((try refine sx_use ?_); (repeat (refine SxNew.mk fun _ => ?_; (try refine sx_use ?_))))
      exact SxDone.mk fun w' hs => ⟨_, _, _, _, rfl, hs.newRow 0 rfl, hs.newRow 1 rfl⟩
  · have e : l.take i = l.take 40 := by rw [List.take_of_length_le (by omega), List.take_of_length_le (by omega)]
    rw [e]
    ((try refine sx_use ?_); (repeat (refine SxNew.mk fun _ => ?_; (try refine sx_use ?_))))
    exact SxDone.mk fun w' hs => ⟨_, _, _, _, rfl, hs.newRow 0 rfl, hs.newRow 1 rfl⟩
theorem st_no_most (j : Nat) {most : Int} (s : List Bk) (q : List Bool) (hq : q.length = s.length) (h : most ≤ 0) : orL q (st j most s s.length).2 = q := by
  have := (st_stop (j := j) (s := s) (most := most) q hq (i := 0) (by simp only [st]; exact h) s.length (by omega)).2
  rw [Nat.zero_add] at this
  rw [this]
  exact orL_nil q
def bkA : Bk := ⟨[97], 4⟩
def bkB : Bk := ⟨[98], 5⟩
theorem kept_awake : (keptK ⟨0, 1, 0, 0⟩ [bkA, bkB]).1 = [bkB] := by
  have hs : sortK [bkA, bkB] = [bkB, bkA] := by rw [← sortR_eq]; decide
  have h0 : kp ⟨0, 1, 0, 0⟩ [bkB, bkA] 1 = [false, false] := st_no_most 0 [bkB, bkA] [false, false] rfl (Int.le_refl 0)
  have h1 : kp ⟨0, 1, 0, 0⟩ [bkB, bkA] 2 = [true, false] := by
    rw [kp, h0]
    have e1 : st 1 1 [bkB, bkA] 1 = ([5], [true]) := st_yes (i := 0) (b := bkB) rfl ⟨by simp [st], by decide⟩
    have e2 : st 1 1 [bkB, bkA] 2 = ([5], [true, false]) := by
      have := st_no (j := 1) (most := 1) (s := [bkB, bkA]) (i := 1) (b := bkA) rfl (by rw [e1]; simp)
      rw [e1] at this
      exact this
    show orL [false, false] (st 1 1 [bkB, bkA] 2).2 = _
    rw [e2]; rfl
  have h2 : kp ⟨0, 1, 0, 0⟩ [bkB, bkA] 3 = [true, false] := by rw [kp, h1]; exact st_no_most 2 [bkB, bkA] [true, false] rfl (Int.le_refl 0)
  have h3 : kp ⟨0, 1, 0, 0⟩ [bkB, bkA] 4 = [true, false] := by rw [kp, h2]; exact st_no_most 3 [bkB, bkA] [true, false] rfl (Int.le_refl 0)
  unfold keptK
  rw [hs, h3]
  rfl
theorem rt_awake (w : World) : Calls Try.prog 14 #[] w fun e w' => e = .returned (.bool true) ∧ Below w.heap.size w w' := by
  have hD : IsD 2000 3 1 := isDB_D (y := 2000) (m := 3) (d := 1) (by unfold isDB; decide)
  have h1 := Day_any 2000 3 1
  rw [if_pos (by unfold isDB; decide)] at h1
  have h2 := Week_in 730179 (by decide)
  have h3 := Month_in 2000 3 1 hD
  have h4 := fun (ao : Option Addr) (cap : Nat) (w : World) (hr : Rd w ao (bkE.fl [bkA, bkB])) => Keep_ok ⟨0, 1, 0, 0⟩ [bkA, bkB] (by decide) (by unfold mayP; decide) (by intro b hb; simp at hb; rcases hb with rfl | rfl <;> (unfold inDays; decide)) ao cap w hr
  rw [kept_awake] at h4
  refine sx_fn (S := SX) (M := []) (N := 69) (H0 := []) Try.func14 rfl rfl rfl (Sat.nil _ _) ?_
  ((try refine sx_use ?_); (repeat (refine SxNew.mk fun _ => ?_; (try refine sx_use ?_))))
  refine SxCall.quiet h1 ?_
  ((try refine sx_use ?_); (repeat (refine SxNew.mk fun _ => ?_; (try refine sx_use ?_))))
  refine SxCall.quiet h2 ?_
  ((try refine sx_use ?_); (repeat (refine SxNew.mk fun _ => ?_; (try refine sx_use ?_))))
  refine SxCall.quiet h3 ?_
  ((try refine sx_use ?_); (repeat (refine SxNew.mk fun _ => ?_; (try refine sx_use ?_))))
  refine SxCall.newRowB (v := fun a c => .tuple #[.slice a 1 c, .int .i64 0]) (fun w hs => h4 _ _ w (hs.rowRd 0 rfl (by decide))) fun ao cap hao hcap => ?_
  obtain ⟨ga, rfl⟩ := hao (by decide)
  ((try refine sx_use ?_); (repeat (refine SxNew.mk fun _ => ?_; (try refine sx_use ?_))))
  refine SxIA.row 0 _ _ _ rfl 0 rfl (by decide) fun g' hg' => ?_
  obtain rfl : ga = g' := by simpa using hg'
  ((try refine sx_use ?_); (repeat (refine SxNew.mk fun _ => ?_; (try refine sx_use ?_))))
  refine SxLd.row 0 rfl rfl rfl (v := .int .i64 5) rfl ?_
  ((try refine sx_use ?_); (repeat (refine SxNew.mk fun _ => ?_; (try refine sx_use ?_))))
  exact SxDone.mk fun w' hs => ⟨rfl, hs.touch.below⟩
end Go.Proofs.Ytiobcjahgmkmiaa
