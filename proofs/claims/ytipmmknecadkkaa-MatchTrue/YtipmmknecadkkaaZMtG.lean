/- Layer 19: News, Counts, Lengths, and the document's: printed by gen_mtg.py. -/
import Derived.Test.YtipmmknecadkkaaZMtB
import Derived.Test.YtipmmknecadkkaaZGen
namespace Go.Proofs.Ytipmmknecadkkaa
open Go.RowKit

def kindN (x : Int × Int) : Nat := if 0 ≤ x.1 then 0 else if 0 ≤ x.2 then 1 else 2
theorem kindN_lt (x : Int × Int) : kindN x < 3 := by unfold kindN; split; omega; split <;> omega
def sumK (fs : List (Int × Int)) (wt : Nat → Nat) (t : Nat) : Nat → Nat
  | 0 => 0
  | k + 1 => match fs[k]? with
    | some x => sumK fs wt t k + (if kindN x = t then wt k else 0)
    | none => sumK fs wt t k
theorem sumK_succ {fs : List (Int × Int)} {wt : Nat → Nat} {t k : Nat} {x : Int × Int} (h : fs[k]? = some x) : sumK fs wt t (k + 1) = sumK fs wt t k + (if kindN x = t then wt k else 0) := by rw [sumK, h]
theorem sumK_le (fs : List (Int × Int)) (wt : Nat → Nat) (t : Nat) (hw : ∀ i, wt i ≤ 1000000) : ∀ k, sumK fs wt t k ≤ k * 1000000
  | 0 => Nat.zero_le _
  | k + 1 => by
    have ih := sumK_le fs wt t hw k
    have h1 := hw k
    cases hx : fs[k]? with
    | none =>
      have e : sumK fs wt t (k + 1) = sumK fs wt t k := by rw [sumK, hx]
      omega
    | some x =>
      have e := sumK_succ (wt := wt) (t := t) hx
      by_cases hk : kindN x = t
      · rw [if_pos hk] at e; omega
      · rw [if_neg hk] at e; omega
def newsK (fs : List (Int × Int)) : Nat → List Nat
  | 0 => []
  | k + 1 => match fs[k]? with
    | some x => if freshB x then newsK fs k ++ [k] else newsK fs k
    | none => newsK fs k
theorem newsK_len (fs : List (Int × Int)) : ∀ k, (newsK fs k).length ≤ k
  | 0 => Nat.le_refl _
  | k + 1 => by
    have ih := newsK_len fs k
    unfold newsK
    split
    · split
      · rw [List.length_append]; simp; exact ih
      · omega
    · omega
set_option maxHeartbeats 4000000 in
theorem News_any (fs : List (Int × Int)) (hl : fs.length ≤ 100000) (fo : Option Addr) (fc : Nat) (w : World) (hr : Rd w fo (fdE.fl fs)) :
    Calls Try.prog 13 #[.slice fo fs.length fc] w fun e w' => ∃ ao' cap', e = .returned (.slice ao' (newsK fs fs.length).length cap') ∧ NewRow w w' ao' (newsK fs fs.length).length cap' 3 1 (natE.fl (newsK fs fs.length)) := by
  refine sx_fn (S := SX) (M := []) (N := 21) (H0 := [.row none 0 0 3 1 [], .rd fo (fdE.fl fs)]) Try.func13 rfl rfl rfl ((Sat.oneRd _ hr).nilRow 3 1) ?_
  ((try refine sx_use ?_); (repeat (refine SxNew.mk fun _ => ?_; (try refine sx_use ?_))))
  refine SxCode.loop (σ := Nat × Option Addr × Nat) [8, 3] [9, 10, 11, 12, 5, 4, 13, 14, 15, 16, 17, 18, 3, 19, 8] (fun x => [.int .i64 (x.1 : Nat), .slice x.2.1 (newsK fs x.1).length x.2.2]) (fun x => [.row x.2.1 (newsK fs x.1).length x.2.2 3 1 (natE.fl (newsK fs x.1)), .rd fo (fdE.fl fs)]) (fun x => x.1 ≤ fs.length) (fun x => fs.length - x.1) (0, none, 0) [0, 1] rfl rfl rfl rfl (Nat.zero_le _) ?_
  rintro ⟨k, ro, rc⟩ hk
  dsimp only at hk ⊢
  have hnl := newsK_len fs k
  ((try refine sx_use ?_); (repeat (refine SxNew.mk fun _ => ?_; (try refine sx_use ?_))))
  refine SxIf.dec (fun h => ?_) (fun h => ?_)
  · have hlt : k < fs.length := by omega
    obtain ⟨x, hx⟩ : ∃ x, fs[k]? = some x := ⟨fs[k], by simp [hlt]⟩
    have hsn : newsK fs (k + 1) = if freshB x then newsK fs k ++ [k] else newsK fs k := by rw [newsK, hx]
    ((try refine sx_use ?_); (repeat (refine SxNew.mk fun _ => ?_; (try refine sx_use ?_))))
    refine SxIA.rd 1 _ rfl k rfl hlt (by rw [fdE_len]; omega) fun g off ha => ?_
    ((try refine sx_use ?_); (repeat (refine SxNew.mk fun _ => ?_; (try refine sx_use ?_))))
    refine SxLdN.rd 1 rfl ha rfl (vs := fdC x) rfl (fdE_at hx) ?_
    ((try refine sx_use ?_); (repeat (refine SxNew.mk fun _ => ?_; (try refine sx_use ?_))))
    refine SxCall.quiet (fresh_any x) ?_
    ((try refine sx_use ?_); (repeat (refine SxNew.mk fun _ => ?_; (try refine sx_use ?_))))
    refine ⟨fun hf => ?_, fun hf => ?_⟩
    · rw [if_pos hf] at hsn
      ((try refine sx_use ?_); (repeat (refine SxNew.mk fun _ => ?_; (try refine sx_use ?_))))
      refine SxApp.mk 2 rfl 0 (.inr (.inr (.inr ⟨by decide, _, rfl⟩))) (vs := [.int .i64 (k : Nat)]) (m := 1) rfl rfl (by unfold maxLen; omega) (by omega) (cs' := natE.fl (newsK fs (k + 1))) (by rw [hsn, natE.fl_append]; rfl) fun ao' cap' => ?_
      ((try refine sx_use ?_); (repeat (refine SxNew.mk fun _ => ?_; (try refine sx_use ?_))))
      exact SxRound.mk (k + 1, ao', cap') [2, 3] (by dsimp only; rw [hsn, List.length_append]; rfl) (by dsimp only; rw [hsn, List.length_append]; rfl) rfl hlt (by dsimp only; omega)
    · rw [if_neg (by rw [hf]; simp)] at hsn
      ((try refine sx_use ?_); (repeat (refine SxNew.mk fun _ => ?_; (try refine sx_use ?_))))
      exact SxRound.mk (k + 1, ro, rc) [1, 2] (by dsimp only; rw [hsn]; rfl) (by dsimp only; rw [hsn]; rfl) rfl hlt (by dsimp only; omega)
  · obtain rfl : k = fs.length := by omega
    ((try refine sx_use ?_); (repeat (refine SxNew.mk fun _ => ?_; (try refine sx_use ?_))))
    exact SxDone.mk fun w' hs => ⟨ro, rc, rfl, hs.newRow 0 rfl⟩
set_option maxHeartbeats 4000000 in
theorem sumC_any (fs : List (Int × Int)) (hl : fs.length ≤ 100000) (fo : Option Addr) (fc : Nat) (wt : Nat → Nat) (hw : ∀ i, wt i ≤ 1000000) (w : World) (hr : Rd w fo (fdE.fl fs))
    (hc : ∀ i, i < fs.length → ∀ w1, Below w.heap.size w w1 → Calls Try.prog 31 #[.int .i64 (i : Nat)] w1 fun e w' => e = .returned (.int .i64 (wt i : Nat)) ∧ Below w1.heap.size w1 w') :
    Calls Try.prog 30 #[.slice fo fs.length fc, .func (.func 31) #[] #[]] w fun e w' => e = .returned (.tuple #[.int .i64 (sumK fs wt 0 fs.length : Nat), .int .i64 (sumK fs wt 1 fs.length : Nat), .int .i64 (sumK fs wt 2 fs.length : Nat)]) ∧ Below w.heap.size w w' := by
  refine sx_fn (S := SX) (M := []) (N := 43) (H0 := [.rd fo (fdE.fl fs)]) Try.func30 rfl rfl rfl (Sat.oneRd _ hr) ?_
  ((try refine sx_use ?_); (repeat (refine SxNew.mk fun _ => ?_; (try refine sx_use ?_))))
  refine SxCode.loop (σ := Nat) [11, 4, 5, 6] [12, 13, 14, 15, 8, 7, 22, 23, 24, 21, 25, 26, 27, 28, 29, 4, 31, 32, 33, 30, 34, 35, 36, 37, 38, 5, 16, 17, 18, 19, 20, 6, 39, 11] (fun k => [.int .i64 (k : Nat), .int .i64 (sumK fs wt 0 k : Nat), .int .i64 (sumK fs wt 1 k : Nat), .int .i64 (sumK fs wt 2 k : Nat)]) (fun _ => [.rd fo (fdE.fl fs)]) (fun k => k ≤ fs.length) (fun k => fs.length - k) 0 [0] rfl rfl rfl rfl (Nat.zero_le _) ?_
  rintro k hk
  have b0 := sumK_le fs wt 0 hw k
  have b1 := sumK_le fs wt 1 hw k
  have b2 := sumK_le fs wt 2 hw k
  have hwk := hw k
  ((try refine sx_use ?_); (repeat (refine SxNew.mk fun _ => ?_; (try refine sx_use ?_))))
  refine SxIf.dec (fun h => ?_) (fun h => ?_)
  · have hlt : k < fs.length := by omega
    obtain ⟨x, hx⟩ : ∃ x, fs[k]? = some x := ⟨fs[k], by simp [hlt]⟩
    ((try refine sx_use ?_); (repeat (refine SxNew.mk fun _ => ?_; (try refine sx_use ?_))))
    refine SxIA.rd 0 _ rfl k rfl hlt (by rw [fdE_len]; omega) fun g off ha => ?_
    ((try refine sx_use ?_); (repeat (refine SxNew.mk fun _ => ?_; (try refine sx_use ?_))))
    refine SxLdN.rd 0 rfl ha rfl (vs := fdC x) rfl (fdE_at hx) ?_
    ((try refine sx_use ?_); (repeat (refine SxNew.mk fun _ => ?_; (try refine sx_use ?_))))
    refine SxIf.dec (fun h1 => ?_) (fun h1 => ?_)
    · have h1' : 0 ≤ x.1 := by omega
      have hkd : kindN x = 0 := by unfold kindN; rw [if_pos h1']
      have s0 : sumK fs wt 0 (k + 1) = sumK fs wt 0 k + (if kindN x = 0 then wt k else 0) := sumK_succ hx
      have s1 : sumK fs wt 1 (k + 1) = sumK fs wt 1 k + (if kindN x = 1 then wt k else 0) := sumK_succ hx
      have s2 : sumK fs wt 2 (k + 1) = sumK fs wt 2 k + (if kindN x = 2 then wt k else 0) := sumK_succ hx
      rw [hkd] at s0 s1 s2
      simp only [if_true, if_neg (show ¬ (0 : Nat) = 1 by decide), if_neg (show ¬ (0 : Nat) = 2 by decide), Nat.add_zero] at s0 s1 s2
      ((try refine sx_use ?_); (repeat (refine SxNew.mk fun _ => ?_; (try refine sx_use ?_))))
      refine SxCall.quietS (fun w1 hs => hc k hlt w1 hs.touch.below) ?_
      ((try refine sx_use ?_); (repeat (refine SxNew.mk fun _ => ?_; (try refine sx_use ?_))))
      exact SxRound.mk (k + 1) [1] (by rw [s0, s1, s2]; rfl) rfl rfl hlt (by omega)
    ((try refine sx_use ?_); (repeat (refine SxNew.mk fun _ => ?_; (try refine sx_use ?_))))
    refine SxIf.dec (fun h2 => ?_) (fun h2 => ?_)
    · have h1' : ¬ 0 ≤ x.1 := by omega
      have h2' : 0 ≤ x.2 := by omega
      have hkd : kindN x = 1 := by unfold kindN; rw [if_neg h1', if_pos h2']
      have s0 : sumK fs wt 0 (k + 1) = sumK fs wt 0 k + (if kindN x = 0 then wt k else 0) := sumK_succ hx
      have s1 : sumK fs wt 1 (k + 1) = sumK fs wt 1 k + (if kindN x = 1 then wt k else 0) := sumK_succ hx
      have s2 : sumK fs wt 2 (k + 1) = sumK fs wt 2 k + (if kindN x = 2 then wt k else 0) := sumK_succ hx
      rw [hkd] at s0 s1 s2
      simp only [if_true, if_neg (show ¬ (1 : Nat) = 0 by decide), if_neg (show ¬ (1 : Nat) = 2 by decide), Nat.add_zero] at s0 s1 s2
      ((try refine sx_use ?_); (repeat (refine SxNew.mk fun _ => ?_; (try refine sx_use ?_))))
      refine SxCall.quietS (fun w1 hs => hc k hlt w1 hs.touch.below) ?_
      ((try refine sx_use ?_); (repeat (refine SxNew.mk fun _ => ?_; (try refine sx_use ?_))))
      exact SxRound.mk (k + 1) [1] (by rw [s0, s1, s2]; rfl) rfl rfl hlt (by omega)
    · have h1' : ¬ 0 ≤ x.1 := by omega
      have h2' : ¬ 0 ≤ x.2 := by omega
      have hkd : kindN x = 2 := by unfold kindN; rw [if_neg h1', if_neg h2']
      have s0 : sumK fs wt 0 (k + 1) = sumK fs wt 0 k + (if kindN x = 0 then wt k else 0) := sumK_succ hx
      have s1 : sumK fs wt 1 (k + 1) = sumK fs wt 1 k + (if kindN x = 1 then wt k else 0) := sumK_succ hx
      have s2 : sumK fs wt 2 (k + 1) = sumK fs wt 2 k + (if kindN x = 2 then wt k else 0) := sumK_succ hx
      rw [hkd] at s0 s1 s2
      simp only [if_true, if_neg (show ¬ (2 : Nat) = 0 by decide), if_neg (show ¬ (2 : Nat) = 1 by decide), Nat.add_zero] at s0 s1 s2
      ((try refine sx_use ?_); (repeat (refine SxNew.mk fun _ => ?_; (try refine sx_use ?_))))
      refine SxCall.quietS (fun w1 hs => hc k hlt w1 hs.touch.below) ?_
      ((try refine sx_use ?_); (repeat (refine SxNew.mk fun _ => ?_; (try refine sx_use ?_))))
      exact SxRound.mk (k + 1) [1] (by rw [s0, s1, s2]; rfl) rfl rfl hlt (by omega)
  · obtain rfl : k = fs.length := by omega
    ((try refine sx_use ?_); (repeat (refine SxNew.mk fun _ => ?_; (try refine sx_use ?_))))
    exact SxDone.mk fun w' hs => ⟨rfl, hs.touch.below⟩
set_option maxHeartbeats 4000000 in
theorem sumL_any (fs : List (Int × Int)) (hl : fs.length ≤ 100000) (fo : Option Addr) (fc : Nat) (g1 : Nat) (wt : Nat → Nat) (hw : ∀ i, wt i ≤ 1000000) (w : World) (hr : Rd w fo (fdE.fl fs))
    (hc : ∀ i, i < fs.length → ∀ w1, Below w.heap.size w w1 → Calls Try.prog 32 #[.int .i64 (i : Nat), .pointer (some ⟨g1, 0, none⟩)] w1 fun e w' => e = .returned (.int .i64 (wt i : Nat)) ∧ Below w1.heap.size w1 w') :
    Calls Try.prog 30 #[.slice fo fs.length fc, .func (.func 32) #[] #[.pointer (some ⟨g1, 0, none⟩)]] w fun e w' => e = .returned (.tuple #[.int .i64 (sumK fs wt 0 fs.length : Nat), .int .i64 (sumK fs wt 1 fs.length : Nat), .int .i64 (sumK fs wt 2 fs.length : Nat)]) ∧ Below w.heap.size w w' := by
  refine sx_fn (S := SX) (M := []) (N := 43) (H0 := [.rd fo (fdE.fl fs)]) Try.func30 rfl rfl rfl (Sat.oneRd _ hr) ?_
  ((try refine sx_use ?_); (repeat (refine SxNew.mk fun _ => ?_; (try refine sx_use ?_))))
  refine SxCode.loop (σ := Nat) [11, 4, 5, 6] [12, 13, 14, 15, 8, 7, 22, 23, 24, 21, 25, 26, 27, 28, 29, 4, 31, 32, 33, 30, 34, 35, 36, 37, 38, 5, 16, 17, 18, 19, 20, 6, 39, 11] (fun k => [.int .i64 (k : Nat), .int .i64 (sumK fs wt 0 k : Nat), .int .i64 (sumK fs wt 1 k : Nat), .int .i64 (sumK fs wt 2 k : Nat)]) (fun _ => [.rd fo (fdE.fl fs)]) (fun k => k ≤ fs.length) (fun k => fs.length - k) 0 [0] rfl rfl rfl rfl (Nat.zero_le _) ?_
  rintro k hk
  have b0 := sumK_le fs wt 0 hw k
  have b1 := sumK_le fs wt 1 hw k
  have b2 := sumK_le fs wt 2 hw k
  have hwk := hw k
  ((try refine sx_use ?_); (repeat (refine SxNew.mk fun _ => ?_; (try refine sx_use ?_))))
  refine SxIf.dec (fun h => ?_) (fun h => ?_)
  · have hlt : k < fs.length := by omega
    obtain ⟨x, hx⟩ : ∃ x, fs[k]? = some x := ⟨fs[k], by simp [hlt]⟩
    ((try refine sx_use ?_); (repeat (refine SxNew.mk fun _ => ?_; (try refine sx_use ?_))))
    refine SxIA.rd 0 _ rfl k rfl hlt (by rw [fdE_len]; omega) fun g off ha => ?_
    ((try refine sx_use ?_); (repeat (refine SxNew.mk fun _ => ?_; (try refine sx_use ?_))))
    refine SxLdN.rd 0 rfl ha rfl (vs := fdC x) rfl (fdE_at hx) ?_
    ((try refine sx_use ?_); (repeat (refine SxNew.mk fun _ => ?_; (try refine sx_use ?_))))
    refine SxIf.dec (fun h1 => ?_) (fun h1 => ?_)
    · have h1' : 0 ≤ x.1 := by omega
      have hkd : kindN x = 0 := by unfold kindN; rw [if_pos h1']
      have s0 : sumK fs wt 0 (k + 1) = sumK fs wt 0 k + (if kindN x = 0 then wt k else 0) := sumK_succ hx
      have s1 : sumK fs wt 1 (k + 1) = sumK fs wt 1 k + (if kindN x = 1 then wt k else 0) := sumK_succ hx
      have s2 : sumK fs wt 2 (k + 1) = sumK fs wt 2 k + (if kindN x = 2 then wt k else 0) := sumK_succ hx
      rw [hkd] at s0 s1 s2
      simp only [if_true, if_neg (show ¬ (0 : Nat) = 1 by decide), if_neg (show ¬ (0 : Nat) = 2 by decide), Nat.add_zero] at s0 s1 s2
      ((try refine sx_use ?_); (repeat (refine SxNew.mk fun _ => ?_; (try refine sx_use ?_))))
      refine SxCall.quietS (fun w1 hs => hc k hlt w1 hs.touch.below) ?_
      ((try refine sx_use ?_); (repeat (refine SxNew.mk fun _ => ?_; (try refine sx_use ?_))))
      exact SxRound.mk (k + 1) [1] (by rw [s0, s1, s2]; rfl) rfl rfl hlt (by omega)
    ((try refine sx_use ?_); (repeat (refine SxNew.mk fun _ => ?_; (try refine sx_use ?_))))
    refine SxIf.dec (fun h2 => ?_) (fun h2 => ?_)
    · have h1' : ¬ 0 ≤ x.1 := by omega
      have h2' : 0 ≤ x.2 := by omega
      have hkd : kindN x = 1 := by unfold kindN; rw [if_neg h1', if_pos h2']
      have s0 : sumK fs wt 0 (k + 1) = sumK fs wt 0 k + (if kindN x = 0 then wt k else 0) := sumK_succ hx
      have s1 : sumK fs wt 1 (k + 1) = sumK fs wt 1 k + (if kindN x = 1 then wt k else 0) := sumK_succ hx
      have s2 : sumK fs wt 2 (k + 1) = sumK fs wt 2 k + (if kindN x = 2 then wt k else 0) := sumK_succ hx
      rw [hkd] at s0 s1 s2
      simp only [if_true, if_neg (show ¬ (1 : Nat) = 0 by decide), if_neg (show ¬ (1 : Nat) = 2 by decide), Nat.add_zero] at s0 s1 s2
      ((try refine sx_use ?_); (repeat (refine SxNew.mk fun _ => ?_; (try refine sx_use ?_))))
      refine SxCall.quietS (fun w1 hs => hc k hlt w1 hs.touch.below) ?_
      ((try refine sx_use ?_); (repeat (refine SxNew.mk fun _ => ?_; (try refine sx_use ?_))))
      exact SxRound.mk (k + 1) [1] (by rw [s0, s1, s2]; rfl) rfl rfl hlt (by omega)
    · have h1' : ¬ 0 ≤ x.1 := by omega
      have h2' : ¬ 0 ≤ x.2 := by omega
      have hkd : kindN x = 2 := by unfold kindN; rw [if_neg h1', if_neg h2']
      have s0 : sumK fs wt 0 (k + 1) = sumK fs wt 0 k + (if kindN x = 0 then wt k else 0) := sumK_succ hx
      have s1 : sumK fs wt 1 (k + 1) = sumK fs wt 1 k + (if kindN x = 1 then wt k else 0) := sumK_succ hx
      have s2 : sumK fs wt 2 (k + 1) = sumK fs wt 2 k + (if kindN x = 2 then wt k else 0) := sumK_succ hx
      rw [hkd] at s0 s1 s2
      simp only [if_true, if_neg (show ¬ (2 : Nat) = 0 by decide), if_neg (show ¬ (2 : Nat) = 1 by decide), Nat.add_zero] at s0 s1 s2
      ((try refine sx_use ?_); (repeat (refine SxNew.mk fun _ => ?_; (try refine sx_use ?_))))
      refine SxCall.quietS (fun w1 hs => hc k hlt w1 hs.touch.below) ?_
      ((try refine sx_use ?_); (repeat (refine SxNew.mk fun _ => ?_; (try refine sx_use ?_))))
      exact SxRound.mk (k + 1) [1] (by rw [s0, s1, s2]; rfl) rfl rfl hlt (by omega)
  · obtain rfl : k = fs.length := by omega
    ((try refine sx_use ?_); (repeat (refine SxNew.mk fun _ => ?_; (try refine sx_use ?_))))
    exact SxDone.mk fun w' hs => ⟨rfl, hs.touch.below⟩
theorem Counts1_any (i : Int) (w : World) : Calls Try.prog 31 #[.int .i64 i] w fun e w' => e = .returned (.int .i64 ((1 : Nat) : Int)) ∧ Below w.heap.size w w' := by
  refine sx_fn (S := SX) (M := []) (N := 3) (H0 := []) Try.func31 rfl rfl rfl (Sat.nil _ _) ?_
  ((try refine sx_use ?_); (repeat (refine SxNew.mk fun _ => ?_; (try refine sx_use ?_))))
  exact SxDone.mk fun w' hs => ⟨rfl, hs.touch.below⟩
theorem Counts_any (fs : List (Int × Int)) (hl : fs.length ≤ 100000) (fo : Option Addr) (fc : Nat) (w : World) (hr : Rd w fo (fdE.fl fs)) :
    Calls Try.prog 15 #[.slice fo fs.length fc] w fun e w' => e = .returned (.tuple #[.int .i64 (sumK fs (fun _ => 1) 0 fs.length : Nat), .int .i64 (sumK fs (fun _ => 1) 1 fs.length : Nat), .int .i64 (sumK fs (fun _ => 1) 2 fs.length : Nat)]) ∧ Below w.heap.size w w' := by
  refine sx_fn (S := SX) (M := []) (N := 10) (H0 := [.rd fo (fdE.fl fs)]) Try.func15 rfl rfl rfl (Sat.oneRd _ hr) ?_
  ((try refine sx_use ?_); (repeat (refine SxNew.mk fun _ => ?_; (try refine sx_use ?_))))
  refine SxCall.quietS (fun w1 hs => sumC_any fs hl fo fc (fun _ => 1) (fun _ => by decide) w1 (hs.rd 0 rfl) fun i _ w2 _ => Counts1_any (i : Nat) w2) ?_
  ((try refine sx_use ?_); (repeat (refine SxNew.mk fun _ => ?_; (try refine sx_use ?_))))
  exact SxDone.mk fun w' hs => ⟨rfl, hs.touch.below⟩
def lenW (cs : List ByteArray) (i : Nat) : Nat := match cs[i]? with
  | some c => c.size
  | none => 0
theorem Lengths1_any (cs : List ByteArray) (i : Nat) (hi : i < cs.length) (so : Option Addr) (sc g1 : Nat) (w : World) (h1 : Rd w (some ⟨g1, 0, none⟩) [.slice so cs.length sc]) (hr : Rd w so (strE.fl cs)) : Calls Try.prog 32 #[.int .i64 (i : Nat), .pointer (some ⟨g1, 0, none⟩)] w fun e w' => e = .returned (.int .i64 (lenW cs i : Nat)) ∧ Below w.heap.size w w' := by
  obtain ⟨x, hx⟩ : ∃ x, cs[i]? = some x := ⟨cs[i], by simp [hi]⟩
  have hcl : cs.length * 1 ≤ maxLen := by have := hr.1; rw [strE_len] at this; exact this
  have hv : lenW cs i = x.size := by unfold lenW; rw [hx]
  rw [hv]
  refine sx_fn (S := SX) (M := []) (N := 9) (H0 := [.rd (some ⟨g1, 0, none⟩) [.slice so cs.length sc], .rd so (strE.fl cs)]) Try.func32 rfl rfl rfl (Sat.twoRd _ h1 hr) ?_
  ((try refine sx_use ?_); (repeat (refine SxNew.mk fun _ => ?_; (try refine sx_use ?_))))
  (try refine SxLd.rd 0 rfl rfl (j := 0) rfl rfl ?_)
  (try ((try refine sx_use ?_); (repeat (refine SxNew.mk fun _ => ?_; (try refine sx_use ?_)))))
  refine SxIA.rd 1 _ rfl i rfl hi (by rw [strE_len]; omega) fun g off ha => ?_
  ((try refine sx_use ?_); (repeat (refine SxNew.mk fun _ => ?_; (try refine sx_use ?_))))
  refine SxLd.rd 1 rfl ha rfl (j := i * 1) (strE_at hx) ?_
  ((try refine sx_use ?_); (repeat (refine SxNew.mk fun _ => ?_; (try refine sx_use ?_))))
  exact SxDone.mk fun w' hs => ⟨rfl, hs.touch.below⟩
theorem Lengths_any (cs : List ByteArray) (fs : List (Int × Int)) (hle : fs.length = cs.length) (hl : fs.length ≤ 100000) (hsz : ∀ i, lenW cs i ≤ 1000000) (so fo : Option Addr) (sc fc : Nat) (hfc : fs.length ≤ fc) (w : World) (hs : Rd w so (strE.fl cs)) (hr : Rd w fo (fdE.fl fs)) :
    Calls Try.prog 16 #[.slice so cs.length sc, .slice fo fs.length fc] w fun e w' => e = .returned (.tuple #[.int .i64 (sumK fs (lenW cs) 0 fs.length : Nat), .int .i64 (sumK fs (lenW cs) 1 fs.length : Nat), .int .i64 (sumK fs (lenW cs) 2 fs.length : Nat)]) ∧ Below w.heap.size w w' := by
  refine sx_fn (S := SX) (M := []) (N := 21) (H0 := [.rd so (strE.fl cs), .rd fo (fdE.fl fs)]) Try.func16 rfl rfl rfl (Sat.twoRd _ hs hr) ?_
  ((try refine sx_use ?_); (repeat (refine SxNew.mk fun _ => ?_; (try refine sx_use ?_))))
  refine SxBnd.mk 0 fs.length rfl (by omega) (by omega) hfc fun o1 a1 a2 => ?_
  ((try refine sx_use ?_); (repeat (refine SxNew.mk fun _ => ?_; (try refine sx_use ?_))))
  rename_i bc
  refine SxCall.quietS (v := .tuple #[.int .i64 (sumK fs (lenW cs) 0 fs.length : Nat), .int .i64 (sumK fs (lenW cs) 1 fs.length : Nat), .int .i64 (sumK fs (lenW cs) 2 fs.length : Nat)]) (fun w1 hs => by
    have h8 := (hs.rd 2 rfl).sub (ao' := o1) 0 (fs.length * 2) (fun hz => by rw [fdE_len] at hz; exact a1 (by omega))
    rw [List.drop_zero, List.take_of_length_le (by rw [fdE_len]; exact Nat.le_refl _)] at h8
    exact sumL_any fs hl o1 _ bc (lenW cs) hsz w1 h8 fun i hi w2 hb2 => Lengths1_any cs i (by omega) so sc bc w2 ((Rd.of_blk (hs.blk 0 rfl) (by show 1 ≤ maxLen; decide)).kept hb2) ((hs.rd 1 rfl).kept hb2)) ?_
  ((try refine sx_use ?_); (repeat (refine SxNew.mk fun _ => ?_; (try refine sx_use ?_))))
  exact SxDone.mk fun w' hs => ⟨rfl, hs.touch.below⟩
theorem RKind_any (x : Int × Int) (w : World) : Calls Try.prog 14 #[.agg (fdC x).toArray] w fun e w' => e = .returned (.int .i64 (kindN x : Nat)) ∧ Below w.heap.size w w' := by
  refine sx_fn (S := SX) (M := []) (N := 9) (H0 := []) Try.func14 rfl rfl rfl (Sat.nil _ _) ?_
  ((try refine sx_use ?_); (repeat (refine SxNew.mk fun _ => ?_; (try refine sx_use ?_))))
  refine SxIf.dec (fun h1 => ?_) (fun h1 => ?_)
  · have h1' : 0 ≤ x.1 := by omega
    ((try refine sx_use ?_); (repeat (refine SxNew.mk fun _ => ?_; (try refine sx_use ?_))))
    exact SxDone.mk fun w' hs => ⟨by unfold kindN; rw [if_pos h1']; rfl, hs.touch.below⟩
  · have h1' : ¬ 0 ≤ x.1 := by omega
    ((try refine sx_use ?_); (repeat (refine SxNew.mk fun _ => ?_; (try refine sx_use ?_))))
    refine SxIf.dec (fun h2 => ?_) (fun h2 => ?_)
    · have h2' : 0 ≤ x.2 := by omega
      ((try refine sx_use ?_); (repeat (refine SxNew.mk fun _ => ?_; (try refine sx_use ?_))))
      exact SxDone.mk fun w' hs => ⟨by unfold kindN; rw [if_neg h1', if_pos h2']; rfl, hs.touch.below⟩
    · have h2' : ¬ 0 ≤ x.2 := by omega
      ((try refine sx_use ?_); (repeat (refine SxNew.mk fun _ => ?_; (try refine sx_use ?_))))
      exact SxDone.mk fun w' hs => ⟨by unfold kindN; rw [if_neg h1', if_neg h2']; rfl, hs.touch.below⟩
def three (f : Nat → Nat) : List Value := [.int .i64 (f 0 : Nat), .int .i64 (f 1 : Nat), .int .i64 (f 2 : Nat)]
theorem three_at (f : Nat → Nat) {j : Nat} (h : j < 3) : (three f)[j * 1]? = some (.int .i64 (f j : Nat)) := by
  match j, h with
  | 0, _ => rfl
  | 1, _ => rfl
  | 2, _ => rfl
theorem three_set (f : Nat → Nat) {j : Nat} (h : j < 3) (v : Nat) : splice (j * 1) [Value.int .i64 (v : Nat)] (three f) = three (fun t => if t = j then v else f t) := by
  match j, h with
  | 0, _ => rfl
  | 1, _ => rfl
  | 2, _ => rfl
theorem three_len (f : Nat → Nat) : (three f).length = 3 := rfl
set_option maxHeartbeats 8000000 in
theorem RSums_any (cs : List ByteArray) (fs : List (Int × Int)) (hle : fs.length = cs.length) (hl : fs.length ≤ 100000) (hsz : ∀ i, lenW cs i ≤ 1000000) (so fo : Option Addr) (sc fc : Nat) (w : World) (hs : Rd w so (strE.fl cs)) (hr : Rd w fo (fdE.fl fs)) :
    Calls Try.prog 17 #[.slice so cs.length sc, .slice fo fs.length fc] w fun e w' => ∃ g1 g2, e = .returned (.tuple #[.slice (some ⟨g1, 0, none⟩) 3 3, .slice (some ⟨g2, 0, none⟩) 3 3]) ∧ NewRow w w' (some ⟨g1, 0, none⟩) 3 3 3 1 (three fun t => sumK fs (fun _ => 1) t fs.length) ∧ NewRow w w' (some ⟨g2, 0, none⟩) 3 3 3 1 (three fun t => sumK fs (lenW cs) t fs.length) := by
  refine sx_fn (S := SX) (M := []) (N := 48) (H0 := [.rd so (strE.fl cs), .rd fo (fdE.fl fs)]) Try.func17 rfl rfl rfl (Sat.twoRd _ hs hr) ?_
  ((try refine sx_use ?_); (repeat (refine SxNew.mk fun _ => ?_; (try refine sx_use ?_))))
  rename_i g1 g2
  refine SxCode.loop (σ := Nat) [8] [12, 13, 14, 15, 18, 19, 20, 21, 22, 9, 23, 24, 25, 26, 27, 28, 29, 30, 31, 32, 33, 34, 35, 36, 37, 38, 39, 40, 41, 42, 43, 44, 45, 16, 17, 8] (fun k => [.int .i64 (k : Nat)]) (fun k => [.row (some ⟨g2, 0, none⟩) 3 3 3 1 (three fun t => sumK fs (lenW cs) t k), .row (some ⟨g1, 0, none⟩) 3 3 3 1 (three fun t => sumK fs (fun _ => 1) t k), .rd so (strE.fl cs), .rd fo (fdE.fl fs)]) (fun k => k ≤ fs.length) (fun k => fs.length - k) 0 [0, 1, 2, 3] rfl rfl rfl rfl (Nat.zero_le _) ?_
  rintro k hk
  have c1 := fun t => sumK_le fs (fun _ => 1) t (fun _ => by decide) k
  have c2 := fun t => sumK_le fs (lenW cs) t hsz k
  ((try refine sx_use ?_); (repeat (refine SxNew.mk fun _ => ?_; (try refine sx_use ?_))))
  refine SxIf.dec (fun h => ?_) (fun h => ?_)
  · have hlt : k < fs.length := by omega
    obtain ⟨x, hx⟩ : ∃ x, fs[k]? = some x := ⟨fs[k], by simp [hlt]⟩
    obtain ⟨c, hc⟩ : ∃ c, cs[k]? = some c := ⟨cs[k]'(by omega), by simp [show k < cs.length by omega]⟩
    have hlw : lenW cs k = c.size := by unfold lenW; rw [hc]
    have hwk := hsz k
    have hkl := kindN_lt x
    have d1 := c1 (kindN x)
    have d2 := c2 (kindN x)
    have e1 : (three fun t => if t = kindN x then sumK fs (fun _ => 1) (kindN x) k + 1 else sumK fs (fun _ => 1) t k) = three fun t => sumK fs (fun _ => 1) t (k + 1) := by
      congr 1; funext t; rw [sumK_succ hx]
      by_cases ht : t = kindN x
      · subst ht; simp
      · rw [if_neg ht, if_neg fun e => ht e.symm, Nat.add_zero]
    have e2 : (three fun t => if t = kindN x then sumK fs (lenW cs) (kindN x) k + c.size else sumK fs (lenW cs) t k) = three fun t => sumK fs (lenW cs) t (k + 1) := by
      congr 1; funext t; rw [sumK_succ hx, hlw]
      by_cases ht : t = kindN x
      · subst ht; simp
      · rw [if_neg ht, if_neg fun e => ht e.symm, Nat.add_zero]
    ((try refine sx_use ?_); (repeat (refine SxNew.mk fun _ => ?_; (try refine sx_use ?_))))
    refine SxIA.rd 3 _ rfl k rfl hlt (by rw [fdE_len]; omega) fun g off ha => ?_
    ((try refine sx_use ?_); (repeat (refine SxNew.mk fun _ => ?_; (try refine sx_use ?_))))
    refine SxLdN.rd 3 rfl ha rfl (vs := fdC x) rfl (fdE_at hx) ?_
    ((try refine sx_use ?_); (repeat (refine SxNew.mk fun _ => ?_; (try refine sx_use ?_))))
    refine SxCall.quiet (RKind_any x) ?_
    ((try refine sx_use ?_); (repeat (refine SxNew.mk fun _ => ?_; (try refine sx_use ?_))))
    refine SxIA.row 1 _ _ _ rfl (kindN x) rfl hkl fun g' hg' => ?_
    obtain rfl : g1 = g' := by simpa using hg'
    ((try refine sx_use ?_); (repeat (refine SxNew.mk fun _ => ?_; (try refine sx_use ?_))))
    refine SxLd.row 1 rfl rfl (j := kindN x * 1) rfl (three_at _ hkl) ?_
    ((try refine sx_use ?_); (repeat (refine SxNew.mk fun _ => ?_; (try refine sx_use ?_))))
    (try refine SxRng.i64 (by omega) (by omega) ?_)
    (try ((try refine sx_use ?_); (repeat (refine SxNew.mk fun _ => ?_; (try refine sx_use ?_)))))
    refine SxIA.row 1 _ _ _ rfl (kindN x) rfl hkl fun g' hg' => ?_
    obtain rfl : g1 = g' := by simpa using hg'
    ((try refine sx_use ?_); (repeat (refine SxNew.mk fun _ => ?_; (try refine sx_use ?_))))
    refine SxSt.row 1 rfl rfl (j := kindN x * 1) rfl (by rw [three_len]; show kindN x * 1 + 1 ≤ 3; omega) rfl (three_set _ hkl (sumK fs (fun _ => 1) (kindN x) k + 1)) ?_
    rw [e1]
    ((try refine sx_use ?_); (repeat (refine SxNew.mk fun _ => ?_; (try refine sx_use ?_))))
    (try refine SxIf.yes (by omega) ?_)
    (try ((try refine sx_use ?_); (repeat (refine SxNew.mk fun _ => ?_; (try refine sx_use ?_)))))
    refine SxCode.draw rfl [.row (some ⟨g2, 0, none⟩) 3 3 3 1 (three fun t => sumK fs (lenW cs) t k), .rd so (strE.fl cs)] [13] [0, 2] rfl rfl ?_
    ((try refine sx_use ?_); (repeat (refine SxNew.mk fun _ => ?_; (try refine sx_use ?_))))
    refine SxIA.row 0 _ _ _ rfl (kindN x) rfl hkl fun g' hg' => ?_
    obtain rfl : g2 = g' := by simpa using hg'
    ((try refine sx_use ?_); (repeat (refine SxNew.mk fun _ => ?_; (try refine sx_use ?_))))
    refine SxLd.row 0 rfl rfl (j := kindN x * 1) rfl (three_at _ hkl) ?_
    ((try refine sx_use ?_); (repeat (refine SxNew.mk fun _ => ?_; (try refine sx_use ?_))))
    refine SxIA.rd 1 _ rfl k rfl (by omega) (by rw [strE_len]; omega) fun g off ha => ?_
    ((try refine sx_use ?_); (repeat (refine SxNew.mk fun _ => ?_; (try refine sx_use ?_))))
    refine SxLd.rd 1 rfl ha rfl (j := k * 1) (strE_at hc) ?_
    ((try refine sx_use ?_); (repeat (refine SxNew.mk fun _ => ?_; (try refine sx_use ?_))))
    (try refine SxRng.i64 (by omega) (by omega) ?_)
    (try ((try refine sx_use ?_); (repeat (refine SxNew.mk fun _ => ?_; (try refine sx_use ?_)))))
    refine SxIA.row 0 _ _ _ rfl (kindN x) rfl hkl fun g' hg' => ?_
    obtain rfl : g2 = g' := by simpa using hg'
    ((try refine sx_use ?_); (repeat (refine SxNew.mk fun _ => ?_; (try refine sx_use ?_))))
    refine SxSt.row 0 rfl rfl (j := kindN x * 1) rfl (by rw [three_len]; show kindN x * 1 + 1 ≤ 3; omega) rfl (three_set _ hkl (sumK fs (lenW cs) (kindN x) k + c.size)) ?_
    rw [e2]
    ((try refine sx_use ?_); (repeat (refine SxNew.mk fun _ => ?_; (try refine sx_use ?_))))
    exact SxRound.mk (k + 1) [0, 1, 2, 3] rfl rfl rfl hlt (by omega)
  · obtain rfl : k = fs.length := by omega
    ((try refine sx_use ?_); (repeat (refine SxNew.mk fun _ => ?_; (try refine sx_use ?_))))
    exact SxDone.mk fun w' hs => ⟨g1, g2, rfl, hs.newRow 1 rfl, hs.newRow 0 rfl⟩
end Go.Proofs.Ytipmmknecadkkaa
