/- The walks of layer 7: hooks of lists; what lists have in common. -/
import Derived.Test.YtffkjbcelbfejaaZHkH
namespace Go.Proofs.Ytffkjbcelbfejaa
open Go.RowKit

theorem filter_snoc {α : Type} (p : α → Bool) {l : List α} {i : Nat} {x : α} (h : l[i]? = some x) : (l.take (i + 1)).filter p = if p x = true then (l.take i).filter p ++ [x] else (l.take i).filter p := by
  rw [take_snocE h, List.filter_append]
  by_cases hp : p x = true
  · rw [if_pos hp, List.filter_cons_of_pos hp]; rfl
  · rw [if_neg hp, List.filter_cons_of_neg hp, List.filter_nil, List.append_nil]
theorem filter_len {α : Type} (p : α → Bool) (l : List α) (i : Nat) : ((l.take i).filter p).length ≤ i := by
  have h := List.length_filter_le p (l.take i)
  rw [List.length_take] at h
  omega
theorem hHas_any (l : List Fp) (x : Fp) (ao : Option Addr) (cap : Nat) (w : World) (hr : Rd w ao (fpE.fl l)) :
    Calls Try.prog 24 #[.slice ao l.length cap, fpV x.1] w fun e w' => e = .returned (.bool (decide (x ∈ l))) ∧ Below w.heap.size w w' := by
  refine sx_fn (S := SX) (M := []) (N := 8) (H0 := [.rd ao (fpE.fl l)]) Try.func24 rfl rfl rfl (Sat.oneRd _ hr) ?_
  ((try refine sx_use ?_); (repeat (refine SxNew.mk fun _ => ?_; (try refine sx_use ?_))))
  refine SxLdN.blk 0 rfl (vs := fpE.enc x) (fpE.len x) (rowFp_all x) ?_
  ((try refine sx_use ?_); (repeat (refine SxNew.mk fun _ => ?_; (try refine sx_use ?_))))
  refine SxCall.quietS (fun w hs => ContainsFp_any l x ao cap w (hs.rd 1 rfl)) ?_
  ((try refine sx_use ?_); (repeat (refine SxNew.mk fun _ => ?_; (try refine sx_use ?_))))
  exact SxDone.mk fun w' hs => ⟨rfl, hs.touch.below⟩
set_option maxHeartbeats 1000000 in
theorem ROf_any (l : List Fp) (hl : l.length ≤ 1000000) (ao : Option Addr) (cap : Nat) (n : Int) (w : World) (hr : Rd w ao (fpE.fl l)) :
    Calls Try.prog 27 #[.slice ao l.length cap, .int .i64 n] w fun e w' => ∃ ao' cap', e = .returned (.slice ao' (setR7 (l.filter (fun x => isF x.1 n))).length cap') ∧ NewRow w w' ao' (setR7 (l.filter (fun x => isF x.1 n))).length cap' 23 32 (fpE.fl (setR7 (l.filter (fun x => isF x.1 n)))) := by
  refine sx_fn (S := SX) (M := []) (N := 28) (H0 := .row none 0 0 23 32 [] :: [.rd ao (fpE.fl l)]) Try.func27 rfl rfl rfl (Sat.nilRow 23 32 (Sat.oneRd _ hr)) ?_
  ((try refine sx_use ?_); (repeat (refine SxNew.mk fun _ => ?_; (try refine sx_use ?_))))
  refine SxCode.loop (σ := Nat × Option Addr × Nat) [6, 5] [7, 8, 9, 10, 13, 14, 15, 16, 17, 18, 19, 20, 21, 22, 23, 24, 25, 5, 11, 12, 6] (fun s => [.int .i64 (s.1 : Nat), .slice s.2.1 ((l.take s.1).filter (fun x => isF x.1 n)).length s.2.2]) (fun s => .row s.2.1 ((l.take s.1).filter (fun x => isF x.1 n)).length s.2.2 23 32 (fpE.fl ((l.take s.1).filter (fun x => isF x.1 n))) :: [.rd ao (fpE.fl l)])
    (fun s => s.1 ≤ l.length) (fun s => l.length - s.1) (0, none, 0) [0, 1] rfl rfl rfl rfl (Nat.zero_le _) ?_
  rintro ⟨i, oo, oc⟩ hi
  dsimp only at hi ⊢
  have hon := filter_len (fun x => isF x.1 n) l i
  obtain ⟨o, ho⟩ : ∃ o, o = (l.take i).filter (fun x => isF x.1 n) := ⟨_, rfl⟩
  rw [← ho] at hon ⊢
  ((try refine sx_use ?_); (repeat (refine SxNew.mk fun _ => ?_; (try refine sx_use ?_))))
  refine SxIf.dec (fun h => ?_) (fun h => ?_)
  · have hlt : i < l.length := by omega
    obtain ⟨x, hx⟩ : ∃ x, l[i]? = some x := ⟨l[i], by simp [hlt]⟩
    have hsn := filter_snoc (fun x => isF x.1 n) hx
    rw [← ho] at hsn
    ((try refine sx_use ?_); (repeat (refine SxNew.mk fun _ => ?_; (try refine sx_use ?_))))
    refine SxIA.rd 1 _ rfl i rfl hlt (by rw [rowFp_len]; omega) fun g off ha => ?_
    ((try refine sx_use ?_); (repeat (refine SxNew.mk fun _ => ?_; (try refine sx_use ?_))))
    refine SxLdN.rd 1 rfl ha rfl (vs := fpE.enc x) (fpE.len x) (rowFp_at hx) ?_
    ((try refine sx_use ?_); (repeat (refine SxNew.mk fun _ => ?_; (try refine sx_use ?_))))
    refine SxCall.quiet (RIs_any x.1 x.2 n) ?_
    ((try refine sx_use ?_); (repeat (refine SxNew.mk fun _ => ?_; (try refine sx_use ?_))))
    refine ⟨fun h1 => ?_, fun h1 => ?_⟩
    · rw [if_pos (by simpa using h1)] at hsn
      ((try refine sx_use ?_); (repeat (refine SxNew.mk fun _ => ?_; (try refine sx_use ?_))))
      refine SxIA.rd 1 _ rfl i rfl hlt (by rw [rowFp_len]; omega) fun g off ha => ?_
      ((try refine sx_use ?_); (repeat (refine SxNew.mk fun _ => ?_; (try refine sx_use ?_))))
      refine SxLdN.rd 1 rfl ha rfl (vs := fpE.enc x) (fpE.len x) (rowFp_at hx) ?_
      ((try refine sx_use ?_); (repeat (refine SxNew.mk fun _ => ?_; (try refine sx_use ?_))))
      refine SxFill.one rfl (fpE.len x) ?_
      ((try refine sx_use ?_); (repeat (refine SxNew.mk fun _ => ?_; (try refine sx_use ?_))))
      refine SxApp.mk 1 rfl 0 (.inr (.inr (.inr ⟨by decide, _, rfl⟩))) (m := 1) (by show (fpE.enc x).length = 1 * 32; exact fpE.len x) (fpE.one x) (by unfold maxLen; omega) (by omega) (cs' := fpE.fl (o ++ [x])) (by rw [fpE.fl_append, fpE.fl_one]; rfl) fun x3 c3 => ?_
      ((try refine sx_use ?_); (repeat (refine SxNew.mk fun _ => ?_; (try refine sx_use ?_))))
      exact SxRound.mk (i + 1, x3, c3) [1, 2] (by dsimp only; rw [hsn, List.length_append]; rfl) (by dsimp only; rw [hsn, List.length_append]; rfl) rfl hlt (by dsimp only; omega)
    · rw [if_neg (by simp [h1])] at hsn
      ((try refine sx_use ?_); (repeat (refine SxNew.mk fun _ => ?_; (try refine sx_use ?_))))
      exact SxRound.mk (i + 1, oo, oc) [0, 1] (by dsimp only; rw [hsn]; rfl) (by dsimp only; rw [hsn]; rfl) rfl hlt (by dsimp only; omega)
  · obtain rfl : i = l.length := by omega
    rw [List.take_length] at ho
    subst ho
    have hfl := List.length_filter_le (fun x => isF x.1 n) l
    ((try refine sx_use ?_); (repeat (refine SxNew.mk fun _ => ?_; (try refine sx_use ?_))))
    refine SxCall.newRow (fun w hs => RSet_any (l.filter (fun x => isF x.1 n)) (by omega) oo oc w (hs.rowRd 0 rfl (by rw [rowFp_len]; unfold maxLen; omega))) fun ao' cap' => ?_
    ((try refine sx_use ?_); (repeat (refine SxNew.mk fun _ => ?_; (try refine sx_use ?_))))
    exact SxDone.mk fun w' hs => ⟨ao', cap', rfl, hs.newRow 0 rfl⟩
set_option maxHeartbeats 1000000 in
theorem RMinus_any (l : List Fp) (hl : l.length ≤ 1000000) (ao : Option Addr) (cap : Nat) (m : List Fp) (bo : Option Addr) (bc : Nat) (w : World) (hr : Rd w ao (fpE.fl l)) (hr2 : Rd w bo (fpE.fl m)) :
    Calls Try.prog 31 #[.slice ao l.length cap, .slice bo m.length bc] w fun e w' => ∃ ao' cap', e = .returned (.slice ao' (setR7 (l.filter (fun x => !decide (x ∈ m)))).length cap') ∧ NewRow w w' ao' (setR7 (l.filter (fun x => !decide (x ∈ m)))).length cap' 23 32 (fpE.fl (setR7 (l.filter (fun x => !decide (x ∈ m))))) := by
  refine sx_fn (S := SX) (M := []) (N := 29) (H0 := .row none 0 0 23 32 [] :: [.rd ao (fpE.fl l), .rd bo (fpE.fl m)]) Try.func31 rfl rfl rfl (Sat.nilRow 23 32 (Sat.twoRd _ hr hr2)) ?_
  ((try refine sx_use ?_); (repeat (refine SxNew.mk fun _ => ?_; (try refine sx_use ?_))))
  refine SxCode.loop (σ := Nat × Option Addr × Nat) [6, 5] [7, 8, 9, 10, 13, 14, 15, 16, 17, 18, 19, 20, 21, 22, 23, 24, 25, 26, 5, 11, 12, 6] (fun s => [.int .i64 (s.1 : Nat), .slice s.2.1 ((l.take s.1).filter (fun x => !decide (x ∈ m))).length s.2.2]) (fun s => .row s.2.1 ((l.take s.1).filter (fun x => !decide (x ∈ m))).length s.2.2 23 32 (fpE.fl ((l.take s.1).filter (fun x => !decide (x ∈ m)))) :: [.rd ao (fpE.fl l), .rd bo (fpE.fl m)])
    (fun s => s.1 ≤ l.length) (fun s => l.length - s.1) (0, none, 0) [0, 1, 2] rfl rfl rfl rfl (Nat.zero_le _) ?_
  rintro ⟨i, oo, oc⟩ hi
  dsimp only at hi ⊢
  have hon := filter_len (fun x => !decide (x ∈ m)) l i
  obtain ⟨o, ho⟩ : ∃ o, o = (l.take i).filter (fun x => !decide (x ∈ m)) := ⟨_, rfl⟩
  rw [← ho] at hon ⊢
  ((try refine sx_use ?_); (repeat (refine SxNew.mk fun _ => ?_; (try refine sx_use ?_))))
  refine SxIf.dec (fun h => ?_) (fun h => ?_)
  · have hlt : i < l.length := by omega
    obtain ⟨x, hx⟩ : ∃ x, l[i]? = some x := ⟨l[i], by simp [hlt]⟩
    have hsn := filter_snoc (fun x => !decide (x ∈ m)) hx
    rw [← ho] at hsn
    ((try refine sx_use ?_); (repeat (refine SxNew.mk fun _ => ?_; (try refine sx_use ?_))))
    refine SxIA.rd 1 _ rfl i rfl hlt (by rw [rowFp_len]; omega) fun g off ha => ?_
    ((try refine sx_use ?_); (repeat (refine SxNew.mk fun _ => ?_; (try refine sx_use ?_))))
    refine SxLdN.rd 1 rfl ha rfl (vs := fpE.enc x) (fpE.len x) (rowFp_at hx) ?_
    ((try refine sx_use ?_); (repeat (refine SxNew.mk fun _ => ?_; (try refine sx_use ?_))))
    refine SxCall.quietS (fun w hs => RHas_any m x bo bc w (hs.rd 2 rfl)) ?_
    ((try refine sx_use ?_); (repeat (refine SxNew.mk fun _ => ?_; (try refine sx_use ?_))))
    refine SxIf.nt (SxIf.dec (fun h1 => ?_) (fun h1 => ?_))
    · rw [if_neg (by simp [h1])] at hsn
      ((try refine sx_use ?_); (repeat (refine SxNew.mk fun _ => ?_; (try refine sx_use ?_))))
      exact SxRound.mk (i + 1, oo, oc) [0, 1, 2] (by dsimp only; rw [hsn]; rfl) (by dsimp only; rw [hsn]; rfl) rfl hlt (by dsimp only; omega)
    · rw [if_pos (by simp [h1])] at hsn
      ((try refine sx_use ?_); (repeat (refine SxNew.mk fun _ => ?_; (try refine sx_use ?_))))
      refine SxIA.rd 1 _ rfl i rfl hlt (by rw [rowFp_len]; omega) fun g off ha => ?_
      ((try refine sx_use ?_); (repeat (refine SxNew.mk fun _ => ?_; (try refine sx_use ?_))))
      refine SxLdN.rd 1 rfl ha rfl (vs := fpE.enc x) (fpE.len x) (rowFp_at hx) ?_
      ((try refine sx_use ?_); (repeat (refine SxNew.mk fun _ => ?_; (try refine sx_use ?_))))
      refine SxFill.one rfl (fpE.len x) ?_
      ((try refine sx_use ?_); (repeat (refine SxNew.mk fun _ => ?_; (try refine sx_use ?_))))
      refine SxApp.mk 1 rfl 0 (.inr (.inr (.inr ⟨by decide, _, rfl⟩))) (m := 1) (by show (fpE.enc x).length = 1 * 32; exact fpE.len x) (fpE.one x) (by unfold maxLen; omega) (by omega) (cs' := fpE.fl (o ++ [x])) (by rw [fpE.fl_append, fpE.fl_one]; rfl) fun x3 c3 => ?_
      ((try refine sx_use ?_); (repeat (refine SxNew.mk fun _ => ?_; (try refine sx_use ?_))))
      exact SxRound.mk (i + 1, x3, c3) [1, 2, 3] (by dsimp only; rw [hsn, List.length_append]; rfl) (by dsimp only; rw [hsn, List.length_append]; rfl) rfl hlt (by dsimp only; omega)
  · obtain rfl : i = l.length := by omega
    rw [List.take_length] at ho
    subst ho
    have hfl := List.length_filter_le (fun x => !decide (x ∈ m)) l
    ((try refine sx_use ?_); (repeat (refine SxNew.mk fun _ => ?_; (try refine sx_use ?_))))
    refine SxCall.newRow (fun w hs => RSet_any (l.filter (fun x => !decide (x ∈ m))) (by omega) oo oc w (hs.rowRd 0 rfl (by rw [rowFp_len]; unfold maxLen; omega))) fun ao' cap' => ?_
    ((try refine sx_use ?_); (repeat (refine SxNew.mk fun _ => ?_; (try refine sx_use ?_))))
    exact SxDone.mk fun w' hs => ⟨ao', cap', rfl, hs.newRow 0 rfl⟩
theorem RCommon_any (l m : List Fp) (hl : l.length ≤ 1000000) (ao bo : Option Addr) (cap bc : Nat) (w : World) (hr : Rd w ao (fpE.fl l)) (hr2 : Rd w bo (fpE.fl m)) :
    Calls Try.prog 30 #[.slice ao l.length cap, .slice bo m.length bc] w fun e w' => e = .returned (.int .i64 (((setR7 l).length : Int) - (setR7 (l.filter fun x => !decide (x ∈ m))).length)) ∧ Below w.heap.size w w' := by
  have h1 : (setR7 l).length ≤ l.length := setR_len ltbF l
  have h2 : (setR7 (l.filter fun x => !decide (x ∈ m))).length ≤ (l.filter fun x => !decide (x ∈ m)).length := setR_len ltbF (l.filter fun x => !decide (x ∈ m))
  have h3 := List.length_filter_le (fun x => !decide (x ∈ m)) l
  refine sx_fn (S := SX) (M := []) (N := 13) (H0 := [.rd ao (fpE.fl l), .rd bo (fpE.fl m)]) Try.func30 rfl rfl rfl (Sat.twoRd _ hr hr2) ?_
  ((try refine sx_use ?_); (repeat (refine SxNew.mk fun _ => ?_; (try refine sx_use ?_))))
  refine SxCall.newRow (fun w hs => RSet_any l hl ao cap w (hs.rd 0 rfl)) fun a1 c1 => ?_
  ((try refine sx_use ?_); (repeat (refine SxNew.mk fun _ => ?_; (try refine sx_use ?_))))
  refine SxCall.newRow (fun w hs => RMinus_any l hl ao cap m bo bc w (hs.rd 1 rfl) (hs.rd 2 rfl)) fun a2 c2 => ?_
  ((try refine sx_use ?_); (repeat (refine SxNew.mk fun _ => ?_; (try refine sx_use ?_))))
  exact SxDone.mk fun w' hs => ⟨rfl, hs.touch.below⟩
end Go.Proofs.Ytffkjbcelbfejaa
