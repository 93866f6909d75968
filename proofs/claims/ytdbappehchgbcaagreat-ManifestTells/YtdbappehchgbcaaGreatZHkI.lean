/- The walks of layer 7: hooks of lists; what lists have in common. -/
import Derived.Test.YtdbappehchgbcaaGreatZHkH
namespace Go.Proofs.YtdbappehchgbcaaGreat
open Go.RowKit

theorem filter_snoc {α : Type} (p : α → Bool) {l : List α} {i : Nat} {x : α} (h : l[i]? = some x) : (l.take (i + 1)).filter p = if p x = true then (l.take i).filter p ++ [x] else (l.take i).filter p := by
  rw [take_snocE h, List.filter_append]
  by_cases hp : p x = true
  · rw [if_pos hp, List.filter_cons_of_pos hp]; rfl
  · rw [if_neg hp, List.filter_cons_of_neg hp, List.filter_nil, List.append_nil]
theorem filter_len {α : Type} (p : α → Bool) (l : List α) (i : Nat) : ((l.take i).filter p).length ≤ i := by
  have h := List.length_filter_le p (l.take i)
  rw [List.length_take] at h
  omega
set_option maxHeartbeats 1000000 in
theorem ROf_any (l : List Fp) (hl : l.length ≤ 1000000) (ao : Option Addr) (cap : Nat) (n : Int) (w : World) (hr : Rd w ao (fpE.fl l)) :
    Calls Tryz.prog 27 #[.slice ao l.length cap, .int .i64 n] w fun e w' => ∃ ao' cap', e = .returned (.slice ao' (setR7 (l.filter (fun x => isF x.1 n))).length cap') ∧ NewRow w w' ao' (setR7 (l.filter (fun x => isF x.1 n))).length cap' 39 32 (fpE.fl (setR7 (l.filter (fun x => isF x.1 n)))) := by
  refine sx_fn (S := SX) (M := []) (N := 28) (H0 := .row none 0 0 39 32 [] :: [.rd ao (fpE.fl l)]) Tryz.func27 rfl rfl rfl (Sat.nilRow 39 32 (Sat.oneRd _ hr)) ?_
  ((try refine sx_use ?_); (repeat (refine SxNew.mk fun _ => ?_; (try refine sx_use ?_))))
  refine SxCode.loop (σ := Nat × Option Addr × Nat) [6, 5] [7, 8, 9, 10, 13, 14, 15, 16, 17, 18, 19, 20, 21, 22, 23, 24, 25, 5, 11, 12, 6] (fun s => [.int .i64 (s.1 : Nat), .slice s.2.1 ((l.take s.1).filter (fun x => isF x.1 n)).length s.2.2]) (fun s => .row s.2.1 ((l.take s.1).filter (fun x => isF x.1 n)).length s.2.2 39 32 (fpE.fl ((l.take s.1).filter (fun x => isF x.1 n))) :: [.rd ao (fpE.fl l)])
    (fun s => s.1 ≤ l.length) (fun s => l.length - s.1) (0, none, 0) [0, 1] rfl rfl rfl rfl (Nat.zero_le _) ?_
  rintro ⟨i, oo, oc⟩ hi
  dsimp only at hi ⊢
  have hon := filter_len (fun x => isF x.1 n) l i
  obtain ⟨o, ho⟩ : ∃ o, o = (l.take i).filter (fun x => isF x.1 n) := ⟨_, rfl⟩
  rw [← ho] at hon ⊢
  ((try refine sx_use ?_); (repeat (refine SxNew.mk fun _ => ?_; (try refine sx_use ?_))))
  refine SxIf.dec (fun h => ?_) (fun h => ?_)
  · have hlt : i < l.length := by omega
    obtain ⟨x, hx⟩ : ∃ x, l[i]? = some x := ⟨l[i], by simp [hlt]⟩
    have hsn := filter_snoc (fun x => isF x.1 n) hx
    rw [← ho] at hsn
    ((try refine sx_use ?_); (repeat (refine SxNew.mk fun _ => ?_; (try refine sx_use ?_))))
    refine SxIA.rd 1 _ rfl i rfl hlt (by rw [rowFp_len]; omega) fun g off ha => ?_
    ((try refine sx_use ?_); (repeat (refine SxNew.mk fun _ => ?_; (try refine sx_use ?_))))
    refine SxLdN.rd 1 rfl ha rfl (vs := fpE.enc x) (fpE.len x) (rowFp_at hx) ?_
    ((try refine sx_use ?_); (repeat (refine SxNew.mk fun _ => ?_; (try refine sx_use ?_))))
    refine SxCall.quiet (RIs_any x.1 x.2 n) ?_
    ((try refine sx_use ?_); (repeat (refine SxNew.mk fun _ => ?_; (try refine sx_use ?_))))
    refine ⟨fun h1 => ?_, fun h1 => ?_⟩
    · rw [if_pos (by simpa using h1)] at hsn
      ((try refine sx_use ?_); (repeat (refine SxNew.mk fun _ => ?_; (try refine sx_use ?_))))
      refine SxIA.rd 1 _ rfl i rfl hlt (by rw [rowFp_len]; omega) fun g off ha => ?_
      ((try refine sx_use ?_); (repeat (refine SxNew.mk fun _ => ?_; (try refine sx_use ?_))))
      refine SxLdN.rd 1 rfl ha rfl (vs := fpE.enc x) (fpE.len x) (rowFp_at hx) ?_
      ((try refine sx_use ?_); (repeat (refine SxNew.mk fun _ => ?_; (try refine sx_use ?_))))
      refine SxFill.one rfl (fpE.len x) ?_
      ((try refine sx_use ?_); (repeat (refine SxNew.mk fun _ => ?_; (try refine sx_use ?_))))
      refine SxApp.mk 1 rfl 0 (.inr (.inr (.inr ⟨by decide, _, rfl⟩))) (m := 1) (by show (fpE.enc x).length = 1 * 32; exact fpE.len x) (fpE.one x) (by unfold maxLen; omega) (by omega) (cs' := fpE.fl (o ++ [x])) (by rw [fpE.fl_append, fpE.fl_one]; rfl) fun x3 c3 => ?_
      ((try refine sx_use ?_); (repeat (refine SxNew.mk fun _ => ?_; (try refine sx_use ?_))))
      exact SxRound.mk (i + 1, x3, c3) [1, 2] (by dsimp only; rw [hsn, List.length_append]; rfl) (by dsimp only; rw [hsn, List.length_append]; rfl) rfl hlt (by dsimp only; omega)
    · rw [if_neg (by simp [h1])] at hsn
      ((try refine sx_use ?_); (repeat (refine SxNew.mk fun _ => ?_; (try refine sx_use ?_))))
      exact SxRound.mk (i + 1, oo, oc) [0, 1] (by dsimp only; rw [hsn]; rfl) (by dsimp only; rw [hsn]; rfl) rfl hlt (by dsimp only; omega)
  · obtain rfl : i = l.length := by omega
    rw [List.take_length] at ho
    subst ho
    have hfl := List.length_filter_le (fun x => isF x.1 n) l
    ((try refine sx_use ?_); (repeat (refine SxNew.mk fun _ => ?_; (try refine sx_use ?_))))
    refine SxCall.newRow (fun w hs => RSet_any (l.filter (fun x => isF x.1 n)) (by omega) oo oc w (hs.rowRd 0 rfl (by rw [rowFp_len]; unfold maxLen; omega))) fun ao' cap' => ?_
    ((try refine sx_use ?_); (repeat (refine SxNew.mk fun _ => ?_; (try refine sx_use ?_))))
    exact SxDone.mk fun w' hs => ⟨ao', cap', rfl, hs.newRow 0 rfl⟩
end Go.Proofs.YtdbappehchgbcaaGreat
