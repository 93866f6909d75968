/- Layer 26: the document's classes, moves, waste. -/
import Derived.Test.YtdififdnnpgjoaaZDuH
import Derived.Test.YtdififdnnpgjoaaZDuE
namespace Go.Proofs.Ytdififdnnpgjoaa
open Go.RowKit

theorem plsS_mem2 (L : List Ck) (p : Pl) : p ∈ plsS L ↔ ∃ c ∈ L, c.pl = p := by
  unfold plsS setP
  rw [setS_mem, List.mem_map]
theorem filter_snoc {α : Type} {f : α → Bool} {l : List α} {k : Nat} {x : α} (h : l[k]? = some x) : (l.take (k + 1)).filter f = (l.take k).filter f ++ (if f x then [x] else []) := by
  rw [take_snocE h, List.filter_append]
  congr 1
  by_cases hf : f x = true
  · rw [if_pos hf]; simp [hf]
  · rw [if_neg hf]; simp [hf]
def isCan (L : List Ck) (p : Pl) : Bool := decide (canonC L (atC L p) = p)
def clF (L : List Ck) (p : Pl) : List Pl := plsS (L.filter fun x => twB x (atC L p))
theorem clsD_eq (L : List Ck) : clsD L = ((plsS L).filter (isCan L)).map (clF L) := rfl
theorem movD_eq (L : List Ck) : movD L = (plsS L).filter (fun p => !isCan L p) := rfl
set_option maxHeartbeats 8000000 in
theorem RMoves_any (l : List Ck) (hl : l.length ≤ 100000) (ao : Option Addr) (ac : Nat) (w : World) (hr : Rd w ao (ckE.fl l)) :
    Calls Try.prog 18 #[.slice ao l.length ac] w fun e w' => ∃ a1 c1 a2 c2, e = .returned (.tuple #[.slice a1 (movD (cnt l)).length c1, .slice a2 (movD (cnt l)).length c2]) ∧ NewRow w w' a1 (movD (cnt l)).length c1 29 2 (plE.fl (movD (cnt l))) ∧ NewRow w w' a2 (movD (cnt l)).length c2 29 2 (plE.fl ((movD (cnt l)).map (movF (cnt l)))) := by
  obtain ⟨L, hL⟩ : ∃ L, L = cnt l := ⟨_, rfl⟩
  have hLl : L.length ≤ l.length := by rw [hL]; exact cnt_len l
  have hpl := plsS_len L
  refine sx_fn (S := SX) (M := []) (N := 46) (H0 := [.row none 0 0 29 2 [], .row none 0 0 29 2 [], .rd ao (ckE.fl l)]) Try.func18 rfl rfl rfl (((Sat.oneRd _ hr).nilRow 29 2).nilRow 29 2) ?_
  ((try refine sx_use ?_); (repeat (refine SxNew.mk fun _ => ?_; (try refine sx_use ?_))))
  refine SxCall.newRd (by rw [ckE_len]; have := cnt_len l; unfold maxLen; omega) (fun w1 hs => RCount_any26 l hl ao ac w1 (hs.rd 2 rfl)) fun lo lc => ?_
  rw [← hL]
  ((try refine sx_use ?_); (repeat (refine SxNew.mk fun _ => ?_; (try refine sx_use ?_))))
  refine SxCall.newRd (by rw [rowPl_len]; unfold maxLen; omega) (fun w1 hs => RPlaces_any L (by omega) lo lc w1 (hs.rd 0 rfl)) fun po pc => ?_
  ((try refine sx_use ?_); (repeat (refine SxNew.mk fun _ => ?_; (try refine sx_use ?_))))
  obtain ⟨A, hA⟩ : ∃ A, A = plsS L := ⟨_, rfl⟩
  rw [← hA] at hpl ⊢
  have hmv : movD L = A.filter (fun p => !isCan L p) := by rw [movD_eq, hA]
  rw [hmv]
  obtain ⟨ff, hff⟩ : ∃ ff : Nat → List Pl, ff = fun i => (A.take i).filter (fun p => !isCan L p) := ⟨_, rfl⟩
  have hffl : ∀ i, i ≤ A.length → (ff i).length ≤ i := fun i hi => by
    rw [hff]
    refine Nat.le_trans (List.length_filter_le _ _) ?_
    rw [List.length_take]; omega
  have hff0 : ff 0 = [] := by rw [hff]; rfl
  have hffn : ff A.length = A.filter (fun p => !isCan L p) := by rw [hff]; dsimp only; rw [List.take_length]
  rw [← hffn]
  refine SxCode.loop (σ := Nat × (Option Addr × Nat) × (Option Addr × Nat)) [7, 4, 5] [13, 14, 15, 16, 19, 20, 21, 22, 23, 24, 25, 26, 8, 27, 28, 29, 30, 31, 32, 33, 34, 35, 36, 37, 38, 39, 4, 40, 41, 42, 43, 5, 17, 18, 7] (fun x => [.int .i64 (x.1 : Nat), .slice x.2.1.1 (ff x.1).length x.2.1.2, .slice x.2.2.1 (ff x.1).length x.2.2.2]) (fun x => [.row x.2.1.1 (ff x.1).length x.2.1.2 29 2 (plE.fl (ff x.1)), .row x.2.2.1 (ff x.1).length x.2.2.2 29 2 (plE.fl ((ff x.1).map (movF L))), .rd po (plE.fl A), .rd lo (ckE.fl L)]) (fun x => x.1 ≤ A.length) (fun x => A.length - x.1) (0, (none, 0), (none, 0)) [2, 3, 0, 1] rfl (by dsimp only; rw [hff0]; rfl) (by dsimp only; rw [hff0]; rfl) rfl (Nat.zero_le _) ?_
  rintro ⟨i, ⟨fo, fc⟩, ⟨to, tc⟩⟩ hi
  dsimp only at hi ⊢
  have hfi := hffl i hi
  by_cases hlt : i < A.length
  · obtain ⟨p, hp⟩ : ∃ p, A[i]? = some p := ⟨A[i], by simp [hlt]⟩
    have hsn : ff (i + 1) = ff i ++ (if (!isCan L p) then [p] else []) := by rw [hff]; exact filter_snoc hp
    ((try refine sx_use ?_); (repeat (refine SxNew.mk fun _ => ?_; (try refine sx_use ?_))))
    refine SxIA.rd 2 _ rfl i rfl hlt (by rw [rowPl_len]; omega) fun g off ha => ?_
    ((try refine sx_use ?_); (repeat (refine SxNew.mk fun _ => ?_; (try refine sx_use ?_))))
    refine SxLdN.rd 2 rfl ha rfl (vs := plC p) rfl (rowPl_at hp) ?_
    ((try refine sx_use ?_); (repeat (refine SxNew.mk fun _ => ?_; (try refine sx_use ?_))))
    refine SxCall.quietS (fun w1 hs => RAt_any L (by omega) p lo lc w1 (hs.rd 3 rfl)) ?_
    ((try refine sx_use ?_); (repeat (refine SxNew.mk fun _ => ?_; (try refine sx_use ?_))))
    refine SxCall.quietS (fun w1 hs => RCanon_any L (by omega) (atC L p) lo lc w1 (hs.rd 3 rfl)) ?_
    ((try refine sx_use ?_); (repeat (refine SxNew.mk fun _ => ?_; (try refine sx_use ?_))))
    refine SxCode.drawAll rfl [] ?_
    ((try refine sx_use ?_); (repeat (refine SxNew.mk fun _ => ?_; (try refine sx_use ?_))))
    refine SxIA.rd 3 _ rfl i rfl hlt (by rw [rowPl_len]; omega) fun g off ha => ?_
    ((try refine sx_use ?_); (repeat (refine SxNew.mk fun _ => ?_; (try refine sx_use ?_))))
    refine SxLdN.rd 3 rfl ha rfl (vs := plC p) rfl (rowPl_at hp) ?_
    ((try refine sx_use ?_); (repeat (refine SxNew.mk fun _ => ?_; (try refine sx_use ?_))))
    refine SxRun.nePl ?_
    ((try refine sx_use ?_); (repeat (refine SxNew.mk fun _ => ?_; (try refine sx_use ?_))))
    refine SxIf.nt (SxIf.dec (fun h => ?_) (fun h => ?_))
    · have hc : isCan L p = true := decide_eq_true h
      rw [hc] at hsn
      simp only [Bool.not_true, Bool.false_eq_true, if_false, List.append_nil] at hsn
      ((try refine sx_use ?_); (repeat (refine SxNew.mk fun _ => ?_; (try refine sx_use ?_))))
      exact SxRound.mk (i + 1, (fo, fc), (to, tc)) [1, 2, 3, 4] (by dsimp only; rw [hsn]; rfl) (by dsimp only; rw [hsn]; rfl) rfl hlt (by first | omega | (dsimp only; omega))
    · have hc : isCan L p = false := decide_eq_false h
      rw [hc] at hsn
      simp only [Bool.not_false, if_true] at hsn
      have hl1 : (ff (i + 1)).length = (ff i).length + 1 := by rw [hsn, List.length_append]; rfl
      ((try refine sx_use ?_); (repeat (refine SxNew.mk fun _ => ?_; (try refine sx_use ?_))))
      refine SxIA.rd 3 _ rfl i rfl hlt (by rw [rowPl_len]; omega) fun g off ha => ?_
      ((try refine sx_use ?_); (repeat (refine SxNew.mk fun _ => ?_; (try refine sx_use ?_))))
      refine SxLdN.rd 3 rfl ha rfl (vs := plC p) rfl (rowPl_at hp) ?_
      ((try refine sx_use ?_); (repeat (refine SxNew.mk fun _ => ?_; (try refine sx_use ?_))))
      refine SxApp.mk 2 rfl 0 (.inr (.inr (.inr ⟨by decide, _, rfl⟩))) (vs := plC p) (m := 1) rfl rfl (by unfold maxLen; omega) (by omega) (cs' := plE.fl (ff (i + 1))) (by rw [hsn, plE.fl_append, plE.fl_one]; rfl) fun fo' fc' => ?_
      ((try refine sx_use ?_); (repeat (refine SxNew.mk fun _ => ?_; (try refine sx_use ?_))))
      refine SxApp.mk 4 rfl 0 (.inr (.inr (.inr ⟨by decide, _, rfl⟩))) (vs := plC (movF L p)) (m := 1) rfl rfl (by unfold maxLen; omega) (by omega) (cs' := plE.fl ((ff (i + 1)).map (movF L))) (by rw [hsn, List.map_append, plE.fl_append]; rfl) fun to' tc' => ?_
      ((try refine sx_use ?_); (repeat (refine SxNew.mk fun _ => ?_; (try refine sx_use ?_))))
      exact SxRound.mk (i + 1, (fo', fc'), (to', tc')) [3, 4, 5, 6] (by dsimp only; rw [hl1]; rfl) (by dsimp only; rw [hl1]; rfl) rfl hlt (by first | omega | (dsimp only; omega))
  · obtain rfl : i = A.length := by omega
    ((try refine sx_use ?_); (repeat (refine SxNew.mk fun _ => ?_; (try refine sx_use ?_))))
    exact SxDone.mk fun w' hs => ⟨fo, fc, to, tc, rfl, hs.newRow 0 rfl, hs.newRow 1 rfl⟩
end Go.Proofs.Ytdififdnnpgjoaa
