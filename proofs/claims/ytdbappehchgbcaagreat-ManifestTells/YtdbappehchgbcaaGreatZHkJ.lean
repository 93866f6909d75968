/- The walks of layer 7: split, Common, Minus, Of. -/
import Derived.Test.YtdbappehchgbcaaGreatZHkI
namespace Go.Proofs.YtdbappehchgbcaaGreat
open Go.RowKit

abbrev inB (B : List Fp) (x : Fp) : Bool := decide (x ∈ B)
theorem setF7_len (l : List Fp) : (setF7 l).length ≤ l.length := setS_len cfF l
theorem setF7_strict (l : List Fp) : (setF7 l).Pairwise ltF := setS_strict ltF_ord cfF_iff l
theorem strict_at {l : List Fp} (h : l.Pairwise ltF) {i j : Nat} {x y : Fp} (hij : i < j) (hx : l[i]? = some x) (hy : l[j]? = some y) : ltF x y := by
  obtain ⟨hi, rfl⟩ := List.getElem?_eq_some_iff.1 hx
  obtain ⟨hj, rfl⟩ := List.getElem?_eq_some_iff.1 hy
  exact List.pairwise_iff_getElem.1 h i j hi hj hij
/-- What has been passed over is ahead of all that comes. -/
def past (A B : List Fp) (i j : Nat) : Prop := j ≤ B.length ∧ ∀ k y i' f, k < j → B[k]? = some y → i ≤ i' → A[i']? = some f → ltF y f
theorem past_in {A B : List Fp} (hB : B.Pairwise ltF) {i j : Nat} {f : Fp} (hf : A[i]? = some f) (hp : past A B i j) (hstop : ∀ y, B[j]? = some y → ¬ ltF y f) : (f ∈ B ↔ B[j]? = some f) := by
  constructor
  · intro h
    obtain ⟨k, hk⟩ := List.getElem?_of_mem h
    rcases Nat.lt_trichotomy k j with h1 | h1 | h1
    · exact absurd (hp.2 k f i f h1 hk (Nat.le_refl _) hf) (ltF_ord.irr f)
    · subst h1; exact hk
    · have hjl : j < B.length := by have := (List.getElem?_eq_some_iff.1 hk).1; omega
      obtain ⟨y, hy⟩ : ∃ y, B[j]? = some y := ⟨B[j], by simp [hjl]⟩
      exact absurd (strict_at hB h1 hy hk) (hstop y hy)
  · exact List.mem_of_getElem?
theorem past_next {A B : List Fp} {i j : Nat} (hp : past A B i j) : past A B (i + 1) j := ⟨hp.1, fun k y i' f h1 h2 h3 h4 => hp.2 k y i' f h1 h2 (by omega) h4⟩
theorem past_drop {A B : List Fp} (hA : A.Pairwise ltF) {i j : Nat} {f y : Fp} (hp : past A B i j) (hf : A[i]? = some f) (hy : B[j]? = some y) (hl : ltF y f) : past A B i (j + 1) := by
  refine ⟨(List.getElem?_eq_some_iff.1 hy).1, fun k z i' f' h1 h2 h3 h4 => ?_⟩
  rcases Nat.lt_succ_iff_lt_or_eq.1 h1 with h5 | h5
  · exact hp.2 k z i' f' h5 h2 h3 h4
  · subst h5
    obtain rfl := Option.some.inj (hy.symm.trans h2)
    rcases Nat.lt_or_eq_of_le h3 with h6 | h6
    · exact ltF_ord.tr y f f' hl (strict_at hA h6 hf h4)
    · subst h6
      obtain rfl := Option.some.inj (hf.symm.trans h4)
      exact hl
set_option maxHeartbeats 1000000 in
theorem hOf_any (l : List Fp) (hl : l.length ≤ 1000000) (ao : Option Addr) (cap : Nat) (n : Int) (w : World) (hr : Rd w ao (fpE.fl l)) :
    Calls Tryz.prog 26 #[.slice ao l.length cap, .int .i64 n] w fun e w' => ∃ ao' cap', e = .returned (.slice ao' (setF7 (l.filter fun x => isF x.1 n)).length cap') ∧ NewRow w w' ao' (setF7 (l.filter fun x => isF x.1 n)).length cap' 39 32 (fpE.fl (setF7 (l.filter fun x => isF x.1 n))) := by
  refine sx_fn (S := SX) (M := []) (N := 27) (H0 := [.row none 0 0 39 32 [], .rd ao (fpE.fl l)]) Tryz.func26 rfl rfl rfl (Sat.nilRow 39 32 (Sat.oneRd _ hr)) ?_
  ((try refine sx_use ?_); (repeat (refine SxNew.mk fun _ => ?_; (try refine sx_use ?_))))
  refine SxCall.mk fun w hs => (hooks_sat hs n).mono ?_
  rintro e w' ⟨g, rfl, hs'⟩
  refine ⟨_, _, rfl, hs', ?_⟩
  ((try refine sx_use ?_); (repeat (refine SxNew.mk fun _ => ?_; (try refine sx_use ?_))))
  refine SxCode.loop (σ := Nat × Option Addr × Nat) [13, 6] [14, 15, 16, 8, 17, 18, 19, 20, 21, 22, 23, 6, 24, 13] (fun s => [.int .i64 (s.1 : Nat), .slice s.2.1 ((l.take s.1).filter fun x => isF x.1 n).length s.2.2]) (fun s => [.blk g 3 [.int .i64 (clampN n)], .row s.2.1 ((l.take s.1).filter fun x => isF x.1 n).length s.2.2 39 32 (fpE.fl ((l.take s.1).filter fun x => isF x.1 n)), .rd ao (fpE.fl l)])
    (fun s => s.1 ≤ l.length) (fun s => l.length - s.1) (0, none, 0) [0, 1, 2] rfl rfl rfl rfl (Nat.zero_le _) ?_
  rintro ⟨i, oo, oc⟩ hi
  dsimp only at hi ⊢
  have hon := filter_len (fun x : Fp => isF x.1 n) l i
  obtain ⟨o, ho⟩ : ∃ o, o = (l.take i).filter fun x => isF x.1 n := ⟨_, rfl⟩
  rw [← ho] at hon ⊢
  ((try refine sx_use ?_); (repeat (refine SxNew.mk fun _ => ?_; (try refine sx_use ?_))))
  refine SxIf.dec (fun h => ?_) (fun h => ?_)
  · have hlt : i < l.length := by omega
    obtain ⟨x, hx⟩ : ∃ x, l[i]? = some x := ⟨l[i], by simp [hlt]⟩
    have hsn := filter_snoc (fun x : Fp => isF x.1 n) hx
    rw [← ho] at hsn
    ((try refine sx_use ?_); (repeat (refine SxNew.mk fun _ => ?_; (try refine sx_use ?_))))
    refine SxIA.rd 2 _ rfl i rfl hlt (by rw [rowFp_len]; omega) fun g off ha => ?_
    ((try refine sx_use ?_); (repeat (refine SxNew.mk fun _ => ?_; (try refine sx_use ?_))))
    refine SxLdN.rd 2 rfl ha rfl (vs := fpE.enc x) (fpE.len x) (rowFp_at hx) ?_
    ((try refine sx_use ?_); (repeat (refine SxNew.mk fun _ => ?_; (try refine sx_use ?_))))
    refine SxSt.elem fpE (x := x) 0 rfl rfl ?_
    ((try refine sx_use ?_); (repeat (refine SxNew.mk fun _ => ?_; (try refine sx_use ?_))))
    refine SxLdN.blk 0 rfl (vs := fpE.enc x) (fpE.len x) (rowFp_all x) ?_
    ((try refine sx_use ?_); (repeat (refine SxNew.mk fun _ => ?_; (try refine sx_use ?_))))
    refine SxCall.quietS (fun w hs => hooks1_any x.1 x.2 _ (clampN n) w (hs.blk 1 rfl)) ?_
    ((try refine sx_use ?_); (repeat (refine SxNew.mk fun _ => ?_; (try refine sx_use ?_))))
    refine SxIf.dec (fun h1 => ?_) (fun h1 => ?_)
    · rw [if_pos (show isF x.1 n = true from decide_eq_true h1)] at hsn
      ((try refine sx_use ?_); (repeat (refine SxNew.mk fun _ => ?_; (try refine sx_use ?_))))
      refine SxLdN.blk 0 rfl (vs := fpE.enc x) (fpE.len x) (rowFp_all x) ?_
      ((try refine sx_use ?_); (repeat (refine SxNew.mk fun _ => ?_; (try refine sx_use ?_))))
      refine SxFill.one rfl (fpE.len x) ?_
      ((try refine sx_use ?_); (repeat (refine SxNew.mk fun _ => ?_; (try refine sx_use ?_))))
      refine SxApp.mk 3 rfl 0 (.inr (.inr (.inr ⟨by decide, _, rfl⟩))) (m := 1) (by show (fpE.enc x).length = 1 * 32; exact fpE.len x) (fpE.one x) (by unfold maxLen; omega) (by omega) (cs' := fpE.fl (o ++ [x])) (by rw [fpE.fl_append, fpE.fl_one]; rfl) fun x3 c3 => ?_
      ((try refine sx_use ?_); (repeat (refine SxNew.mk fun _ => ?_; (try refine sx_use ?_))))
      exact SxRound.mk (i + 1, x3, c3) [2, 3, 4] (by dsimp only; rw [hsn, List.length_append]; rfl) (by dsimp only; rw [hsn, List.length_append]; rfl) rfl hlt (by dsimp only; omega)
    · rw [if_neg (show ¬ isF x.1 n = true by rw [show isF x.1 n = false from decide_eq_false h1]; simp)] at hsn
      ((try refine sx_use ?_); (repeat (refine SxNew.mk fun _ => ?_; (try refine sx_use ?_))))
      exact SxRound.mk (i + 1, oo, oc) [1, 2, 3] (by dsimp only; rw [hsn]; rfl) (by dsimp only; rw [hsn]; rfl) rfl hlt (by dsimp only; omega)
  · obtain rfl : i = l.length := by omega
    rw [List.take_length] at ho
    subst ho
    have hfl := List.length_filter_le (fun x : Fp => isF x.1 n) l
    ((try refine sx_use ?_); (repeat (refine SxNew.mk fun _ => ?_; (try refine sx_use ?_))))
    refine SxCall.newRow (fun w hs => HSet_any (l.filter fun x => isF x.1 n) (by omega) oo oc w (hs.rowRd 1 rfl (by rw [rowFp_len]; unfold maxLen; omega))) fun ao' cap' => ?_
    ((try refine sx_use ?_); (repeat (refine SxNew.mk fun _ => ?_; (try refine sx_use ?_))))
    exact SxDone.mk fun w' hs => ⟨ao', cap', rfl, hs.newRow 0 rfl⟩
end Go.Proofs.YtdbappehchgbcaaGreat
