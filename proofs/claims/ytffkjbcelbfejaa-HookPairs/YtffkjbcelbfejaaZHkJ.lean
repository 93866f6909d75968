/- The walks of layer 7: split, Common, Minus, Of. -/
import Derived.Test.YtffkjbcelbfejaaZHkI
namespace Go.Proofs.Ytffkjbcelbfejaa
open Go.RowKit

abbrev inB (B : List Fp) (x : Fp) : Bool := decide (x ∈ B)
theorem setF7_len (l : List Fp) : (setF7 l).length ≤ l.length := setS_len cfF l
theorem setF7_strict (l : List Fp) : (setF7 l).Pairwise ltF := setS_strict ltF_ord cfF_iff l
theorem strict_at {l : List Fp} (h : l.Pairwise ltF) {i j : Nat} {x y : Fp} (hij : i < j) (hx : l[i]? = some x) (hy : l[j]? = some y) : ltF x y := by
  obtain ⟨hi, rfl⟩ := List.getElem?_eq_some_iff.1 hx
  obtain ⟨hj, rfl⟩ := List.getElem?_eq_some_iff.1 hy
  exact List.pairwise_iff_getElem.1 h i j hi hj hij
/-- What has been passed over is ahead of all that comes. -/
def past (A B : List Fp) (i j : Nat) : Prop := j ≤ B.length ∧ ∀ k y i' f, k < j → B[k]? = some y → i ≤ i' → A[i']? = some f → ltF y f
theorem past_in {A B : List Fp} (hB : B.Pairwise ltF) {i j : Nat} {f : Fp} (hf : A[i]? = some f) (hp : past A B i j) (hstop : ∀ y, B[j]? = some y → ¬ ltF y f) : (f ∈ B ↔ B[j]? = some f) := by
  constructor
  · intro h
    obtain ⟨k, hk⟩ := List.getElem?_of_mem h
    rcases Nat.lt_trichotomy k j with h1 | h1 | h1
    · exact absurd (hp.2 k f i f h1 hk (Nat.le_refl _) hf) (ltF_ord.irr f)
    · subst h1; exact hk
    · have hjl : j < B.length := by have := (List.getElem?_eq_some_iff.1 hk).1; omega
      obtain ⟨y, hy⟩ : ∃ y, B[j]? = some y := ⟨B[j], by simp [hjl]⟩
      exact absurd (strict_at hB h1 hy hk) (hstop y hy)
  · exact List.mem_of_getElem?
theorem past_next {A B : List Fp} {i j : Nat} (hp : past A B i j) : past A B (i + 1) j := ⟨hp.1, fun k y i' f h1 h2 h3 h4 => hp.2 k y i' f h1 h2 (by omega) h4⟩
theorem past_drop {A B : List Fp} (hA : A.Pairwise ltF) {i j : Nat} {f y : Fp} (hp : past A B i j) (hf : A[i]? = some f) (hy : B[j]? = some y) (hl : ltF y f) : past A B i (j + 1) := by
  refine ⟨(List.getElem?_eq_some_iff.1 hy).1, fun k z i' f' h1 h2 h3 h4 => ?_⟩
  rcases Nat.lt_succ_iff_lt_or_eq.1 h1 with h5 | h5
  · exact hp.2 k z i' f' h5 h2 h3 h4
  · subst h5
    obtain rfl := Option.some.inj (hy.symm.trans h2)
    rcases Nat.lt_or_eq_of_le h3 with h6 | h6
    · exact ltF_ord.tr y f f' hl (strict_at hA h6 hf h4)
    · subst h6
      obtain rfl := Option.some.inj (hf.symm.trans h4)
      exact hl
set_option maxHeartbeats 4000000 in
theorem split_any (a b : List Fp) (hal : a.length ≤ 1000000) (hbl : b.length ≤ 1000000) (ao bo : Option Addr) (ac bc : Nat) (w : World) (ha : Rd w ao (fpE.fl a)) (hb : Rd w bo (fpE.fl b)) :
    Calls Try.prog 43 #[.slice ao a.length ac, .slice bo b.length bc] w fun e w' => ∃ ao' cap', e = .returned (.tuple #[.int .i64 (((setF7 a).filter (inB (setF7 b))).length : Nat), .slice ao' ((setF7 a).filter fun x => !inB (setF7 b) x).length cap']) ∧ NewRow w w' ao' ((setF7 a).filter fun x => !inB (setF7 b) x).length cap' 23 32 (fpE.fl ((setF7 a).filter fun x => !inB (setF7 b) x)) := by
  have hA := setF7_strict a
  have hB := setF7_strict b
  have hAl := setF7_len a
  have hBl := setF7_len b
  refine sx_fn (S := SX) (M := []) (N := 51) (H0 := [.row none 0 0 23 32 [], .rd ao (fpE.fl a), .rd bo (fpE.fl b)]) Try.func43 rfl rfl rfl (Sat.nilRow 23 32 (Sat.twoRd _ ha hb)) ?_
  ((try refine sx_use ?_); (repeat (refine SxNew.mk fun _ => ?_; (try refine sx_use ?_))))
  refine SxCall.newRowB (fun w hs => HSet_any a hal ao ac w (hs.rd 1 rfl)) fun a1 c1 ha1 hac => ?_
  ((try refine sx_use ?_); (repeat (refine SxNew.mk fun _ => ?_; (try refine sx_use ?_))))
  refine SxCall.newRowB (fun w hs => HSet_any b hbl bo bc w (hs.rd 3 rfl)) fun b1 c2 hb1 hbc => ?_
  obtain ⟨A, hAe⟩ : ∃ A, A = setF7 a := ⟨_, rfl⟩
  obtain ⟨B, hBe⟩ : ∃ B, B = setF7 b := ⟨_, rfl⟩
  rw [← hAe] at hA hAl ha1 hac ⊢
  rw [← hBe] at hB hBl hb1 hbc ⊢
  ((try refine sx_use ?_); (repeat (refine SxNew.mk fun _ => ?_; (try refine sx_use ?_))))
  refine SxCode.loop (σ := Nat × Nat × Option Addr × Option Addr × Nat) [16, 6, 7, 1] [17, 18, 19, 9, 20, 21, 22, 23, 24, 25, 26, 27, 28, 29, 30, 31, 1, 32, 33, 34, 35, 36, 37, 38, 39, 40, 41, 42, 43, 6, 44, 45, 46, 47, 7, 48, 16] (fun s => [.int .i64 (s.1 : Nat), .int .i64 (((A.take s.1).filter (inB B)).length : Nat), .slice s.2.2.2.1 ((A.take s.1).filter fun x => !inB B x).length s.2.2.2.2, .slice s.2.2.1 (B.length - s.2.1) (c2 - s.2.1)])
    (fun s => [.row s.2.2.2.1 ((A.take s.1).filter fun x => !inB B x).length s.2.2.2.2 23 32 (fpE.fl ((A.take s.1).filter fun x => !inB B x)), .row b1 B.length c2 23 32 (fpE.fl B), .row a1 A.length c1 23 32 (fpE.fl A)])
    (fun s => s.1 ≤ A.length ∧ past A B s.1 s.2.1 ∧ ∀ g, b1 = some ⟨g, 0, none⟩ → s.2.1 < B.length → s.2.2.1 = some ⟨g, s.2.1 * 32, none⟩) (fun s => A.length - s.1) (0, 0, b1, none, 0) [2, 0, 1] rfl rfl rfl rfl
    ⟨Nat.zero_le _, ⟨Nat.zero_le _, fun k y i' f h => absurd h (Nat.not_lt_zero _)⟩, fun g hg _ => by dsimp only; rw [hg, Nat.zero_mul]⟩ ?_
  rintro ⟨i, j, bo', ro, rc⟩ ⟨hi, hpast, hbo⟩
  dsimp only at hi hpast hbo ⊢
  have hon := filter_len (fun x => !inB B x) A i
  have hom := filter_len (inB B) A i
  obtain ⟨o, ho⟩ : ∃ o, o = (A.take i).filter fun x => !inB B x := ⟨_, rfl⟩
  obtain ⟨nb, hnb⟩ : ∃ nb, nb = ((A.take i).filter (inB B)).length := ⟨_, rfl⟩
  rw [← ho] at hon ⊢
  rw [← hnb] at hom ⊢
  ((try refine sx_use ?_); (repeat (refine SxNew.mk fun _ => ?_; (try refine sx_use ?_))))
  refine SxIf.dec (fun h => ?_) (fun h => ?_)
  · have hlt : i < A.length := by omega
    obtain ⟨x, hx⟩ : ∃ x, A[i]? = some x := ⟨A[i], by simp [hlt]⟩
    have hsn := filter_snoc (fun x => !inB B x) hx
    rw [← ho] at hsn
    have hsm := filter_snoc (inB B) hx
    obtain ⟨ga, rfl⟩ := ha1 (by omega)
    ((try refine sx_use ?_); (repeat (refine SxNew.mk fun _ => ?_; (try refine sx_use ?_))))
    refine SxIA.row 2 _ _ _ rfl i rfl hlt fun g' hg' => ?_
    obtain rfl : ga = g' := by simpa using hg'
    ((try refine sx_use ?_); (repeat (refine SxNew.mk fun _ => ?_; (try refine sx_use ?_))))
    refine SxLdN.row 2 rfl rfl rfl (vs := fpE.enc x) (fpE.len x) (rowFp_at hx) ?_
    ((try refine sx_use ?_); (repeat (refine SxNew.mk fun _ => ?_; (try refine sx_use ?_))))
    rename_i bx
    refine SxSt.elem fpE (x := x) 0 rfl rfl ?_
    ((try refine sx_use ?_); (repeat (refine SxNew.mk fun _ => ?_; (try refine sx_use ?_))))
    refine SxCode.loop (σ := Nat × Option Addr) [1] [20, 21, 22, 23, 24, 25, 26, 27, 28, 29, 30, 31, 1] (fun s => [.slice s.2 (B.length - s.1) (c2 - s.1)])
      (fun _ => [.blk bx 23 (fpE.enc x), .row ro o.length rc 23 32 (fpE.fl o), .row b1 B.length c2 23 32 (fpE.fl B), .row (some ⟨ga, 0, none⟩) A.length c1 23 32 (fpE.fl A)])
      (fun s => past A B i s.1 ∧ ∀ g, b1 = some ⟨g, 0, none⟩ → s.1 < B.length → s.2 = some ⟨g, s.1 * 32, none⟩) (fun s => B.length - s.1) (j, bo') [0, 1, 2, 3] rfl rfl rfl rfl ⟨hpast, hbo⟩ ?_
    clear hpast hbo
    rintro ⟨j, bo'⟩ ⟨hpast, hbo⟩
    dsimp only at hpast hbo ⊢
    ((try refine sx_use ?_); (repeat (refine SxNew.mk fun _ => ?_; (try refine sx_use ?_))))
    refine SxCode.drawAll rfl [] ?_
    ((try refine sx_use ?_); (repeat (refine SxNew.mk fun _ => ?_; (try refine sx_use ?_))))
    refine SxIf.dec (fun h5 => ?_) (fun h5 => ?_)
    · have hjl : j < B.length := by omega
      obtain ⟨y, hy⟩ : ∃ y, B[j]? = some y := ⟨B[j], by simp [hjl]⟩
      obtain ⟨gb, rfl⟩ := hb1 (by omega)
      ((try refine sx_use ?_); (repeat (refine SxNew.mk fun _ => ?_; (try refine sx_use ?_))))
      refine SxIA.ptr gb (j * 32) (hbo gb rfl hjl) 0 rfl (by omega) ?_
      ((try refine sx_use ?_); (repeat (refine SxNew.mk fun _ => ?_; (try refine sx_use ?_))))
      refine SxLdN.row 2 rfl rfl (j := j * 32) (by omega) (vs := fpE.enc y) (fpE.len y) (rowFp_at hy) ?_
      ((try refine sx_use ?_); (repeat (refine SxNew.mk fun _ => ?_; (try refine sx_use ?_))))
      refine SxLdN.blk 0 rfl (vs := fpE.enc x) (fpE.len x) (rowFp_all x) ?_
      ((try refine sx_use ?_); (repeat (refine SxNew.mk fun _ => ?_; (try refine sx_use ?_))))
      refine SxCall.quiet (HLess_any y.1 x.1 y.2 x.2) ?_
      ((try refine sx_use ?_); (repeat (refine SxNew.mk fun _ => ?_; (try refine sx_use ?_))))
      refine ⟨fun hg => ?_, fun hg => ?_⟩
      · ((try refine sx_use ?_); (repeat (refine SxNew.mk fun _ => ?_; (try refine sx_use ?_))))
        refine SxBnd.mk 1 (B.length - j) rfl rfl (by omega) (by omega) fun ao' a1 a2 => ?_
        ((try refine sx_use ?_); (repeat (refine SxNew.mk fun _ => ?_; (try refine sx_use ?_))))
        refine SxRound.mk (j + 1, ao') [0, 1, 2, 3] (by dsimp only; rw [Nat.sub_add_eq, Nat.sub_add_eq]; rfl) rfl rfl ⟨past_drop hA hpast hx hy ((ltbF_iff y x).1 hg), fun g hgg hj2 => ?_⟩ (by dsimp only; omega)
        dsimp only at hj2 ⊢
        rw [a1 (by omega), hbo gb rfl hjl, Option.map_some, Addr.add_lit]
        obtain rfl : gb = g := by simpa using hgg
        congr 2
        omega
      · have hiff := past_in hB hx hpast (fun z hz => by
          obtain rfl := Option.some.inj (hy.symm.trans hz)
          intro hl
          exact absurd (((ltbF_iff y x).2 hl).symm.trans hg) (by simp))
        ((try refine sx_use ?_); (repeat (refine SxNew.mk fun _ => ?_; (try refine sx_use ?_))))
        refine SxCode.drawAll rfl [] ?_
        ((try refine sx_use ?_); (repeat (refine SxNew.mk fun _ => ?_; (try refine sx_use ?_))))
        refine SxIA.ptr gb (j * 32) (hbo gb rfl hjl) 0 rfl (by omega) ?_
        ((try refine sx_use ?_); (repeat (refine SxNew.mk fun _ => ?_; (try refine sx_use ?_))))
        refine SxLdN.row 2 rfl rfl (j := j * 32) (by omega) (vs := fpE.enc y) (fpE.len y) (rowFp_at hy) ?_
        ((try refine sx_use ?_); (repeat (refine SxNew.mk fun _ => ?_; (try refine sx_use ?_))))
        refine SxLdN.blk 0 rfl (vs := fpE.enc x) (fpE.len x) (rowFp_all x) ?_
        ((try refine sx_use ?_); (repeat (refine SxNew.mk fun _ => ?_; (try refine sx_use ?_))))
        refine SxRun.eqFp (x := y) (y := x) ?_
        ((try refine sx_use ?_); (repeat (refine SxNew.mk fun _ => ?_; (try refine sx_use ?_))))
        refine SxIf.dec (fun h6 => ?_) (fun h6 => ?_)
        · have hin : x ∈ B := hiff.2 (by rw [hy, h6])
          rw [if_neg (show ¬ (!inB B x) = true by rw [show inB B x = true from decide_eq_true hin]; simp)] at hsn
          rw [if_pos (show inB B x = true from decide_eq_true hin)] at hsm
          have hsl := congrArg List.length hsm
          rw [List.length_append, ← hnb] at hsl
          ((try refine sx_use ?_); (repeat (refine SxNew.mk fun _ => ?_; (try refine sx_use ?_))))
          exact SxRound.mk (i + 1, j, bo', ro, rc) [1, 2, 3] (by dsimp only; rw [hsn, hsl]; rfl) (by dsimp only; rw [hsn]; rfl) rfl ⟨hlt, past_next hpast, hbo⟩ (by dsimp only; omega)
        · have hin : x ∉ B := fun hh => h6 (Option.some.inj (hy.symm.trans (hiff.1 hh)))
          rw [if_pos (show (!inB B x) = true by rw [show inB B x = false from decide_eq_false hin]; rfl)] at hsn
          rw [if_neg (show ¬ inB B x = true by rw [show inB B x = false from decide_eq_false hin]; simp)] at hsm
          ((try refine sx_use ?_); (repeat (refine SxNew.mk fun _ => ?_; (try refine sx_use ?_))))
          refine SxLdN.blk 0 rfl (vs := fpE.enc x) (fpE.len x) (rowFp_all x) ?_
          ((try refine sx_use ?_); (repeat (refine SxNew.mk fun _ => ?_; (try refine sx_use ?_))))
          refine SxFill.one rfl (fpE.len x) ?_
          ((try refine sx_use ?_); (repeat (refine SxNew.mk fun _ => ?_; (try refine sx_use ?_))))
          refine SxApp.mk 2 rfl 0 (.inr (.inr (.inr ⟨by decide, _, rfl⟩))) (m := 1) (by show (fpE.enc x).length = 1 * 32; exact fpE.len x) (fpE.one x) (by unfold maxLen; omega) (by omega) (cs' := fpE.fl (o ++ [x])) (by rw [fpE.fl_append, fpE.fl_one]; rfl) fun x3 c3 => ?_
          ((try refine sx_use ?_); (repeat (refine SxNew.mk fun _ => ?_; (try refine sx_use ?_))))
          exact SxRound.mk (i + 1, j, bo', x3, c3) [2, 3, 4] (by dsimp only; rw [hsn, hsm, ← hnb, List.length_append]; rfl) (by dsimp only; rw [hsn, List.length_append]; rfl) rfl ⟨hlt, past_next hpast, hbo⟩ (by dsimp only; omega)
    · have hiff := past_in hB hx hpast (fun z hz => by rw [List.getElem?_eq_none (by omega)] at hz; cases hz)
      have hin : x ∉ B := fun hh => by
        have := hiff.1 hh
        rw [List.getElem?_eq_none (by omega)] at this
        cases this
      ((try refine sx_use ?_); (repeat (refine SxNew.mk fun _ => ?_; (try refine sx_use ?_))))
      refine SxCode.drawAll rfl [] ?_
      ((try refine sx_use ?_); (repeat (refine SxNew.mk fun _ => ?_; (try refine sx_use ?_))))
      rw [if_pos (show (!inB B x) = true by rw [show inB B x = false from decide_eq_false hin]; rfl)] at hsn
      rw [if_neg (show ¬ inB B x = true by rw [show inB B x = false from decide_eq_false hin]; simp)] at hsm
      ((try refine sx_use ?_); (repeat (refine SxNew.mk fun _ => ?_; (try refine sx_use ?_))))
      refine SxLdN.blk 0 rfl (vs := fpE.enc x) (fpE.len x) (rowFp_all x) ?_
      ((try refine sx_use ?_); (repeat (refine SxNew.mk fun _ => ?_; (try refine sx_use ?_))))
      refine SxFill.one rfl (fpE.len x) ?_
      ((try refine sx_use ?_); (repeat (refine SxNew.mk fun _ => ?_; (try refine sx_use ?_))))
      refine SxApp.mk 2 rfl 0 (.inr (.inr (.inr ⟨by decide, _, rfl⟩))) (m := 1) (by show (fpE.enc x).length = 1 * 32; exact fpE.len x) (fpE.one x) (by unfold maxLen; omega) (by omega) (cs' := fpE.fl (o ++ [x])) (by rw [fpE.fl_append, fpE.fl_one]; rfl) fun x3 c3 => ?_
      ((try refine sx_use ?_); (repeat (refine SxNew.mk fun _ => ?_; (try refine sx_use ?_))))
      exact SxRound.mk (i + 1, j, bo', x3, c3) [2, 3, 4] (by dsimp only; rw [hsn, hsm, ← hnb, List.length_append]; rfl) (by dsimp only; rw [hsn, List.length_append]; rfl) rfl ⟨hlt, past_next hpast, hbo⟩ (by dsimp only; omega)
  · obtain rfl : i = A.length := by omega
    rw [List.take_length] at ho hnb
    subst ho hnb
    ((try refine sx_use ?_); (repeat (refine SxNew.mk fun _ => ?_; (try refine sx_use ?_))))
    exact SxDone.mk fun w' hs => ⟨ro, rc, rfl, hs.newRow 0 rfl⟩
theorem Common_any (a b : List Fp) (hal : a.length ≤ 1000000) (hbl : b.length ≤ 1000000) (ao bo : Option Addr) (ac bc : Nat) (w : World) (ha : Rd w ao (fpE.fl a)) (hb : Rd w bo (fpE.fl b)) :
    Calls Try.prog 28 #[.slice ao a.length ac, .slice bo b.length bc] w fun e w' => e = .returned (.int .i64 (((setF7 a).filter (inB (setF7 b))).length : Nat)) ∧ Below w.heap.size w w' := by
  refine sx_fn (S := SX) (M := []) (N := 14) (H0 := [.rd ao (fpE.fl a), .rd bo (fpE.fl b)]) Try.func28 rfl rfl rfl (Sat.twoRd _ ha hb) ?_
  ((try refine sx_use ?_); (repeat (refine SxNew.mk fun _ => ?_; (try refine sx_use ?_))))
  refine SxCall.newRow (fun w hs => split_any a b hal hbl ao bo ac bc w (hs.rd 0 rfl) (hs.rd 1 rfl)) fun a1 c1 => ?_
  ((try refine sx_use ?_); (repeat (refine SxNew.mk fun _ => ?_; (try refine sx_use ?_))))
  exact SxDone.mk fun w' hs => ⟨rfl, hs.touch.below⟩
theorem Minus_any (a b : List Fp) (hal : a.length ≤ 1000000) (hbl : b.length ≤ 1000000) (ao bo : Option Addr) (ac bc : Nat) (w : World) (ha : Rd w ao (fpE.fl a)) (hb : Rd w bo (fpE.fl b)) :
    Calls Try.prog 29 #[.slice ao a.length ac, .slice bo b.length bc] w fun e w' => ∃ ao' cap', e = .returned (.slice ao' ((setF7 a).filter fun x => !inB (setF7 b) x).length cap') ∧ NewRow w w' ao' ((setF7 a).filter fun x => !inB (setF7 b) x).length cap' 23 32 (fpE.fl ((setF7 a).filter fun x => !inB (setF7 b) x)) := by
  refine sx_fn (S := SX) (M := []) (N := 14) (H0 := [.rd ao (fpE.fl a), .rd bo (fpE.fl b)]) Try.func29 rfl rfl rfl (Sat.twoRd _ ha hb) ?_
  ((try refine sx_use ?_); (repeat (refine SxNew.mk fun _ => ?_; (try refine sx_use ?_))))
  refine SxCall.newRow (fun w hs => split_any a b hal hbl ao bo ac bc w (hs.rd 0 rfl) (hs.rd 1 rfl)) fun a1 c1 => ?_
  ((try refine sx_use ?_); (repeat (refine SxNew.mk fun _ => ?_; (try refine sx_use ?_))))
  exact SxDone.mk fun w' hs => ⟨_, _, rfl, hs.newRow 0 rfl⟩
set_option maxHeartbeats 1000000 in
theorem hOf_any (l : List Fp) (hl : l.length ≤ 1000000) (ao : Option Addr) (cap : Nat) (n : Int) (w : World) (hr : Rd w ao (fpE.fl l)) :
    Calls Try.prog 26 #[.slice ao l.length cap, .int .i64 n] w fun e w' => ∃ ao' cap', e = .returned (.slice ao' (setF7 (l.filter fun x => isF x.1 n)).length cap') ∧ NewRow w w' ao' (setF7 (l.filter fun x => isF x.1 n)).length cap' 23 32 (fpE.fl (setF7 (l.filter fun x => isF x.1 n))) := by
  refine sx_fn (S := SX) (M := []) (N := 27) (H0 := [.row none 0 0 23 32 [], .rd ao (fpE.fl l)]) Try.func26 rfl rfl rfl (Sat.nilRow 23 32 (Sat.oneRd _ hr)) ?_
  ((try refine sx_use ?_); (repeat (refine SxNew.mk fun _ => ?_; (try refine sx_use ?_))))
  refine SxCall.mk fun w hs => (hooks_sat hs n).mono ?_
  rintro e w' ⟨g, rfl, hs'⟩
  refine ⟨_, _, rfl, hs', ?_⟩
  ((try refine sx_use ?_); (repeat (refine SxNew.mk fun _ => ?_; (try refine sx_use ?_))))
  refine SxCode.loop (σ := Nat × Option Addr × Nat) [13, 6] [14, 15, 16, 8, 17, 18, 19, 20, 21, 22, 23, 6, 24, 13] (fun s => [.int .i64 (s.1 : Nat), .slice s.2.1 ((l.take s.1).filter fun x => isF x.1 n).length s.2.2]) (fun s => [.blk g 3 [.int .i64 (clampN n)], .row s.2.1 ((l.take s.1).filter fun x => isF x.1 n).length s.2.2 23 32 (fpE.fl ((l.take s.1).filter fun x => isF x.1 n)), .rd ao (fpE.fl l)])
    (fun s => s.1 ≤ l.length) (fun s => l.length - s.1) (0, none, 0) [0, 1, 2] rfl rfl rfl rfl (Nat.zero_le _) ?_
  rintro ⟨i, oo, oc⟩ hi
  dsimp only at hi ⊢
  have hon := filter_len (fun x : Fp => isF x.1 n) l i
  obtain ⟨o, ho⟩ : ∃ o, o = (l.take i).filter fun x => isF x.1 n := ⟨_, rfl⟩
  rw [← ho] at hon ⊢
  ((try refine sx_use ?_); (repeat (refine SxNew.mk fun _ => ?_; (try refine sx_use ?_))))
  refine SxIf.dec (fun h => ?_) (fun h => ?_)
  · have hlt : i < l.length := by omega
    obtain ⟨x, hx⟩ : ∃ x, l[i]? = some x := ⟨l[i], by simp [hlt]⟩
    have hsn := filter_snoc (fun x : Fp => isF x.1 n) hx
    rw [← ho] at hsn
    ((try refine sx_use ?_); (repeat (refine SxNew.mk fun _ => ?_; (try refine sx_use ?_))))
    refine SxIA.rd 2 _ rfl i rfl hlt (by rw [rowFp_len]; omega) fun g off ha => ?_
    ((try refine sx_use ?_); (repeat (refine SxNew.mk fun _ => ?_; (try refine sx_use ?_))))
    refine SxLdN.rd 2 rfl ha rfl (vs := fpE.enc x) (fpE.len x) (rowFp_at hx) ?_
    ((try refine sx_use ?_); (repeat (refine SxNew.mk fun _ => ?_; (try refine sx_use ?_))))
    refine SxSt.elem fpE (x := x) 0 rfl rfl ?_
    ((try refine sx_use ?_); (repeat (refine SxNew.mk fun _ => ?_; (try refine sx_use ?_))))
    refine SxLdN.blk 0 rfl (vs := fpE.enc x) (fpE.len x) (rowFp_all x) ?_
    ((try refine sx_use ?_); (repeat (refine SxNew.mk fun _ => ?_; (try refine sx_use ?_))))
    refine SxCall.quietS (fun w hs => hooks1_any x.1 x.2 _ (clampN n) w (hs.blk 1 rfl)) ?_
    ((try refine sx_use ?_); (repeat (refine SxNew.mk fun _ => ?_; (try refine sx_use ?_))))
    refine SxIf.dec (fun h1 => ?_) (fun h1 => ?_)
    · rw [if_pos (show isF x.1 n = true from decide_eq_true h1)] at hsn
      ((try refine sx_use ?_); (repeat (refine SxNew.mk fun _ => ?_; (try refine sx_use ?_))))
      refine SxLdN.blk 0 rfl (vs := fpE.enc x) (fpE.len x) (rowFp_all x) ?_
      ((try refine sx_use ?_); (repeat (refine SxNew.mk fun _ => ?_; (try refine sx_use ?_))))
      refine SxFill.one rfl (fpE.len x) ?_
      ((try refine sx_use ?_); (repeat (refine SxNew.mk fun _ => ?_; (try refine sx_use ?_))))
      refine SxApp.mk 3 rfl 0 (.inr (.inr (.inr ⟨by decide, _, rfl⟩))) (m := 1) (by show (fpE.enc x).length = 1 * 32; exact fpE.len x) (fpE.one x) (by unfold maxLen; omega) (by omega) (cs' := fpE.fl (o ++ [x])) (by rw [fpE.fl_append, fpE.fl_one]; rfl) fun x3 c3 => ?_
      ((try refine sx_use ?_); (repeat (refine SxNew.mk fun _ => ?_; (try refine sx_use ?_))))
      exact SxRound.mk (i + 1, x3, c3) [2, 3, 4] (by dsimp only; rw [hsn, List.length_append]; rfl) (by dsimp only; rw [hsn, List.length_append]; rfl) rfl hlt (by dsimp only; omega)
    · rw [if_neg (show ¬ isF x.1 n = true by rw [show isF x.1 n = false from decide_eq_false h1]; simp)] at hsn
      ((try refine sx_use ?_); (repeat (refine SxNew.mk fun _ => ?_; (try refine sx_use ?_))))
      exact SxRound.mk (i + 1, oo, oc) [1, 2, 3] (by dsimp only; rw [hsn]; rfl) (by dsimp only; rw [hsn]; rfl) rfl hlt (by dsimp only; omega)
  · obtain rfl : i = l.length := by omega
    rw [List.take_length] at ho
    subst ho
    have hfl := List.length_filter_le (fun x : Fp => isF x.1 n) l
    ((try refine sx_use ?_); (repeat (refine SxNew.mk fun _ => ?_; (try refine sx_use ?_))))
    refine SxCall.newRow (fun w hs => HSet_any (l.filter fun x => isF x.1 n) (by omega) oo oc w (hs.rowRd 1 rfl (by rw [rowFp_len]; unfold maxLen; omega))) fun ao' cap' => ?_
    ((try refine sx_use ?_); (repeat (refine SxNew.mk fun _ => ?_; (try refine sx_use ?_))))
    exact SxDone.mk fun w' hs => ⟨ao', cap', rfl, hs.newRow 0 rfl⟩
end Go.Proofs.Ytffkjbcelbfejaa
