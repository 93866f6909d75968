/- The walk of the document's set of places. -/
import Derived.Test.YtdififdnnpgjoaaZSlPl
namespace Go.Proofs.Ytdififdnnpgjoaa
open Go.RowKit

theorem takeWhile_atP {α : Type} {p : α → Bool} {l : List α} {k : Nat} (h1 : ∀ j y, j < k → l[j]? = some y → p y = true) (h2 : ∀ y, l[k]? = some y → p y = false) (hk : k ≤ l.length) : l.takeWhile p = l.take k ∧ l.dropWhile p = l.drop k := by
  induction k generalizing l with
  | zero =>
    cases l with
    | nil => exact ⟨rfl, rfl⟩
    | cons y r =>
      have := h2 y rfl
      rw [List.takeWhile_cons_of_neg (by rw [this]; simp), List.dropWhile_cons_of_neg (by rw [this]; simp)]
      exact ⟨rfl, rfl⟩
  | succ k ih =>
    cases l with
    | nil => simp at hk
    | cons y r =>
      have hy := h1 0 y (by omega) rfl
      obtain ⟨e1, e2⟩ := ih (l := r) (fun j z hj hz => h1 (j + 1) z (by omega) (by simpa using hz)) (fun z hz => h2 z (by simpa using hz)) (by simpa using hk)
      rw [List.takeWhile_cons_of_pos hy, List.dropWhile_cons_of_pos hy, e1, e2]
      exact ⟨rfl, rfl⟩
theorem strictP_at {l : List Pl} (h : l.Pairwise ltP) {i j : Nat} {x y : Pl} (hij : i < j) (hx : l[i]? = some x) (hy : l[j]? = some y) : ltP x y := by
  obtain ⟨hi, rfl⟩ := List.getElem?_eq_some_iff.1 hx
  obtain ⟨hj, rfl⟩ := List.getElem?_eq_some_iff.1 hy
  exact List.pairwise_iff_getElem.1 h i j hi hj hij
theorem at_stop {o : List Pl} {x : Pl} {k : Nat} (hst : o.Pairwise ltP) (hall : ∀ j y, j < k → o[j]? = some y → ltbP y x = true) (hno : ∀ y, o[k]? = some y → ltbP y x = false) : x ∈ o ↔ o[k]? = some x := by
  constructor
  · intro h
    obtain ⟨j, hj⟩ := List.getElem?_of_mem h
    rcases Nat.lt_trichotomy j k with h1 | h1 | h1
    · exact absurd ((ltbP_iff x x).1 (hall j x h1 hj)) (ltP_ord.irr x)
    · subst h1; exact hj
    · have hkl : k < o.length := by have := (List.getElem?_eq_some_iff.1 hj).1; omega
      obtain ⟨y, hy⟩ : ∃ y, o[k]? = some y := ⟨o[k], by simp [hkl]⟩
      have h2 := (ltbP_iff y x).2 (strictP_at hst h1 hy hj)
      rw [hno y hy] at h2
      cases h2
  · exact List.mem_of_getElem?
abbrev setP (l : List Pl) : List Pl := setS cfP l
abbrev setRP (l : List Pl) : List Pl := setR ltbP l
theorem setRP_eq (l : List Pl) : setRP l = setP l := (setS_R ltP_ord cfP_iff ltbP_iff l).symm
set_option maxHeartbeats 4000000 in
theorem RSetP_any (l : List Pl) (hl : l.length ≤ 1000000) (ao : Option Addr) (cap : Nat) (w : World) (hr : Rd w ao (plE.fl l)) :
    Calls Try.prog 52 #[.slice ao l.length cap] w fun e w' => ∃ ao' cap', e = .returned (.slice ao' (setRP l).length cap') ∧ NewRow w w' ao' (setRP l).length cap' 29 2 (plE.fl (setRP l)) := by
  refine sx_fn (S := SX) (M := []) (N := 63) (H0 := [.row none 0 0 29 2 [], .rd ao (plE.fl l)]) Try.func52 rfl rfl rfl ((Sat.oneRd _ hr).nilRow 29 2) ?_
  ((try refine sx_use ?_); (repeat (refine SxNew.mk fun _ => ?_; (try refine sx_use ?_))))
  refine SxCode.loop (σ := Nat × Option Addr × Nat) [4, 3] [7, 8, 9, 10, 5, 13, 14, 15, 16, 17, 18, 19, 20, 21, 22, 23, 24, 25, 26, 27, 28, 29, 30, 31, 32, 33, 34, 35, 36, 37, 38, 39, 40, 41, 42, 43, 44, 45, 46, 47, 48, 49, 6, 50, 51, 52, 53, 54, 55, 56, 57, 58, 59, 60, 61, 3, 11, 12, 4] (fun s => [.int .i64 (s.1 : Nat), .slice s.2.1 (setRP (l.take s.1)).length s.2.2]) (fun s => [.row s.2.1 (setRP (l.take s.1)).length s.2.2 29 2 (plE.fl (setRP (l.take s.1))), .rd ao (plE.fl l)])
    (fun s => s.1 ≤ l.length) (fun s => l.length - s.1) (0, none, 0) [0, 1] rfl rfl rfl rfl (Nat.zero_le _) ?_
  rintro ⟨i, oo, oc⟩ hi
  dsimp only at hi ⊢
  have hon := setR_len ltbP (l.take i)
  have hst := (setR_ok ltP_ord ltbP_iff (l.take i)).1
  rw [List.length_take] at hon
  obtain ⟨o, ho⟩ : ∃ o, o = setRP (l.take i) := ⟨_, rfl⟩
  rw [← ho]
  replace hst : o.Pairwise ltP := by rw [ho]; exact hst
  have hon : o.length ≤ i := by rw [ho]; show (setR ltbP _).length ≤ _; omega
  refine sx_base 0 rfl fun hoo hoc => ?_
  ((try refine sx_use ?_); (repeat (refine SxNew.mk fun _ => ?_; (try refine sx_use ?_))))
  refine SxIf.dec (fun h => ?_) (fun h => ?_)
  · have hlt : i < l.length := by omega
    obtain ⟨x, hx⟩ : ∃ x, l[i]? = some x := ⟨l[i], by simp [hlt]⟩
    have hsn : setRP (l.take (i + 1)) = if x ∈ o then o else putIn ltbP x o := by
      rw [take_snocE hx]
      show setR ltbP _ = _
      rw [setR_snoc, show setR ltbP (l.take i) = o from ho.symm]

    ((try refine sx_use ?_); (repeat (refine SxNew.mk fun _ => ?_; (try refine sx_use ?_))))
    refine SxCode.loop (σ := Nat) [5] [13, 14, 15, 16, 17, 18, 19, 20, 21, 22, 23, 24, 25, 26, 27, 28, 29, 5] (fun k => [.int .i64 (k : Nat)]) (fun _ => [.row oo o.length oc 29 2 (plE.fl o), .rd ao (plE.fl l)]) (fun k => k ≤ o.length ∧ ∀ j y, j < k → o[j]? = some y → ltbP y x = true) (fun k => o.length - k) 0 [0, 1] rfl rfl rfl rfl ⟨Nat.zero_le _, fun j y hj => absurd hj (Nat.not_lt_zero _)⟩ ?_
    rintro k ⟨hk, hall⟩
    have back : ∀ (hno : ∀ y, o[k]? = some y → ltbP y x = false), putIn ltbP x o = o.take k ++ x :: o.drop k := fun hno => by
      obtain ⟨e1, e2⟩ := takeWhile_atP (p := fun y => ltbP y x) hall hno hk
      unfold putIn
      rw [e1, e2]
    have hln : ∀ (hno : ∀ y, o[k]? = some y → ltbP y x = false) (hni : x ∉ o), (setRP (l.take (i + 1))).length = 0 + (k - 0) + 1 + (o.length - k) := fun hno hni => by
      rw [hsn, if_neg hni, back hno, List.length_append, List.length_cons, List.length_take, List.length_drop]
      omega
    ((try refine sx_use ?_); (repeat (refine SxNew.mk fun _ => ?_; (try refine sx_use ?_))))
    refine SxCode.drawAll rfl [] ?_
    ((try refine sx_use ?_); (repeat (refine SxNew.mk fun _ => ?_; (try refine sx_use ?_))))
    refine SxIf.dec (fun h5 => ?_) (fun h5 => ?_)
    · have hkl : k < o.length := by omega
      obtain ⟨y, hy⟩ : ∃ y, o[k]? = some y := ⟨o[k], by simp [hkl]⟩
      obtain ⟨g, rfl⟩ := hoo (by omega)
      ((try refine sx_use ?_); (repeat (refine SxNew.mk fun _ => ?_; (try refine sx_use ?_))))
      refine SxIA.row 0 _ _ _ rfl k rfl hkl fun g' hg' => ?_
      obtain rfl : g = g' := by simpa using hg'
      ((try refine sx_use ?_); (repeat (refine SxNew.mk fun _ => ?_; (try refine sx_use ?_))))
      refine SxLdN.row 0 rfl rfl rfl (vs := plE.enc y) (plE.len y) (rowPl_at hy) ?_
      ((try refine sx_use ?_); (repeat (refine SxNew.mk fun _ => ?_; (try refine sx_use ?_))))
      refine SxIA.rd 1 _ rfl i rfl hlt (by rw [rowPl_len]; omega) fun gi off ha => ?_
      ((try refine sx_use ?_); (repeat (refine SxNew.mk fun _ => ?_; (try refine sx_use ?_))))
      refine SxLdN.rd 1 rfl ha rfl (vs := plE.enc x) (plE.len x) (rowPl_at hx) ?_
      ((try refine sx_use ?_); (repeat (refine SxNew.mk fun _ => ?_; (try refine sx_use ?_))))
      refine SxCall.quiet (RLessP_any y x) ?_
      ((try refine sx_use ?_); (repeat (refine SxNew.mk fun _ => ?_; (try refine sx_use ?_))))
      refine ⟨fun hg => ?_, fun hg => ?_⟩
      · ((try refine sx_use ?_); (repeat (refine SxNew.mk fun _ => ?_; (try refine sx_use ?_))))
        refine SxRound.mk (k + 1) [0, 1] rfl rfl rfl ⟨by omega, fun j z hj hz => ?_⟩ (by omega)
        rcases Nat.lt_succ_iff_lt_or_eq.1 hj with h6 | h6
        · exact hall j z h6 hz
        · subst h6
          obtain rfl := Option.some.inj (hy.symm.trans hz)
          exact hg
      · have hno : ∀ y, o[k]? = some y → ltbP y x = false := fun z hz => by
          obtain rfl := Option.some.inj (hy.symm.trans hz)
          exact hg
        have hiff := at_stop hst hall hno
        ((try refine sx_use ?_); (repeat (refine SxNew.mk fun _ => ?_; (try refine sx_use ?_))))
        refine SxCode.drawAll rfl [] ?_
        ((try refine sx_use ?_); (repeat (refine SxNew.mk fun _ => ?_; (try refine sx_use ?_))))
        refine SxIA.row 0 _ _ _ rfl k rfl hkl fun g' hg' => ?_
        obtain rfl : g = g' := by simpa using hg'
        ((try refine sx_use ?_); (repeat (refine SxNew.mk fun _ => ?_; (try refine sx_use ?_))))
        refine SxLdN.row 0 rfl rfl rfl (vs := plE.enc y) (plE.len y) (rowPl_at hy) ?_
        ((try refine sx_use ?_); (repeat (refine SxNew.mk fun _ => ?_; (try refine sx_use ?_))))
        refine SxIA.rd 1 _ rfl i rfl hlt (by rw [rowPl_len]; omega) fun gi off ha => ?_
        ((try refine sx_use ?_); (repeat (refine SxNew.mk fun _ => ?_; (try refine sx_use ?_))))
        refine SxLdN.rd 1 rfl ha rfl (vs := plE.enc x) (plE.len x) (rowPl_at hx) ?_
        ((try refine sx_use ?_); (repeat (refine SxNew.mk fun _ => ?_; (try refine sx_use ?_))))
        refine SxRun.eqPl (x := y) (y := x) ?_
        ((try refine sx_use ?_); (repeat (refine SxNew.mk fun _ => ?_; (try refine sx_use ?_))))
        refine SxIf.dec (fun h7 => ?_) (fun h7 => ?_)
        · have hin : x ∈ o := hiff.2 (by rw [hy, h7])
          rw [if_pos hin] at hsn
          ((try refine sx_use ?_); (repeat (refine SxNew.mk fun _ => ?_; (try refine sx_use ?_))))
          exact SxRound.mk (i + 1, some ⟨g, 0, none⟩, oc) [0, 1] (by dsimp only; rw [hsn]; rfl) (by dsimp only; rw [hsn]; rfl) rfl hlt (by dsimp only; omega)
        · have hni : x ∉ o := fun h8 => h7 (Option.some.inj (hy.symm.trans (hiff.1 h8)))
          ((try refine sx_use ?_); (repeat (refine SxNew.mk fun _ => ?_; (try refine sx_use ?_))))
          refine SxBnd.mk 0 k rfl rfl (by omega) (by omega) fun o1 a1 a2 => ?_
          ((try refine sx_use ?_); (repeat (refine SxNew.mk fun _ => ?_; (try refine sx_use ?_))))
          refine SxApp.from_ 0 rfl (vs := plE.fl (o.take k)) (fun W M w hs => by
            have h8 := (hs.rowRd 1 rfl (by rw [rowPl_len]; unfold maxLen; omega)).sub (ao' := o1) 0 (k * 2) (fun hz => by
              rw [rowPl_len] at hz
              exact a1 (by omega))
            have h9 := plE.fl_take o k
            rw [List.drop_zero, show (plE.fl o).take (k * 2) = _ from h9] at h8
            exact h8) (by rw [rowPl_len, List.length_take, Nat.min_eq_left (by omega)]; rfl) (plE.fl_allOne _) (by unfold maxLen; omega) (by omega) (cs' := plE.fl (o.take k)) rfl fun x1 c1 => ?_
          ((try refine sx_use ?_); (repeat (refine SxNew.mk fun _ => ?_; (try refine sx_use ?_))))
          refine SxIA.rd 2 _ rfl i rfl hlt (by rw [rowPl_len]; omega) fun gi off ha => ?_
          ((try refine sx_use ?_); (repeat (refine SxNew.mk fun _ => ?_; (try refine sx_use ?_))))
          refine SxLdN.rd 2 rfl ha rfl (vs := plE.enc x) (plE.len x) (rowPl_at hx) ?_
          ((try refine sx_use ?_); (repeat (refine SxNew.mk fun _ => ?_; (try refine sx_use ?_))))
          refine SxApp.mk 1 rfl 0 (.inr (.inr (.inr ⟨by decide, _, rfl⟩))) (m := 1) (by show (plE.enc x).length = 1 * 2; exact plE.len x) (plE.one x) (by unfold maxLen; omega) (by omega) (cs' := plE.fl (o.take k ++ [x])) (by rw [plE.fl_append, plE.fl_one]; rfl) fun x2 c2 => ?_
          ((try refine sx_use ?_); (repeat (refine SxNew.mk fun _ => ?_; (try refine sx_use ?_))))
          refine SxBnd.mk k o.length rfl rfl (by omega) (by omega) fun o2 b1 b2 => ?_
          ((try refine sx_use ?_); (repeat (refine SxNew.mk fun _ => ?_; (try refine sx_use ?_))))
          refine SxApp.from_ 1 rfl (vs := plE.fl (o.drop k)) (fun W M w hs => by
            have h8 := (hs.rowRd 2 rfl (by rw [rowPl_len]; unfold maxLen; omega)).sub (ao' := o2) (k * 2) (o.length * 2) (fun hz => by
              rw [rowPl_len] at hz
              exact b1 (by omega))
            have h9 := plE.fl_drop o k
            rw [show (plE.fl o).drop (k * 2) = _ from h9, List.take_of_length_le (by rw [rowPl_len, List.length_drop]; omega)] at h8
            exact h8) (by rw [rowPl_len, List.length_drop]) (plE.fl_allOne _) (by unfold maxLen; omega) (by omega) (cs' := plE.fl (putIn ltbP x o)) (by rw [← plE.fl_append, back hno, List.append_assoc]; rfl) fun x3 c3 => ?_
          ((try refine sx_use ?_); (repeat (refine SxNew.mk fun _ => ?_; (try refine sx_use ?_))))
          exact SxRound.mk (i + 1, x3, c3) [1, 3] (by dsimp only; rw [hln hno hni]; rfl) (by dsimp only; rw [hln hno hni, hsn, if_neg hni]; rfl) rfl hlt (by dsimp only; omega)
    · have hno : ∀ y, o[k]? = some y → ltbP y x = false := fun z hz => by
        rw [List.getElem?_eq_none (by omega)] at hz
        cases hz
      have hiff := at_stop hst hall hno
      have hni : x ∉ o := fun h8 => by
        have := hiff.1 h8
        rw [List.getElem?_eq_none (by omega)] at this
        cases this
      ((try refine sx_use ?_); (repeat (refine SxNew.mk fun _ => ?_; (try refine sx_use ?_))))
      refine SxCode.drawAll rfl [] ?_
      ((try refine sx_use ?_); (repeat (refine SxNew.mk fun _ => ?_; (try refine sx_use ?_))))
      refine SxBnd.mk 0 k rfl rfl (by omega) (by omega) fun o1 a1 a2 => ?_
      ((try refine sx_use ?_); (repeat (refine SxNew.mk fun _ => ?_; (try refine sx_use ?_))))
      refine SxApp.from_ 0 rfl (vs := plE.fl (o.take k)) (fun W M w hs => by
        have h8 := (hs.rowRd 1 rfl (by rw [rowPl_len]; unfold maxLen; omega)).sub (ao' := o1) 0 (k * 2) (fun hz => by
          rw [rowPl_len] at hz
          exact a1 (by omega))
        have h9 := plE.fl_take o k
        rw [List.drop_zero, show (plE.fl o).take (k * 2) = _ from h9] at h8
        exact h8) (by rw [rowPl_len, List.length_take, Nat.min_eq_left (by omega)]; rfl) (plE.fl_allOne _) (by unfold maxLen; omega) (by omega) (cs' := plE.fl (o.take k)) rfl fun x1 c1 => ?_
      ((try refine sx_use ?_); (repeat (refine SxNew.mk fun _ => ?_; (try refine sx_use ?_))))
      refine SxIA.rd 2 _ rfl i rfl hlt (by rw [rowPl_len]; omega) fun gi off ha => ?_
      ((try refine sx_use ?_); (repeat (refine SxNew.mk fun _ => ?_; (try refine sx_use ?_))))
      refine SxLdN.rd 2 rfl ha rfl (vs := plE.enc x) (plE.len x) (rowPl_at hx) ?_
      ((try refine sx_use ?_); (repeat (refine SxNew.mk fun _ => ?_; (try refine sx_use ?_))))
      refine SxApp.mk 1 rfl 0 (.inr (.inr (.inr ⟨by decide, _, rfl⟩))) (m := 1) (by show (plE.enc x).length = 1 * 2; exact plE.len x) (plE.one x) (by unfold maxLen; omega) (by omega) (cs' := plE.fl (o.take k ++ [x])) (by rw [plE.fl_append, plE.fl_one]; rfl) fun x2 c2 => ?_
      ((try refine sx_use ?_); (repeat (refine SxNew.mk fun _ => ?_; (try refine sx_use ?_))))
      refine SxBnd.mk k o.length rfl rfl (by omega) (by omega) fun o2 b1 b2 => ?_
      ((try refine sx_use ?_); (repeat (refine SxNew.mk fun _ => ?_; (try refine sx_use ?_))))
      refine SxApp.from_ 1 rfl (vs := plE.fl (o.drop k)) (fun W M w hs => by
        have h8 := (hs.rowRd 2 rfl (by rw [rowPl_len]; unfold maxLen; omega)).sub (ao' := o2) (k * 2) (o.length * 2) (fun hz => by
          rw [rowPl_len] at hz
          exact b1 (by omega))
        have h9 := plE.fl_drop o k
        rw [show (plE.fl o).drop (k * 2) = _ from h9, List.take_of_length_le (by rw [rowPl_len, List.length_drop]; omega)] at h8
        exact h8) (by rw [rowPl_len, List.length_drop]) (plE.fl_allOne _) (by unfold maxLen; omega) (by omega) (cs' := plE.fl (putIn ltbP x o)) (by rw [← plE.fl_append, back hno, List.append_assoc]; rfl) fun x3 c3 => ?_
      ((try refine sx_use ?_); (repeat (refine SxNew.mk fun _ => ?_; (try refine sx_use ?_))))
      exact SxRound.mk (i + 1, x3, c3) [1, 3] (by dsimp only; rw [hln hno hni]; rfl) (by dsimp only; rw [hln hno hni, hsn, if_neg hni]; rfl) rfl hlt (by dsimp only; omega)
  · obtain rfl : i = l.length := by omega
    rw [List.take_length] at ho
    subst ho
    ((try refine sx_use ?_); (repeat (refine SxNew.mk fun _ => ?_; (try refine sx_use ?_))))
    exact SxDone.mk fun w' hs => ⟨oo, oc, rfl, hs.newRow 0 rfl⟩
end Go.Proofs.Ytdififdnnpgjoaa
