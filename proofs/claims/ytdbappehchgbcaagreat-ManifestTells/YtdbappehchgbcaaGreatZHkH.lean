/- The walks of layer 7: the document's sets. -/
import Derived.Test.YtdbappehchgbcaaGreatZHkG
namespace Go.Proofs.YtdbappehchgbcaaGreat
open Go.RowKit

theorem RHas_any (l : List Fp) (x : Fp) (ao : Option Addr) (cap : Nat) (w : World) (hr : Rd w ao (fpE.fl l)) :
    Calls Tryz.prog 82 #[.slice ao l.length cap, fpV x.1] w fun e w' => e = .returned (.bool (decide (x ∈ l))) ∧ Below w.heap.size w w' := by
  have hlen : l.length * 32 ≤ maxLen := by have := hr.1; rw [rowFp_len] at this; exact this
  unfold maxLen at hlen
  refine sx_fn (S := SX) (M := []) (N := 18) (H0 := [.rd ao (fpE.fl l)]) Tryz.func82 rfl rfl rfl (Sat.oneRd _ hr) ?_
  ((try refine sx_use ?_); (repeat (refine SxNew.mk fun _ => ?_; (try refine sx_use ?_))))
  rename_i b
  refine SxCode.loop (σ := Nat) [5] [6, 7, 8, 9, 12, 13, 14, 15, 16, 17, 4, 10, 11, 5] (fun k => [.int .i64 (k : Nat)]) (fun _ => [.blk b 39 (fpE.enc x), .rd ao (fpE.fl l)]) (fun k => k ≤ l.length ∧ x ∉ l.take k) (fun k => l.length - k) 0 [0, 1] rfl rfl rfl rfl ⟨Nat.zero_le _, by simp⟩ ?_
  rintro k ⟨hk, hno⟩
  ((try refine sx_use ?_); (repeat (refine SxNew.mk fun _ => ?_; (try refine sx_use ?_))))
  refine SxIf.dec (fun h => ?_) (fun h => ?_)
  · have hlt : k < l.length := by omega
    obtain ⟨y, hy⟩ : ∃ y, l[k]? = some y := ⟨l[k], by simp [hlt]⟩
    ((try refine sx_use ?_); (repeat (refine SxNew.mk fun _ => ?_; (try refine sx_use ?_))))
    refine SxCode.drawAll rfl [] ?_
    ((try refine sx_use ?_); (repeat (refine SxNew.mk fun _ => ?_; (try refine sx_use ?_))))
    refine SxIA.rd 1 _ rfl k rfl hlt (by rw [rowFp_len]; omega) fun g off ha => ?_
    ((try refine sx_use ?_); (repeat (refine SxNew.mk fun _ => ?_; (try refine sx_use ?_))))
    refine SxLdN.rd 1 rfl ha rfl (vs := fpE.enc y) (fpE.len y) (rowFp_at hy) ?_
    ((try refine sx_use ?_); (repeat (refine SxNew.mk fun _ => ?_; (try refine sx_use ?_))))
    refine SxLdN.blk 0 rfl (vs := fpE.enc x) (fpE.len x) (rowFp_all x) ?_
    ((try refine sx_use ?_); (repeat (refine SxNew.mk fun _ => ?_; (try refine sx_use ?_))))
    refine SxRun.eqFp (x := y) (y := x) ?_
    ((try refine sx_use ?_); (repeat (refine SxNew.mk fun _ => ?_; (try refine sx_use ?_))))
    refine SxIf.dec (fun h1 => ?_) (fun h1 => ?_)
    · ((try refine sx_use ?_); (repeat (refine SxNew.mk fun _ => ?_; (try refine sx_use ?_))))
      exact SxDone.mk fun w' hs => ⟨by rw [decide_eq_true (h1 ▸ List.mem_of_getElem? hy)]; rfl, hs.touch.below⟩
    · ((try refine sx_use ?_); (repeat (refine SxNew.mk fun _ => ?_; (try refine sx_use ?_))))
      exact SxRound.mk (k + 1) [0, 1] rfl rfl rfl ⟨hlt, fun h2 => by
        rw [take_snocE hy, List.mem_append, List.mem_singleton] at h2
        exact h2.elim hno fun e => h1 e.symm⟩ (by omega)
  · obtain rfl : k = l.length := by omega
    rw [List.take_length] at hno
    ((try refine sx_use ?_); (repeat (refine SxNew.mk fun _ => ?_; (try refine sx_use ?_))))
    exact SxDone.mk fun w' hs => ⟨by rw [decide_eq_false hno]; rfl, hs.touch.below⟩
theorem RSame_any (a b : List Fp) (ao bo : Option Addr) (ac bc : Nat) (w : World) (ha : Rd w ao (fpE.fl a)) (hb : Rd w bo (fpE.fl b)) :
    Calls Tryz.prog 10 #[.slice ao a.length ac, .slice bo b.length bc] w fun e w' => e = .returned (.bool (decide (a = b))) ∧ Below w.heap.size w w' := by
  have hal : a.length * 32 ≤ maxLen := by have := ha.1; rw [rowFp_len] at this; exact this
  unfold maxLen at hal
  refine sx_fn (S := SX) (M := []) (N := 26) (H0 := [.rd ao (fpE.fl a), .rd bo (fpE.fl b)]) Tryz.func10 rfl rfl rfl (Sat.twoRd _ ha hb) ?_
  ((try refine sx_use ?_); (repeat (refine SxNew.mk fun _ => ?_; (try refine sx_use ?_))))
  refine SxIf.ne (fun h => ?_) (fun h => ?_)
  · ((try refine sx_use ?_); (repeat (refine SxNew.mk fun _ => ?_; (try refine sx_use ?_))))
    exact SxDone.mk fun w' hs => ⟨by rw [decide_eq_false fun he => h (by rw [he])]; rfl, hs.touch.below⟩
  have hl : a.length = b.length := by omega
  ((try refine sx_use ?_); (repeat (refine SxNew.mk fun _ => ?_; (try refine sx_use ?_))))
  refine SxCode.loop (σ := Nat) [5] [11, 12, 13, 14, 17, 18, 19, 20, 21, 22, 23, 24, 25, 4, 15, 16, 5] (fun k => [.int .i64 (k : Nat)]) (fun _ => [.rd ao (fpE.fl a), .rd bo (fpE.fl b)]) (fun k => k ≤ a.length ∧ a.take k = b.take k) (fun k => a.length - k) 0 [0, 1] rfl rfl rfl rfl ⟨Nat.zero_le _, rfl⟩ ?_
  rintro k ⟨hk, he⟩
  ((try refine sx_use ?_); (repeat (refine SxNew.mk fun _ => ?_; (try refine sx_use ?_))))
  refine SxIf.dec (fun h => ?_) (fun h => ?_)
  · have hlt : k < a.length := by omega
    have hlt2 : k < b.length := by omega
    obtain ⟨x, hx⟩ : ∃ x, a[k]? = some x := ⟨a[k], by simp [hlt]⟩
    obtain ⟨y, hy⟩ : ∃ y, b[k]? = some y := ⟨b[k], by simp [hlt2]⟩
    ((try refine sx_use ?_); (repeat (refine SxNew.mk fun _ => ?_; (try refine sx_use ?_))))
    refine SxCode.drawAll rfl [] ?_
    ((try refine sx_use ?_); (repeat (refine SxNew.mk fun _ => ?_; (try refine sx_use ?_))))
    refine SxIA.rd 0 _ rfl k rfl hlt (by rw [rowFp_len]; omega) fun g off ha => ?_
    ((try refine sx_use ?_); (repeat (refine SxNew.mk fun _ => ?_; (try refine sx_use ?_))))
    refine SxLdN.rd 0 rfl ha rfl (vs := fpE.enc x) (fpE.len x) (rowFp_at hx) ?_
    ((try refine sx_use ?_); (repeat (refine SxNew.mk fun _ => ?_; (try refine sx_use ?_))))
    refine SxIA.rd 1 _ rfl k rfl hlt2 (by rw [rowFp_len]; omega) fun g off ha => ?_
    ((try refine sx_use ?_); (repeat (refine SxNew.mk fun _ => ?_; (try refine sx_use ?_))))
    refine SxLdN.rd 1 rfl ha rfl (vs := fpE.enc y) (fpE.len y) (rowFp_at hy) ?_
    ((try refine sx_use ?_); (repeat (refine SxNew.mk fun _ => ?_; (try refine sx_use ?_))))
    refine SxRun.neFp (x := x) (y := y) ?_
    ((try refine sx_use ?_); (repeat (refine SxNew.mk fun _ => ?_; (try refine sx_use ?_))))
    refine SxIf.nt (SxIf.dec (fun h2 => ?_) (fun h2 => ?_))
    · subst h2
      ((try refine sx_use ?_); (repeat (refine SxNew.mk fun _ => ?_; (try refine sx_use ?_))))
      exact SxRound.mk (k + 1) [0, 1] rfl rfl rfl ⟨hlt, by rw [take_snocE hx, take_snocE hy, he]⟩ (by omega)
    · have h3 : a ≠ b := fun e => h2 (by subst e; exact Option.some.inj (hx.symm.trans hy))
      ((try refine sx_use ?_); (repeat (refine SxNew.mk fun _ => ?_; (try refine sx_use ?_))))
      exact SxDone.mk fun w' hs => ⟨by rw [decide_eq_false h3]; rfl, hs.touch.below⟩
  · obtain rfl : k = a.length := by omega
    rw [List.take_length, hl, List.take_length] at he
    ((try refine sx_use ?_); (repeat (refine SxNew.mk fun _ => ?_; (try refine sx_use ?_))))
    exact SxDone.mk fun w' hs => ⟨by rw [decide_eq_true he]; rfl, hs.touch.below⟩
abbrev setR7 (l : List Fp) : List Fp := setR ltbF l
theorem setR7_eq (l : List Fp) : setR7 l = setF7 l := (setS_R ltF_ord cfF_iff ltbF_iff l).symm
theorem takeWhile_at {α : Type} {p : α → Bool} {l : List α} {k : Nat} (h1 : ∀ j y, j < k → l[j]? = some y → p y = true) (h2 : ∀ y, l[k]? = some y → p y = false) (hk : k ≤ l.length) : l.takeWhile p = l.take k ∧ l.dropWhile p = l.drop k := by
  induction k generalizing l with
  | zero =>
    cases l with
    | nil => exact ⟨rfl, rfl⟩
    | cons y r =>
      have := h2 y rfl
      rw [List.takeWhile_cons_of_neg (by rw [this]; simp), List.dropWhile_cons_of_neg (by rw [this]; simp)]
      exact ⟨rfl, rfl⟩
  | succ k ih =>
    cases l with
    | nil => simp at hk
    | cons y r =>
      have hy := h1 0 y (by omega) rfl
      obtain ⟨e1, e2⟩ := ih (l := r) (fun j z hj hz => h1 (j + 1) z (by omega) (by simpa using hz)) (fun z hz => h2 z (by simpa using hz)) (by simpa using hk)
      rw [List.takeWhile_cons_of_pos hy, List.dropWhile_cons_of_pos hy, e1, e2]
      exact ⟨rfl, rfl⟩
set_option maxHeartbeats 2000000 in
theorem RSet_any (l : List Fp) (hl : l.length ≤ 1000000) (ao : Option Addr) (cap : Nat) (w : World) (hr : Rd w ao (fpE.fl l)) :
    Calls Tryz.prog 55 #[.slice ao l.length cap] w fun e w' => ∃ ao' cap', e = .returned (.slice ao' (setR7 l).length cap') ∧ NewRow w w' ao' (setR7 l).length cap' 39 32 (fpE.fl (setR7 l)) := by
  refine sx_fn (S := SX) (M := []) (N := 54) (H0 := [.row none 0 0 39 32 [], .rd ao (fpE.fl l)]) Tryz.func55 rfl rfl rfl ((Sat.oneRd _ hr).nilRow 39 32) ?_
  ((try refine sx_use ?_); (repeat (refine SxNew.mk fun _ => ?_; (try refine sx_use ?_))))
  refine SxCode.loop (σ := Nat × Option Addr × Nat) [4, 3] [7, 8, 9, 10, 13, 14, 15, 16, 17, 18, 5, 19, 20, 21, 22, 23, 24, 25, 26, 27, 28, 29, 30, 31, 32, 33, 34, 35, 36, 37, 38, 39, 40, 6, 41, 42, 43, 44, 45, 46, 47, 48, 49, 50, 51, 52, 3, 11, 12, 4] (fun s => [.int .i64 (s.1 : Nat), .slice s.2.1 (setR7 (l.take s.1)).length s.2.2]) (fun s => [.row s.2.1 (setR7 (l.take s.1)).length s.2.2 39 32 (fpE.fl (setR7 (l.take s.1))), .rd ao (fpE.fl l)])
    (fun s => s.1 ≤ l.length) (fun s => l.length - s.1) (0, none, 0) [0, 1] rfl rfl rfl rfl (Nat.zero_le _) ?_
  rintro ⟨i, oo, oc⟩ hi
  dsimp only at hi ⊢
  have hon := setR_len ltbF (l.take i)
  rw [List.length_take] at hon
  obtain ⟨o, ho⟩ : ∃ o, o = setR7 (l.take i) := ⟨_, rfl⟩
  rw [← ho]
  have hon : o.length ≤ i := by rw [ho]; show (setR ltbF _).length ≤ _; omega
  refine sx_base 0 rfl fun hoo hoc => ?_
  ((try refine sx_use ?_); (repeat (refine SxNew.mk fun _ => ?_; (try refine sx_use ?_))))
  refine SxIf.dec (fun h => ?_) (fun h => ?_)
  · have hlt : i < l.length := by omega
    obtain ⟨x, hx⟩ : ∃ x, l[i]? = some x := ⟨l[i], by simp [hlt]⟩
    have hsn : setR7 (l.take (i + 1)) = if x ∈ o then o else putIn ltbF x o := by
      rw [take_snocE hx]
      show setR ltbF _ = _
      rw [setR_snoc, show setR ltbF (l.take i) = o from ho.symm]
      congr 1
    ((try refine sx_use ?_); (repeat (refine SxNew.mk fun _ => ?_; (try refine sx_use ?_))))
    refine SxIA.rd 1 _ rfl i rfl hlt (by rw [rowFp_len]; omega) fun g off ha => ?_
    ((try refine sx_use ?_); (repeat (refine SxNew.mk fun _ => ?_; (try refine sx_use ?_))))
    refine SxLdN.rd 1 rfl ha rfl (vs := fpE.enc x) (fpE.len x) (rowFp_at hx) ?_
    ((try refine sx_use ?_); (repeat (refine SxNew.mk fun _ => ?_; (try refine sx_use ?_))))
    refine SxCall.quietS (fun w hs => RHas_any o x oo oc w (hs.rowRd 0 rfl (by rw [rowFp_len]; unfold maxLen; omega))) ?_
    ((try refine sx_use ?_); (repeat (refine SxNew.mk fun _ => ?_; (try refine sx_use ?_))))
    refine SxIf.dec (fun h1 => ?_) (fun h1 => ?_)
    · rw [if_pos h1] at hsn
      ((try refine sx_use ?_); (repeat (refine SxNew.mk fun _ => ?_; (try refine sx_use ?_))))
      exact SxRound.mk (i + 1, oo, oc) [0, 1] (by dsimp only; rw [hsn]; rfl) (by dsimp only; rw [hsn]; rfl) rfl hlt (by dsimp only; omega)
    · rw [if_neg h1] at hsn
      ((try refine sx_use ?_); (repeat (refine SxNew.mk fun _ => ?_; (try refine sx_use ?_))))
      refine SxCode.loop (σ := Nat) [5] [19, 20, 21, 22, 23, 24, 25, 26, 27, 28, 29, 30, 31, 32, 33, 34, 35, 5] (fun k => [.int .i64 (k : Nat)]) (fun _ => [.row oo o.length oc 39 32 (fpE.fl o), .rd ao (fpE.fl l)]) (fun k => k ≤ o.length ∧ ∀ j y, j < k → o[j]? = some y → ltbF y x = true) (fun k => o.length - k) 0 [0, 1] rfl rfl rfl rfl ⟨Nat.zero_le _, fun j y hj => absurd hj (Nat.not_lt_zero _)⟩ ?_
      rintro k ⟨hk, hall⟩
      have back : ∀ (hno : ∀ y, o[k]? = some y → ltbF y x = false), putIn ltbF x o = o.take k ++ x :: o.drop k := fun hno => by
        obtain ⟨e1, e2⟩ := takeWhile_at (p := fun y => ltbF y x) hall hno hk
        unfold putIn
        rw [e1, e2]
      have hln : ∀ hno : ∀ y, o[k]? = some y → ltbF y x = false, (setR7 (l.take (i + 1))).length = 0 + (k - 0) + 1 + (o.length - k) := fun hno => by
        rw [hsn, back hno, List.length_append, List.length_cons, List.length_take, List.length_drop]
        omega
      ((try refine sx_use ?_); (repeat (refine SxNew.mk fun _ => ?_; (try refine sx_use ?_))))
      refine SxCode.drawAll rfl [] ?_
      ((try refine sx_use ?_); (repeat (refine SxNew.mk fun _ => ?_; (try refine sx_use ?_))))
      refine SxIf.dec (fun h5 => ?_) (fun h5 => ?_)
      · have hkl : k < o.length := by omega
        obtain ⟨y, hy⟩ : ∃ y, o[k]? = some y := ⟨o[k], by simp [hkl]⟩
        obtain ⟨g, rfl⟩ := hoo (by omega)
        ((try refine sx_use ?_); (repeat (refine SxNew.mk fun _ => ?_; (try refine sx_use ?_))))
        refine SxIA.row 0 _ _ _ rfl k rfl hkl fun g' hg' => ?_
        obtain rfl : g = g' := by simpa using hg'
        ((try refine sx_use ?_); (repeat (refine SxNew.mk fun _ => ?_; (try refine sx_use ?_))))
        refine SxLdN.row 0 rfl rfl rfl (vs := fpE.enc y) (fpE.len y) (rowFp_at hy) ?_
        ((try refine sx_use ?_); (repeat (refine SxNew.mk fun _ => ?_; (try refine sx_use ?_))))
        refine SxIA.rd 1 _ rfl i rfl hlt (by rw [rowFp_len]; omega) fun g off ha => ?_
        ((try refine sx_use ?_); (repeat (refine SxNew.mk fun _ => ?_; (try refine sx_use ?_))))
        refine SxLdN.rd 1 rfl ha rfl (vs := fpE.enc x) (fpE.len x) (rowFp_at hx) ?_
        ((try refine sx_use ?_); (repeat (refine SxNew.mk fun _ => ?_; (try refine sx_use ?_))))
        refine SxCall.quiet (RLess_any y.1 x.1 y.2 x.2) ?_
        ((try refine sx_use ?_); (repeat (refine SxNew.mk fun _ => ?_; (try refine sx_use ?_))))
        refine ⟨fun hg => ?_, fun hg => ?_⟩
        · ((try refine sx_use ?_); (repeat (refine SxNew.mk fun _ => ?_; (try refine sx_use ?_))))
          refine SxRound.mk (k + 1) [0, 1] rfl rfl rfl ⟨by omega, fun j z hj hz => ?_⟩ (by omega)
          rcases Nat.lt_succ_iff_lt_or_eq.1 hj with h6 | h6
          · exact hall j z h6 hz
          · subst h6
            obtain rfl := Option.some.inj (hy.symm.trans hz)
            exact hg
        · have hno : ∀ y, o[k]? = some y → ltbF y x = false := fun z hz => by
            obtain rfl := Option.some.inj (hy.symm.trans hz)
            exact hg
          ((try refine sx_use ?_); (repeat (refine SxNew.mk fun _ => ?_; (try refine sx_use ?_))))
          refine SxBnd.mk 0 k rfl rfl (by omega) (by omega) fun o1 a1 a2 => ?_
          ((try refine sx_use ?_); (repeat (refine SxNew.mk fun _ => ?_; (try refine sx_use ?_))))
          refine SxApp.from_ 0 rfl (vs := fpE.fl (o.take k)) (fun W M w hs => by
            have h8 := (hs.rowRd 1 rfl (by rw [rowFp_len]; unfold maxLen; omega)).sub (ao' := o1) 0 (k * 32) (fun hz => by
              rw [rowFp_len] at hz
              exact a1 (by omega))
            have h9 := fpE.fl_take o k
            rw [List.drop_zero, show (fpE.fl o).take (k * 32) = _ from h9] at h8
            exact h8) (by rw [rowFp_len, List.length_take, Nat.min_eq_left (by omega)]; rfl) (fpE.fl_allOne _) (by unfold maxLen; omega) (by omega) (cs' := fpE.fl (o.take k)) rfl fun x1 c1 => ?_
          ((try refine sx_use ?_); (repeat (refine SxNew.mk fun _ => ?_; (try refine sx_use ?_))))
          refine SxIA.rd 2 _ rfl i rfl hlt (by rw [rowFp_len]; omega) fun g off ha => ?_
          ((try refine sx_use ?_); (repeat (refine SxNew.mk fun _ => ?_; (try refine sx_use ?_))))
          refine SxLdN.rd 2 rfl ha rfl (vs := fpE.enc x) (fpE.len x) (rowFp_at hx) ?_
          ((try refine sx_use ?_); (repeat (refine SxNew.mk fun _ => ?_; (try refine sx_use ?_))))
          refine SxFill.one rfl (fpE.len x) ?_
          ((try refine sx_use ?_); (repeat (refine SxNew.mk fun _ => ?_; (try refine sx_use ?_))))
          refine SxApp.mk 1 rfl 0 (.inr (.inr (.inr ⟨by decide, _, rfl⟩))) (m := 1) (by show (fpE.enc x).length = 1 * 32; exact fpE.len x) (fpE.one x) (by unfold maxLen; omega) (by omega) (cs' := fpE.fl (o.take k ++ [x])) (by rw [fpE.fl_append, fpE.fl_one]; rfl) fun x2 c2 => ?_
          ((try refine sx_use ?_); (repeat (refine SxNew.mk fun _ => ?_; (try refine sx_use ?_))))
          refine SxBnd.mk k o.length rfl rfl (by omega) (by omega) fun o2 b1 b2 => ?_
          ((try refine sx_use ?_); (repeat (refine SxNew.mk fun _ => ?_; (try refine sx_use ?_))))
          refine SxApp.from_ 1 rfl (vs := fpE.fl (o.drop k)) (fun W M w hs => by
            have h8 := (hs.rowRd 2 rfl (by rw [rowFp_len]; unfold maxLen; omega)).sub (ao' := o2) (k * 32) (o.length * 32) (fun hz => by
              rw [rowFp_len] at hz
              exact b1 (by omega))
            have h9 := fpE.fl_drop o k
            rw [show (fpE.fl o).drop (k * 32) = _ from h9, List.take_of_length_le (by rw [rowFp_len, List.length_drop]; omega)] at h8
            exact h8) (by rw [rowFp_len, List.length_drop]) (fpE.fl_allOne _) (by unfold maxLen; omega) (by omega) (cs' := fpE.fl (putIn ltbF x o)) (by rw [← fpE.fl_append, back hno, List.append_assoc]; rfl) fun x3 c3 => ?_
          ((try refine sx_use ?_); (repeat (refine SxNew.mk fun _ => ?_; (try refine sx_use ?_))))
          exact SxRound.mk (i + 1, x3, c3) [1, 3] (by dsimp only; rw [hln hno]; rfl) (by dsimp only; rw [hln hno, hsn]; rfl) rfl hlt (by dsimp only; omega)
      · have hno : ∀ y, o[k]? = some y → ltbF y x = false := fun z hz => by
          rw [List.getElem?_eq_none (by omega)] at hz
          cases hz
        ((try refine sx_use ?_); (repeat (refine SxNew.mk fun _ => ?_; (try refine sx_use ?_))))
        refine SxBnd.mk 0 k rfl rfl (by omega) (by omega) fun o1 a1 a2 => ?_
        ((try refine sx_use ?_); (repeat (refine SxNew.mk fun _ => ?_; (try refine sx_use ?_))))
        refine SxApp.from_ 0 rfl (vs := fpE.fl (o.take k)) (fun W M w hs => by
          have h8 := (hs.rowRd 1 rfl (by rw [rowFp_len]; unfold maxLen; omega)).sub (ao' := o1) 0 (k * 32) (fun hz => by
            rw [rowFp_len] at hz
            exact a1 (by omega))
          have h9 := fpE.fl_take o k
          rw [List.drop_zero, show (fpE.fl o).take (k * 32) = _ from h9] at h8
          exact h8) (by rw [rowFp_len, List.length_take, Nat.min_eq_left (by omega)]; rfl) (fpE.fl_allOne _) (by unfold maxLen; omega) (by omega) (cs' := fpE.fl (o.take k)) rfl fun x1 c1 => ?_
        ((try refine sx_use ?_); (repeat (refine SxNew.mk fun _ => ?_; (try refine sx_use ?_))))
        refine SxIA.rd 2 _ rfl i rfl hlt (by rw [rowFp_len]; omega) fun g off ha => ?_
        ((try refine sx_use ?_); (repeat (refine SxNew.mk fun _ => ?_; (try refine sx_use ?_))))
        refine SxLdN.rd 2 rfl ha rfl (vs := fpE.enc x) (fpE.len x) (rowFp_at hx) ?_
        ((try refine sx_use ?_); (repeat (refine SxNew.mk fun _ => ?_; (try refine sx_use ?_))))
        refine SxFill.one rfl (fpE.len x) ?_
        ((try refine sx_use ?_); (repeat (refine SxNew.mk fun _ => ?_; (try refine sx_use ?_))))
        refine SxApp.mk 1 rfl 0 (.inr (.inr (.inr ⟨by decide, _, rfl⟩))) (m := 1) (by show (fpE.enc x).length = 1 * 32; exact fpE.len x) (fpE.one x) (by unfold maxLen; omega) (by omega) (cs' := fpE.fl (o.take k ++ [x])) (by rw [fpE.fl_append, fpE.fl_one]; rfl) fun x2 c2 => ?_
        ((try refine sx_use ?_); (repeat (refine SxNew.mk fun _ => ?_; (try refine sx_use ?_))))
        refine SxBnd.mk k o.length rfl rfl (by omega) (by omega) fun o2 b1 b2 => ?_
        ((try refine sx_use ?_); (repeat (refine SxNew.mk fun _ => ?_; (try refine sx_use ?_))))
        refine SxApp.from_ 1 rfl (vs := fpE.fl (o.drop k)) (fun W M w hs => by
          have h8 := (hs.rowRd 2 rfl (by rw [rowFp_len]; unfold maxLen; omega)).sub (ao' := o2) (k * 32) (o.length * 32) (fun hz => by
            rw [rowFp_len] at hz
            exact b1 (by omega))
          have h9 := fpE.fl_drop o k
          rw [show (fpE.fl o).drop (k * 32) = _ from h9, List.take_of_length_le (by rw [rowFp_len, List.length_drop]; omega)] at h8
          exact h8) (by rw [rowFp_len, List.length_drop]) (fpE.fl_allOne _) (by unfold maxLen; omega) (by omega) (cs' := fpE.fl (putIn ltbF x o)) (by rw [← fpE.fl_append, back hno, List.append_assoc]; rfl) fun x3 c3 => ?_
        ((try refine sx_use ?_); (repeat (refine SxNew.mk fun _ => ?_; (try refine sx_use ?_))))
        exact SxRound.mk (i + 1, x3, c3) [1, 3] (by dsimp only; rw [hln hno]; rfl) (by dsimp only; rw [hln hno, hsn]; rfl) rfl hlt (by dsimp only; omega)
  · obtain rfl : i = l.length := by omega
    rw [List.take_length] at ho
    subst ho
    ((try refine sx_use ?_); (repeat (refine SxNew.mk fun _ => ?_; (try refine sx_use ?_))))
    exact SxDone.mk fun w' hs => ⟨oo, oc, rfl, hs.newRow 0 rfl⟩
end Go.Proofs.YtdbappehchgbcaaGreat
