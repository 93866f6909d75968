/- The walks of layer 15: the document's Entry, May, Same; the program's Same. -/
import Derived.Test.YtdbappehchgbcaaZMnA
namespace Go.Proofs.Ytdbappehchgbcaa
open Go.RowKit

theorem REntry_any (e : En) (w : World) : Calls Try.prog 28 #[.agg (enC e).toArray] w fun en w' => en = .returned (.bool (decide (okEn e))) ∧ Below w.heap.size w w' := by
  have l0 : (enC e)[32]? = some (.int .i64 e.ln) := enC_tail e 0 _ rfl
  have l1 : (enC e)[33]? = some (.int .u32 e.bx) := enC_tail e 1 _ rfl
  have l2 : (enC e)[34]? = some (.int .i64 e.sl) := enC_tail e 2 _ rfl
  have bad : ¬ okEn e → decide (okEn e) = false := fun h => decide_eq_false h
  refine sx_fn (S := SX) (M := []) (N := 31) (H0 := []) Try.func28 rfl rfl rfl (Sat.nil _ _) ?_
  ((try refine sx_use ?_); (repeat (refine SxNew.mk fun _ => ?_; (try refine sx_use ?_))))
  refine SxLd.blk 0 rfl l0 ?_
  ((try refine sx_use ?_); (repeat (refine SxNew.mk fun _ => ?_; (try refine sx_use ?_))))
  refine SxIf.dec (fun h1 => ?_) (fun h1 => ?_)
  rotate_left
  · ((try refine sx_use ?_); (repeat (refine SxNew.mk fun _ => ?_; (try refine sx_use ?_))))
    exact SxDone.mk fun w' hs => ⟨by rw [bad (fun h => by have := h.1; omega)]; rfl, hs.touch.below⟩
  ((try refine sx_use ?_); (repeat (refine SxNew.mk fun _ => ?_; (try refine sx_use ?_))))
  refine SxLd.blk 0 rfl l0 ?_
  ((try refine sx_use ?_); (repeat (refine SxNew.mk fun _ => ?_; (try refine sx_use ?_))))
  refine SxIf.dec (fun h2 => ?_) (fun h2 => ?_)
  rotate_left
  · ((try refine sx_use ?_); (repeat (refine SxNew.mk fun _ => ?_; (try refine sx_use ?_))))
    exact SxDone.mk fun w' hs => ⟨by rw [bad (fun h => by have := h.2.1; omega)]; rfl, hs.touch.below⟩
  ((try refine sx_use ?_); (repeat (refine SxNew.mk fun _ => ?_; (try refine sx_use ?_))))
  refine SxLd.blk 0 rfl l1 ?_
  ((try refine sx_use ?_); (repeat (refine SxNew.mk fun _ => ?_; (try refine sx_use ?_))))
  refine SxIf.dec (fun h3 => ?_) (fun h3 => ?_)
  rotate_left
  · ((try refine sx_use ?_); (repeat (refine SxNew.mk fun _ => ?_; (try refine sx_use ?_))))
    exact SxDone.mk fun w' hs => ⟨by rw [bad (fun h => by have := h.2.2.1.1; omega)]; rfl, hs.touch.below⟩
  ((try refine sx_use ?_); (repeat (refine SxNew.mk fun _ => ?_; (try refine sx_use ?_))))
  refine SxLd.blk 0 rfl l1 ?_
  ((try refine sx_use ?_); (repeat (refine SxNew.mk fun _ => ?_; (try refine sx_use ?_))))
  refine SxIf.dec (fun h4 => ?_) (fun h4 => ?_)
  rotate_left
  · ((try refine sx_use ?_); (repeat (refine SxNew.mk fun _ => ?_; (try refine sx_use ?_))))
    exact SxDone.mk fun w' hs => ⟨by rw [bad (fun h => by have := h.2.2.1.2; omega)]; rfl, hs.touch.below⟩
  ((try refine sx_use ?_); (repeat (refine SxNew.mk fun _ => ?_; (try refine sx_use ?_))))
  refine SxLd.blk 0 rfl l2 ?_
  ((try refine sx_use ?_); (repeat (refine SxNew.mk fun _ => ?_; (try refine sx_use ?_))))
  refine SxIf.dec (fun h5 => ?_) (fun h5 => ?_)
  rotate_left
  · ((try refine sx_use ?_); (repeat (refine SxNew.mk fun _ => ?_; (try refine sx_use ?_))))
    exact SxDone.mk fun w' hs => ⟨by rw [bad (fun h => by have := h.2.2.2.1; omega)]; rfl, hs.touch.below⟩
  ((try refine sx_use ?_); (repeat (refine SxNew.mk fun _ => ?_; (try refine sx_use ?_))))
  refine SxLd.blk 0 rfl l2 ?_
  ((try refine sx_use ?_); (repeat (refine SxNew.mk fun _ => ?_; (try refine sx_use ?_))))
  refine SxDone.mk fun w' hs => ⟨?_, hs.touch.below⟩
  show Ending.returned (.bool (decide (e.sl < 256))) = _
  congr 2
  rw [decide_eq_decide]
  unfold okEn okNo
  omega
theorem RMay_any (id : Int) (es : List En) (ao : Option Addr) (cap : Nat) (w : World) (hr : Rd w ao (enE.fl es)) :
    Calls Try.prog 10 #[mnV id ao es.length cap] w fun e w' => e = .returned (.bool (decide (mayM id es))) ∧ Below w.heap.size w w' := by
  have hlen : es.length * 35 ≤ maxLen := by have := hr.1; rw [rowEn_len] at this; exact this
  unfold maxLen at hlen
  have bad : ¬ mayM id es → decide (mayM id es) = false := fun h => decide_eq_false h
  refine sx_fn (S := SX) (M := []) (N := 42) (H0 := [.rd ao (enE.fl es)]) Try.func10 rfl rfl rfl (Sat.oneRd _ hr) ?_
  ((try refine sx_use ?_); (repeat (refine SxNew.mk fun _ => ?_; (try refine sx_use ?_))))
  rename_i b
  refine SxCode.loop (σ := Nat) [3, 2] [4, 5, 6, 7, 8, 9, 10, 11, 12, 15, 16, 17, 18, 19, 20, 21, 2, 13, 14, 3] (fun k => [.int .i64 (k : Nat), .bool false]) (fun _ => [.blk b 25 [.int .u32 id, .slice ao es.length cap], .rd ao (enE.fl es)]) (fun k => k ≤ es.length ∧ k ≤ 257 ∧ allEn (es.take k)) (fun k => es.length - k) 0 [0, 1] rfl rfl rfl rfl ⟨Nat.zero_le _, Nat.zero_le _, by intro x hx; simp at hx⟩ ?_
  rintro k ⟨hk, hk2, hall⟩
  ((try refine sx_use ?_); (repeat (refine SxNew.mk fun _ => ?_; (try refine sx_use ?_))))
  refine SxIf.dec (fun h => ?_) (fun h => ?_)
  · have hlt : k < es.length := by omega
    ((try refine sx_use ?_); (repeat (refine SxNew.mk fun _ => ?_; (try refine sx_use ?_))))
    refine SxIf.dec (fun h2 => ?_) (fun h2 => ?_)
    · obtain ⟨x, hx⟩ : ∃ x, es[k]? = some x := ⟨es[k], by simp [hlt]⟩
      ((try refine sx_use ?_); (repeat (refine SxNew.mk fun _ => ?_; (try refine sx_use ?_))))
      refine SxIA.rd 1 _ rfl k rfl hlt (by rw [rowEn_len]; omega) fun g off ha => ?_
      ((try refine sx_use ?_); (repeat (refine SxNew.mk fun _ => ?_; (try refine sx_use ?_))))
      refine SxLdN.rd 1 rfl ha rfl (vs := enC x) (enC_len x) (rowEn_at hx) ?_
      ((try refine sx_use ?_); (repeat (refine SxNew.mk fun _ => ?_; (try refine sx_use ?_))))
      refine SxCall.quiet (REntry_any x) ?_
      ((try refine sx_use ?_); (repeat (refine SxNew.mk fun _ => ?_; (try refine sx_use ?_))))
      refine SxIf.nt (SxIf.dec (fun h3 => ?_) (fun h3 => ?_))
      · ((try refine sx_use ?_); (repeat (refine SxNew.mk fun _ => ?_; (try refine sx_use ?_))))
        refine SxRound.mk (k + 1) [0, 1] rfl rfl rfl ⟨hlt, by omega, ?_⟩ (by omega)
        intro y hy
        rw [List.take_add_one, hx] at hy
        rcases List.mem_append.1 hy with h4 | h4
        · exact hall y h4
        · simp at h4; subst h4; exact h3
      · ((try refine sx_use ?_); (repeat (refine SxNew.mk fun _ => ?_; (try refine sx_use ?_))))
        exact SxDone.mk fun w' hs => ⟨by rw [bad (fun h => h3 (h.2.2.2 x (List.mem_of_getElem? hx)))]; rfl, hs.touch.below⟩
    · have hfin : es.length ≤ 256 → allEn es := fun h => by omega
      ((try refine sx_use ?_); (repeat (refine SxNew.mk fun _ => ?_; (try refine sx_use ?_))))
      refine SxIf.dec (fun g1 => ?_) (fun g1 => ?_)
      rotate_left
      · ((try refine sx_use ?_); (repeat (refine SxNew.mk fun _ => ?_; (try refine sx_use ?_))))
        exact SxDone.mk fun w' hs => ⟨by rw [bad (fun h => by have := h.1.1; omega)]; rfl, hs.touch.below⟩
      ((try refine sx_use ?_); (repeat (refine SxNew.mk fun _ => ?_; (try refine sx_use ?_))))
      refine SxIf.dec (fun g2 => ?_) (fun g2 => ?_)
      rotate_left
      · ((try refine sx_use ?_); (repeat (refine SxNew.mk fun _ => ?_; (try refine sx_use ?_))))
        exact SxDone.mk fun w' hs => ⟨by rw [bad (fun h => by have := h.1.2; omega)]; rfl, hs.touch.below⟩
      ((try refine sx_use ?_); (repeat (refine SxNew.mk fun _ => ?_; (try refine sx_use ?_))))
      refine SxDone.mk fun w' hs => ⟨?_, hs.touch.below⟩
      show Ending.returned (.bool (decide ((es.length : Int) ≤ 256))) = _
      congr 2
      rw [decide_eq_decide]
      unfold mayM okNo
      exact ⟨fun h => ⟨⟨by omega, by omega⟩, by omega, by omega, hfin (by omega)⟩, fun h => by have := h.2.2.1; omega⟩
  · obtain rfl : k = es.length := by omega
    rw [List.take_length] at hall
    have hfin : es.length ≤ 256 → allEn es := fun _ => hall
    ((try refine sx_use ?_); (repeat (refine SxNew.mk fun _ => ?_; (try refine sx_use ?_))))
    refine SxIf.dec (fun g1 => ?_) (fun g1 => ?_)
    rotate_left
    · ((try refine sx_use ?_); (repeat (refine SxNew.mk fun _ => ?_; (try refine sx_use ?_))))
      exact SxDone.mk fun w' hs => ⟨by rw [bad (fun h => by have := h.1.1; omega)]; rfl, hs.touch.below⟩
    ((try refine sx_use ?_); (repeat (refine SxNew.mk fun _ => ?_; (try refine sx_use ?_))))
    refine SxIf.dec (fun g2 => ?_) (fun g2 => ?_)
    rotate_left
    · ((try refine sx_use ?_); (repeat (refine SxNew.mk fun _ => ?_; (try refine sx_use ?_))))
      exact SxDone.mk fun w' hs => ⟨by rw [bad (fun h => by have := h.1.2; omega)]; rfl, hs.touch.below⟩
    ((try refine sx_use ?_); (repeat (refine SxNew.mk fun _ => ?_; (try refine sx_use ?_))))
    refine SxIf.dec (fun g3 => ?_) (fun g3 => ?_)
    rotate_left
    · ((try refine sx_use ?_); (repeat (refine SxNew.mk fun _ => ?_; (try refine sx_use ?_))))
      exact SxDone.mk fun w' hs => ⟨by rw [bad (fun h => by have := h.2.1; omega)]; rfl, hs.touch.below⟩
    ((try refine sx_use ?_); (repeat (refine SxNew.mk fun _ => ?_; (try refine sx_use ?_))))
    refine SxDone.mk fun w' hs => ⟨?_, hs.touch.below⟩
    show Ending.returned (.bool (decide ((es.length : Int) ≤ 256))) = _
    congr 2
    rw [decide_eq_decide]
    unfold mayM okNo
    exact ⟨fun h => ⟨⟨by omega, by omega⟩, by omega, by omega, hfin (by omega)⟩, fun h => by have := h.2.2.1; omega⟩
theorem RMSame_any (id jd : Int) (es fs : List En) (ao bo : Option Addr) (ac bc : Nat) (w : World) (ha : Rd w ao (enE.fl es)) (hb : Rd w bo (enE.fl fs)) :
    Calls Try.prog 13 #[mnV id ao es.length ac, mnV jd bo fs.length bc] w fun e w' => e = .returned (.bool (decide (id = jd ∧ es = fs))) ∧ Below w.heap.size w w' := by
  have hlen : es.length * 35 ≤ maxLen := by have := ha.1; rw [rowEn_len] at this; exact this
  unfold maxLen at hlen
  refine sx_fn (S := SX) (M := []) (N := 38) (H0 := [.rd ao (enE.fl es), .rd bo (enE.fl fs)]) Try.func13 rfl rfl rfl (Sat.twoRd _ ha hb) ?_
  ((try refine sx_use ?_); (repeat (refine SxNew.mk fun _ => ?_; (try refine sx_use ?_))))
  rename_i b1 b2
  refine SxIf.ne (fun h => ?_) (fun h => ?_)
  · ((try refine sx_use ?_); (repeat (refine SxNew.mk fun _ => ?_; (try refine sx_use ?_))))
    exact SxDone.mk fun w' hs => ⟨by rw [decide_eq_false (fun hh => h hh.1)]; rfl, hs.touch.below⟩
  subst h
  ((try refine sx_use ?_); (repeat (refine SxNew.mk fun _ => ?_; (try refine sx_use ?_))))
  refine SxIf.ne (fun h => ?_) (fun h => ?_)
  · ((try refine sx_use ?_); (repeat (refine SxNew.mk fun _ => ?_; (try refine sx_use ?_))))
    exact SxDone.mk fun w' hs => ⟨by rw [decide_eq_false (fun hh => h (by rw [hh.2]))]; rfl, hs.touch.below⟩
  have hl : es.length = fs.length := by omega
  ((try refine sx_use ?_); (repeat (refine SxNew.mk fun _ => ?_; (try refine sx_use ?_))))
  refine SxCode.loop (σ := Nat) [5, 4] [20, 21, 22, 23, 24, 27, 28, 29, 30, 31, 32, 33, 34, 35, 36, 37, 4, 25, 26, 5] (fun k => [.int .i64 (k : Nat), .bool false]) (fun _ => [.blk b2 25 [.int .u32 id, .slice bo fs.length bc], .blk b1 25 [.int .u32 id, .slice ao es.length ac], .rd ao (enE.fl es), .rd bo (enE.fl fs)]) (fun k => k ≤ es.length ∧ es.take k = fs.take k) (fun k => es.length - k) 0 [0, 1, 2, 3] rfl rfl rfl rfl ⟨Nat.zero_le _, rfl⟩ ?_
  rintro k ⟨hk, heq⟩
  ((try refine sx_use ?_); (repeat (refine SxNew.mk fun _ => ?_; (try refine sx_use ?_))))
  refine SxIf.dec (fun h => ?_) (fun h => ?_)
  · have hlt : k < es.length := by omega
    obtain ⟨x, hx⟩ : ∃ x, es[k]? = some x := ⟨es[k], by simp [hlt]⟩
    obtain ⟨y, hy⟩ : ∃ y, fs[k]? = some y := ⟨fs[k]'(by omega), by simp [show k < fs.length by omega]⟩
    ((try refine sx_use ?_); (repeat (refine SxNew.mk fun _ => ?_; (try refine sx_use ?_))))
    refine SxCode.drawAll rfl [] ?_
    ((try refine sx_use ?_); (repeat (refine SxNew.mk fun _ => ?_; (try refine sx_use ?_))))
    refine SxIA.rd 2 _ rfl k rfl hlt (by rw [rowEn_len]; omega) fun g off ha => ?_
    ((try refine sx_use ?_); (repeat (refine SxNew.mk fun _ => ?_; (try refine sx_use ?_))))
    refine SxLdN.rd 2 rfl ha rfl (vs := enC x) (enC_len x) (rowEn_at hx) ?_
    ((try refine sx_use ?_); (repeat (refine SxNew.mk fun _ => ?_; (try refine sx_use ?_))))
    refine SxIA.rd 3 _ rfl k rfl (by omega) (by rw [rowEn_len]; omega) fun g off ha => ?_
    ((try refine sx_use ?_); (repeat (refine SxNew.mk fun _ => ?_; (try refine sx_use ?_))))
    refine SxLdN.rd 3 rfl ha rfl (vs := enC y) (enC_len y) (rowEn_at hy) ?_
    ((try refine sx_use ?_); (repeat (refine SxNew.mk fun _ => ?_; (try refine sx_use ?_))))
    refine SxRun.neEn (x := x) (y := y) ?_
    ((try refine sx_use ?_); (repeat (refine SxNew.mk fun _ => ?_; (try refine sx_use ?_))))
    refine SxIf.nt (SxIf.dec (fun h3 => ?_) (fun h3 => ?_))
    · ((try refine sx_use ?_); (repeat (refine SxNew.mk fun _ => ?_; (try refine sx_use ?_))))
      exact SxRound.mk (k + 1) [0, 1, 2, 3] rfl rfl rfl ⟨hlt, by rw [List.take_add_one, List.take_add_one, heq, hx, hy, h3]⟩ (by omega)
    · ((try refine sx_use ?_); (repeat (refine SxNew.mk fun _ => ?_; (try refine sx_use ?_))))
      refine SxDone.mk fun w' hs => ⟨?_, hs.touch.below⟩
      rw [decide_eq_false (fun hh => h3 (Option.some.inj (by rw [← hx, ← hy, hh.2])))]; rfl
  · obtain rfl : k = es.length := by omega
    rw [List.take_length, hl, List.take_length] at heq
    ((try refine sx_use ?_); (repeat (refine SxNew.mk fun _ => ?_; (try refine sx_use ?_))))
    exact SxDone.mk fun w' hs => ⟨by rw [decide_eq_true ⟨rfl, heq⟩]; rfl, hs.touch.below⟩
theorem MSame_any (id jd : Int) (es fs : List En) (ao bo : Option Addr) (ac bc : Nat) (w : World) (ha : Rd w ao (enE.fl es)) (hb : Rd w bo (enE.fl fs)) :
    Calls Try.prog 12 #[mnV id ao es.length ac, mnV jd bo fs.length bc] w fun e w' => e = .returned (.bool (decide (id = jd ∧ es = fs))) ∧ Below w.heap.size w w' := by
  refine sx_fn (S := SX) (M := []) (N := 17) (H0 := [.rd ao (enE.fl es), .rd bo (enE.fl fs)]) Try.func12 rfl rfl rfl (Sat.twoRd _ ha hb) ?_
  ((try refine sx_use ?_); (repeat (refine SxNew.mk fun _ => ?_; (try refine sx_use ?_))))
  refine SxIf.eq (fun h => ?_) (fun h => ?_)
  · subst h
    ((try refine sx_use ?_); (repeat (refine SxNew.mk fun _ => ?_; (try refine sx_use ?_))))
    refine SxCall.quietS (fun w hs => EqualEn_any es fs ao bo ac bc w (hs.rd 2 rfl) (hs.rd 3 rfl)) ?_
    ((try refine sx_use ?_); (repeat (refine SxNew.mk fun _ => ?_; (try refine sx_use ?_))))
    refine SxDone.mk fun w' hs => ⟨?_, hs.touch.below⟩
    show Ending.returned (.bool (decide (es = fs))) = _
    congr 2
    rw [decide_eq_decide]
    exact ⟨fun h => ⟨rfl, h⟩, fun h => h.2⟩
  · ((try refine sx_use ?_); (repeat (refine SxNew.mk fun _ => ?_; (try refine sx_use ?_))))
    exact SxDone.mk fun w' hs => ⟨by rw [decide_eq_false (fun hh => h hh.1)]; rfl, hs.touch.below⟩
end Go.Proofs.Ytdbappehchgbcaa
