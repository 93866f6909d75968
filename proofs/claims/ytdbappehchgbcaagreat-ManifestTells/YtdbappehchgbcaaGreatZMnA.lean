/- The walks of layer 15: number, Check, Size; Entry, May, Same. -/
import Derived.Test.YtdbappehchgbcaaGreatZSlEn
namespace Go.Proofs.YtdbappehchgbcaaGreat
open Go.RowKit

def mnV (id : Int) (ao : Option Addr) (n cap : Nat) : Value := .agg #[.int .u32 id, .slice ao n cap]
def okNo (x : Int) : Prop := 1 ≤ x ∧ x ≤ 4294967294
instance (x : Int) : Decidable (okNo x) := by unfold okNo; infer_instance
theorem mnum_any (x : Int) (w : World) : Calls Tryz.prog 45 #[.int .u32 x] w fun e w' => e = .returned (.bool (decide (okNo x))) ∧ Below w.heap.size w w' := by
  refine sx_fn (S := SX) (M := []) (N := 9) (H0 := []) Tryz.func45 rfl rfl rfl (Sat.nil _ _) ?_
  ((try refine sx_use ?_); (repeat (refine SxNew.mk fun _ => ?_; (try refine sx_use ?_))))
  refine SxIf.dec (fun h => ?_) (fun h => ?_)
  · ((try refine sx_use ?_); (repeat (refine SxNew.mk fun _ => ?_; (try refine sx_use ?_))))
    refine SxDone.mk fun w' hs => ⟨?_, hs.touch.below⟩
    show Ending.returned (.bool (decide (x ≤ 4294967294))) = _
    congr 2
    rw [decide_eq_decide]
    unfold okNo
    omega
  · ((try refine sx_use ?_); (repeat (refine SxNew.mk fun _ => ?_; (try refine sx_use ?_))))
    exact SxDone.mk fun w' hs => ⟨by rw [decide_eq_false (fun hh : okNo x => by unfold okNo at hh; omega)]; rfl, hs.touch.below⟩
def okEn (e : En) : Prop := 1 ≤ e.ln ∧ e.ln ≤ 4096 ∧ okNo e.bx ∧ 0 ≤ e.sl ∧ e.sl < 256
instance (e : En) : Decidable (okEn e) := by unfold okEn; infer_instance
theorem Chk_any (e : En) (w : World) : Calls Tryz.prog 44 #[.agg (enC e).toArray] w fun en w' => en = .returned (.bool (!decide (okEn e))) ∧ Below w.heap.size w w' := by
  have l0 : (enC e)[32]? = some (.int .i64 e.ln) := enC_tail e 0 _ rfl
  have l1 : (enC e)[33]? = some (.int .u32 e.bx) := enC_tail e 1 _ rfl
  have l2 : (enC e)[34]? = some (.int .i64 e.sl) := enC_tail e 2 _ rfl
  have bad : ¬ okEn e → (!decide (okEn e)) = true := fun h => by rw [decide_eq_false h]; rfl
  refine sx_fn (S := SX) (M := []) (N := 27) (H0 := []) Tryz.func44 rfl rfl rfl (Sat.nil _ _) ?_
  ((try refine sx_use ?_); (repeat (refine SxNew.mk fun _ => ?_; (try refine sx_use ?_))))
  refine SxLd.blk 0 rfl l0 ?_
  ((try refine sx_use ?_); (repeat (refine SxNew.mk fun _ => ?_; (try refine sx_use ?_))))
  refine SxIf.dec (fun h1 => ?_) (fun h1 => ?_)
  · ((try refine sx_use ?_); (repeat (refine SxNew.mk fun _ => ?_; (try refine sx_use ?_))))
    exact SxDone.mk fun w' hs => ⟨by rw [bad (fun h => by have := h.1; omega)]; rfl, hs.touch.below⟩
  ((try refine sx_use ?_); (repeat (refine SxNew.mk fun _ => ?_; (try refine sx_use ?_))))
  refine SxLd.blk 0 rfl l0 ?_
  ((try refine sx_use ?_); (repeat (refine SxNew.mk fun _ => ?_; (try refine sx_use ?_))))
  refine SxIf.dec (fun h2 => ?_) (fun h2 => ?_)
  · ((try refine sx_use ?_); (repeat (refine SxNew.mk fun _ => ?_; (try refine sx_use ?_))))
    exact SxDone.mk fun w' hs => ⟨by rw [bad (fun h => by have := h.2.1; omega)]; rfl, hs.touch.below⟩
  ((try refine sx_use ?_); (repeat (refine SxNew.mk fun _ => ?_; (try refine sx_use ?_))))
  refine SxLd.blk 0 rfl l1 ?_
  ((try refine sx_use ?_); (repeat (refine SxNew.mk fun _ => ?_; (try refine sx_use ?_))))
  refine SxCall.quiet (mnum_any e.bx) ?_
  ((try refine sx_use ?_); (repeat (refine SxNew.mk fun _ => ?_; (try refine sx_use ?_))))
  refine SxIf.nt (SxIf.dec (fun h3 => ?_) (fun h3 => ?_))
  · ((try refine sx_use ?_); (repeat (refine SxNew.mk fun _ => ?_; (try refine sx_use ?_))))
    refine SxLd.blk 0 rfl l2 ?_
    ((try refine sx_use ?_); (repeat (refine SxNew.mk fun _ => ?_; (try refine sx_use ?_))))
    refine SxIf.dec (fun h4 => ?_) (fun h4 => ?_)
    · ((try refine sx_use ?_); (repeat (refine SxNew.mk fun _ => ?_; (try refine sx_use ?_))))
      exact SxDone.mk fun w' hs => ⟨by rw [bad (fun h => by have := h.2.2.2.1; omega)]; rfl, hs.touch.below⟩
    ((try refine sx_use ?_); (repeat (refine SxNew.mk fun _ => ?_; (try refine sx_use ?_))))
    refine SxLd.blk 0 rfl l2 ?_
    ((try refine sx_use ?_); (repeat (refine SxNew.mk fun _ => ?_; (try refine sx_use ?_))))
    refine SxDone.mk fun w' hs => ⟨?_, hs.touch.below⟩
    show Ending.returned (.bool (decide (e.sl ≥ 256))) = _
    by_cases h5 : e.sl ≥ 256
    · rw [decide_eq_true h5, bad (fun h => by have := h.2.2.2.2; omega)]
    · rw [decide_eq_false h5, decide_eq_true (show okEn e from ⟨by omega, by omega, h3, by omega, by omega⟩)]; rfl
  · ((try refine sx_use ?_); (repeat (refine SxNew.mk fun _ => ?_; (try refine sx_use ?_))))
    exact SxDone.mk fun w' hs => ⟨by rw [bad (fun h => h3 h.2.2.1)]; rfl, hs.touch.below⟩
def chkE : Value := .func (.func 44) #[] #[]
def allEn (es : List En) : Prop := ∀ e ∈ es, okEn e
instance (es : List En) : Decidable (allEn es) := by unfold allEn; infer_instance
theorem IndexE_any (ms : List En) (ao : Option Addr) (cap : Nat) (w : World) (hr : Rd w ao (enE.fl ms)) :
    Calls Tryz.prog 63 #[.slice ao ms.length cap, chkE] w fun e w' => ∃ r : Int, (e = .returned (.int .i64 r) ∧ (allEn ms → r = -1) ∧ (¬ allEn ms → 0 ≤ r)) ∧ Below w.heap.size w w' := by
  have hlen : ms.length * 35 ≤ maxLen := by have := hr.1; rw [rowEn_len] at this; exact this
  unfold maxLen at hlen
  refine sx_fn (S := SX) (M := []) (N := 19) (H0 := [.rd ao (enE.fl ms)]) Tryz.func63 rfl rfl rfl (Sat.oneRd _ hr) ?_
  ((try refine sx_use ?_); (repeat (refine SxNew.mk fun _ => ?_; (try refine sx_use ?_))))
  refine SxCode.loop (σ := Nat) [8] [9, 10, 5, 11, 12, 13, 14, 15, 16, 17, 4, 18, 8] (fun k => [.int .i64 (k : Nat)]) (fun _ => [.rd ao (enE.fl ms)]) (fun k => k ≤ ms.length ∧ allEn (ms.take k)) (fun k => ms.length - k) 0 [0] rfl rfl rfl rfl ⟨Nat.zero_le _, by intro x hx; simp at hx⟩ ?_
  rintro k ⟨hk, hall⟩
  ((try refine sx_use ?_); (repeat (refine SxNew.mk fun _ => ?_; (try refine sx_use ?_))))
  refine SxIf.dec (fun h => ?_) (fun h => ?_)
  · have hlt : k < ms.length := by omega
    obtain ⟨x, hx⟩ : ∃ x, ms[k]? = some x := ⟨ms[k], by simp [hlt]⟩
    ((try refine sx_use ?_); (repeat (refine SxNew.mk fun _ => ?_; (try refine sx_use ?_))))
    refine SxIA.rd 0 _ rfl k rfl hlt (by rw [rowEn_len]; omega) fun g off ha => ?_
    ((try refine sx_use ?_); (repeat (refine SxNew.mk fun _ => ?_; (try refine sx_use ?_))))
    refine SxLdN.rd 0 rfl ha rfl (vs := enC x) (enC_len x) (rowEn_at hx) ?_
    ((try refine sx_use ?_); (repeat (refine SxNew.mk fun _ => ?_; (try refine sx_use ?_))))
    refine SxCall.quiet (Chk_any x) ?_
    ((try refine sx_use ?_); (repeat (refine SxNew.mk fun _ => ?_; (try refine sx_use ?_))))
    refine SxIf.nt (SxIf.dec (fun h2 => ?_) (fun h2 => ?_))
    · ((try refine sx_use ?_); (repeat (refine SxNew.mk fun _ => ?_; (try refine sx_use ?_))))
      refine SxRound.mk (k + 1) [0] rfl rfl rfl ⟨hlt, ?_⟩ (by omega)
      intro y hy
      rw [List.take_add_one, hx] at hy
      rcases List.mem_append.1 hy with h3 | h3
      · exact hall y h3
      · simp at h3; subst h3; exact h2
    · ((try refine sx_use ?_); (repeat (refine SxNew.mk fun _ => ?_; (try refine sx_use ?_))))
      exact SxDone.mk fun w' hs => ⟨_, ⟨rfl, fun h3 => absurd (h3 x (List.mem_of_getElem? hx)) h2, fun _ => by omega⟩, hs.touch.below⟩
  · obtain rfl : k = ms.length := by omega
    rw [List.take_length] at hall
    ((try refine sx_use ?_); (repeat (refine SxNew.mk fun _ => ?_; (try refine sx_use ?_))))
    exact SxDone.mk fun w' hs => ⟨_, ⟨rfl, fun _ => rfl, fun h3 => absurd hall h3⟩, hs.touch.below⟩
theorem ContainsE_any (ms : List En) (ao : Option Addr) (cap : Nat) (w : World) (hr : Rd w ao (enE.fl ms)) :
    Calls Tryz.prog 46 #[.slice ao ms.length cap, chkE] w fun e w' => e = .returned (.bool (!decide (allEn ms))) ∧ Below w.heap.size w w' := by
  refine sx_fn (S := SX) (M := []) (N := 9) (H0 := [.rd ao (enE.fl ms)]) Tryz.func46 rfl rfl rfl (Sat.oneRd _ hr) ?_
  ((try refine sx_use ?_); (repeat (refine SxNew.mk fun _ => ?_; (try refine sx_use ?_))))
  refine SxCall.mk fun w hs => (IndexE_any ms ao cap w (hs.rd 0 rfl)).mono ?_
  rintro e w' ⟨r, ⟨rfl, h1, h2⟩, hb⟩
  refine ⟨_, _, rfl, hs.below hb, ?_⟩
  clear hb hs w'
  ((try refine sx_use ?_); (repeat (refine SxNew.mk fun _ => ?_; (try refine sx_use ?_))))
  refine SxDone.mk fun w' hs => ⟨?_, hs.touch.below⟩
  show Ending.returned (.bool (decide (r ≥ 0))) = _
  by_cases ha : allEn ms
  · rw [h1 ha, decide_eq_true ha]; rfl
  · rw [decide_eq_true (h2 ha), decide_eq_false ha]; rfl
def sizeM (n : Int) : Int := if 1 ≤ n ∧ n ≤ 256 then 14 + n * 40 else 0
theorem MSize_any (n : Int) (w : World) : Calls Tryz.prog 13 #[.int .i64 n] w fun e w' => e = .returned (.int .i64 (sizeM n)) ∧ Below w.heap.size w w' := by
  refine sx_fn (S := SX) (M := []) (N := 12) (H0 := []) Tryz.func13 rfl rfl rfl (Sat.nil _ _) ?_
  ((try refine sx_use ?_); (repeat (refine SxNew.mk fun _ => ?_; (try refine sx_use ?_))))
  refine SxIf.dec (fun h => ?_) (fun h => ?_)
  · ((try refine sx_use ?_); (repeat (refine SxNew.mk fun _ => ?_; (try refine sx_use ?_))))
    exact SxDone.mk fun w' hs => ⟨by unfold sizeM; rw [if_neg (by omega)]; rfl, hs.touch.below⟩
  · ((try refine sx_use ?_); (repeat (refine SxNew.mk fun _ => ?_; (try refine sx_use ?_))))
    refine SxIf.dec (fun h2 => ?_) (fun h2 => ?_)
    · ((try refine sx_use ?_); (repeat (refine SxNew.mk fun _ => ?_; (try refine sx_use ?_))))
      exact SxDone.mk fun w' hs => ⟨by unfold sizeM; rw [if_neg (by omega)]; rfl, hs.touch.below⟩
    · ((try refine sx_use ?_); (repeat (refine SxNew.mk fun _ => ?_; (try refine sx_use ?_))))
      exact SxDone.mk fun w' hs => ⟨by unfold sizeM; rw [if_pos (by omega)]; rfl, hs.touch.below⟩
/-- P15.1: may there be such a manifest? -/
def mayM (id : Int) (es : List En) : Prop := okNo id ∧ 1 ≤ es.length ∧ es.length ≤ 256 ∧ allEn es
instance (id : Int) (es : List En) : Decidable (mayM id es) := by unfold mayM; infer_instance
theorem MCheck_any (id : Int) (es : List En) (ao : Option Addr) (cap : Nat) (w : World) (hr : Rd w ao (enE.fl es)) :
    Calls Tryz.prog 18 #[mnV id ao es.length cap] w fun e w' => e = .returned (.int .i64 (if mayM id es then 0 else 1)) ∧ Below w.heap.size w w' := by
  have bad : ¬ mayM id es → (if mayM id es then (0 : Int) else 1) = 1 := fun h => if_neg h
  refine sx_fn (S := SX) (M := []) (N := 21) (H0 := [.rd ao (enE.fl es)]) Tryz.func18 rfl rfl rfl (Sat.oneRd _ hr) ?_
  ((try refine sx_use ?_); (repeat (refine SxNew.mk fun _ => ?_; (try refine sx_use ?_))))
  refine SxCall.quiet (mnum_any id) ?_
  ((try refine sx_use ?_); (repeat (refine SxNew.mk fun _ => ?_; (try refine sx_use ?_))))
  refine SxIf.nt (SxIf.dec (fun h1 => ?_) (fun h1 => ?_))
  · ((try refine sx_use ?_); (repeat (refine SxNew.mk fun _ => ?_; (try refine sx_use ?_))))
    refine SxCall.quiet (MSize_any es.length) ?_
    ((try refine sx_use ?_); (repeat (refine SxNew.mk fun _ => ?_; (try refine sx_use ?_))))
    refine SxIf.eq (fun h2 => ?_) (fun h2 => ?_)
    · ((try refine sx_use ?_); (repeat (refine SxNew.mk fun _ => ?_; (try refine sx_use ?_))))
      refine SxDone.mk fun w' hs => ⟨?_, hs.touch.below⟩
      rw [bad (fun h => by obtain ⟨_, a, b, _⟩ := h; unfold sizeM at h2; rw [if_pos (by omega)] at h2; omega)]; rfl
    · have hg : 1 ≤ es.length ∧ es.length ≤ 256 := by
        unfold sizeM at h2
        split at h2
        · omega
        · exact absurd rfl h2
      ((try refine sx_use ?_); (repeat (refine SxNew.mk fun _ => ?_; (try refine sx_use ?_))))
      refine SxCall.quietS (fun w hs => ContainsE_any es ao cap w (hs.rd 1 rfl)) ?_
      ((try refine sx_use ?_); (repeat (refine SxNew.mk fun _ => ?_; (try refine sx_use ?_))))
      refine SxIf.nt (SxIf.dec (fun h3 => ?_) (fun h3 => ?_))
      · ((try refine sx_use ?_); (repeat (refine SxNew.mk fun _ => ?_; (try refine sx_use ?_))))
        exact SxDone.mk fun w' hs => ⟨by rw [if_pos (show mayM id es from ⟨h1, hg.1, hg.2, h3⟩)]; rfl, hs.touch.below⟩
      · ((try refine sx_use ?_); (repeat (refine SxNew.mk fun _ => ?_; (try refine sx_use ?_))))
        exact SxDone.mk fun w' hs => ⟨by rw [bad (fun h => h3 h.2.2.2)]; rfl, hs.touch.below⟩
  · ((try refine sx_use ?_); (repeat (refine SxNew.mk fun _ => ?_; (try refine sx_use ?_))))
    exact SxDone.mk fun w' hs => ⟨by rw [bad (fun h => h1 h.1)]; rfl, hs.touch.below⟩
end Go.Proofs.YtdbappehchgbcaaGreat
