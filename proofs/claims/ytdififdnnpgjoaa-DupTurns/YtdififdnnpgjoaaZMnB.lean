/- The walks of layer 15: the document's Entry, May, Same; the program's Same. -/
import Derived.Test.YtdififdnnpgjoaaZMnA
namespace Go.Proofs.Ytdififdnnpgjoaa
open Go.RowKit

theorem RMSame_any (id jd : Int) (es fs : List En) (ao bo : Option Addr) (ac bc : Nat) (w : World) (ha : Rd w ao (enE.fl es)) (hb : Rd w bo (enE.fl fs)) :
    Calls Try.prog 25 #[mnV id ao es.length ac, mnV jd bo fs.length bc] w fun e w' => e = .returned (.bool (decide (id = jd ∧ es = fs))) ∧ Below w.heap.size w w' := by
  have hlen : es.length * 35 ≤ maxLen := by have := ha.1; rw [rowEn_len] at this; exact this
  unfold maxLen at hlen
  refine sx_fn (S := SX) (M := []) (N := 38) (H0 := [.rd ao (enE.fl es), .rd bo (enE.fl fs)]) Try.func25 rfl rfl rfl (Sat.twoRd _ ha hb) ?_
  ((try refine sx_use ?_); (repeat (refine SxNew.mk fun _ => ?_; (try refine sx_use ?_))))
  rename_i b1 b2
  refine SxIf.ne (fun h => ?_) (fun h => ?_)
  · ((try refine sx_use ?_); (repeat (refine SxNew.mk fun _ => ?_; (try refine sx_use ?_))))
    exact SxDone.mk fun w' hs => ⟨by rw [decide_eq_false (fun hh => h hh.1)]; rfl, hs.touch.below⟩
  subst h
  ((try refine sx_use ?_); (repeat (refine SxNew.mk fun _ => ?_; (try refine sx_use ?_))))
  refine SxIf.ne (fun h => ?_) (fun h => ?_)
  · ((try refine sx_use ?_); (repeat (refine SxNew.mk fun _ => ?_; (try refine sx_use ?_))))
    exact SxDone.mk fun w' hs => ⟨by rw [decide_eq_false (fun hh => h (by rw [hh.2]))]; rfl, hs.touch.below⟩
  have hl : es.length = fs.length := by omega
  ((try refine sx_use ?_); (repeat (refine SxNew.mk fun _ => ?_; (try refine sx_use ?_))))
  refine SxCode.loop (σ := Nat) [5, 4] [20, 21, 22, 23, 24, 27, 28, 29, 30, 31, 32, 33, 34, 35, 36, 37, 4, 25, 26, 5] (fun k => [.int .i64 (k : Nat), .bool false]) (fun _ => [.blk b2 57 [.int .u32 id, .slice bo fs.length bc], .blk b1 57 [.int .u32 id, .slice ao es.length ac], .rd ao (enE.fl es), .rd bo (enE.fl fs)]) (fun k => k ≤ es.length ∧ es.take k = fs.take k) (fun k => es.length - k) 0 [0, 1, 2, 3] rfl rfl rfl rfl ⟨Nat.zero_le _, rfl⟩ ?_
  rintro k ⟨hk, heq⟩
  ((try refine sx_use ?_); (repeat (refine SxNew.mk fun _ => ?_; (try refine sx_use ?_))))
  refine SxIf.dec (fun h => ?_) (fun h => ?_)
  · have hlt : k < es.length := by omega
    obtain ⟨x, hx⟩ : ∃ x, es[k]? = some x := ⟨es[k], by simp [hlt]⟩
    obtain ⟨y, hy⟩ : ∃ y, fs[k]? = some y := ⟨fs[k]'(by omega), by simp [show k < fs.length by omega]⟩
    ((try refine sx_use ?_); (repeat (refine SxNew.mk fun _ => ?_; (try refine sx_use ?_))))
    refine SxCode.drawAll rfl [] ?_
    ((try refine sx_use ?_); (repeat (refine SxNew.mk fun _ => ?_; (try refine sx_use ?_))))
    refine SxIA.rd 2 _ rfl k rfl hlt (by rw [rowEn_len]; omega) fun g off ha => ?_
    ((try refine sx_use ?_); (repeat (refine SxNew.mk fun _ => ?_; (try refine sx_use ?_))))
    refine SxLdN.rd 2 rfl ha rfl (vs := enC x) (enC_len x) (rowEn_at hx) ?_
    ((try refine sx_use ?_); (repeat (refine SxNew.mk fun _ => ?_; (try refine sx_use ?_))))
    refine SxIA.rd 3 _ rfl k rfl (by omega) (by rw [rowEn_len]; omega) fun g off ha => ?_
    ((try refine sx_use ?_); (repeat (refine SxNew.mk fun _ => ?_; (try refine sx_use ?_))))
    refine SxLdN.rd 3 rfl ha rfl (vs := enC y) (enC_len y) (rowEn_at hy) ?_
    ((try refine sx_use ?_); (repeat (refine SxNew.mk fun _ => ?_; (try refine sx_use ?_))))
    refine SxRun.neEn (x := x) (y := y) ?_
    ((try refine sx_use ?_); (repeat (refine SxNew.mk fun _ => ?_; (try refine sx_use ?_))))
    refine SxIf.nt (SxIf.dec (fun h3 => ?_) (fun h3 => ?_))
    · ((try refine sx_use ?_); (repeat (refine SxNew.mk fun _ => ?_; (try refine sx_use ?_))))
      exact SxRound.mk (k + 1) [0, 1, 2, 3] rfl rfl rfl ⟨hlt, by rw [List.take_add_one, List.take_add_one, heq, hx, hy, h3]⟩ (by omega)
    · ((try refine sx_use ?_); (repeat (refine SxNew.mk fun _ => ?_; (try refine sx_use ?_))))
      refine SxDone.mk fun w' hs => ⟨?_, hs.touch.below⟩
      rw [decide_eq_false (fun hh => h3 (Option.some.inj (by rw [← hx, ← hy, hh.2])))]; rfl
  · obtain rfl : k = es.length := by omega
    rw [List.take_length, hl, List.take_length] at heq
    ((try refine sx_use ?_); (repeat (refine SxNew.mk fun _ => ?_; (try refine sx_use ?_))))
    exact SxDone.mk fun w' hs => ⟨by rw [decide_eq_true ⟨rfl, heq⟩]; rfl, hs.touch.below⟩
theorem MSame_any (id jd : Int) (es fs : List En) (ao bo : Option Addr) (ac bc : Nat) (w : World) (ha : Rd w ao (enE.fl es)) (hb : Rd w bo (enE.fl fs)) :
    Calls Try.prog 41 #[mnV id ao es.length ac, mnV jd bo fs.length bc] w fun e w' => e = .returned (.bool (decide (id = jd ∧ es = fs))) ∧ Below w.heap.size w w' := by
  refine sx_fn (S := SX) (M := []) (N := 17) (H0 := [.rd ao (enE.fl es), .rd bo (enE.fl fs)]) Try.func41 rfl rfl rfl (Sat.twoRd _ ha hb) ?_
  ((try refine sx_use ?_); (repeat (refine SxNew.mk fun _ => ?_; (try refine sx_use ?_))))
  refine SxIf.eq (fun h => ?_) (fun h => ?_)
  · subst h
    ((try refine sx_use ?_); (repeat (refine SxNew.mk fun _ => ?_; (try refine sx_use ?_))))
    refine SxCall.quietS (fun w hs => EqualEn_any es fs ao bo ac bc w (hs.rd 2 rfl) (hs.rd 3 rfl)) ?_
    ((try refine sx_use ?_); (repeat (refine SxNew.mk fun _ => ?_; (try refine sx_use ?_))))
    refine SxDone.mk fun w' hs => ⟨?_, hs.touch.below⟩
    show Ending.returned (.bool (decide (es = fs))) = _
    congr 2
    rw [decide_eq_decide]
    exact ⟨fun h => ⟨rfl, h⟩, fun h => h.2⟩
  · ((try refine sx_use ?_); (repeat (refine SxNew.mk fun _ => ?_; (try refine sx_use ?_))))
    exact SxDone.mk fun w' hs => ⟨by rw [decide_eq_false (fun hh => h hh.1)]; rfl, hs.touch.below⟩
end Go.Proofs.Ytdififdnnpgjoaa
