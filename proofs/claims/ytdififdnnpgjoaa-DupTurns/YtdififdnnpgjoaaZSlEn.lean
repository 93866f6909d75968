/- Package slices at api.Entry. -/
import Derived.Test.YtdififdnnpgjoaaZGen
import Derived.Test.YtdififdnnpgjoaaZEnA
namespace Go.Proofs.Ytdififdnnpgjoaa
open Go.RowKit

theorem rowEn_at {l : List En} {k : Nat} {x : En} (h : l[k]? = some x) : ((enE.fl l).drop (k * 35)).take 35 = enE.enc x := enE.fl_at h
theorem rowEn_cell {l : List En} {k j : Nat} {x : En} {v : Value} (h : l[k]? = some x) (hj : (enE.enc x)[j]? = some v) : (enE.fl l)[k * 35 + j]? = some v := enE.fl_cell h hj
theorem rowEn_all (x : En) : ((enE.enc x).drop 0).take 35 = enE.enc x := by
  have h : (enE.enc x).length ≤ 35 := Nat.le_of_eq (enE.len x)
  rw [List.drop_zero, List.take_of_length_le h]
theorem rowEn_len (l : List En) : (enE.fl l).length = l.length * 35 := enE.fl_len l
theorem CloneEn_any (l : List En) (ao : Option Addr) (cap : Nat) (hl : l.length ≤ 1000000) (w : World) (hr : Rd w ao (enE.fl l)) :
    Calls Try.prog 54 #[.slice ao l.length cap] w fun e w' => ∃ ao' cap', e = .returned (.slice ao' l.length cap') ∧ NewRow w w' ao' l.length cap' 80 35 (enE.fl l) := by
  refine sx_fn (S := SX) (M := []) (N := 8) (H0 := [.row none 0 0 80 35 [], .rd ao (enE.fl l)]) Try.func54 rfl rfl rfl ((Sat.oneRd _ hr).nilRow 80 35) ?_
  ((try refine sx_use ?_); (repeat (refine SxNew.mk fun _ => ?_; (try refine sx_use ?_))))
  refine SxRun.sEqNil Try.underlying55 ?_
  cases ao with
  | none =>
    have h0 : l = [] := by
      cases l with
      | nil => rfl
      | cons x l => obtain ⟨g, off, h, _⟩ := hr.2 (enE.fl_ne (by simp)); cases h
    subst h0
    ((try refine sx_use ?_); (repeat (refine SxNew.mk fun _ => ?_; (try refine sx_use ?_))))
    exact SxDone.mk fun w' hs => ⟨none, 0, rfl, hs.newRow 0 rfl⟩
  | some a =>
    ((try refine sx_use ?_); (repeat (refine SxNew.mk fun _ => ?_; (try refine sx_use ?_))))
    refine SxApp.mk 0 rfl 2 (.inr (.inl rfl)) (rowEn_len l) (enE.fl_allOne l) (by unfold maxLen; omega) (by omega) rfl fun ao' cap' => ?_
    ((try refine sx_use ?_); (repeat (refine SxNew.mk fun _ => ?_; (try refine sx_use ?_))))
    exact SxDone.mk fun w' hs => ⟨ao', cap', by rw [Nat.zero_add]; rfl, by have := hs.newRow 0 rfl; rw [Nat.zero_add] at this; exact this⟩
theorem EqualEn_any (a b : List En) (ao bo : Option Addr) (ac bc : Nat) (w : World) (ha : Rd w ao (enE.fl a)) (hb : Rd w bo (enE.fl b)) :
    Calls Try.prog 57 #[.slice ao a.length ac, .slice bo b.length bc] w fun e w' => e = .returned (.bool (decide (a = b))) ∧ Below w.heap.size w w' := by
  have hal : a.length * 35 ≤ maxLen := by have := ha.1; rw [rowEn_len] at this; exact this
  unfold maxLen at hal
  refine sx_fn (S := SX) (M := []) (N := 26) (H0 := [.rd ao (enE.fl a), .rd bo (enE.fl b)]) Try.func57 rfl rfl rfl (Sat.twoRd _ ha hb) ?_
  ((try refine sx_use ?_); (repeat (refine SxNew.mk fun _ => ?_; (try refine sx_use ?_))))
  refine SxIf.ne (fun h => ?_) (fun h => ?_)
  · ((try refine sx_use ?_); (repeat (refine SxNew.mk fun _ => ?_; (try refine sx_use ?_))))
    exact SxDone.mk fun w' hs => ⟨by rw [decide_eq_false fun he => h (by rw [he])]; rfl, hs.touch.below⟩
  have hl : a.length = b.length := by omega
  ((try refine sx_use ?_); (repeat (refine SxNew.mk fun _ => ?_; (try refine sx_use ?_))))
  refine SxCode.loop (σ := Nat) [13] [14, 15, 5, 16, 17, 18, 19, 20, 21, 22, 23, 24, 4, 25, 13] (fun k => [.int .i64 (k : Nat)]) (fun _ => [.rd ao (enE.fl a), .rd bo (enE.fl b)]) (fun k => k ≤ a.length ∧ a.take k = b.take k) (fun k => a.length - k) 0 [0, 1] rfl rfl rfl rfl ⟨Nat.zero_le _, rfl⟩ ?_
  rintro k ⟨hk, he⟩
  ((try refine sx_use ?_); (repeat (refine SxNew.mk fun _ => ?_; (try refine sx_use ?_))))
  refine SxIf.dec (fun h => ?_) (fun h => ?_)
  · have hlt : k < a.length := by omega
    have hlt2 : k < b.length := by omega
    obtain ⟨x, hx⟩ : ∃ x, a[k]? = some x := ⟨a[k], by simp [hlt]⟩
    obtain ⟨y, hy⟩ : ∃ y, b[k]? = some y := ⟨b[k], by simp [hlt2]⟩
    ((try refine sx_use ?_); (repeat (refine SxNew.mk fun _ => ?_; (try refine sx_use ?_))))
    refine SxCode.drawAll rfl [] ?_
    ((try refine sx_use ?_); (repeat (refine SxNew.mk fun _ => ?_; (try refine sx_use ?_))))
    refine SxIA.rd 0 _ rfl k rfl hlt (by rw [rowEn_len]; omega) fun g off ha => ?_
    ((try refine sx_use ?_); (repeat (refine SxNew.mk fun _ => ?_; (try refine sx_use ?_))))
    refine SxLdN.rd 0 rfl ha rfl (vs := enE.enc x) (enE.len x) (rowEn_at hx) ?_
    ((try refine sx_use ?_); (repeat (refine SxNew.mk fun _ => ?_; (try refine sx_use ?_))))
    refine SxIA.rd 1 _ rfl k rfl hlt2 (by rw [rowEn_len]; omega) fun g off ha => ?_
    ((try refine sx_use ?_); (repeat (refine SxNew.mk fun _ => ?_; (try refine sx_use ?_))))
    refine SxLdN.rd 1 rfl ha rfl (vs := enE.enc y) (enE.len y) (rowEn_at hy) ?_
    ((try refine sx_use ?_); (repeat (refine SxNew.mk fun _ => ?_; (try refine sx_use ?_))))
    refine SxRun.neEn (x := x) (y := y) ?_
    ((try refine sx_use ?_); (repeat (refine SxNew.mk fun _ => ?_; (try refine sx_use ?_))))
    refine SxIf.nt (SxIf.dec (fun h2 => ?_) (fun h2 => ?_))
    · subst h2
      ((try refine sx_use ?_); (repeat (refine SxNew.mk fun _ => ?_; (try refine sx_use ?_))))
      exact SxRound.mk (k + 1) [0, 1] rfl rfl rfl ⟨hlt, by rw [take_snocE hx, take_snocE hy, he]⟩ (by omega)
    · have h3 : a ≠ b := fun e => h2 (by subst e; exact Option.some.inj (hx.symm.trans hy))
      ((try refine sx_use ?_); (repeat (refine SxNew.mk fun _ => ?_; (try refine sx_use ?_))))
      exact SxDone.mk fun w' hs => ⟨by rw [decide_eq_false h3]; rfl, hs.touch.below⟩
  · obtain rfl : k = a.length := by omega
    rw [List.take_length, hl, List.take_length] at he
    ((try refine sx_use ?_); (repeat (refine SxNew.mk fun _ => ?_; (try refine sx_use ?_))))
    exact SxDone.mk fun w' hs => ⟨by rw [decide_eq_true he]; rfl, hs.touch.below⟩
end Go.Proofs.Ytdififdnnpgjoaa
