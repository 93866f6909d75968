/- Package slices at sheafref32.Backup. -/
import Derived.Test.YtiobcjahgmkmiaaZRow
import Derived.Test.YtiobcjahgmkmiaaZRtE
namespace Go.Proofs.Ytiobcjahgmkmiaa
open Go.RowKit

theorem rowBr_at {l : List Bk} {k : Nat} {x : Bk} (h : l[k]? = some x) : ((bkE.fl l).drop (k * 2)).take 2 = bkE.enc x := bkE.fl_at h
theorem rowBr_cell {l : List Bk} {k j : Nat} {x : Bk} {v : Value} (h : l[k]? = some x) (hj : (bkE.enc x)[j]? = some v) : (bkE.fl l)[k * 2 + j]? = some v := bkE.fl_cell h hj
theorem rowBr_all (x : Bk) : ((bkE.enc x).drop 0).take 2 = bkE.enc x := by
  have h : (bkE.enc x).length ≤ 2 := Nat.le_of_eq (bkE.len x)
  rw [List.drop_zero, List.take_of_length_le h]
theorem rowBr_len (l : List Bk) : (bkE.fl l).length = l.length * 2 := bkE.fl_len l
theorem RSameBr_any (a b : List Bk) (ao bo : Option Addr) (ac bc : Nat) (w : World) (ha : Rd w ao (bkE.fl a)) (hb : Rd w bo (bkE.fl b)) :
    Calls Try.prog 20 #[.slice ao a.length ac, .slice bo b.length bc] w fun e w' => e = .returned (.bool (decide (a = b))) ∧ Below w.heap.size w w' := by
  have hal : a.length * 2 ≤ maxLen := by have := ha.1; rw [rowBr_len] at this; exact this
  unfold maxLen at hal
  refine sx_fn (S := SX) (M := []) (N := 26) (H0 := [.rd ao (bkE.fl a), .rd bo (bkE.fl b)]) Try.func20 rfl rfl rfl (Sat.twoRd _ ha hb) ?_
  ((try refine sx_use ?_); (repeat (refine SxNew.mk fun _ => ?_; (try refine sx_use ?_))))
  refine SxIf.ne (fun h => ?_) (fun h => ?_)
  · ((try refine sx_use ?_); (repeat (refine SxNew.mk fun _ => ?_; (try refine sx_use ?_))))
    exact SxDone.mk fun w' hs => ⟨by rw [decide_eq_false fun he => h (by rw [he])]; rfl, hs.touch.below⟩
  have hl : a.length = b.length := by omega
  ((try refine sx_use ?_); (repeat (refine SxNew.mk fun _ => ?_; (try refine sx_use ?_))))
  refine SxCode.loop (σ := Nat) [5] [11, 12, 13, 14, 17, 18, 19, 20, 21, 22, 23, 24, 25, 4, 15, 16, 5] (fun k => [.int .i64 (k : Nat)]) (fun _ => [.rd ao (bkE.fl a), .rd bo (bkE.fl b)]) (fun k => k ≤ a.length ∧ a.take k = b.take k) (fun k => a.length - k) 0 [0, 1] rfl rfl rfl rfl ⟨Nat.zero_le _, rfl⟩ ?_
  rintro k ⟨hk, he⟩
  ((try refine sx_use ?_); (repeat (refine SxNew.mk fun _ => ?_; (try refine sx_use ?_))))
  refine SxIf.dec (fun h => ?_) (fun h => ?_)
  · have hlt : k < a.length := by omega
    have hlt2 : k < b.length := by omega
    obtain ⟨x, hx⟩ : ∃ x, a[k]? = some x := ⟨a[k], by simp [hlt]⟩
    obtain ⟨y, hy⟩ : ∃ y, b[k]? = some y := ⟨b[k], by simp [hlt2]⟩
    ((try refine sx_use ?_); (repeat (refine SxNew.mk fun _ => ?_; (try refine sx_use ?_))))
    refine SxCode.drawAll rfl [] ?_
    ((try refine sx_use ?_); (repeat (refine SxNew.mk fun _ => ?_; (try refine sx_use ?_))))
    refine SxIA.rd 0 _ rfl k rfl hlt (by rw [rowBr_len]; omega) fun g off ha => ?_
    ((try refine sx_use ?_); (repeat (refine SxNew.mk fun _ => ?_; (try refine sx_use ?_))))
    refine SxLdN.rd 0 rfl ha rfl (vs := bkE.enc x) (bkE.len x) (rowBr_at hx) ?_
    ((try refine sx_use ?_); (repeat (refine SxNew.mk fun _ => ?_; (try refine sx_use ?_))))
    refine SxIA.rd 1 _ rfl k rfl hlt2 (by rw [rowBr_len]; omega) fun g off ha => ?_
    ((try refine sx_use ?_); (repeat (refine SxNew.mk fun _ => ?_; (try refine sx_use ?_))))
    refine SxLdN.rd 1 rfl ha rfl (vs := bkE.enc y) (bkE.len y) (rowBr_at hy) ?_
    ((try refine sx_use ?_); (repeat (refine SxNew.mk fun _ => ?_; (try refine sx_use ?_))))
    refine SxRun.neBr (x := x) (y := y) ?_
    ((try refine sx_use ?_); (repeat (refine SxNew.mk fun _ => ?_; (try refine sx_use ?_))))
    refine SxIf.nt (SxIf.dec (fun h2 => ?_) (fun h2 => ?_))
    · subst h2
      ((try refine sx_use ?_); (repeat (refine SxNew.mk fun _ => ?_; (try refine sx_use ?_))))
      exact SxRound.mk (k + 1) [0, 1] rfl rfl rfl ⟨hlt, by rw [take_snocE hx, take_snocE hy, he]⟩ (by omega)
    · have h3 : a ≠ b := fun e => h2 (by subst e; exact Option.some.inj (hx.symm.trans hy))
      ((try refine sx_use ?_); (repeat (refine SxNew.mk fun _ => ?_; (try refine sx_use ?_))))
      exact SxDone.mk fun w' hs => ⟨by rw [decide_eq_false h3]; rfl, hs.touch.below⟩
  · obtain rfl : k = a.length := by omega
    rw [List.take_length, hl, List.take_length] at he
    ((try refine sx_use ?_); (repeat (refine SxNew.mk fun _ => ?_; (try refine sx_use ?_))))
    exact SxDone.mk fun w' hs => ⟨by rw [decide_eq_true he]; rfl, hs.touch.below⟩
end Go.Proofs.Ytiobcjahgmkmiaa
