/- The walks over the lists of texts: few, Same. -/
import Derived.Test.YtdhdminocboipaaZBoxA
import Derived.Test.YtdhdminocboipaaZSxb
import Derived.Test.YtdhdminocboipaaZRead
namespace Go.Proofs.Ytdhdminocboipaa
open Go.RowKit

def txV (l : List UInt8) : Value := .string ⟨l.toArray⟩
theorem txV_get {ls : List (List UInt8)} {k : Nat} {x : List UInt8} (h : ls[k]? = some x) : (ls.map txV)[k]? = some (txV x) := by simp [h]
def fewL (ls : List (List UInt8)) : List (List UInt8) := (ls.take 260).map (·.take 4100)
theorem fewL_snoc (ls : List (List UInt8)) (k : Nat) (x : List UInt8) (h : ls[k]? = some x) : (ls.take (k + 1)).map (·.take 4100) = (ls.take k).map (·.take 4100) ++ [x.take 4100] := by
  rw [List.take_add_one, h]; simp
theorem few_any (ls : List (List UInt8)) (ao : Option Addr) (cap : Nat) (w : World) (hr : Rd w ao (ls.map txV)) :
    Calls Try.prog 9 #[.slice ao ls.length cap] w fun e w' => ∃ ao' cap', e = .returned (.slice ao' (fewL ls).length cap') ∧ NewRow w w' ao' (fewL ls).length cap' 9 1 ((fewL ls).map txV) := by
  have hlen : ls.length ≤ maxLen := by have := hr.1; simpa using this
  refine sx_fn (S := SX) (M := []) (N := 30) (H0 := [.row none 0 0 9 1 [], .rd ao (ls.map txV)]) Try.func9 rfl rfl rfl ((Sat.oneRd _ hr).nilRow 9 1) ?_
  ((try refine sx_use ?_); (repeat (refine SxNew.mk fun _ => ?_; (try refine sx_use ?_))))
  refine SxCode.loop (σ := Nat × Option Addr × Nat) [4, 3] [6, 7, 8, 9, 10, 11, 12, 13, 16, 17, 18, 19, 5, 20, 21, 22, 23, 24, 25, 26, 27, 28, 3, 14, 15, 4] (fun s => [.int .i64 (s.1 : Nat), .slice s.2.1 s.1 s.2.2]) (fun s => [.row s.2.1 s.1 s.2.2 9 1 (((ls.take s.1).map (·.take 4100)).map txV), .rd ao (ls.map txV)]) (fun s => s.1 ≤ ls.length ∧ s.1 ≤ 260) (fun s => ls.length - s.1) (0, none, 0) [0, 1] rfl rfl rfl rfl ⟨by simp, by simp⟩ ?_
  rintro ⟨k, bo, bc⟩ ⟨hk, hk2⟩
  dsimp only at hk hk2 ⊢
  ((try refine sx_use ?_); (repeat (refine SxNew.mk fun _ => ?_; (try refine sx_use ?_))))
  refine SxIf.dec (fun h => ?_) (fun h => ?_)
  · ((try refine sx_use ?_); (repeat (refine SxNew.mk fun _ => ?_; (try refine sx_use ?_))))
    refine SxIf.dec (fun h2 => ?_) (fun h2 => ?_)
    · have hlt : k < ls.length := by omega
      obtain ⟨x, hx⟩ : ∃ x, ls[k]? = some x := ⟨ls[k], by simp [hlt]⟩
      have hsn := fewL_snoc ls k x hx
      ((try refine sx_use ?_); (repeat (refine SxNew.mk fun _ => ?_; (try refine sx_use ?_))))
      refine SxIA.rd 1 _ rfl k rfl hlt (by simpa using hlt) fun g off ha => ?_
      ((try refine sx_use ?_); (repeat (refine SxNew.mk fun _ => ?_; (try refine sx_use ?_))))
      refine SxLd.rd 1 rfl ha rfl (by rw [Nat.mul_one]; exact txV_get hx) ?_
      ((try refine sx_use ?_); (repeat (refine SxNew.mk fun _ => ?_; (try refine sx_use ?_))))
      refine SxIf.dec (fun h3 => ?_) (fun h3 => ?_)
      · rw [mk_size] at h3
        ((try refine sx_use ?_); (repeat (refine SxNew.mk fun _ => ?_; (try refine sx_use ?_))))
        refine SxBnd.mk 0 4100 rfl rfl (by omega) (by rw [mk_size]; omega) ?_
        ((try refine sx_use ?_); (repeat (refine SxNew.mk fun _ => ?_; (try refine sx_use ?_))))
        refine SxApp.mk 1 rfl 0 (.inr (.inr (.inr ⟨by decide, _, rfl⟩))) rfl rfl (by unfold maxLen; omega) (by omega) (cs' := ((ls.take (k + 1)).map (·.take 4100)).map txV) (by rw [hsn, List.map_append, mk_extract]; rfl) fun ao' cap' => ?_
        ((try refine sx_use ?_); (repeat (refine SxNew.mk fun _ => ?_; (try refine sx_use ?_))))
        exact SxRound.mk (k + 1, ao', cap') [1, 2] rfl rfl rfl ⟨hlt, by simp; omega⟩ (by simp; omega)
      · rw [mk_size] at h3
        ((try refine sx_use ?_); (repeat (refine SxNew.mk fun _ => ?_; (try refine sx_use ?_))))
        refine SxApp.mk 1 rfl 0 (.inr (.inr (.inr ⟨by decide, _, rfl⟩))) rfl rfl (by unfold maxLen; omega) (by omega) (cs' := ((ls.take (k + 1)).map (·.take 4100)).map txV) (by rw [hsn, List.map_append, List.take_of_length_le (l := x) (by omega)]; rfl) fun ao' cap' => ?_
        ((try refine sx_use ?_); (repeat (refine SxNew.mk fun _ => ?_; (try refine sx_use ?_))))
        exact SxRound.mk (k + 1, ao', cap') [1, 2] rfl rfl rfl ⟨hlt, by simp; omega⟩ (by simp; omega)
    · obtain rfl : k = 260 := by omega
      have hf : (ls.take 260).map (·.take 4100) = fewL ls := rfl
      have hfl : (fewL ls).length = 260 := by unfold fewL; simp; omega
      ((try refine sx_use ?_); (repeat (refine SxNew.mk fun _ => ?_; (try refine sx_use ?_))))
      exact SxDone.mk fun w' hs => ⟨bo, bc, by rw [hfl]; rfl, by rw [hfl, ← hf]; exact hs.newRow 0 rfl⟩
  · have hf : (ls.take k).map (·.take 4100) = fewL ls := by unfold fewL; rw [show ls.take k = ls.take 260 from by rw [List.take_of_length_le (by omega), List.take_of_length_le (by omega)]]
    have hfl : (fewL ls).length = k := by unfold fewL; simp; omega
    ((try refine sx_use ?_); (repeat (refine SxNew.mk fun _ => ?_; (try refine sx_use ?_))))
    exact SxDone.mk fun w' hs => ⟨bo, bc, by rw [hfl]; rfl, by rw [hfl, ← hf]; exact hs.newRow 0 rfl⟩
theorem mk_inj {a b : List UInt8} (h : (⟨a.toArray⟩ : ByteArray) = ⟨b.toArray⟩) : a = b := by
  have := congrArg (fun x : ByteArray => x.data.toList) h
  simpa using this
theorem RSame_any (a b : List (List UInt8)) (ao bo : Option Addr) (ac bc : Nat) (w : World) (ha : Rd w ao (a.map txV)) (hb : Rd w bo (b.map txV)) :
    Calls Try.prog 22 #[.slice ao a.length ac, .slice bo b.length bc] w fun e w' => e = .returned (.bool (decide (a = b))) ∧ Below w.heap.size w w' := by
  have hal : a.length ≤ maxLen := by have := ha.1; simpa using this
  unfold maxLen at hal
  refine sx_fn (S := SX) (M := []) (N := 26) (H0 := [.rd ao (a.map txV), .rd bo (b.map txV)]) Try.func22 rfl rfl rfl (Sat.twoRd _ ha hb) ?_
  ((try refine sx_use ?_); (repeat (refine SxNew.mk fun _ => ?_; (try refine sx_use ?_))))
  refine SxIf.ne (fun h => ?_) (fun h => ?_)
  · ((try refine sx_use ?_); (repeat (refine SxNew.mk fun _ => ?_; (try refine sx_use ?_))))
    exact SxDone.mk fun w' hs => ⟨by rw [decide_eq_false fun he => h (by rw [he])]; rfl, hs.touch.below⟩
  have hl : a.length = b.length := by omega
  ((try refine sx_use ?_); (repeat (refine SxNew.mk fun _ => ?_; (try refine sx_use ?_))))
  refine SxCode.loop (σ := Nat) [5] [11, 12, 13, 14, 17, 18, 19, 20, 21, 22, 23, 24, 25, 4, 15, 16, 5] (fun k => [.int .i64 (k : Nat)]) (fun _ => [.rd ao (a.map txV), .rd bo (b.map txV)]) (fun k => k ≤ a.length ∧ a.take k = b.take k) (fun k => a.length - k) 0 [0, 1] rfl rfl rfl rfl ⟨Nat.zero_le _, rfl⟩ ?_
  rintro k ⟨hk, he⟩
  ((try refine sx_use ?_); (repeat (refine SxNew.mk fun _ => ?_; (try refine sx_use ?_))))
  refine SxIf.dec (fun h => ?_) (fun h => ?_)
  · have hlt : k < a.length := by omega
    have hlt2 : k < b.length := by omega
    have hx : a[k]? = some a[k] := by simp [hlt]
    have hy : b[k]? = some b[k] := by simp [hlt2]
    ((try refine sx_use ?_); (repeat (refine SxNew.mk fun _ => ?_; (try refine sx_use ?_))))
    refine SxCode.drawAll rfl [] ?_
    ((try refine sx_use ?_); (repeat (refine SxNew.mk fun _ => ?_; (try refine sx_use ?_))))
    refine SxIA.rd 0 _ rfl k rfl hlt (by simpa using hlt) fun g off ha => ?_
    ((try refine sx_use ?_); (repeat (refine SxNew.mk fun _ => ?_; (try refine sx_use ?_))))
    refine SxLd.rd 0 rfl ha rfl (by rw [Nat.mul_one]; exact txV_get hx) ?_
    ((try refine sx_use ?_); (repeat (refine SxNew.mk fun _ => ?_; (try refine sx_use ?_))))
    refine SxIA.rd 1 _ rfl k rfl hlt2 (by simpa using hlt2) fun g off ha => ?_
    ((try refine sx_use ?_); (repeat (refine SxNew.mk fun _ => ?_; (try refine sx_use ?_))))
    refine SxLd.rd 1 rfl ha rfl (by rw [Nat.mul_one]; exact txV_get hy) ?_
    ((try refine sx_use ?_); (repeat (refine SxNew.mk fun _ => ?_; (try refine sx_use ?_))))
    refine SxIf.nt (SxIf.str (fun h2 => ?_) (fun h2 => ?_))
    · have h3 := mk_inj h2
      ((try refine sx_use ?_); (repeat (refine SxNew.mk fun _ => ?_; (try refine sx_use ?_))))
      exact SxRound.mk (k + 1) [0, 1] rfl rfl rfl ⟨hlt, by rw [List.take_add_one, List.take_add_one, he, hx, hy, h3]⟩ (by omega)
    · have h3 : a ≠ b := fun e => h2 (by subst e; rfl)
      ((try refine sx_use ?_); (repeat (refine SxNew.mk fun _ => ?_; (try refine sx_use ?_))))
      exact SxDone.mk fun w' hs => ⟨by rw [decide_eq_false h3]; rfl, hs.touch.below⟩
  · obtain rfl : k = a.length := by omega
    rw [List.take_length, hl, List.take_length] at he
    ((try refine sx_use ?_); (repeat (refine SxNew.mk fun _ => ?_; (try refine sx_use ?_))))
    exact SxDone.mk fun w' hs => ⟨by rw [decide_eq_true he]; rfl, hs.touch.below⟩
end Go.Proofs.Ytdhdminocboipaa
