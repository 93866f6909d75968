/- The walks over the document's heads: Lens, ID, May, Good, front, Size, Where. -/
import Derived.Test.YtdhdminocboipaaZBoxB
namespace Go.Proofs.Ytdhdminocboipaa
open Go.RowKit

def inV (x : Int) : Value := .int .i64 x
theorem inV_get {ls : List Int} {k : Nat} {x : Int} (h : ls[k]? = some x) : (ls.map inV)[k]? = some (inV x) := by simp [h]
def okL (l : List Int) : Prop := ∀ n ∈ l, 1 ≤ n ∧ n ≤ 4096
def lensP (l : List Int) : Prop := 1 ≤ l.length ∧ l.length ≤ 256 ∧ okL l ∧ l.sum ≤ 65536
noncomputable def lensB (l : List Int) : Bool := @decide (lensP l) (Classical.propDecidable _)
theorem lensB_t {l : List Int} (h : lensP l) : lensB l = true := by simp [lensB, h]
theorem lensB_f {l : List Int} (h : ¬ lensP l) : lensB l = false := by simp [lensB, h]
theorem sum_snoc (l : List Int) (k : Nat) (x : Int) (h : l[k]? = some x) : (l.take (k + 1)).sum = (l.take k).sum + x := by
  rw [List.take_add_one, h]; simp
theorem okL_snoc (l : List Int) (k : Nat) (x : Int) (h : l[k]? = some x) (h1 : okL (l.take k)) (h2 : 1 ≤ x) (h3 : x ≤ 4096) : okL (l.take (k + 1)) := by
  rw [List.take_add_one, h]
  intro s hs
  rcases List.mem_append.1 hs with h | h
  · exact h1 s h
  · simp at h; subst h; exact ⟨h2, h3⟩
theorem Lens_any (l : List Int) (ao : Option Addr) (cap : Nat) (w : World) (hr : Rd w ao (l.map inV)) :
    Calls Try.prog 33 #[.slice ao l.length cap] w fun e w' => e = .returned (.bool (lensB l)) ∧ Below w.heap.size w w' := by
  have hlen : l.length ≤ maxLen := by have := hr.1; simpa using this
  unfold maxLen at hlen
  refine sx_fn (S := SX) (M := []) (N := 40) (H0 := [.rd ao (l.map inV)]) Try.func33 rfl rfl rfl (Sat.oneRd _ hr) ?_
  ((try refine sx_use ?_); (repeat (refine SxNew.mk fun _ => ?_; (try refine sx_use ?_))))
  refine SxCode.loop (σ := Nat) [4, 3] [5, 6, 7, 8, 11, 12, 13, 14, 15, 16, 17, 18, 19, 20, 21, 22, 23, 24, 25, 26, 2, 27, 28, 29, 30, 31, 32, 3, 9, 10, 4] (fun k => [.int .i64 (k : Nat), .int .i64 (l.take k).sum]) (fun _ => [.rd ao (l.map inV)]) (fun k => k ≤ l.length ∧ k ≤ 256 ∧ okL (l.take k) ∧ 0 ≤ (l.take k).sum ∧ (l.take k).sum ≤ 4096 * k) (fun k => l.length - k) 0 [0] rfl rfl rfl rfl ⟨Nat.zero_le _, by omega, by intro s hs; simp at hs, by simp, by simp⟩ ?_
  rintro k ⟨hk, hk2, hok, hs0, hs1⟩
  ((try refine sx_use ?_); (repeat (refine SxNew.mk fun _ => ?_; (try refine sx_use ?_))))
  refine SxIf.dec (fun h => ?_) (fun h => ?_)
  · have hlt : k < l.length := by omega
    obtain ⟨x, hx⟩ : ∃ x, l[k]? = some x := ⟨l[k], by simp [hlt]⟩
    have hsn := sum_snoc l k x hx
    have hmem := List.mem_of_getElem? hx
    have hbad : ¬ (1 ≤ x ∧ x ≤ 4096) → ¬ lensP l := fun h hg => h (hg.2.2.1 x hmem)
    ((try refine sx_use ?_); (repeat (refine SxNew.mk fun _ => ?_; (try refine sx_use ?_))))
    refine SxIf.dec (fun h1 => ?_) (fun h1 => ?_)
    · ((try refine sx_use ?_); (repeat (refine SxNew.mk fun _ => ?_; (try refine sx_use ?_))))
      exact SxDone.mk fun w' hs => ⟨by rw [lensB_f fun hg => by have := hg.2.1; omega]; rfl, hs.touch.below⟩
    ((try refine sx_use ?_); (repeat (refine SxNew.mk fun _ => ?_; (try refine sx_use ?_))))
    refine SxIA.rd 0 _ rfl k rfl hlt (by simpa using hlt) fun g off ha => ?_
    ((try refine sx_use ?_); (repeat (refine SxNew.mk fun _ => ?_; (try refine sx_use ?_))))
    refine SxLd.rd 0 rfl ha rfl (by rw [Nat.mul_one]; exact inV_get hx) ?_
    ((try refine sx_use ?_); (repeat (refine SxNew.mk fun _ => ?_; (try refine sx_use ?_))))
    refine SxIf.dec (fun h2 => ?_) (fun h2 => ?_)
    · ((try refine sx_use ?_); (repeat (refine SxNew.mk fun _ => ?_; (try refine sx_use ?_))))
      exact SxDone.mk fun w' hs => ⟨by rw [lensB_f (hbad (by omega))]; rfl, hs.touch.below⟩
    ((try refine sx_use ?_); (repeat (refine SxNew.mk fun _ => ?_; (try refine sx_use ?_))))
    refine SxIA.rd 0 _ rfl k rfl hlt (by simpa using hlt) fun g off ha => ?_
    ((try refine sx_use ?_); (repeat (refine SxNew.mk fun _ => ?_; (try refine sx_use ?_))))
    refine SxLd.rd 0 rfl ha rfl (by rw [Nat.mul_one]; exact inV_get hx) ?_
    ((try refine sx_use ?_); (repeat (refine SxNew.mk fun _ => ?_; (try refine sx_use ?_))))
    refine SxIf.dec (fun h3 => ?_) (fun h3 => ?_)
    · ((try refine sx_use ?_); (repeat (refine SxNew.mk fun _ => ?_; (try refine sx_use ?_))))
      exact SxDone.mk fun w' hs => ⟨by rw [lensB_f (hbad (by omega))]; rfl, hs.touch.below⟩
    ((try refine sx_use ?_); (repeat (refine SxNew.mk fun _ => ?_; (try refine sx_use ?_))))
    refine SxIA.rd 0 _ rfl k rfl hlt (by simpa using hlt) fun g off ha => ?_
    ((try refine sx_use ?_); (repeat (refine SxNew.mk fun _ => ?_; (try refine sx_use ?_))))
    refine SxLd.rd 0 rfl ha rfl (by rw [Nat.mul_one]; exact inV_get hx) ?_
    ((try refine sx_use ?_); (repeat (refine SxNew.mk fun _ => ?_; (try refine sx_use ?_))))
    exact SxRound.mk (k + 1) [0] (by rw [hsn]; rfl) rfl rfl ⟨hlt, by omega, okL_snoc l k x hx hok (by omega) (by omega), by omega, by omega⟩ (by omega)
  · obtain rfl : k = l.length := by omega
    rw [List.take_length] at hok hs0 hs1 ⊢
    ((try refine sx_use ?_); (repeat (refine SxNew.mk fun _ => ?_; (try refine sx_use ?_))))
    refine SxIf.dec (fun h1 => ?_) (fun h1 => ?_)
    · ((try refine sx_use ?_); (repeat (refine SxNew.mk fun _ => ?_; (try refine sx_use ?_))))
      refine SxDone.mk fun w' hs => ⟨?_, hs.touch.below⟩
      by_cases hg : l.sum ≤ 65536
      · rw [lensB_t ⟨by omega, hk2, hok, hg⟩]
        show Ending.returned (.bool (decide (l.sum ≤ 65536))) = _
        rw [decide_eq_true hg]
      · rw [lensB_f fun h => hg h.2.2.2]
        show Ending.returned (.bool (decide (l.sum ≤ 65536))) = _
        rw [decide_eq_false hg]
    · ((try refine sx_use ?_); (repeat (refine SxNew.mk fun _ => ?_; (try refine sx_use ?_))))
      exact SxDone.mk fun w' hs => ⟨by rw [lensB_f fun hg => by have := hg.1; omega]; rfl, hs.touch.below⟩
def idP (id : Int) : Prop := 1 ≤ id ∧ id ≤ 4294967294
instance (id : Int) : Decidable (idP id) := by unfold idP; infer_instance
theorem ID_any (id : Int) (w : World) : Calls Try.prog 31 #[.int .u32 id] w fun e w' => e = .returned (.bool (decide (idP id))) ∧ Below w.heap.size w w' := by
  refine sx_fn (S := SX) (M := []) (N := 9) (H0 := []) Try.func31 rfl rfl rfl (Sat.nil _ _) ?_
  ((try refine sx_use ?_); (repeat (refine SxNew.mk fun _ => ?_; (try refine sx_use ?_))))
  refine SxIf.dec (fun h => ?_) (fun h => ?_)
  · ((try refine sx_use ?_); (repeat (refine SxNew.mk fun _ => ?_; (try refine sx_use ?_))))
    refine SxDone.mk fun w' hs => ⟨?_, hs.touch.below⟩
    by_cases h2 : id ≤ 4294967294
    · rw [decide_eq_true (show idP id from ⟨by omega, h2⟩)]
      show Ending.returned (.bool (decide (id ≤ 4294967294))) = _
      rw [decide_eq_true h2]
    · rw [decide_eq_false (show ¬ idP id from fun h => h2 h.2)]
      show Ending.returned (.bool (decide (id ≤ 4294967294))) = _
      rw [decide_eq_false h2]
  · ((try refine sx_use ?_); (repeat (refine SxNew.mk fun _ => ?_; (try refine sx_use ?_))))
    exact SxDone.mk fun w' hs => ⟨by rw [decide_eq_false (show ¬ idP id from fun hh => by have := hh.1; omega)]; rfl, hs.touch.below⟩
/-- How long the texts are. -/
def lenL (ls : List (List UInt8)) : List Int := ls.map fun x => (x.length : Int)
theorem map_snoc {α β : Type} (f : α → β) (l : List α) (k : Nat) (x : α) (h : l[k]? = some x) : (l.take (k + 1)).map f = (l.take k).map f ++ [f x] := by
  rw [List.take_add_one, h]; simp
noncomputable def mayB (id : Int) (ls : List (List UInt8)) : Bool := decide (idP id) && lensB (lenL ls)
theorem May_any (id : Int) (ls : List (List UInt8)) (ao : Option Addr) (cap : Nat) (w : World) (hr : Rd w ao (ls.map txV)) (hl : ls.length ≤ 1000000) :
    Calls Try.prog 10 #[.int .u32 id, .slice ao ls.length cap] w fun e w' => e = .returned (.bool (mayB id ls)) ∧ Below w.heap.size w w' := by
  refine sx_fn (S := SX) (M := []) (N := 27) (H0 := [.row none 0 0 3 1 [], .rd ao (ls.map txV)]) Try.func10 rfl rfl rfl ((Sat.oneRd _ hr).nilRow 3 1) ?_
  ((try refine sx_use ?_); (repeat (refine SxNew.mk fun _ => ?_; (try refine sx_use ?_))))
  refine SxCode.loop (σ := Nat × Option Addr × Nat) [6, 5] [7, 8, 9, 10, 13, 14, 15, 16, 17, 18, 19, 20, 5, 11, 12, 6] (fun s => [.int .i64 (s.1 : Nat), .slice s.2.1 s.1 s.2.2]) (fun s => [.row s.2.1 s.1 s.2.2 3 1 ((lenL (ls.take s.1)).map inV), .rd ao (ls.map txV)]) (fun s => s.1 ≤ ls.length) (fun s => ls.length - s.1) (0, none, 0) [0, 1] rfl rfl rfl rfl (Nat.zero_le _) ?_
  rintro ⟨k, bo, bc⟩ hk
  dsimp only at hk ⊢
  ((try refine sx_use ?_); (repeat (refine SxNew.mk fun _ => ?_; (try refine sx_use ?_))))
  refine SxIf.dec (fun h => ?_) (fun h => ?_)
  · have hlt : k < ls.length := by omega
    obtain ⟨x, hx⟩ : ∃ x, ls[k]? = some x := ⟨ls[k], by simp [hlt]⟩
    have hsn : lenL (ls.take (k + 1)) = lenL (ls.take k) ++ [(x.length : Int)] := map_snoc _ ls k x hx
    ((try refine sx_use ?_); (repeat (refine SxNew.mk fun _ => ?_; (try refine sx_use ?_))))
    refine SxIA.rd 1 _ rfl k rfl hlt (by simpa using hlt) fun g off ha => ?_
    ((try refine sx_use ?_); (repeat (refine SxNew.mk fun _ => ?_; (try refine sx_use ?_))))
    refine SxLd.rd 1 rfl ha rfl (by rw [Nat.mul_one]; exact txV_get hx) ?_
    ((try refine sx_use ?_); (repeat (refine SxNew.mk fun _ => ?_; (try refine sx_use ?_))))
    refine SxApp.mk 1 rfl 0 (.inr (.inr (.inr ⟨by decide, _, rfl⟩))) rfl rfl (by unfold maxLen; omega) (by omega) (cs' := (lenL (ls.take (k + 1))).map inV) (by rw [hsn, List.map_append]; rfl) fun ao' cap' => ?_
    ((try refine sx_use ?_); (repeat (refine SxNew.mk fun _ => ?_; (try refine sx_use ?_))))
    exact SxRound.mk (k + 1, ao', cap') [1, 2] rfl rfl rfl hlt (by simp; omega)
  · obtain rfl : k = ls.length := by omega
    rw [List.take_length]
    have hln : (lenL ls).length = ls.length := by simp [lenL]
    ((try refine sx_use ?_); (repeat (refine SxNew.mk fun _ => ?_; (try refine sx_use ?_))))
    refine SxCall.quiet (ID_any id) ?_
    ((try refine sx_use ?_); (repeat (refine SxNew.mk fun _ => ?_; (try refine sx_use ?_))))
    by_cases hi : idP id
    · rw [decide_eq_true hi]
      ((try refine sx_use ?_); (repeat (refine SxNew.mk fun _ => ?_; (try refine sx_use ?_))))
      refine SxCall.quietS (fun w hs => by rw [← hln]; exact Lens_any (lenL ls) bo bc w (hs.rowRd 0 rfl (by simp [hln, maxLen]; omega))) ?_
      ((try refine sx_use ?_); (repeat (refine SxNew.mk fun _ => ?_; (try refine sx_use ?_))))
      exact SxDone.mk fun w' hs => ⟨by unfold mayB; rw [decide_eq_true hi]; rfl, hs.touch.below⟩
    · rw [decide_eq_false hi]
      ((try refine sx_use ?_); (repeat (refine SxNew.mk fun _ => ?_; (try refine sx_use ?_))))
      exact SxDone.mk fun w' hs => ⟨by unfold mayB; rw [decide_eq_false hi]; rfl, hs.touch.below⟩
end Go.Proofs.Ytdhdminocboipaa
