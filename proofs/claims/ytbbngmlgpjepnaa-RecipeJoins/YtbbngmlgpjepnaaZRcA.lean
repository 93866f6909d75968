/- The walks of package recipe: Size, part, Check; the document's May. -/
import Derived.Test.YtbbngmlgpjepnaaZWg
namespace Go.Proofs.Ytbbngmlgpjepnaa
open Go.RowKit

def u4V (x : Int) : Value := .int .u32 x
theorem u4V_get {ls : List Int} {k : Nat} {x : Int} (h : ls[k]? = some x) : (ls.map u4V)[k]? = some (u4V x) := by simp [h]
def rcV (nm : List UInt8) (sz re im : Int) (ao : Option Addr) (n cap : Nat) : Value := .agg #[.string ⟨nm.toArray⟩, .int .i64 sz, .int .i64 re, .int .i64 im, .slice ao n cap]
def sizeR (nl m : Int) : Int := if 1 ≤ nl ∧ nl ≤ 48 ∧ 0 ≤ m ∧ m ≤ 1024 then 26 + nl + 4 * m else 0
theorem RSize_any (nm : List UInt8) (m : Int) (hn : nm.length ≤ maxLen) (w : World) :
    Calls Try.prog 8 #[txV nm, .int .i64 m] w fun e w' => e = .returned (.int .i64 (sizeR nm.length m)) ∧ Below w.heap.size w w' := by
  have hsz : (⟨nm.toArray⟩ : ByteArray).size = nm.length := mk_size nm
  unfold maxLen at hn
  refine sx_fn (S := SX) (M := []) (N := 29) (H0 := []) Try.func8 rfl rfl rfl (Sat.nil _ _) ?_
  by_cases h1 : nm.length < 1
  · ((try refine sx_use ?_); (repeat (refine SxNew.mk fun _ => ?_; (try refine sx_use ?_))))
    exact SxDone.mk fun w' hs => ⟨by unfold sizeR; rw [if_neg (by omega)]; rfl, hs.touch.below⟩
  by_cases h2 : nm.length > 48
  · ((try refine sx_use ?_); (repeat (refine SxNew.mk fun _ => ?_; (try refine sx_use ?_))))
    exact SxDone.mk fun w' hs => ⟨by unfold sizeR; rw [if_neg (by omega)]; rfl, hs.touch.below⟩
  by_cases h3 : m < 0
  · ((try refine sx_use ?_); (repeat (refine SxNew.mk fun _ => ?_; (try refine sx_use ?_))))
    exact SxDone.mk fun w' hs => ⟨by unfold sizeR; rw [if_neg (by omega)]; rfl, hs.touch.below⟩
  by_cases h4 : m > 1024
  · ((try refine sx_use ?_); (repeat (refine SxNew.mk fun _ => ?_; (try refine sx_use ?_))))
    exact SxDone.mk fun w' hs => ⟨by unfold sizeR; rw [if_neg (by omega)]; rfl, hs.touch.below⟩
  ((try refine sx_use ?_); (repeat (refine SxNew.mk fun _ => ?_; (try refine sx_use ?_))))
  refine SxDone.mk fun w' hs => ⟨?_, hs.touch.below⟩
  unfold sizeR
  rw [if_pos (by omega), ← hsz]
  show Ending.returned (.int .i64 _) = _
  congr 2
  omega
def prt (n : Int) : Prop := -2147483648 ≤ n ∧ n < 2147483648
instance (n : Int) : Decidable (prt n) := by unfold prt; infer_instance
theorem part_any (n : Int) (w : World) : Calls Try.prog 47 #[.int .i64 n] w fun e w' => e = .returned (.bool (decide (prt n))) ∧ Below w.heap.size w w' := by
  refine sx_fn (S := SX) (M := []) (N := 9) (H0 := []) Try.func47 rfl rfl rfl (Sat.nil _ _) ?_
  ((try refine sx_use ?_); (repeat (refine SxNew.mk fun _ => ?_; (try refine sx_use ?_))))
  refine SxIf.dec (fun h => ?_) (fun h => ?_)
  · ((try refine sx_use ?_); (repeat (refine SxNew.mk fun _ => ?_; (try refine sx_use ?_))))
    refine SxDone.mk fun w' hs => ⟨?_, hs.touch.below⟩
    show Ending.returned (.bool (decide (n < 2147483648))) = _
    by_cases h2 : n < 2147483648
    · rw [decide_eq_true h2, decide_eq_true (show prt n from ⟨h, h2⟩)]
    · rw [decide_eq_false h2, decide_eq_false (fun hh : prt n => h2 hh.2)]
  · ((try refine sx_use ?_); (repeat (refine SxNew.mk fun _ => ?_; (try refine sx_use ?_))))
    exact SxDone.mk fun w' hs => ⟨by rw [decide_eq_false (fun hh : prt n => h hh.1)]; rfl, hs.touch.below⟩
theorem Rpart_any (n : Int) (w : World) : Calls Try.prog 51 #[.int .i64 n] w fun e w' => e = .returned (.bool (decide (prt n))) ∧ Below w.heap.size w w' := by
  refine sx_fn (S := SX) (M := []) (N := 9) (H0 := []) Try.func51 rfl rfl rfl (Sat.nil _ _) ?_
  ((try refine sx_use ?_); (repeat (refine SxNew.mk fun _ => ?_; (try refine sx_use ?_))))
  refine SxIf.dec (fun h => ?_) (fun h => ?_)
  · ((try refine sx_use ?_); (repeat (refine SxNew.mk fun _ => ?_; (try refine sx_use ?_))))
    refine SxDone.mk fun w' hs => ⟨?_, hs.touch.below⟩
    show Ending.returned (.bool (decide (n ≤ 2147483647))) = _
    by_cases h2 : n ≤ 2147483647
    · rw [decide_eq_true h2, decide_eq_true (show prt n from ⟨h, by omega⟩)]
    · rw [decide_eq_false h2, decide_eq_false (fun hh : prt n => h2 (by have := hh.2; omega))]
  · ((try refine sx_use ?_); (repeat (refine SxNew.mk fun _ => ?_; (try refine sx_use ?_))))
    exact SxDone.mk fun w' hs => ⟨by rw [decide_eq_false (fun hh : prt n => h hh.1)]; rfl, hs.touch.below⟩
def okId (x : Int) : Prop := 1 ≤ x ∧ x ≤ 4294967294
instance (x : Int) : Decidable (okId x) := by unfold okId; infer_instance
theorem Chk1_any (x : Int) (w : World) : Calls Try.prog 49 #[.int .u32 x] w fun e w' => e = .returned (.bool (!decide (okId x))) ∧ Below w.heap.size w w' := by
  refine sx_fn (S := SX) (M := []) (N := 9) (H0 := []) Try.func49 rfl rfl rfl (Sat.nil _ _) ?_
  ((try refine sx_use ?_); (repeat (refine SxNew.mk fun _ => ?_; (try refine sx_use ?_))))
  refine SxIf.dec (fun h => ?_) (fun h => ?_)
  · ((try refine sx_use ?_); (repeat (refine SxNew.mk fun _ => ?_; (try refine sx_use ?_))))
    exact SxDone.mk fun w' hs => ⟨by rw [decide_eq_false (fun hh : okId x => by have := hh.1; omega)]; rfl, hs.touch.below⟩
  · ((try refine sx_use ?_); (repeat (refine SxNew.mk fun _ => ?_; (try refine sx_use ?_))))
    refine SxDone.mk fun w' hs => ⟨?_, hs.touch.below⟩
    show Ending.returned (.bool (decide (x > 4294967294))) = _
    by_cases h2 : x > 4294967294
    · rw [decide_eq_true h2, decide_eq_false (fun hh : okId x => by have := hh.2; omega)]; rfl
    · rw [decide_eq_false h2, decide_eq_true (show okId x from ⟨by omega, by omega⟩)]; rfl
def chkF : Value := .func (.func 49) #[] #[]
def allId (ms : List Int) : Prop := ∀ x ∈ ms, okId x
instance (ms : List Int) : Decidable (allId ms) := by unfold allId; infer_instance
theorem IndexFunc_any (ms : List Int) (ao : Option Addr) (cap : Nat) (w : World) (hr : Rd w ao (ms.map u4V)) :
    Calls Try.prog 69 #[.slice ao ms.length cap, chkF] w fun e w' => ∃ r : Int, (e = .returned (.int .i64 r) ∧ (allId ms → r = -1) ∧ (¬ allId ms → 0 ≤ r)) ∧ Below w.heap.size w w' := by
  have hlen : ms.length ≤ maxLen := by have := hr.1; simpa using this
  unfold maxLen at hlen
  refine sx_fn (S := SX) (M := []) (N := 19) (H0 := [.rd ao (ms.map u4V)]) Try.func69 rfl rfl rfl (Sat.oneRd _ hr) ?_
  ((try refine sx_use ?_); (repeat (refine SxNew.mk fun _ => ?_; (try refine sx_use ?_))))
  refine SxCode.loop (σ := Nat) [8] [9, 10, 5, 11, 12, 13, 14, 15, 16, 17, 4, 18, 8] (fun k => [.int .i64 (k : Nat)]) (fun _ => [.rd ao (ms.map u4V)]) (fun k => k ≤ ms.length ∧ allId (ms.take k)) (fun k => ms.length - k) 0 [0] rfl rfl rfl rfl ⟨Nat.zero_le _, by intro x hx; simp at hx⟩ ?_
  rintro k ⟨hk, hall⟩
  ((try refine sx_use ?_); (repeat (refine SxNew.mk fun _ => ?_; (try refine sx_use ?_))))
  refine SxIf.dec (fun h => ?_) (fun h => ?_)
  · have hlt : k < ms.length := by omega
    obtain ⟨x, hx⟩ : ∃ x, ms[k]? = some x := ⟨ms[k], by simp [hlt]⟩
    ((try refine sx_use ?_); (repeat (refine SxNew.mk fun _ => ?_; (try refine sx_use ?_))))
    refine SxIA.rd 0 _ rfl k rfl hlt (by simpa using hlt) fun g off ha => ?_
    ((try refine sx_use ?_); (repeat (refine SxNew.mk fun _ => ?_; (try refine sx_use ?_))))
    refine SxLd.rd 0 rfl ha rfl (by rw [Nat.mul_one]; exact u4V_get hx) ?_
    ((try refine sx_use ?_); (repeat (refine SxNew.mk fun _ => ?_; (try refine sx_use ?_))))
    refine SxCall.quiet (Chk1_any x) ?_
    ((try refine sx_use ?_); (repeat (refine SxNew.mk fun _ => ?_; (try refine sx_use ?_))))
    refine SxIf.nt (SxIf.dec (fun h2 => ?_) (fun h2 => ?_))
    · ((try refine sx_use ?_); (repeat (refine SxNew.mk fun _ => ?_; (try refine sx_use ?_))))
      refine SxRound.mk (k + 1) [0] rfl rfl rfl ⟨hlt, ?_⟩ (by omega)
      intro y hy
      rw [List.take_add_one, hx] at hy
      rcases List.mem_append.1 hy with h3 | h3
      · exact hall y h3
      · simp at h3; subst h3; exact h2
    · ((try refine sx_use ?_); (repeat (refine SxNew.mk fun _ => ?_; (try refine sx_use ?_))))
      exact SxDone.mk fun w' hs => ⟨_, ⟨rfl, fun h3 => absurd (h3 x (List.mem_of_getElem? hx)) h2, fun _ => by omega⟩, hs.touch.below⟩
  · obtain rfl : k = ms.length := by omega
    rw [List.take_length] at hall
    ((try refine sx_use ?_); (repeat (refine SxNew.mk fun _ => ?_; (try refine sx_use ?_))))
    exact SxDone.mk fun w' hs => ⟨_, ⟨rfl, fun _ => rfl, fun h3 => absurd hall h3⟩, hs.touch.below⟩
theorem ContainsFunc_any (ms : List Int) (ao : Option Addr) (cap : Nat) (w : World) (hr : Rd w ao (ms.map u4V)) :
    Calls Try.prog 48 #[.slice ao ms.length cap, chkF] w fun e w' => e = .returned (.bool (!decide (allId ms))) ∧ Below w.heap.size w w' := by
  refine sx_fn (S := SX) (M := []) (N := 9) (H0 := [.rd ao (ms.map u4V)]) Try.func48 rfl rfl rfl (Sat.oneRd _ hr) ?_
  ((try refine sx_use ?_); (repeat (refine SxNew.mk fun _ => ?_; (try refine sx_use ?_))))
  refine SxCall.mk fun w hs => (IndexFunc_any ms ao cap w (hs.rd 0 rfl)).mono ?_
  rintro e w' ⟨r, ⟨rfl, h1, h2⟩, hb⟩
  refine ⟨_, _, rfl, hs.below hb, ?_⟩
  clear hb hs w'
  ((try refine sx_use ?_); (repeat (refine SxNew.mk fun _ => ?_; (try refine sx_use ?_))))
  refine SxDone.mk fun w' hs => ⟨?_, hs.touch.below⟩
  show Ending.returned (.bool (decide (r ≥ 0))) = _
  by_cases ha : allId ms
  · rw [h1 ha, decide_eq_true ha]; rfl
  · rw [decide_eq_true (h2 ha), decide_eq_false ha]; rfl
/-- P16.1: may there be such a recipe? -/
def mayR (nl sz re im : Int) (ms : List Int) : Prop := 1 ≤ nl ∧ nl ≤ 48 ∧ ms.length ≤ 1024 ∧ 0 ≤ sz ∧ sz ≤ 1048576 ∧ prt re ∧ prt im ∧ allId ms
instance (nl sz re im : Int) (ms : List Int) : Decidable (mayR nl sz re im ms) := by unfold mayR; infer_instance
def chkR (nl sz re im : Int) (ms : List Int) : Int := if mayR nl sz re im ms then 0 else 1
theorem Check_any (nm : List UInt8) (sz re im : Int) (ms : List Int) (hn : nm.length ≤ maxLen) (ao : Option Addr) (cap : Nat) (w : World) (hr : Rd w ao (ms.map u4V)) :
    Calls Try.prog 22 #[rcV nm sz re im ao ms.length cap] w fun e w' => e = .returned (.int .i64 (chkR nm.length sz re im ms)) ∧ Below w.heap.size w w' := by
  have hbad : ¬ mayR nm.length sz re im ms → chkR nm.length sz re im ms = 1 := fun h => by unfold chkR; rw [if_neg h]
  refine sx_fn (S := SX) (M := []) (N := 35) (H0 := [.rd ao (ms.map u4V)]) Try.func22 rfl rfl rfl (Sat.oneRd _ hr) ?_
  ((try refine sx_use ?_); (repeat (refine SxNew.mk fun _ => ?_; (try refine sx_use ?_))))
  refine SxCall.quiet (RSize_any nm ms.length hn) ?_
  ((try refine sx_use ?_); (repeat (refine SxNew.mk fun _ => ?_; (try refine sx_use ?_))))
  refine SxIf.eq (fun h1 => ?_) (fun h1 => ?_)
  · ((try refine sx_use ?_); (repeat (refine SxNew.mk fun _ => ?_; (try refine sx_use ?_))))
    refine SxDone.mk fun w' hs => ⟨?_, hs.touch.below⟩
    rw [hbad]; rfl
    rintro ⟨g1, g2, g3, _⟩
    unfold sizeR at h1
    rw [if_pos (by omega)] at h1
    omega
  have hg : 1 ≤ nm.length ∧ nm.length ≤ 48 ∧ ms.length ≤ 1024 := by
    unfold sizeR at h1
    split at h1
    · omega
    · exact absurd rfl h1
  ((try refine sx_use ?_); (repeat (refine SxNew.mk fun _ => ?_; (try refine sx_use ?_))))
  by_cases h2 : sz < 0
  · ((try refine sx_use ?_); (repeat (refine SxNew.mk fun _ => ?_; (try refine sx_use ?_))))
    exact SxDone.mk fun w' hs => ⟨by rw [hbad (fun hh => by have := hh.2.2.2.1; omega)]; rfl, hs.touch.below⟩
  ((try refine sx_use ?_); (repeat (refine SxNew.mk fun _ => ?_; (try refine sx_use ?_))))
  by_cases h3 : sz > 1048576
  · ((try refine sx_use ?_); (repeat (refine SxNew.mk fun _ => ?_; (try refine sx_use ?_))))
    exact SxDone.mk fun w' hs => ⟨by rw [hbad (fun hh => by have := hh.2.2.2.2.1; omega)]; rfl, hs.touch.below⟩
  ((try refine sx_use ?_); (repeat (refine SxNew.mk fun _ => ?_; (try refine sx_use ?_))))
  refine SxCall.quiet (part_any re) ?_
  ((try refine sx_use ?_); (repeat (refine SxNew.mk fun _ => ?_; (try refine sx_use ?_))))
  refine SxIf.nt (SxIf.dec (fun h4 => ?_) (fun h4 => ?_))
  rotate_left
  · ((try refine sx_use ?_); (repeat (refine SxNew.mk fun _ => ?_; (try refine sx_use ?_))))
    exact SxDone.mk fun w' hs => ⟨by rw [hbad (fun hh => h4 hh.2.2.2.2.2.1)]; rfl, hs.touch.below⟩
  ((try refine sx_use ?_); (repeat (refine SxNew.mk fun _ => ?_; (try refine sx_use ?_))))
  refine SxCall.quiet (part_any im) ?_
  ((try refine sx_use ?_); (repeat (refine SxNew.mk fun _ => ?_; (try refine sx_use ?_))))
  refine SxIf.nt (SxIf.dec (fun h5 => ?_) (fun h5 => ?_))
  rotate_left
  · ((try refine sx_use ?_); (repeat (refine SxNew.mk fun _ => ?_; (try refine sx_use ?_))))
    exact SxDone.mk fun w' hs => ⟨by rw [hbad (fun hh => h5 hh.2.2.2.2.2.2.1)]; rfl, hs.touch.below⟩
  ((try refine sx_use ?_); (repeat (refine SxNew.mk fun _ => ?_; (try refine sx_use ?_))))
  refine SxCall.quietS (fun w hs => ContainsFunc_any ms ao cap w (hs.rd 1 rfl)) ?_
  ((try refine sx_use ?_); (repeat (refine SxNew.mk fun _ => ?_; (try refine sx_use ?_))))
  refine SxIf.nt (SxIf.dec (fun h6 => ?_) (fun h6 => ?_))
  · ((try refine sx_use ?_); (repeat (refine SxNew.mk fun _ => ?_; (try refine sx_use ?_))))
    refine SxDone.mk fun w' hs => ⟨?_, hs.touch.below⟩
    unfold chkR
    rw [if_pos (show mayR _ _ _ _ _ from ⟨by omega, by omega, hg.2.2, by omega, by omega, h4, h5, h6⟩)]
    rfl
  · ((try refine sx_use ?_); (repeat (refine SxNew.mk fun _ => ?_; (try refine sx_use ?_))))
    exact SxDone.mk fun w' hs => ⟨by rw [hbad (fun hh => h6 hh.2.2.2.2.2.2.2)]; rfl, hs.touch.below⟩
end Go.Proofs.Ytbbngmlgpjepnaa
