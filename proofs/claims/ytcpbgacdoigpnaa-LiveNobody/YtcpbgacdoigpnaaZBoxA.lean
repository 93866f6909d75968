/- The walks over box. -/
import Derived.Test.YtcpbgacdoigpnaaZSxT
import Derived.Test.YtcpbgacdoigpnaaZSxb
namespace Go.Proofs.Ytcpbgacdoigpnaa
open Go.RowKit

theorem front_any (n : Nat) (hn : n ≤ 1000000) (w : World) : Calls Try.prog 48 #[.int .i64 (n : Nat)] w fun e w' => e = .returned (.int .i64 (14 + 6 * (n : Int))) ∧ Below w.heap.size w w' := by
  refine sx_fn (S := SX) (M := []) (N := 7) (H0 := []) Try.func48 rfl rfl rfl (Sat.nil _ _) ?_
  ((try refine sx_use ?_); (repeat (refine SxNew.mk fun _ => ?_; (try refine sx_use ?_))))
  refine SxDone.mk fun w' hs => ⟨?_, hs.touch.below⟩
  show Ending.returned (.int .i64 _) = _
  rw [show 10 + 6 * (n : Int) + 4 = 14 + 6 * (n : Int) by omega]

/-- A head's slots, as they lie. -/
def encS (s : Int × Int) : List Value := [.int .i64 s.1, .int .u32 s.2]
def sumS (l : List (Int × Int)) : Int := (l.map (·.1)).sum
def okS (l : List (Int × Int)) : Prop := ∀ s ∈ l, 1 ≤ s.1 ∧ s.1 ≤ 4096
def goodP (id : Int) (sl : List (Int × Int)) : Prop := 1 ≤ id ∧ id ≤ 4294967294 ∧ 1 ≤ sl.length ∧ sl.length ≤ 256 ∧ okS sl ∧ sumS sl ≤ 65536
noncomputable def goodB (id : Int) (sl : List (Int × Int)) : Bool := @decide (goodP id sl) (Classical.propDecidable _)
theorem goodB_t {id : Int} {sl : List (Int × Int)} (h : goodP id sl) : Ending.returned (.bool true) = .returned (.bool (goodB id sl)) := by simp [goodB, h]
theorem goodB_f {id : Int} {sl : List (Int × Int)} (h : ¬ goodP id sl) : Ending.returned (.bool false) = .returned (.bool (goodB id sl)) := by simp [goodB, h]
theorem flat_get {α : Type} (f : α → List Value) (k : Nat) (hk : ∀ x, (f x).length = k) : ∀ (l : List α) (i : Nat) (x : α), l[i]? = some x → ((l.flatMap f).drop (i * k)).take k = f x
  | [], i, x, h => by simp at h
  | y :: l, 0, x, h => by simp at h; subst h; simp [List.take_left' (hk y)]
  | y :: l, i + 1, x, h => by
    have := flat_get f k hk l i x (by simpa using h)
    rw [List.flatMap_cons, Nat.add_mul, Nat.one_mul, Nat.add_comm (i * k) k, ← List.drop_drop, ← hk y, List.drop_left, hk y]
    exact this
theorem flat_len {α : Type} (f : α → List Value) (k : Nat) (hk : ∀ x, (f x).length = k) : ∀ (l : List α), (l.flatMap f).length = l.length * k
  | [] => by simp
  | y :: l => by rw [List.flatMap_cons, List.length_append, hk, flat_len f k hk l, List.length_cons, Nat.add_mul]; omega
theorem sumS_snoc (l : List (Int × Int)) (k : Nat) (x : Int × Int) (h : l[k]? = some x) : sumS (l.take (k + 1)) = sumS (l.take k) + x.1 := by
  rw [List.take_add_one, h]; simp [sumS]
theorem okS_snoc (l : List (Int × Int)) (k : Nat) (x : Int × Int) (h : l[k]? = some x) (h1 : okS (l.take k)) (h2 : 1 ≤ x.1) (h3 : x.1 ≤ 4096) : okS (l.take (k + 1)) := by
  rw [List.take_add_one, h]
  intro s hs
  rcases List.mem_append.1 hs with h | h
  · exact h1 s h
  · simp at h; subst h; exact ⟨h2, h3⟩
theorem good_any (id : Int) (sl : List (Int × Int)) (ao : Option Addr) (cap : Nat) (w : World) (hr : Rd w ao (sl.flatMap encS)) :
    Calls Try.prog 47 #[.agg #[.int .u32 id, .slice ao sl.length cap]] w fun e w' => e = .returned (.bool (goodB id sl)) ∧ Below w.heap.size w w' := by
  refine sx_fn (S := SX) (M := []) (N := 48) (H0 := [.rd ao (sl.flatMap encS)]) Try.func47 rfl rfl rfl (Sat.oneRd _ hr) ?_
  ((try refine sx_use ?_); (repeat (refine SxNew.mk fun _ => ?_; (try refine sx_use ?_))))
  refine SxIf.dec (fun h1 => ?_) (fun h1 => ?_)
  · ((try refine sx_use ?_); (repeat (refine SxNew.mk fun _ => ?_; (try refine sx_use ?_))))
    exact SxDone.mk fun w' hs => ⟨goodB_f fun h => by have := h.1; omega, hs.touch.below⟩
  ((try refine sx_use ?_); (repeat (refine SxNew.mk fun _ => ?_; (try refine sx_use ?_))))
  refine SxIf.dec (fun h2 => ?_) (fun h2 => ?_)
  · ((try refine sx_use ?_); (repeat (refine SxNew.mk fun _ => ?_; (try refine sx_use ?_))))
    exact SxDone.mk fun w' hs => ⟨goodB_f fun h => by have := h.2.1; omega, hs.touch.below⟩
  ((try refine sx_use ?_); (repeat (refine SxNew.mk fun _ => ?_; (try refine sx_use ?_))))
  refine SxIf.dec (fun h3 => ?_) (fun h3 => ?_)
  · ((try refine sx_use ?_); (repeat (refine SxNew.mk fun _ => ?_; (try refine sx_use ?_))))
    exact SxDone.mk fun w' hs => ⟨goodB_f fun h => by have := h.2.2.1; omega, hs.touch.below⟩
  ((try refine sx_use ?_); (repeat (refine SxNew.mk fun _ => ?_; (try refine sx_use ?_))))
  refine SxIf.dec (fun h4 => ?_) (fun h4 => ?_)
  · ((try refine sx_use ?_); (repeat (refine SxNew.mk fun _ => ?_; (try refine sx_use ?_))))
    exact SxDone.mk fun w' hs => ⟨goodB_f fun h => by have := h.2.2.2.1; omega, hs.touch.below⟩
  ((try refine sx_use ?_); (repeat (refine SxNew.mk fun _ => ?_; (try refine sx_use ?_))))
  refine SxCode.loop (σ := Nat) [3, 29] [30, 31, 32, 5, 33, 34, 35, 36, 37, 38, 39, 40, 2, 41, 42, 43, 44, 3, 45, 29] (fun k => [.int .i64 (sumS (sl.take k)), .int .i64 (k : Nat)]) (fun _ => [.rd ao (sl.flatMap encS)]) (fun k => k ≤ sl.length ∧ okS (sl.take k) ∧ 0 ≤ sumS (sl.take k) ∧ sumS (sl.take k) ≤ 4096 * k) (fun k => sl.length - k) 0 [1] rfl rfl rfl rfl ⟨Nat.zero_le _, by intro s hs; simp at hs, by simp [sumS], by simp [sumS]⟩ (fun k hk => ?_)
  obtain ⟨hk, hok, hs0, hs1⟩ := hk
  ((try refine sx_use ?_); (repeat (refine SxNew.mk fun _ => ?_; (try refine sx_use ?_))))
  refine SxIf.dec (fun h5 => ?_) (fun h5 => ?_)
  · have hlt : k < sl.length := by omega
    obtain ⟨x, hx⟩ : ∃ x, sl[k]? = some x := ⟨sl[k], by simp [hlt]⟩
    have hsn := sumS_snoc sl k x hx
    ((try refine sx_use ?_); (repeat (refine SxNew.mk fun _ => ?_; (try refine sx_use ?_))))
    refine SxIA.rd 0 _ rfl k rfl hlt (by rw [flat_len encS 2 (fun _ => rfl)]; omega) fun g off ha => ?_
    ((try refine sx_use ?_); (repeat (refine SxNew.mk fun _ => ?_; (try refine sx_use ?_))))
    refine SxLdN.rd 0 rfl ha rfl rfl (flat_get encS 2 (fun _ => rfl) sl k x hx) ?_
    ((try refine sx_use ?_); (repeat (refine SxNew.mk fun _ => ?_; (try refine sx_use ?_))))
    have hbad : ¬ (1 ≤ x.1 ∧ x.1 ≤ 4096) → ¬ goodP id sl := fun h hg => h (hg.2.2.2.2.1 x (List.mem_of_getElem? hx))
    refine SxIf.dec (fun h6 => ?_) (fun h6 => ?_)
    · ((try refine sx_use ?_); (repeat (refine SxNew.mk fun _ => ?_; (try refine sx_use ?_))))
      exact SxDone.mk fun w' hs => ⟨goodB_f (hbad (by omega)), hs.touch.below⟩
    ((try refine sx_use ?_); (repeat (refine SxNew.mk fun _ => ?_; (try refine sx_use ?_))))
    refine SxIf.dec (fun h7 => ?_) (fun h7 => ?_)
    · ((try refine sx_use ?_); (repeat (refine SxNew.mk fun _ => ?_; (try refine sx_use ?_))))
      exact SxDone.mk fun w' hs => ⟨goodB_f (hbad (by omega)), hs.touch.below⟩
    ((try refine sx_use ?_); (repeat (refine SxNew.mk fun _ => ?_; (try refine sx_use ?_))))
    have hk1 : ((k : Int) + 1) = ((k + 1 : Nat) : Int) := by omega
    exact SxRound.mk (k + 1) [1] (by rw [hsn, ← hk1]; rfl) rfl rfl ⟨by omega, okS_snoc sl k x hx hok (by omega) (by omega), by omega, by omega⟩ (by omega)
  · obtain rfl : k = sl.length := by omega
    rw [List.take_length] at hok hs0 hs1 ⊢
    ((try refine sx_use ?_); (repeat (refine SxNew.mk fun _ => ?_; (try refine sx_use ?_))))
    refine SxDone.mk fun w' hs => ⟨?_, hs.touch.below⟩
    by_cases hg : sumS sl ≤ 65536
    · have hgood : goodP id sl := ⟨by omega, by omega, by omega, by omega, hok, hg⟩
      show Ending.returned (.bool (decide (sumS sl ≤ 65536))) = _
      rw [decide_eq_true hg]
      exact goodB_t hgood
    · show Ending.returned (.bool (decide (sumS sl ≤ 65536))) = _
      rw [decide_eq_false hg]
      exact goodB_f fun h => hg h.2.2.2.2.2
end Go.Proofs.Ytcpbgacdoigpnaa
