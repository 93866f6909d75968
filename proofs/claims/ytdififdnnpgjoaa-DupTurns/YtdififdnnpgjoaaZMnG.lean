/- The walks of layer 15: Turn. -/
import Derived.Test.YtdififdnnpgjoaaZMnB
namespace Go.Proofs.Ytdififdnnpgjoaa
open Go.RowKit

/-- A move: from where, and to where. -/
structure Mv where
  fr : Pl
  to : Pl
  deriving DecidableEq
instance : Inhabited Mv := ⟨⟨default, default⟩⟩
def mvC (m : Mv) : List Value := [.int .u32 m.fr.bx, .int .i64 m.fr.sl, .int .u32 m.to.bx, .int .i64 m.to.sl]
def mvE : Enc Mv := ⟨mvC, 4, by decide, fun _ => rfl, fun _ => rfl⟩
theorem rowMv_len (l : List Mv) : (mvE.fl l).length = l.length * 4 := mvE.fl_len l
theorem rowMv_at {l : List Mv} {k : Nat} {x : Mv} (h : l[k]? = some x) : ((mvE.fl l).drop (k * 4)).take 4 = mvE.enc x := mvE.fl_at h
theorem rowMv_cell {l : List Mv} {k j : Nat} {x : Mv} {v : Value} (h : l[k]? = some x) (hj : (mvE.enc x)[j]? = some v) : (mvE.fl l)[k * 4 + j]? = some v := mvE.fl_cell h hj
theorem find_at {α : Type} {p : α → Bool} {l : List α} {k : Nat} {x : α} (h : ∀ (j : Nat) (y : α), j < k → l[j]? = some y → p y = false) (hk : l[k]? = some x) (hx : p x = true) : l.find? p = some x := by
  induction k generalizing l with
  | zero =>
    cases l with
    | nil => cases hk
    | cons y r => obtain rfl := Option.some.inj hk; exact List.find?_cons_of_pos hx
  | succ k ih =>
    cases l with
    | nil => cases hk
    | cons y r =>
      rw [List.find?_cons_of_neg (by rw [h 0 y (by omega) rfl]; simp)]
      exact ih (fun j z hj hz => h (j + 1) z (by omega) (by simpa using hz)) (by simpa using hk)
theorem find_no {α : Type} {p : α → Bool} {l : List α} (h : ∀ (j : Nat) (y : α), l[j]? = some y → p y = false) : l.find? p = none := by
  rw [List.find?_eq_none]
  intro x hx
  obtain ⟨j, hj⟩ := List.getElem?_of_mem hx
  rw [h j x hj]
  simp
def hitM (ms : List Mv) (p : Pl) : Option Mv := ms.find? fun m => decide (m.fr = p)
def turn1 (ms : List Mv) (e : En) : En := match hitM ms e.pl with
  | some m => { e with bx := m.to.bx, sl := m.to.sl }
  | none => e
def turnN (ms : List Mv) (es : List En) : Nat := (es.filter fun e => (hitM ms e.pl).isSome).length
theorem turn1_some {ms : List Mv} {e : En} {m : Mv} (h : hitM ms e.pl = some m) : turn1 ms e = { e with bx := m.to.bx, sl := m.to.sl } := by unfold turn1; rw [h]
theorem turn1_none {ms : List Mv} {e : En} (h : hitM ms e.pl = none) : turn1 ms e = e := by unfold turn1; rw [h]
theorem turnN_snoc (ms : List Mv) (es : List En) (e : En) : turnN ms (es ++ [e]) = turnN ms es + (if (hitM ms e.pl).isSome then 1 else 0) := by
  unfold turnN
  rw [List.filter_append, List.length_append]
  congr 1
  cases h : (hitM ms e.pl).isSome with
  | true => simp [h]
  | false => simp [h]
theorem turnN_le (ms : List Mv) (es : List En) : turnN ms es ≤ es.length := List.length_filter_le _ _
/-- Turn's function: does a move begin there? -/
theorem Turn1_any (m : Mv) (p : Pl) (g : Nat) (w : World) (hp : Rd w (some ⟨g, 0, none⟩) (plC p)) :
    Calls Try.prog 56 #[.agg (mvC m).toArray, .pointer (some ⟨g, 0, none⟩)] w fun e w' => e = .returned (.bool (decide (m.fr = p))) ∧ Below w.heap.size w w' := by
  refine sx_fn (S := SX) (M := []) (N := 8) (H0 := [.rd (some ⟨g, 0, none⟩) (plC p)]) Try.func56 rfl rfl rfl (Sat.oneRd _ hp) ?_
  ((try refine sx_use ?_); (repeat (refine SxNew.mk fun _ => ?_; (try refine sx_use ?_))))
  refine SxLdN.rd 1 rfl rfl (j := 0) rfl (vs := plC p) rfl rfl ?_
  ((try refine sx_use ?_); (repeat (refine SxNew.mk fun _ => ?_; (try refine sx_use ?_))))
  refine SxRun.eqPl (x := m.fr) (y := p) ?_
  ((try refine sx_use ?_); (repeat (refine SxNew.mk fun _ => ?_; (try refine sx_use ?_))))
  exact SxDone.mk fun w' hs => ⟨rfl, hs.touch.below⟩
def turnE (g : Nat) : Value := .func (.func 56) #[] #[.pointer (some ⟨g, 0, none⟩)]
theorem IndexM_any (ms : List Mv) (p : Pl) (g : Nat) (ao : Option Addr) (cap : Nat) (w : World) (hr : Rd w ao (mvE.fl ms)) (hp : Rd w (some ⟨g, 0, none⟩) (plC p)) :
    Calls Try.prog 55 #[.slice ao ms.length cap, turnE g] w fun e w' => ∃ r : Int, (e = .returned (.int .i64 r) ∧ ((r = -1 ∧ hitM ms p = none) ∨ ∃ (j : Nat) (m : Mv), r = j ∧ ms[j]? = some m ∧ hitM ms p = some m)) ∧ Below w.heap.size w w' := by
  have hlen : ms.length * 4 ≤ maxLen := by have := hr.1; rw [rowMv_len] at this; exact this
  unfold maxLen at hlen
  refine sx_fn (S := SX) (M := []) (N := 19) (H0 := [.rd ao (mvE.fl ms), .rd (some ⟨g, 0, none⟩) (plC p)]) Try.func55 rfl rfl rfl (Sat.twoRd _ hr hp) ?_
  ((try refine sx_use ?_); (repeat (refine SxNew.mk fun _ => ?_; (try refine sx_use ?_))))
  refine SxCode.loop (σ := Nat) [8] [9, 10, 5, 11, 12, 13, 14, 15, 16, 17, 4, 18, 8] (fun k => [.int .i64 (k : Nat)]) (fun _ => [.rd ao (mvE.fl ms), .rd (some ⟨g, 0, none⟩) (plC p)]) (fun k => k ≤ ms.length ∧ ∀ j y, j < k → ms[j]? = some y → decide (y.fr = p) = false) (fun k => ms.length - k) 0 [0, 1] rfl rfl rfl rfl ⟨Nat.zero_le _, fun j y hj => absurd hj (Nat.not_lt_zero _)⟩ ?_
  rintro k ⟨hk, hall⟩
  ((try refine sx_use ?_); (repeat (refine SxNew.mk fun _ => ?_; (try refine sx_use ?_))))
  refine SxIf.dec (fun h => ?_) (fun h => ?_)
  · have hlt : k < ms.length := by omega
    obtain ⟨x, hx⟩ : ∃ x, ms[k]? = some x := ⟨ms[k], by simp [hlt]⟩
    ((try refine sx_use ?_); (repeat (refine SxNew.mk fun _ => ?_; (try refine sx_use ?_))))
    refine SxIA.rd 0 _ rfl k rfl hlt (by rw [rowMv_len]; omega) fun g' off ha => ?_
    ((try refine sx_use ?_); (repeat (refine SxNew.mk fun _ => ?_; (try refine sx_use ?_))))
    refine SxLdN.rd 0 rfl ha rfl (vs := mvC x) rfl (rowMv_at hx) ?_
    ((try refine sx_use ?_); (repeat (refine SxNew.mk fun _ => ?_; (try refine sx_use ?_))))
    refine SxCall.quietS (fun w hs => Turn1_any x p g w (hs.rd 1 rfl)) ?_
    ((try refine sx_use ?_); (repeat (refine SxNew.mk fun _ => ?_; (try refine sx_use ?_))))
    refine SxIf.dec (fun h2 => ?_) (fun h2 => ?_)
    · ((try refine sx_use ?_); (repeat (refine SxNew.mk fun _ => ?_; (try refine sx_use ?_))))
      exact SxDone.mk fun w' hs => ⟨_, ⟨rfl, .inr ⟨k, x, rfl, hx, find_at hall hx (decide_eq_true h2)⟩⟩, hs.touch.below⟩
    · ((try refine sx_use ?_); (repeat (refine SxNew.mk fun _ => ?_; (try refine sx_use ?_))))
      refine SxRound.mk (k + 1) [0, 1] rfl rfl rfl ⟨hlt, fun j y hj hy => ?_⟩ (by omega)
      rcases Nat.lt_succ_iff_lt_or_eq.1 hj with h3 | h3
      · exact hall j y h3 hy
      · subst h3
        obtain rfl := Option.some.inj (hx.symm.trans hy)
        exact decide_eq_false h2
  · obtain rfl : k = ms.length := by omega
    ((try refine sx_use ?_); (repeat (refine SxNew.mk fun _ => ?_; (try refine sx_use ?_))))
    exact SxDone.mk fun w' hs => ⟨_, ⟨rfl, .inl ⟨rfl, find_no fun j y hy => hall j y (List.getElem?_eq_some_iff.1 hy).1 hy⟩⟩, hs.touch.below⟩
end Go.Proofs.Ytdififdnnpgjoaa
