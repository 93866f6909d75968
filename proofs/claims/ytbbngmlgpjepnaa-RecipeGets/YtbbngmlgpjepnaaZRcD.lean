/- The walks: the document's May and Put; few, Same, Weight. -/
import Derived.Test.YtbbngmlgpjepnaaZRcC
namespace Go.Proofs.Ytbbngmlgpjepnaa
open Go.RowKit

theorem RMay_any (nm : List UInt8) (sz re im : Int) (ms : List Int) (ao : Option Addr) (cap : Nat) (w : World) (hr : Rd w ao (ms.map u4V)) :
    Calls Try.prog 24 #[rcV nm sz re im ao ms.length cap] w fun e w' => e = .returned (.bool (decide (mayR nm.length sz re im ms))) ∧ Below w.heap.size w w' := by
  have hsz : (⟨nm.toArray⟩ : ByteArray).size = nm.length := mk_size nm
  have hno : ¬ mayR nm.length sz re im ms → Ending.returned (.bool false) = .returned (.bool (decide (mayR nm.length sz re im ms))) := fun h => by rw [decide_eq_false h]
  refine sx_fn (S := SX) (M := []) (N := 63) (H0 := [.rd ao (ms.map u4V)]) Try.func24 rfl rfl rfl (Sat.oneRd _ hr) ?_
  ((try refine sx_use ?_); (repeat (refine SxNew.mk fun _ => ?_; (try refine sx_use ?_))))
  rename_i b
  by_cases h1 : nm.length < 1
  · ((try refine sx_use ?_); (repeat (refine SxNew.mk fun _ => ?_; (try refine sx_use ?_))))
    exact SxDone.mk fun w' hs => ⟨hno (fun hh => by have := hh.1; omega), hs.touch.below⟩
  by_cases h2 : nm.length > 48
  · ((try refine sx_use ?_); (repeat (refine SxNew.mk fun _ => ?_; (try refine sx_use ?_))))
    exact SxDone.mk fun w' hs => ⟨hno (fun hh => by have := hh.2.1; omega), hs.touch.below⟩
  by_cases h3 : sz < 0
  · ((try refine sx_use ?_); (repeat (refine SxNew.mk fun _ => ?_; (try refine sx_use ?_))))
    exact SxDone.mk fun w' hs => ⟨hno (fun hh => by have := hh.2.2.2.1; omega), hs.touch.below⟩
  by_cases h4 : sz > 1048576
  · ((try refine sx_use ?_); (repeat (refine SxNew.mk fun _ => ?_; (try refine sx_use ?_))))
    exact SxDone.mk fun w' hs => ⟨hno (fun hh => by have := hh.2.2.2.2.1; omega), hs.touch.below⟩
  ((try refine sx_use ?_); (repeat (refine SxNew.mk fun _ => ?_; (try refine sx_use ?_))))
  refine SxCall.quiet (Rpart_any re) ?_
  ((try refine sx_use ?_); (repeat (refine SxNew.mk fun _ => ?_; (try refine sx_use ?_))))
  refine SxIf.nt (SxIf.dec (fun h5 => ?_) (fun h5 => ?_))
  rotate_left
  · ((try refine sx_use ?_); (repeat (refine SxNew.mk fun _ => ?_; (try refine sx_use ?_))))
    exact SxDone.mk fun w' hs => ⟨hno (fun hh => h5 hh.2.2.2.2.2.1), hs.touch.below⟩
  ((try refine sx_use ?_); (repeat (refine SxNew.mk fun _ => ?_; (try refine sx_use ?_))))
  refine SxCall.quiet (Rpart_any im) ?_
  ((try refine sx_use ?_); (repeat (refine SxNew.mk fun _ => ?_; (try refine sx_use ?_))))
  refine SxIf.nt (SxIf.dec (fun h6 => ?_) (fun h6 => ?_))
  rotate_left
  · ((try refine sx_use ?_); (repeat (refine SxNew.mk fun _ => ?_; (try refine sx_use ?_))))
    exact SxDone.mk fun w' hs => ⟨hno (fun hh => h6 hh.2.2.2.2.2.2.1), hs.touch.below⟩
  ((try refine sx_use ?_); (repeat (refine SxNew.mk fun _ => ?_; (try refine sx_use ?_))))
  refine SxIf.dec (fun h7 => ?_) (fun h7 => ?_)
  · ((try refine sx_use ?_); (repeat (refine SxNew.mk fun _ => ?_; (try refine sx_use ?_))))
    exact SxDone.mk fun w' hs => ⟨hno (fun hh => by have := hh.2.2.1; omega), hs.touch.below⟩
  ((try refine sx_use ?_); (repeat (refine SxNew.mk fun _ => ?_; (try refine sx_use ?_))))
  refine SxCode.loop (σ := Nat) [3] [42, 43, 44, 45, 46, 49, 50, 51, 52, 53, 54, 55, 56, 57, 58, 59, 60, 61, 62, 2, 47, 48, 3] (fun k => [.int .i64 (k : Nat)]) (fun _ => [.blk b 28 [.string ⟨nm.toArray⟩, .int .i64 sz, .int .i64 re, .int .i64 im, .slice ao ms.length cap], .rd ao (ms.map u4V)]) (fun k => k ≤ ms.length ∧ allId (ms.take k)) (fun k => ms.length - k) 0 [0, 1] rfl rfl rfl rfl ⟨Nat.zero_le _, by intro x hx; simp at hx⟩ ?_
  rintro k ⟨hk, hall⟩
  ((try refine sx_use ?_); (repeat (refine SxNew.mk fun _ => ?_; (try refine sx_use ?_))))
  refine SxIf.dec (fun h => ?_) (fun h => ?_)
  · have hlt : k < ms.length := by omega
    obtain ⟨x, hx⟩ : ∃ x, ms[k]? = some x := ⟨ms[k], by simp [hlt]⟩
    have hbad : ¬ okId x → ¬ mayR nm.length sz re im ms := fun hb hh => hb (hh.2.2.2.2.2.2.2 x (List.mem_of_getElem? hx))
    ((try refine sx_use ?_); (repeat (refine SxNew.mk fun _ => ?_; (try refine sx_use ?_))))
    refine SxIA.rd 1 _ rfl k rfl hlt (by simpa using hlt) fun g off ha => ?_
    ((try refine sx_use ?_); (repeat (refine SxNew.mk fun _ => ?_; (try refine sx_use ?_))))
    refine SxLd.rd 1 rfl ha rfl (by rw [Nat.mul_one]; exact u4V_get hx) ?_
    ((try refine sx_use ?_); (repeat (refine SxNew.mk fun _ => ?_; (try refine sx_use ?_))))
    refine SxIf.dec (fun h8 => ?_) (fun h8 => ?_)
    · ((try refine sx_use ?_); (repeat (refine SxNew.mk fun _ => ?_; (try refine sx_use ?_))))
      exact SxDone.mk fun w' hs => ⟨hno (hbad fun hh => by have := hh.1; omega), hs.touch.below⟩
    ((try refine sx_use ?_); (repeat (refine SxNew.mk fun _ => ?_; (try refine sx_use ?_))))
    refine SxIA.rd 1 _ rfl k rfl hlt (by simpa using hlt) fun g off ha => ?_
    ((try refine sx_use ?_); (repeat (refine SxNew.mk fun _ => ?_; (try refine sx_use ?_))))
    refine SxLd.rd 1 rfl ha rfl (by rw [Nat.mul_one]; exact u4V_get hx) ?_
    ((try refine sx_use ?_); (repeat (refine SxNew.mk fun _ => ?_; (try refine sx_use ?_))))
    refine SxIf.dec (fun h9 => ?_) (fun h9 => ?_)
    · ((try refine sx_use ?_); (repeat (refine SxNew.mk fun _ => ?_; (try refine sx_use ?_))))
      exact SxDone.mk fun w' hs => ⟨hno (hbad fun hh => by have := hh.2; omega), hs.touch.below⟩
    ((try refine sx_use ?_); (repeat (refine SxNew.mk fun _ => ?_; (try refine sx_use ?_))))
    refine SxRound.mk (k + 1) [0, 1] rfl rfl rfl ⟨hlt, ?_⟩ (by omega)
    intro y hy
    rw [List.take_add_one, hx] at hy
    rcases List.mem_append.1 hy with h3 | h3
    · exact hall y h3
    · simp at h3; subst h3; exact ⟨by omega, by omega⟩
  · obtain rfl : k = ms.length := by omega
    rw [List.take_length] at hall
    ((try refine sx_use ?_); (repeat (refine SxNew.mk fun _ => ?_; (try refine sx_use ?_))))
    refine SxDone.mk fun w' hs => ⟨?_, hs.touch.below⟩
    rw [decide_eq_true (show mayR nm.length sz re im ms from ⟨by omega, by omega, by omega, by omega, by omega, h5, h6, hall⟩)]
    rfl
theorem ao_same2 {ao ao' : Option Addr} {cap k : Nat} (h1 : 0 < cap → ao' = ao.map (·.add (0 * k))) (h2 : 0 = cap → ao' = ao) : ao' = ao := by
  rcases Nat.eq_zero_or_pos cap with h | h
  · exact h2 h.symm
  · rw [h1 h]
    cases ao with
    | none => rfl
    | some a => simp [Addr.add]
theorem Rd.take {w : World} {ao : Option Addr} {xs : List Value} (h : Rd w ao xs) (k : Nat) : Rd w ao (xs.take k) := by
  refine ⟨by have := h.1; rw [List.length_take]; omega, fun hn => ?_⟩
  rw [List.length_take] at hn
  obtain ⟨g, off, rfl, h2, h3⟩ := h.2 (by omega)
  refine ⟨g, off, rfl, h2, fun j hj => ?_⟩
  rw [List.length_take] at hj
  rw [h3 j (by omega), List.getElem?_take, if_pos (by omega)]
theorem few_any (nm : List UInt8) (sz re im : Int) (ms : List Int) (ao : Option Addr) (cap : Nat) (hc : ms.length ≤ cap) (w : World) :
    Calls Try.prog 16 #[rcV nm sz re im ao ms.length cap] w fun e w' => e = .returned (rcV (nm.take 60) sz re im ao (ms.take 1030).length cap) ∧ Below w.heap.size w w' := by
  refine sx_fn (S := SX) (M := []) (N := 20) (H0 := []) Try.func16 rfl rfl rfl (Sat.nil _ _) ?_
  have hsz : (⟨nm.toArray⟩ : ByteArray).size = nm.length := mk_size nm
  have hex : (⟨nm.toArray⟩ : ByteArray).extract 0 60 = ⟨(nm.take 60).toArray⟩ := by rw [mk_extract]; simp
  ((try refine sx_use ?_); (repeat (refine SxNew.mk fun _ => ?_; (try refine sx_use ?_))))
  refine SxIf.dec (fun h => ?_) (fun h => ?_)
  · have hl : (ms.take 1030).length = 1030 := by rw [List.length_take]; omega
    ((try refine sx_use ?_); (repeat (refine SxNew.mk fun _ => ?_; (try refine sx_use ?_))))
    refine SxBnd.mk 0 1030 rfl rfl (by omega) (by omega) fun ao' h3 h4 => ?_
    obtain rfl := ao_same2 h3 h4
    ((try refine sx_use ?_); (repeat (refine SxNew.mk fun _ => ?_; (try refine sx_use ?_))))
    refine SxIf.dec (fun h2 => ?_) (fun h2 => ?_)
    · ((try refine sx_use ?_); (repeat (refine SxNew.mk fun _ => ?_; (try refine sx_use ?_))))
      refine SxBnd.mk 0 60 rfl rfl (by omega) (by omega) ?_
      rw [hex]
      ((try refine sx_use ?_); (repeat (refine SxNew.mk fun _ => ?_; (try refine sx_use ?_))))
      exact SxDone.mk fun w' hs => ⟨by rw [hl]; rfl, hs.touch.below⟩
    · ((try refine sx_use ?_); (repeat (refine SxNew.mk fun _ => ?_; (try refine sx_use ?_))))
      exact SxDone.mk fun w' hs => ⟨by rw [hl, List.take_of_length_le (l := nm) (by omega)]; rfl, hs.touch.below⟩
  · rw [List.take_of_length_le (l := ms) (by omega)]
    ((try refine sx_use ?_); (repeat (refine SxNew.mk fun _ => ?_; (try refine sx_use ?_))))
    refine SxIf.dec (fun h2 => ?_) (fun h2 => ?_)
    · ((try refine sx_use ?_); (repeat (refine SxNew.mk fun _ => ?_; (try refine sx_use ?_))))
      refine SxBnd.mk 0 60 rfl rfl (by omega) (by omega) ?_
      rw [hex]
      ((try refine sx_use ?_); (repeat (refine SxNew.mk fun _ => ?_; (try refine sx_use ?_))))
      exact SxDone.mk fun w' hs => ⟨rfl, hs.touch.below⟩
    · ((try refine sx_use ?_); (repeat (refine SxNew.mk fun _ => ?_; (try refine sx_use ?_))))
      exact SxDone.mk fun w' hs => ⟨by rw [List.take_of_length_le (l := nm) (by omega)]; rfl, hs.touch.below⟩
theorem EqU_any (a b : List Int) (ao bo : Option Addr) (ac bc : Nat) (w : World) (ha : Rd w ao (a.map u4V)) (hb : Rd w bo (b.map u4V)) :
    Calls Try.prog 50 #[.slice ao a.length ac, .slice bo b.length bc] w fun e w' => e = .returned (.bool (decide (a = b))) ∧ Below w.heap.size w w' := by
  have hal : a.length ≤ maxLen := by have := ha.1; simpa using this
  unfold maxLen at hal
  refine sx_fn (S := SX) (M := []) (N := 26) (H0 := [.rd ao (a.map u4V), .rd bo (b.map u4V)]) Try.func50 rfl rfl rfl (Sat.twoRd _ ha hb) ?_
  ((try refine sx_use ?_); (repeat (refine SxNew.mk fun _ => ?_; (try refine sx_use ?_))))
  refine SxIf.ne (fun h => ?_) (fun h => ?_)
  · ((try refine sx_use ?_); (repeat (refine SxNew.mk fun _ => ?_; (try refine sx_use ?_))))
    exact SxDone.mk fun w' hs => ⟨by rw [decide_eq_false fun he => h (by rw [he])]; rfl, hs.touch.below⟩
  have hl : a.length = b.length := by omega
  ((try refine sx_use ?_); (repeat (refine SxNew.mk fun _ => ?_; (try refine sx_use ?_))))
  refine SxCode.loop (σ := Nat) [13] [14, 15, 5, 16, 17, 18, 19, 20, 21, 22, 23, 24, 4, 25, 13] (fun k => [.int .i64 (k : Nat)]) (fun _ => [.rd ao (a.map u4V), .rd bo (b.map u4V)]) (fun k => k ≤ a.length ∧ a.take k = b.take k) (fun k => a.length - k) 0 [0, 1] rfl rfl rfl rfl ⟨Nat.zero_le _, rfl⟩ ?_
  rintro k ⟨hk, he⟩
  ((try refine sx_use ?_); (repeat (refine SxNew.mk fun _ => ?_; (try refine sx_use ?_))))
  refine SxIf.dec (fun h => ?_) (fun h => ?_)
  · have hlt : k < a.length := by omega
    have hlt2 : k < b.length := by omega
    obtain ⟨x, hx⟩ : ∃ x, a[k]? = some x := ⟨a[k], by simp [hlt]⟩
    obtain ⟨y, hy⟩ : ∃ y, b[k]? = some y := ⟨b[k], by simp [hlt2]⟩
    ((try refine sx_use ?_); (repeat (refine SxNew.mk fun _ => ?_; (try refine sx_use ?_))))
    refine SxCode.drawAll rfl [] ?_
    ((try refine sx_use ?_); (repeat (refine SxNew.mk fun _ => ?_; (try refine sx_use ?_))))
    refine SxIA.rd 0 _ rfl k rfl hlt (by simpa using hlt) fun g off ha => ?_
    ((try refine sx_use ?_); (repeat (refine SxNew.mk fun _ => ?_; (try refine sx_use ?_))))
    refine SxLd.rd 0 rfl ha rfl (by rw [Nat.mul_one]; exact u4V_get hx) ?_
    ((try refine sx_use ?_); (repeat (refine SxNew.mk fun _ => ?_; (try refine sx_use ?_))))
    refine SxIA.rd 1 _ rfl k rfl hlt2 (by simpa using hlt2) fun g off ha => ?_
    ((try refine sx_use ?_); (repeat (refine SxNew.mk fun _ => ?_; (try refine sx_use ?_))))
    refine SxLd.rd 1 rfl ha rfl (by rw [Nat.mul_one]; exact u4V_get hy) ?_
    ((try refine sx_use ?_); (repeat (refine SxNew.mk fun _ => ?_; (try refine sx_use ?_))))
    refine SxIf.ne (fun h2 => ?_) (fun h2 => ?_)
    · have h3 : a ≠ b := fun e => h2 (by subst e; exact Option.some.inj (hx.symm.trans hy))
      ((try refine sx_use ?_); (repeat (refine SxNew.mk fun _ => ?_; (try refine sx_use ?_))))
      exact SxDone.mk fun w' hs => ⟨by rw [decide_eq_false h3]; rfl, hs.touch.below⟩
    · ((try refine sx_use ?_); (repeat (refine SxNew.mk fun _ => ?_; (try refine sx_use ?_))))
      exact SxRound.mk (k + 1) [0, 1] rfl rfl rfl ⟨hlt, by rw [List.take_add_one, List.take_add_one, he, hx, hy, h2]⟩ (by omega)
  · obtain rfl : k = a.length := by omega
    rw [List.take_length, hl, List.take_length] at he
    ((try refine sx_use ?_); (repeat (refine SxNew.mk fun _ => ?_; (try refine sx_use ?_))))
    exact SxDone.mk fun w' hs => ⟨by rw [decide_eq_true he]; rfl, hs.touch.below⟩
theorem mkr_inj {a b : List UInt8} (h : (⟨a.toArray⟩ : ByteArray) = ⟨b.toArray⟩) : a = b := by
  have := congrArg (fun x : ByteArray => x.data.toList) h
  simpa using this
/-- A recipe, as plain data. -/
structure Rc where
  nm : List UInt8
  sz : Int
  re : Int
  im : Int
  ms : List Int
  deriving DecidableEq
def Rc.v (r : Rc) (ao : Option Addr) (cap : Nat) : Value := rcV r.nm r.sz r.re r.im ao r.ms.length cap
theorem Same_any (a b : Rc) (ao bo : Option Addr) (ac bc : Nat) (w : World) (ha : Rd w ao (a.ms.map u4V)) (hb : Rd w bo (b.ms.map u4V)) :
    Calls Try.prog 23 #[a.v ao ac, b.v bo bc] w fun e w' => e = .returned (.bool (decide (a = b))) ∧ Below w.heap.size w w' := by
  obtain ⟨n1, s1, r1, i1, m1⟩ := a
  obtain ⟨n2, s2, r2, i2, m2⟩ := b
  dsimp only at ha hb
  refine sx_fn (S := SX) (M := []) (N := 38) (H0 := [.rd ao (m1.map u4V), .rd bo (m2.map u4V)]) Try.func23 rfl rfl rfl (Sat.twoRd _ ha hb) ?_
  ((try refine sx_use ?_); (repeat (refine SxNew.mk fun _ => ?_; (try refine sx_use ?_))))
  refine SxIf.str (fun h1 => ?_) (fun h1 => ?_)
  rotate_left
  · ((try refine sx_use ?_); (repeat (refine SxNew.mk fun _ => ?_; (try refine sx_use ?_))))
    exact SxDone.mk fun w' hs => ⟨by rw [decide_eq_false fun h => h1 (by rw [(Rc.mk.inj h).1])]; rfl, hs.touch.below⟩
  ((try refine sx_use ?_); (repeat (refine SxNew.mk fun _ => ?_; (try refine sx_use ?_))))
  refine SxIf.eq (fun h2 => ?_) (fun h2 => ?_)
  rotate_left
  · ((try refine sx_use ?_); (repeat (refine SxNew.mk fun _ => ?_; (try refine sx_use ?_))))
    exact SxDone.mk fun w' hs => ⟨by rw [decide_eq_false fun h => h2 (Rc.mk.inj h).2.1]; rfl, hs.touch.below⟩
  ((try refine sx_use ?_); (repeat (refine SxNew.mk fun _ => ?_; (try refine sx_use ?_))))
  refine SxIf.eq (fun h3 => ?_) (fun h3 => ?_)
  rotate_left
  · ((try refine sx_use ?_); (repeat (refine SxNew.mk fun _ => ?_; (try refine sx_use ?_))))
    exact SxDone.mk fun w' hs => ⟨by rw [decide_eq_false fun h => h3 (Rc.mk.inj h).2.2.1]; rfl, hs.touch.below⟩
  ((try refine sx_use ?_); (repeat (refine SxNew.mk fun _ => ?_; (try refine sx_use ?_))))
  refine SxIf.eq (fun h4 => ?_) (fun h4 => ?_)
  rotate_left
  · ((try refine sx_use ?_); (repeat (refine SxNew.mk fun _ => ?_; (try refine sx_use ?_))))
    exact SxDone.mk fun w' hs => ⟨by rw [decide_eq_false fun h => h4 (Rc.mk.inj h).2.2.2.1]; rfl, hs.touch.below⟩
  ((try refine sx_use ?_); (repeat (refine SxNew.mk fun _ => ?_; (try refine sx_use ?_))))
  refine SxCall.quietS (fun w hs => EqU_any m1 m2 ao bo ac bc w (hs.rd 2 rfl) (hs.rd 3 rfl)) ?_
  ((try refine sx_use ?_); (repeat (refine SxNew.mk fun _ => ?_; (try refine sx_use ?_))))
  refine SxDone.mk fun w' hs => ⟨?_, hs.touch.below⟩
  have h1 := mkr_inj h1
  subst h1 h2 h3 h4
  show Ending.returned (.bool (decide (m1 = m2))) = _
  by_cases h5 : m1 = m2
  · subst h5; rw [decide_eq_true rfl, decide_eq_true rfl]
  · rw [decide_eq_false h5, decide_eq_false fun h => h5 (Rc.mk.inj h).2.2.2.2]
end Go.Proofs.Ytbbngmlgpjepnaa
