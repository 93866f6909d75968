/- The walks over heads: Good, front, Size, Where of the document; Size, Where of box. -/
import Derived.Test.YtcpbgacdoigpnaaZBoxC
namespace Go.Proofs.Ytcpbgacdoigpnaa
open Go.RowKit

def slLens (sl : List (Int × Int)) : List Int := sl.map (·.1)
theorem goodB_eq (id : Int) (sl : List (Int × Int)) : goodB id sl = (decide (idP id) && lensB (slLens sl)) := by
  have hok : okS sl ↔ okL (slLens sl) := by
    constructor
    · intro h n hn
      obtain ⟨s, hs, rfl⟩ := List.mem_map.1 hn
      exact h s hs
    · exact fun h s hs => h s.1 (List.mem_map.2 ⟨s, hs, rfl⟩)
  have hiff : goodP id sl ↔ idP id ∧ lensP (slLens sl) := by
    unfold goodP idP lensP
    rw [← hok]
    have h1 : (slLens sl).length = sl.length := by simp [slLens]
    rw [h1]
    show _ ↔ _ ∧ _ ∧ _ ∧ _ ∧ sumS sl ≤ 65536
    constructor
    · rintro ⟨a, b, c, d, e, f⟩; exact ⟨⟨a, b⟩, c, d, e, f⟩
    · rintro ⟨⟨a, b⟩, c, d, e, f⟩; exact ⟨a, b, c, d, e, f⟩
  by_cases h1 : idP id
  · by_cases h2 : lensP (slLens sl)
    · rw [lensB_t h2, decide_eq_true h1]
      simp [goodB, hiff, h1, h2]
    · rw [lensB_f h2]
      simp [goodB, hiff, h2]
  · rw [decide_eq_false h1]
    simp [goodB, hiff, h1]
/-- A head, as it lies. -/
def hdV (id : Int) (ao : Option Addr) (n cap : Nat) : Value := .agg #[.int .u32 id, .slice ao n cap]
theorem slot_get {sl : List (Int × Int)} {k : Nat} {x : Int × Int} (h : sl[k]? = some x) : (sl.flatMap encS)[k * 2]? = some (.int .i64 x.1) := by
  have h1 := flat_get encS 2 (fun _ => rfl) sl k x h
  have h2 := congrArg (fun l : List Value => l[0]?) h1
  simpa [List.getElem?_take, encS] using h2
/-- How many bytes a box has. -/
noncomputable def sizeV (id : Int) (sl : List (Int × Int)) : Int := if goodB id sl = true then 14 + 6 * (sl.length : Int) + sumS sl else 0
theorem sum_le : ∀ (l : List (Int × Int)), okS l → 0 ≤ sumS l ∧ sumS l ≤ 4096 * l.length
  | [], _ => by simp [sumS]
  | x :: l, h => by
    have h1 := sum_le l fun s hs => h s (List.mem_cons_of_mem _ hs)
    have h2 := h x (List.mem_cons_self ..)
    simp only [sumS, List.map_cons, List.sum_cons, List.length_cons] at h1 ⊢
    omega
theorem okS_take {sl : List (Int × Int)} (h : okS sl) (k : Nat) : okS (sl.take k) := fun s hs => h s (List.mem_of_mem_take hs)
theorem goodB_P {id : Int} {sl : List (Int × Int)} (h : goodB id sl = true) : goodP id sl := by simpa [goodB] using h
theorem BSize_any (id : Int) (sl : List (Int × Int)) (ao : Option Addr) (cap : Nat) (w : World) (hr : Rd w ao (sl.flatMap encS)) (hl : sl.length ≤ 1000000) :
    Calls Try.prog 38 #[hdV id ao sl.length cap] w fun e w' => e = .returned (.int .i64 (sizeV id sl)) ∧ Below w.heap.size w w' := by
  refine sx_fn (S := SX) (M := []) (N := 26) (H0 := [.rd ao (sl.flatMap encS)]) Try.func38 rfl rfl rfl (Sat.oneRd _ hr) ?_
  ((try refine sx_use ?_); (repeat (refine SxNew.mk fun _ => ?_; (try refine sx_use ?_))))
  rename_i b
  refine SxCall.quietS (fun w hs => good_any id sl ao cap w (hs.rd 1 rfl)) ?_
  ((try refine sx_use ?_); (repeat (refine SxNew.mk fun _ => ?_; (try refine sx_use ?_))))
  refine SxIf.nt ⟨fun hg => ?_, fun hg => ?_⟩
  · have hP := goodB_P hg
    have hok := hP.2.2.2.2.1
    ((try refine sx_use ?_); (repeat (refine SxNew.mk fun _ => ?_; (try refine sx_use ?_))))
    refine SxCall.quiet (front_any sl.length hl) ?_
    ((try refine sx_use ?_); (repeat (refine SxNew.mk fun _ => ?_; (try refine sx_use ?_))))
    refine SxCode.loop (σ := Nat) [16, 3] [17, 18, 19, 5, 20, 21, 22, 23, 3, 24, 16] (fun k => [.int .i64 (k : Nat), .int .i64 (14 + 6 * (sl.length : Int) + sumS (sl.take k))]) (fun _ => [.blk b 51 [.int .u32 id, .slice ao sl.length cap], .rd ao (sl.flatMap encS)]) (fun k => k ≤ sl.length) (fun k => sl.length - k) 0 [0, 1] rfl (by simp [sumS]; rfl) rfl rfl (Nat.zero_le _) ?_
    rintro k hk
    ((try refine sx_use ?_); (repeat (refine SxNew.mk fun _ => ?_; (try refine sx_use ?_))))
    refine SxIf.dec (fun h => ?_) (fun h => ?_)
    · have hlt : k < sl.length := by omega
      obtain ⟨x, hx⟩ : ∃ x, sl[k]? = some x := ⟨sl[k], by simp [hlt]⟩
      have hsn := sumS_snoc sl k x hx
      have hb := sum_le _ (okS_take hok k)
      have hx2 := hok x (List.mem_of_getElem? hx)
      rw [List.length_take] at hb
      ((try refine sx_use ?_); (repeat (refine SxNew.mk fun _ => ?_; (try refine sx_use ?_))))
      refine SxIA.rd 1 _ rfl k rfl hlt (by rw [flat_len encS 2 (fun _ => rfl)]; omega) fun g off ha => ?_
      ((try refine sx_use ?_); (repeat (refine SxNew.mk fun _ => ?_; (try refine sx_use ?_))))
      refine SxLdN.rd 1 rfl ha rfl (vs := encS x) rfl (flat_get encS 2 (fun _ => rfl) sl k x hx) ?_
      ((try refine sx_use ?_); (repeat (refine SxNew.mk fun _ => ?_; (try refine sx_use ?_))))
      exact SxRound.mk (k + 1) [1, 2] (by rw [hsn, ← Int.add_assoc]; rfl) rfl rfl hlt (by omega)
    · obtain rfl : k = sl.length := by omega
      rw [List.take_length]
      ((try refine sx_use ?_); (repeat (refine SxNew.mk fun _ => ?_; (try refine sx_use ?_))))
      exact SxDone.mk fun w' hs => ⟨by unfold sizeV; rw [hg]; rfl, hs.touch.below⟩
  · ((try refine sx_use ?_); (repeat (refine SxNew.mk fun _ => ?_; (try refine sx_use ?_))))
    exact SxDone.mk fun w' hs => ⟨by unfold sizeV; rw [hg]; rfl, hs.touch.below⟩
/-- Where a slot's chunk lies. -/
def fromV (sl : List (Int × Int)) (slot : Nat) : Int := 14 + 6 * (sl.length : Int) + sumS (sl.take slot)
theorem ao_same {ao ao' : Option Addr} {cap k : Nat} (h1 : 0 < cap → ao' = ao.map (·.add (0 * k))) (h2 : 0 = cap → ao' = ao) : ao' = ao := by
  rcases Nat.eq_zero_or_pos cap with h | h
  · exact h2 h.symm
  · rw [h1 h]
    cases ao with
    | none => rfl
    | some a => simp [Addr.add]
/-- What 'Where' answers. -/
noncomputable def whereV (id : Int) (sl : List (Int × Int)) (slot : Int) : Int × Int × Int :=
  if goodB id sl = true then (if 0 ≤ slot ∧ slot < sl.length then (fromV sl slot.toNat, (sl.getD slot.toNat (0, 0)).1, 0) else (0, 0, 5)) else (0, 0, 1)
end Go.Proofs.Ytcpbgacdoigpnaa
