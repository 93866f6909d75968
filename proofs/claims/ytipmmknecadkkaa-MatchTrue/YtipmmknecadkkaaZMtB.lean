/- Layer 19: Fps, fresh, at, the closures of Segment. -/
import Derived.Test.YtipmmknecadkkaaZMtA
import Derived.Test.YtipmmknecadkkaaZDyn
import Derived.Test.YtipmmknecadkkaaZStrE
namespace Go.Proofs.Ytipmmknecadkkaa
open Go.RowKit

theorem fqE_len (l : List Fq) : (fqE.fl l).length = l.length * 32 := fqE.fl_len l
theorem fqE_at {l : List Fq} {k : Nat} {x : Fq} (h : l[k]? = some x) : ((fqE.fl l).drop (k * 32)).take 32 = fqC x := fqE.fl_at h
theorem fqC_take (q : Fq) : ((fqC q).drop 0).take 32 = fqC q := by rw [List.drop_zero, List.take_of_length_le (by rw [fqC_len]; exact Nat.le_refl _)]
set_option maxHeartbeats 4000000 in
theorem Fps_any (cs : List ByteArray) (hl : cs.length ≤ 100000) (hs : ∀ c ∈ cs, c.size ≤ 900000) (ao : Option Addr) (ac : Nat) (w : World) (hr : Rd w ao (strE.fl cs)) :
    Calls Try.prog 12 #[.slice ao cs.length ac] w fun e w' => ∃ ao' cap', e = .returned (.slice ao' (cs.map bFq).length cap') ∧ NewRow w w' ao' (cs.map bFq).length cap' 38 32 (fqE.fl (cs.map bFq)) := by
  refine sx_fn (S := SX) (M := []) (N := 20) (H0 := [.row none 0 0 38 32 [], .rd ao (strE.fl cs)]) Try.func12 rfl rfl rfl ((Sat.oneRd _ hr).nilRow 38 32) ?_
  ((try refine sx_use ?_); (repeat (refine SxNew.mk fun _ => ?_; (try refine sx_use ?_))))
  refine SxCode.loop (σ := Nat × Option Addr × Nat) [8, 3] [9, 10, 11, 5, 12, 13, 14, 15, 16, 17, 3, 18, 8] (fun x => [.int .i64 (x.1 : Nat), .slice x.2.1 x.1 x.2.2]) (fun x => [.row x.2.1 x.1 x.2.2 38 32 (fqE.fl ((cs.take x.1).map bFq)), .rd ao (strE.fl cs)]) (fun x => x.1 ≤ cs.length) (fun x => cs.length - x.1) (0, none, 0) [0, 1] rfl rfl rfl rfl (Nat.zero_le _) ?_
  rintro ⟨k, ro, rc⟩ hk
  dsimp only at hk ⊢
  ((try refine sx_use ?_); (repeat (refine SxNew.mk fun _ => ?_; (try refine sx_use ?_))))
  refine SxIf.dec (fun h => ?_) (fun h => ?_)
  · have hlt : k < cs.length := by omega
    obtain ⟨x, hx⟩ : ∃ x, cs[k]? = some x := ⟨cs[k], by simp [hlt]⟩
    have hxs := hs x (List.mem_of_getElem? hx)
    have hsm : (cs.take (k + 1)).map bFq = (cs.take k).map bFq ++ [bFq x] := by rw [take_snocE hx]; exact List.map_append
    ((try refine sx_use ?_); (repeat (refine SxNew.mk fun _ => ?_; (try refine sx_use ?_))))
    refine SxIA.rd 1 _ rfl k rfl hlt (by rw [strE_len]; omega) fun g off ha => ?_
    ((try refine sx_use ?_); (repeat (refine SxNew.mk fun _ => ?_; (try refine sx_use ?_))))
    refine SxLd.rd 1 rfl ha rfl (j := k * 1) (strE_at hx) ?_
    ((try refine sx_use ?_); (repeat (refine SxNew.mk fun _ => ?_; (try refine sx_use ?_))))
    refine SxCall.sumF 0 x hxs rfl ?_
    ((try refine sx_use ?_); (repeat (refine SxNew.mk fun _ => ?_; (try refine sx_use ?_))))
    refine SxFill.one rfl (fqC_len _) ?_
    ((try refine sx_use ?_); (repeat (refine SxNew.mk fun _ => ?_; (try refine sx_use ?_))))
    refine SxApp.mk 2 rfl 0 (.inr (.inr (.inr ⟨by decide, _, rfl⟩))) (vs := fqC (bFq x)) (m := 1) (by rw [fqC_len]) (fqC_one _) (by unfold maxLen; omega) (by omega) (cs' := fqE.fl ((cs.take (k + 1)).map bFq)) (by rw [hsm, fqE.fl_append, fqE.fl_one]; rfl) fun ao' cap' => ?_
    ((try refine sx_use ?_); (repeat (refine SxNew.mk fun _ => ?_; (try refine sx_use ?_))))
    exact SxRound.mk (k + 1, ao', cap') [2, 3] rfl rfl rfl hlt (by dsimp only; omega)
  · obtain rfl : k = cs.length := by omega
    rw [List.take_length]
    ((try refine sx_use ?_); (repeat (refine SxNew.mk fun _ => ?_; (try refine sx_use ?_))))
    exact SxDone.mk fun w' hs => ⟨ro, rc, by rw [List.length_map]; rfl, by rw [List.length_map]; exact hs.newRow 0 rfl⟩
/-- Where a chunk is found. -/
def fdC (x : Int × Int) : List Value := [.int .i64 x.1, .int .i64 x.2]
def fdE : Enc (Int × Int) := ⟨fdC, 2, by decide, fun _ => rfl, fun _ => rfl⟩
theorem fdE_len (l : List (Int × Int)) : (fdE.fl l).length = l.length * 2 := fdE.fl_len l
theorem fdE_at {l : List (Int × Int)} {k : Nat} {x : Int × Int} (h : l[k]? = some x) : ((fdE.fl l).drop (k * 2)).take 2 = fdC x := fdE.fl_at h
def freshB (x : Int × Int) : Bool := decide (x.1 < 0) && decide (x.2 < 0)
theorem fresh_any (x : Int × Int) (w : World) : Calls Try.prog 22 #[.agg (fdC x).toArray] w fun e w' => e = .returned (.bool (freshB x)) ∧ Below w.heap.size w w' := by
  obtain ⟨a, b⟩ := x
  refine sx_fn (S := SX) (M := []) (N := 11) (H0 := []) Try.func22 rfl rfl rfl (Sat.nil _ _) ?_
  ((try refine sx_use ?_); (repeat (refine SxNew.mk fun _ => ?_; (try refine sx_use ?_))))
  refine SxIf.dec (fun h1 => ?_) (fun h1 => ?_)
  · ((try refine sx_use ?_); (repeat (refine SxNew.mk fun _ => ?_; (try refine sx_use ?_))))
    exact SxDone.mk fun w' hs => ⟨by unfold freshB; dsimp only; rw [decide_eq_true h1]; rfl, hs.touch.below⟩
  · ((try refine sx_use ?_); (repeat (refine SxNew.mk fun _ => ?_; (try refine sx_use ?_))))
    exact SxDone.mk fun w' hs => ⟨by unfold freshB; dsimp only; rw [decide_eq_false h1]; rfl, hs.touch.below⟩
/-- Of some places the first of which something is so. -/
def atL (p : Nat → Bool) (l : List Nat) : Int := match l.find? p with
  | some i => (i : Nat)
  | none => -1
theorem Seg3_any (cs : List ByteArray) (c : ByteArray) (i : Nat) (hi : i < cs.length) (so : Option Addr) (sc g1 g2 : Nat) (w : World) (h1 : Rd w (some ⟨g1, 0, none⟩) [.slice so cs.length sc]) (h2 : Rd w (some ⟨g2, 0, none⟩) [.string c]) (hr : Rd w so (strE.fl cs)) :
    Calls Try.prog 21 #[.int .i64 (i : Nat), .pointer (some ⟨g1, 0, none⟩), .pointer (some ⟨g2, 0, none⟩)] w fun e w' => e = .returned (.bool (decide (cs[i]? = some c))) ∧ Below w.heap.size w w' := by
  obtain ⟨x, hx⟩ : ∃ x, cs[i]? = some x := ⟨cs[i], by simp [hi]⟩
  have hcl : cs.length * 1 ≤ maxLen := by have := hr.1; rw [strE_len] at this; exact this
  unfold maxLen at hcl
  refine sx_fn (S := SX) (M := []) (N := 11) (H0 := [.rd (some ⟨g1, 0, none⟩) [.slice so cs.length sc], .rd (some ⟨g2, 0, none⟩) [.string c], .rd so (strE.fl cs)]) Try.func21 rfl rfl rfl (Sat.rdsM w [] _ fun j e hj => by
    match j, hj with
    | 0, hj => cases hj; exact ⟨rfl, h1⟩
    | 1, hj => cases hj; exact ⟨rfl, h2⟩
    | 2, hj => cases hj; exact ⟨rfl, hr⟩) ?_
  ((try refine sx_use ?_); (repeat (refine SxNew.mk fun _ => ?_; (try refine sx_use ?_))))
  refine SxCode.drawAll rfl [] ?_
  ((try refine sx_use ?_); (repeat (refine SxNew.mk fun _ => ?_; (try refine sx_use ?_))))
  refine SxLd.rd 0 rfl rfl (j := 0) rfl rfl ?_
  ((try refine sx_use ?_); (repeat (refine SxNew.mk fun _ => ?_; (try refine sx_use ?_))))
  refine SxIA.rd 2 _ rfl i rfl hi (by rw [strE_len]; omega) fun g off ha => ?_
  ((try refine sx_use ?_); (repeat (refine SxNew.mk fun _ => ?_; (try refine sx_use ?_))))
  refine SxLd.rd 2 rfl ha rfl (j := i * 1) (strE_at hx) ?_
  ((try refine sx_use ?_); (repeat (refine SxNew.mk fun _ => ?_; (try refine sx_use ?_))))
  refine SxLd.rd 1 rfl rfl (j := 0) rfl rfl ?_
  ((try refine sx_use ?_); (repeat (refine SxNew.mk fun _ => ?_; (try refine sx_use ?_))))
  refine SxDone.mk fun w' hs => ⟨?_, hs.touch.below⟩
  show Ending.returned (.bool (strEq x c)) = _
  congr 2
  rw [hx]
  by_cases he : x = c
  · rw [decide_eq_true (by rw [he]), he]; exact (strEq_iff _ _).2 rfl
  · rw [decide_eq_false (by simpa using he)]
    cases hb : strEq x c with
    | false => rfl
    | true => exact absurd ((strEq_iff _ _).1 hb) he
end Go.Proofs.Ytipmmknecadkkaa
