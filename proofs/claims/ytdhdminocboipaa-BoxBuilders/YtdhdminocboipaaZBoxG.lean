/- The walks: Build of the document, and of box. -/
import Derived.Test.YtdhdminocboipaaZBoxF
import Derived.Test.YtdhdminocboipaaZStr

namespace Go.Proofs.Ytdhdminocboipaa
open Go.RowKit

def buildL (id : Int) (ls : List (List UInt8)) : List UInt8 := sealL (frontL id (slOf ls)) ++ ls.flatten
theorem okF_slOf {ls : List (List UInt8)} (h : ∀ x ∈ ls, x.length < 65536) : okF (slOf ls) := by
  intro s hs
  obtain ⟨x, hx, rfl⟩ := List.mem_map.1 hs
  have h1 := h x hx
  have h2 := crcMore_lt 0 x
  refine ⟨by simp, by simp; omega, by simp [crcI], ?_⟩
  simp only [crcI]
  omega
theorem slOf_len (ls : List (List UInt8)) : (slOf ls).length = ls.length := by simp [slOf]
theorem sealL_len (l : List UInt8) : (sealL l).length = l.length + 4 := by simp [sealL, numL_length]
theorem flatten_le {B : Nat} : ∀ (ls : List (List UInt8)), (∀ x ∈ ls, x.length ≤ B) → ls.flatten.length ≤ B * ls.length
  | [], _ => by simp
  | x :: ls, h => by
    have h1 := flatten_le ls fun y hy => h y (List.mem_cons_of_mem _ hy)
    have h2 := h x (List.mem_cons_self ..)
    rw [List.flatten_cons, List.length_append, List.length_cons, Nat.mul_succ]
    omega
theorem RBuild_any (id : Int) (h0 : 0 ≤ id ∧ id < 4294967296) (ls : List (List UInt8)) (ao : Option Addr) (cap : Nat) (w : World) (hr : Rd w ao (ls.map txV)) (hl : ls.length ≤ 1000) (hx : ∀ x ∈ ls, x.length < 65536) :
    Calls Try.prog 14 #[.int .u32 id, .slice ao ls.length cap] w fun e w' => e = .returned (txV (buildL id ls)) ∧ Below w.heap.size w w' := by
  refine sx_fn (S := SX) (M := []) (N := 24) (H0 := [.rd ao (ls.map txV)]) Try.func14 rfl rfl rfl (Sat.oneRd _ hr) ?_
  ((try refine sx_use ?_); (repeat (refine SxNew.mk fun _ => ?_; (try refine sx_use ?_))))
  refine SxCall.newRow (fun w hs => ROf_any id ls ao cap w (hs.rd 0 rfl) (by omega) (fun x hm => by have := hx x hm; omega)) fun bo bc => ?_
  ((try refine sx_use ?_); (repeat (refine SxNew.mk fun _ => ?_; (try refine sx_use ?_))))
  refine SxCall.quietS (fun w hs => by rw [← slOf_len ls]; exact RFront_any id h0 (slOf ls) (okF_slOf hx) bo bc w (hs.rowRd 0 rfl (by rw [flat_len encS 2 (fun _ => rfl), slOf_len]; unfold maxLen; omega)) (by rw [slOf_len]; exact hl)) ?_
  ((try refine sx_use ?_); (repeat (refine SxNew.mk fun _ => ?_; (try refine sx_use ?_))))
  refine SxCode.loop (σ := Nat) [6, 5] [11, 12, 13, 14, 17, 18, 19, 20, 21, 22, 5, 15, 16, 6] (fun k => [.int .i64 (k : Nat), txV (sealL (frontL id (slOf ls)) ++ (ls.take k).flatten)]) (fun _ => [.rd ao (ls.map txV)]) (fun k => k ≤ ls.length) (fun k => ls.length - k) 0 [1] rfl (by simp; rfl) rfl rfl (Nat.zero_le _) ?_
  rintro k hk
  have hal : (sealL (frontL id (slOf ls)) ++ (ls.take k).flatten).length ≤ 100000000 := by
    rw [List.length_append, sealL_len, frontL_len, slOf_len]
    have h1 := flatten_le (B := 65536) (ls.take k) fun x hm => by have := hx x (List.mem_of_mem_take hm); omega
    rw [List.length_take] at h1
    have h2 : 65536 * min k ls.length ≤ 65536 * 1000 := Nat.mul_le_mul_left _ (by omega)
    omega
  ((try refine sx_use ?_); (repeat (refine SxNew.mk fun _ => ?_; (try refine sx_use ?_))))
  refine SxIf.dec (fun h => ?_) (fun h => ?_)
  · have hlt : k < ls.length := by omega
    obtain ⟨x, hx0⟩ : ∃ x, ls[k]? = some x := ⟨ls[k], by simp [hlt]⟩
    have hxl := hx x (List.mem_of_getElem? hx0)
    have hsn : sealL (frontL id (slOf ls)) ++ (ls.take (k + 1)).flatten = sealL (frontL id (slOf ls)) ++ (ls.take k).flatten ++ x := by
      rw [List.take_add_one, hx0]; simp
    ((try refine sx_use ?_); (repeat (refine SxNew.mk fun _ => ?_; (try refine sx_use ?_))))
    refine SxIA.rd 0 _ rfl k rfl hlt (by simpa using hlt) fun g off ha => ?_
    ((try refine sx_use ?_); (repeat (refine SxNew.mk fun _ => ?_; (try refine sx_use ?_))))
    refine SxLd.rd 0 rfl ha rfl (by rw [Nat.mul_one]; exact txV_get hx0) ?_
    ((try refine sx_use ?_); (repeat (refine SxNew.mk fun _ => ?_; (try refine sx_use ?_))))
    refine SxLe.mk (by show (sealL (frontL id (slOf ls)) ++ (ls.take k).flatten).length + x.length ≤ _; omega) ?_
    ((try refine sx_use ?_); (repeat (refine SxNew.mk fun _ => ?_; (try refine sx_use ?_))))
    exact SxRound.mk (k + 1) [0] (by rw [hsn]; show _ = some [_, Value.string _]; rw [← mk_append]; rfl) rfl rfl hlt (by omega)
  · obtain rfl : k = ls.length := by omega
    rw [List.take_length]
    ((try refine sx_use ?_); (repeat (refine SxNew.mk fun _ => ?_; (try refine sx_use ?_))))
    exact SxDone.mk fun w' hs => ⟨rfl, hs.touch.below⟩
end Go.Proofs.Ytdhdminocboipaa
