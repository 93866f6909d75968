/- The walks: Add and Seal of the builder of box; the law's room. -/
import Derived.Test.YtdhdminocboipaaZBoxM
namespace Go.Proofs.Ytdhdminocboipaa
open Go.RowKit

/-- A builder's three entries, ahead of all else. -/
def bldH (b c : Nat) (id slots bytes : Int) (ao : Option Addr) (cap : Nat) (ls : List (List UInt8)) (H : Hp) : Hp := bE b c id :: cE c slots bytes ao ls.length cap (lenSum ls) :: tE ao cap ls :: H
def addE (slots bytes : Int) (ls : List (List UInt8)) (x : List UInt8) : Int := if x.length < 1 ∨ x.length > 4096 then 1 else if roomP slots bytes ls x.length then 0 else 100
theorem lenSum_snoc (ls : List (List UInt8)) (x : List UInt8) : lenSum (ls ++ [x]) = lenSum ls + x.length := by simp [lenSum, lenL]
section
variable {W : World} {M : List Nat} {H : Hp} {w : World}
theorem Add_no (b c : Nat) (id slots bytes : Int) (ao : Option Addr) (cap : Nat) (ls : List (List UInt8)) (hs : Sat W M (bldH b c id slots bytes ao cap ls H) w) (x : List UInt8) (h1 : 0 ≤ lenSum ls ∧ lenSum ls ≤ 1000000000) (h2 : 0 ≤ bytes ∧ bytes ≤ 1000000000) (hx : addE slots bytes ls x ≠ 0) :
    Calls Try.prog 26 #[.pointer (some ⟨b, 0, none⟩), txV x] w fun e w' => e = .returned (.tuple #[.int .i64 0, .int .i64 (addE slots bytes ls x)]) ∧ Sat W M (bldH b c id slots bytes ao cap ls H) w' := by
  unfold addE at hx ⊢
  refine sx_fn (S := SX) (N := 65) Try.func26 rfl rfl rfl hs ?_
  ((try refine sx_use ?_); (repeat (refine SxNew.mk fun _ => ?_; (try refine sx_use ?_))))
  refine SxCall.sat (bldH b c id slots bytes ao cap ls H) (fun w hs => made_sat hs 0 b c id rfl) ?_
  ((try refine sx_use ?_); (repeat (refine SxNew.mk fun _ => ?_; (try refine sx_use ?_))))
  refine SxIf.dec (fun h => ?_) (fun h => ?_)
  · rw [mk_size] at h
    rw [if_pos (.inl (by omega))]
    ((try refine sx_use ?_); (repeat (refine SxNew.mk fun _ => ?_; (try refine sx_use ?_))))
    exact SxDone.mk fun w' hs => ⟨rfl, hs⟩
  rw [mk_size] at h
  ((try refine sx_use ?_); (repeat (refine SxNew.mk fun _ => ?_; (try refine sx_use ?_))))
  refine SxIf.dec (fun h3 => ?_) (fun h3 => ?_)
  · rw [mk_size] at h3
    rw [if_pos (.inr (by omega))]
    ((try refine sx_use ?_); (repeat (refine SxNew.mk fun _ => ?_; (try refine sx_use ?_))))
    exact SxDone.mk fun w' hs => ⟨rfl, hs⟩
  rw [mk_size] at h3
  rw [if_neg (by omega)] at hx ⊢
  have hr : ¬ roomP slots bytes ls x.length := fun hr => hx (if_pos hr)
  rw [if_neg hr]
  ((try refine sx_use ?_); (repeat (refine SxNew.mk fun _ => ?_; (try refine sx_use ?_))))
  refine SxCall.sat (bldH b c id slots bytes ao cap ls H) (fun w hs => croom_sat hs 1 c slots bytes ao cap ls rfl _ h1 h2) ?_
  rw [mk_size, decide_eq_false hr]
  ((try refine sx_use ?_); (repeat (refine SxNew.mk fun _ => ?_; (try refine sx_use ?_))))
  exact SxDone.mk fun w' hs => ⟨rfl, hs⟩
theorem Add_yes (b c : Nat) (id slots bytes : Int) (ao : Option Addr) (cap : Nat) (ls : List (List UInt8)) (hs : Sat W M (bldH b c id slots bytes ao cap ls H) w) (x : List UInt8) (h1 : 0 ≤ lenSum ls ∧ lenSum ls ≤ 1000000000) (h2 : 0 ≤ bytes ∧ bytes ≤ 1000000000) (h3 : slots ≤ 1000000) (hx : addE slots bytes ls x = 0) :
    Calls Try.prog 26 #[.pointer (some ⟨b, 0, none⟩), txV x] w fun e w' => e = .returned (.tuple #[.int .i64 (ls.length : Nat), .int .i64 0]) ∧ ∃ ao' cap', Sat W M (bldH b c id slots bytes ao' cap' (ls ++ [x]) H) w' := by
  unfold addE at hx
  by_cases hl : x.length < 1 ∨ x.length > 4096
  · rw [if_pos hl] at hx; omega
  rw [if_neg hl] at hx
  have hr : roomP slots bytes ls x.length := by
    by_cases hr : roomP slots bytes ls x.length
    · exact hr
    · rw [if_neg hr] at hx; omega
  have hr1 := hr.1
  refine sx_fn (S := SX) (N := 65) Try.func26 rfl rfl rfl hs ?_
  ((try refine sx_use ?_); (repeat (refine SxNew.mk fun _ => ?_; (try refine sx_use ?_))))
  refine SxCall.sat (bldH b c id slots bytes ao cap ls H) (fun w hs => made_sat hs 0 b c id rfl) ?_
  ((try refine sx_use ?_); (repeat (refine SxNew.mk fun _ => ?_; (try refine sx_use ?_))))
  refine SxIf.no (by rw [mk_size]; omega) ?_
  ((try refine sx_use ?_); (repeat (refine SxNew.mk fun _ => ?_; (try refine sx_use ?_))))
  refine SxIf.no (by rw [mk_size]; omega) ?_
  ((try refine sx_use ?_); (repeat (refine SxNew.mk fun _ => ?_; (try refine sx_use ?_))))
  refine SxCall.sat (bldH b c id slots bytes ao cap ls H) (fun w hs => croom_sat hs 1 c slots bytes ao cap ls rfl _ h1 h2) ?_
  rw [mk_size, decide_eq_true hr]
  ((try refine sx_use ?_); (repeat (refine SxNew.mk fun _ => ?_; (try refine sx_use ?_))))
  refine SxCode.draw rfl [bE b c id, cE c slots bytes ao ls.length cap (lenSum ls)] [16] [0, 1] rfl rfl ?_
  ((try refine sx_use ?_); (repeat (refine SxNew.mk fun _ => ?_; (try refine sx_use ?_))))
  have hln : (ls ++ [x]).length = ls.length + 1 := by simp
  rename_i g
  refine SxApp.mk 3 rfl 0 (.inr (.inr (.inr ⟨by decide, _, rfl⟩))) rfl rfl (by unfold maxLen; omega) (by omega) (cs' := (ls ++ [x]).map txV) (by rw [List.map_append]; rfl) fun ao' cap' => ?_
  refine SxStable.mk [1, 2] rfl rfl ?_
  ((try refine sx_use ?_); (repeat (refine SxNew.mk fun _ => ?_; (try refine sx_use ?_))))
  refine SxRng.i64 (by rw [mk_size]; omega) (by rw [mk_size]; omega) ?_
  ((try refine sx_use ?_); (repeat (refine SxNew.mk fun _ => ?_; (try refine sx_use ?_))))
  refine SxDone.mk fun w' hs => ⟨?_, ao', cap', ?_⟩
  · rw [show ((ls.length : Nat) : Int) = ((ls.length + 1 : Nat) : Int) - 1 by omega]; rfl
  · have hs := hs.tail
    unfold bldH tE
    rw [hln, lenSum_snoc]
    exact hs
/-- What the builder's 'Seal' answers. -/
theorem Seal_none (b c : Nat) (id slots bytes : Int) (ao : Option Addr) (cap : Nat) (hs : Sat W M (bldH b c id slots bytes ao cap [] H) w) :
    Calls Try.prog 28 #[.pointer (some ⟨b, 0, none⟩)] w fun e w' => e = .returned (.tuple #[txV [], .int .i64 6]) ∧ Sat W M (bldH b c id slots bytes ao cap [] H) w' := by
  refine sx_fn (S := SX) (N := 32) Try.func28 rfl rfl rfl hs ?_
  ((try refine sx_use ?_); (repeat (refine SxNew.mk fun _ => ?_; (try refine sx_use ?_))))
  refine SxCall.sat (bldH b c id slots bytes ao cap [] H) (fun w hs => made_sat hs 0 b c id rfl) ?_
  ((try refine sx_use ?_); (repeat (refine SxNew.mk fun _ => ?_; (try refine sx_use ?_))))
  exact SxDone.mk fun w' hs => ⟨rfl, hs⟩
theorem Seal_some (b c : Nat) (id slots bytes : Int) (h0 : 0 ≤ id ∧ id < 4294967296) (ao : Option Addr) (cap : Nat) (ls : List (List UInt8)) (hl : ls.length ≤ 1000) (hx : ∀ x ∈ ls, x.length < 65536) (hn : ls ≠ []) (hs : Sat W M (bldH b c id slots bytes ao cap ls H) w) :
    Calls Try.prog 28 #[.pointer (some ⟨b, 0, none⟩)] w fun e w' => e = .returned (buildV id ls) ∧ Sat W M (bldH b c id slots bytes ao cap ls H) w' := by
  have hn0 : ls.length ≠ 0 := fun h => hn (List.eq_nil_of_length_eq_zero h)
  refine sx_fn (S := SX) (N := 32) Try.func28 rfl rfl rfl hs ?_
  ((try refine sx_use ?_); (repeat (refine SxNew.mk fun _ => ?_; (try refine sx_use ?_))))
  refine SxCall.sat (bldH b c id slots bytes ao cap ls H) (fun w hs => made_sat hs 0 b c id rfl) ?_
  ((try refine sx_use ?_); (repeat (refine SxNew.mk fun _ => ?_; (try refine sx_use ?_))))
  refine SxCode.drawAll rfl [] ?_
  ((try refine sx_use ?_); (repeat (refine SxNew.mk fun _ => ?_; (try refine sx_use ?_))))
  have hB := fun (w : World) (hs : Sat W M (bldH b c id slots bytes ao cap ls H) w) => BBuild_any id h0 ls ao cap (by have := row_cap (hs.row 2 rfl); exact this) w (hs.rowRd 2 rfl (by simp [maxLen]; omega)) hl hx
  unfold buildV at hB ⊢
  by_cases hm : mayB id ls = true
  · rw [if_pos hm] at hB ⊢
    refine SxCall.quietS hB ?_
    refine SxStable.mk (allI _) (pickH_all _) (nodupB_all _) ?_
    ((try refine sx_use ?_); (repeat (refine SxNew.mk fun _ => ?_; (try refine sx_use ?_))))
    exact SxDone.mk fun w' hs => ⟨rfl, hs⟩
  · rw [if_neg hm] at hB ⊢
    refine SxCall.quietS hB ?_
    refine SxStable.mk (allI _) (pickH_all _) (nodupB_all _) ?_
    ((try refine sx_use ?_); (repeat (refine SxNew.mk fun _ => ?_; (try refine sx_use ?_))))
    exact SxDone.mk fun w' hs => ⟨rfl, hs⟩
end
end Go.Proofs.Ytdhdminocboipaa
