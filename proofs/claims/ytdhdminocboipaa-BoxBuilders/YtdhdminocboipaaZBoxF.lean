/- The walks: Front and Build of the document. -/
import Derived.Test.YtdhdminocboipaaZBoxE

namespace Go.Proofs.Ytdhdminocboipaa
open Go.RowKit

theorem mk_append (l m : List UInt8) : (⟨l.toArray⟩ : ByteArray) ++ (⟨m.toArray⟩ : ByteArray) = ⟨(l ++ m).toArray⟩ := by
  rw [← ByteArray.mk_append_mk]
/-- A slot's bytes. -/
def encB (s : Int × Int) : List UInt8 := numL s.1.toNat 2 ++ numL s.2.toNat 4
/-- A head's bytes, without their sum. -/
def preL (id : Int) (n : Nat) : List UInt8 := [83, 66, 79, 88] ++ numL id.toNat 4 ++ numL n 2
def frontL (id : Int) (sl : List (Int × Int)) : List UInt8 := preL id sl.length ++ sl.flatMap encB
def okF (sl : List (Int × Int)) : Prop := ∀ s ∈ sl, 0 ≤ s.1 ∧ s.1 < 65536 ∧ 0 ≤ s.2 ∧ s.2 < 4294967296
theorem encB_len (s : Int × Int) : (encB s).length = 6 := by simp [encB, numL_length]
theorem preL_len (id : Int) (n : Nat) : (preL id n).length = 10 := by simp [preL, numL_length]
theorem flatB_len : ∀ (sl : List (Int × Int)), (sl.flatMap encB).length = 6 * sl.length
  | [] => by simp
  | s :: sl => by rw [List.flatMap_cons, List.length_append, encB_len, flatB_len sl, List.length_cons]; omega
theorem frontL_len (id : Int) (sl : List (Int × Int)) : (frontL id sl).length = 10 + 6 * sl.length := by rw [frontL, List.length_append, preL_len, flatB_len]
theorem rnum_any (n k : Nat) (hk : k ≤ 8) (x : Int) (hx : x = n) (hn : n < 18446744073709551616) (w : World) :
    Calls Try.prog 63 #[.int .u64 x, .int .i64 k] w fun e w' => e = .returned (txV (numL n k)) ∧ Below w.heap.size w w' := Num_any k n hn x k hx rfl hk w
theorem rseal_any (l : List UInt8) (h : l.length ≤ 1000000) (w : World) : Calls Try.prog 64 #[txV l] w fun e w' => e = .returned (txV (sealL l)) ∧ Below w.heap.size w w' := RSeal_any ⟨l.toArray⟩ h w
theorem bseal_any (l : List UInt8) (h : l.length ≤ 1000000) (w : World) : Calls Try.prog 47 #[txV l] w fun e w' => e = .returned (txV (sealL l)) ∧ Below w.heap.size w w' := Seal_any ⟨l.toArray⟩ h w
theorem slot_get2 {sl : List (Int × Int)} {k : Nat} {x : Int × Int} (h : sl[k]? = some x) : (sl.flatMap encS)[k * 2 + 1]? = some (.int .u32 x.2) := by
  have h1 := flat_get encS 2 (fun _ => rfl) sl k x h
  have h2 := congrArg (fun l : List Value => l[1]?) h1
  simpa [List.getElem?_take, encS] using h2
theorem RFront_any (id : Int) (h0 : 0 ≤ id ∧ id < 4294967296) (sl : List (Int × Int)) (hf : okF sl) (ao : Option Addr) (cap : Nat) (w : World) (hr : Rd w ao (sl.flatMap encS)) (hl : sl.length ≤ 1000) :
    Calls Try.prog 39 #[hdV id ao sl.length cap] w fun e w' => e = .returned (txV (sealL (frontL id sl))) ∧ Below w.heap.size w w' := by
  refine sx_fn (S := SX) (M := []) (N := 44) (H0 := [.rd ao (sl.flatMap encS)]) Try.func39 rfl rfl rfl (Sat.oneRd _ hr) ?_
  ((try refine sx_use ?_); (repeat (refine SxNew.mk fun _ => ?_; (try refine sx_use ?_))))
  rename_i b
  refine SxCode.drawAll rfl [] ?_
  ((try refine sx_use ?_); (repeat (refine SxNew.mk fun _ => ?_; (try refine sx_use ?_))))
  refine SxRng.u64 (by omega) (by omega) ?_
  ((try refine sx_use ?_); (repeat (refine SxNew.mk fun _ => ?_; (try refine sx_use ?_))))
  refine SxRng.u64 (by omega) (by omega) ?_
  ((try refine sx_use ?_); (repeat (refine SxNew.mk fun _ => ?_; (try refine sx_use ?_))))
  refine SxCall.quiet (rnum_any id.toNat 4 (by omega) _ (by omega) (by omega)) ?_
  ((try refine sx_use ?_); (repeat (refine SxNew.mk fun _ => ?_; (try refine sx_use ?_))))
  refine SxLe.mk (by show 4 + (numL id.toNat 4).length ≤ _; rw [numL_length]; omega) ?_
  ((try refine sx_use ?_); (repeat (refine SxNew.mk fun _ => ?_; (try refine sx_use ?_))))
  refine SxCall.quiet (rnum_any sl.length 2 (by omega) _ rfl (by omega)) ?_
  ((try refine sx_use ?_); (repeat (refine SxNew.mk fun _ => ?_; (try refine sx_use ?_))))
  refine SxLe.mk (by rw [ByteArray.size_append]; show 4 + (numL id.toNat 4).length + (numL sl.length 2).length ≤ _; rw [numL_length, numL_length]; omega) ?_
  ((try refine sx_use ?_); (repeat (refine SxNew.mk fun _ => ?_; (try refine sx_use ?_))))
  have hpre : ((⟨#[83, 66, 79, 88]⟩ : ByteArray) ++ ⟨(numL id.toNat 4).toArray⟩ ++ ⟨(numL sl.length 2).toArray⟩) = ⟨(preL id sl.length ++ (sl.take 0).flatMap encB).toArray⟩ := by
    rw [show (⟨#[83, 66, 79, 88]⟩ : ByteArray) = ⟨[83, 66, 79, 88].toArray⟩ from rfl, mk_append, mk_append]
    simp [preL]
  refine SxCode.loop (σ := Nat) [4, 3] [16, 17, 18, 19, 20, 23, 24, 25, 26, 27, 28, 29, 30, 31, 32, 33, 34, 35, 36, 37, 38, 39, 40, 41, 3, 21, 22, 4] (fun k => [.int .i64 (k : Nat), txV (preL id sl.length ++ (sl.take k).flatMap encB)]) (fun _ => [.blk b 36 [.int .u32 id, .slice ao sl.length cap], .rd ao (sl.flatMap encS)]) (fun k => k ≤ sl.length) (fun k => sl.length - k) 0 [0, 1] rfl ?_ rfl rfl (Nat.zero_le _) ?_
  · exact congrArg (fun s => some [Value.int .i64 0, Value.string s]) hpre
  rintro k hk
  have hal : (preL id sl.length ++ (sl.take k).flatMap encB).length = 10 + 6 * k := by rw [List.length_append, preL_len, flatB_len, List.length_take, Nat.min_eq_left hk]
  ((try refine sx_use ?_); (repeat (refine SxNew.mk fun _ => ?_; (try refine sx_use ?_))))
  refine SxIf.dec (fun h => ?_) (fun h => ?_)
  · have hlt : k < sl.length := by omega
    obtain ⟨x, hx⟩ : ∃ x, sl[k]? = some x := ⟨sl[k], by simp [hlt]⟩
    have hfx := hf x (List.mem_of_getElem? hx)
    have hsn : preL id sl.length ++ (sl.take (k + 1)).flatMap encB = preL id sl.length ++ (sl.take k).flatMap encB ++ numL x.1.toNat 2 ++ numL x.2.toNat 4 := by
      rw [List.take_add_one, hx]; simp [encB]
    ((try refine sx_use ?_); (repeat (refine SxNew.mk fun _ => ?_; (try refine sx_use ?_))))
    refine SxCode.drawAll rfl [] ?_
    ((try refine sx_use ?_); (repeat (refine SxNew.mk fun _ => ?_; (try refine sx_use ?_))))
    refine SxIA.rd 1 _ rfl k rfl hlt (by rw [flat_len encS 2 (fun _ => rfl)]; omega) fun g off ha => ?_
    ((try refine sx_use ?_); (repeat (refine SxNew.mk fun _ => ?_; (try refine sx_use ?_))))
    refine SxLd.rd 1 rfl ha rfl (slot_get hx) ?_
    ((try refine sx_use ?_); (repeat (refine SxNew.mk fun _ => ?_; (try refine sx_use ?_))))
    refine SxRng.u64 (by omega) (by omega) ?_
    ((try refine sx_use ?_); (repeat (refine SxNew.mk fun _ => ?_; (try refine sx_use ?_))))
    refine SxIA.rd 1 _ rfl k rfl hlt (by rw [flat_len encS 2 (fun _ => rfl)]; omega) fun g off ha => ?_
    ((try refine sx_use ?_); (repeat (refine SxNew.mk fun _ => ?_; (try refine sx_use ?_))))
    refine SxLd.rd 1 rfl ha (j := k * 2 + 1) (by omega) (slot_get2 hx) ?_
    ((try refine sx_use ?_); (repeat (refine SxNew.mk fun _ => ?_; (try refine sx_use ?_))))
    refine SxRng.u64 (by omega) (by omega) ?_
    ((try refine sx_use ?_); (repeat (refine SxNew.mk fun _ => ?_; (try refine sx_use ?_))))
    refine SxCall.quiet (rnum_any x.1.toNat 2 (by omega) _ (by omega) (by omega)) ?_
    ((try refine sx_use ?_); (repeat (refine SxNew.mk fun _ => ?_; (try refine sx_use ?_))))
    refine SxLe.mk (by show (preL id sl.length ++ (sl.take k).flatMap encB).length + (numL x.1.toNat 2).length ≤ _; rw [numL_length]; omega) ?_
    ((try refine sx_use ?_); (repeat (refine SxNew.mk fun _ => ?_; (try refine sx_use ?_))))
    refine SxCall.quiet (rnum_any x.2.toNat 4 (by omega) _ (by omega) (by omega)) ?_
    ((try refine sx_use ?_); (repeat (refine SxNew.mk fun _ => ?_; (try refine sx_use ?_))))
    refine SxLe.mk (by rw [ByteArray.size_append]; show (preL id sl.length ++ (sl.take k).flatMap encB).length + (numL x.1.toNat 2).length + (numL x.2.toNat 4).length ≤ _; rw [numL_length, numL_length]; omega) ?_
    ((try refine sx_use ?_); (repeat (refine SxNew.mk fun _ => ?_; (try refine sx_use ?_))))
    exact SxRound.mk (k + 1) [0, 1] (by rw [hsn, mk_append, mk_append]; rfl) rfl rfl hlt (by omega)
  · obtain rfl : k = sl.length := by omega
    rw [List.take_length]
    ((try refine sx_use ?_); (repeat (refine SxNew.mk fun _ => ?_; (try refine sx_use ?_))))
    refine SxCall.quiet (rseal_any (frontL id sl) (by rw [frontL_len]; omega)) ?_
    ((try refine sx_use ?_); (repeat (refine SxNew.mk fun _ => ?_; (try refine sx_use ?_))))
    exact SxDone.mk fun w' hs => ⟨rfl, hs.touch.below⟩
end Go.Proofs.Ytdhdminocboipaa
