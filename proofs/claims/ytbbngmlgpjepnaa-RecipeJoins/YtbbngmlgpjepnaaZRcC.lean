/- The walks: Put; awake; the law RecipeSizes. -/
import Derived.Test.YtbbngmlgpjepnaaZRcB
namespace Go.Proofs.Ytbbngmlgpjepnaa
open Go.RowKit

def m32 (x : Int) : Nat := (x % 4294967296).toNat
theorem m32_lt (x : Int) : m32 x < 4294967296 := by unfold m32; omega
def preR (nm : List UInt8) (sz re im : Int) (n : Nat) : List UInt8 := [82, 69, 67, 80] ++ numL (m32 sz) 4 ++ numL (m32 re) 4 ++ numL (m32 im) 4 ++ textL nm ++ numL n 2
def idL (x : Int) : List UInt8 := numL x.toNat 4
def bodyR (nm : List UInt8) (sz re im : Int) (ms : List Int) : List UInt8 := preR nm sz re im ms.length ++ ms.flatMap idL
def putL (nm : List UInt8) (sz re im : Int) (ms : List Int) : List UInt8 := sealL (bodyR nm sz re im ms)
theorem textL_len (l : List UInt8) : (textL l).length = 4 + l.length := by simp [textL, numL_len]
theorem preR_len (nm : List UInt8) (sz re im : Int) (n : Nat) : (preR nm sz re im n).length = 22 + nm.length := by simp [preR, numL_len, textL_len]; omega
theorem flatI_len : ∀ ms : List Int, (ms.flatMap idL).length = 4 * ms.length
  | [] => rfl
  | x :: l => by rw [List.flatMap_cons, List.length_append, flatI_len l, idL, numL_len, List.length_cons]; omega
theorem bodyR_len (nm : List UInt8) (sz re im : Int) (ms : List Int) : (bodyR nm sz re im ms).length = 22 + nm.length + 4 * ms.length := by rw [bodyR, List.length_append, preR_len, flatI_len]
theorem putL_len (nm : List UInt8) (sz re im : Int) (ms : List Int) : (putL nm sz re im ms).length = 26 + nm.length + 4 * ms.length := by
  rw [putL, sealL, List.length_append, numL_len, bodyR_len]; omega
theorem flatI_snoc (ms : List Int) (k : Nat) (x : Int) (h : ms[k]? = some x) : (ms.take (k + 1)).flatMap idL = (ms.take k).flatMap idL ++ idL x := by
  rw [List.take_add_one, h, List.flatMap_append]; simp
theorem rcseal_any (l : List UInt8) (h : l.length ≤ 1000000) (w : World) : Calls Try.prog 46 #[txV l] w fun e w' => e = .returned (txV (sealL l)) ∧ Below w.heap.size w w' := Seal_any ⟨l.toArray⟩ h w
set_option maxHeartbeats 2000000 in
theorem Put_any (nm : List UInt8) (sz re im : Int) (ms : List Int) (hn : nm.length ≤ maxLen) (ao : Option Addr) (cap : Nat) (w : World) (hr : Rd w ao (ms.map u4V)) :
    Calls Try.prog 21 #[rcV nm sz re im ao ms.length cap] w fun e w' => e = .returned (if mayR nm.length sz re im ms then .tuple #[txV (putL nm sz re im ms), .int .i64 0] else .tuple #[txV [], .int .i64 1]) ∧ Below w.heap.size w w' := by
  refine sx_fn (S := SX) (M := []) (N := 52) (H0 := [.rd ao (ms.map u4V)]) Try.func21 rfl rfl rfl (Sat.oneRd _ hr) ?_
  ((try refine sx_use ?_); (repeat (refine SxNew.mk fun _ => ?_; (try refine sx_use ?_))))
  refine SxCall.quietS (fun w hs => Check_any nm sz re im ms hn ao cap w (hs.rd 1 rfl)) ?_
  by_cases hm : mayR nm.length sz re im ms
  rotate_left
  · rw [show chkR nm.length sz re im ms = 1 from if_neg hm]
    ((try refine sx_use ?_); (repeat (refine SxNew.mk fun _ => ?_; (try refine sx_use ?_))))
    exact SxDone.mk fun w' hs => ⟨by rw [if_neg hm]; rfl, hs.touch.below⟩
  rw [show chkR nm.length sz re im ms = 0 from if_pos hm]
  obtain ⟨g1, g2, g3, g4, g5, g6, g7, g8⟩ := hm
  have hm : mayR nm.length sz re im ms := ⟨g1, g2, g3, g4, g5, g6, g7, g8⟩
  rename_i b
  ((try refine sx_use ?_); (repeat (refine SxNew.mk fun _ => ?_; (try refine sx_use ?_))))
  refine SxCode.drawAll rfl [] ?_
  ((try refine sx_use ?_); (repeat (refine SxNew.mk fun _ => ?_; (try refine sx_use ?_))))
  refine SxRng.u32w ?_
  ((try refine sx_use ?_); (repeat (refine SxNew.mk fun _ => ?_; (try refine sx_use ?_))))
  refine SxRng.u32w ?_
  ((try refine sx_use ?_); (repeat (refine SxNew.mk fun _ => ?_; (try refine sx_use ?_))))
  refine SxRng.u32w ?_
  ((try refine sx_use ?_); (repeat (refine SxNew.mk fun _ => ?_; (try refine sx_use ?_))))
  refine SxRng.u16 (by omega) (by omega) ?_
  ((try refine sx_use ?_); (repeat (refine SxNew.mk fun _ => ?_; (try refine sx_use ?_))))
  have hmag : (⟨#[82, 69, 67, 80]⟩ : ByteArray) = ⟨([82, 69, 67, 80] : List UInt8).toArray⟩ := rfl
  refine SxCall.quiet (v := txV (numL (m32 sz) 4)) (fun w => rc32_any _ ⟨by omega, by omega⟩ w) ?_
  ((try refine sx_use ?_); (repeat (refine SxNew.mk fun _ => ?_; (try refine sx_use ?_))))
  refine SxLe.mk (by simp [mk_size, numL_len]) ?_
  rw [hmag, mkr_append]
  ((try refine sx_use ?_); (repeat (refine SxNew.mk fun _ => ?_; (try refine sx_use ?_))))
  refine SxCall.quiet (v := txV (numL (m32 re) 4)) (fun w => rc32_any _ ⟨by omega, by omega⟩ w) ?_
  ((try refine sx_use ?_); (repeat (refine SxNew.mk fun _ => ?_; (try refine sx_use ?_))))
  refine SxLe.mk (by simp [mk_size, numL_len]) ?_
  rw [mkr_append]
  ((try refine sx_use ?_); (repeat (refine SxNew.mk fun _ => ?_; (try refine sx_use ?_))))
  refine SxCall.quiet (v := txV (numL (m32 im) 4)) (fun w => rc32_any _ ⟨by omega, by omega⟩ w) ?_
  ((try refine sx_use ?_); (repeat (refine SxNew.mk fun _ => ?_; (try refine sx_use ?_))))
  refine SxLe.mk (by simp [mk_size, numL_len]) ?_
  rw [mkr_append]
  ((try refine sx_use ?_); (repeat (refine SxNew.mk fun _ => ?_; (try refine sx_use ?_))))
  refine SxCall.quiet (PText_any nm (by omega)) ?_
  ((try refine sx_use ?_); (repeat (refine SxNew.mk fun _ => ?_; (try refine sx_use ?_))))
  refine SxLe.mk (by simp [mk_size, numL_len, textL_len]; omega) ?_
  rw [mkr_append]
  ((try refine sx_use ?_); (repeat (refine SxNew.mk fun _ => ?_; (try refine sx_use ?_))))
  refine SxCall.quiet (v := txV (numL ms.length 2)) (fun w => rc16_any _ ⟨by omega, by omega⟩ w) ?_
  ((try refine sx_use ?_); (repeat (refine SxNew.mk fun _ => ?_; (try refine sx_use ?_))))
  refine SxLe.mk (by simp [mk_size, numL_len, textL_len]; omega) ?_
  rw [mkr_append]
  ((try refine sx_use ?_); (repeat (refine SxNew.mk fun _ => ?_; (try refine sx_use ?_))))
  refine SxCode.loop (σ := Nat) [41, 5] [42, 43, 44, 7, 45, 46, 47, 48, 5, 49, 41] (fun k => [.int .i64 (k : Nat), txV (preR nm sz re im ms.length ++ (ms.take k).flatMap idL)]) (fun _ => [.blk b 28 [.string ⟨nm.toArray⟩, .int .i64 sz, .int .i64 re, .int .i64 im, .slice ao ms.length cap], .rd ao (ms.map u4V)]) (fun k => k ≤ ms.length) (fun k => ms.length - k) 0 [0, 1] rfl (by rw [show (ms.take 0).flatMap idL = [] from rfl, List.append_nil]; rfl) rfl rfl (Nat.zero_le _) ?_
  rintro k hk
  have hpl : (preR nm sz re im ms.length ++ (ms.take k).flatMap idL).length ≤ 10000 := by
    rw [List.length_append, preR_len, flatI_len, List.length_take]; omega
  ((try refine sx_use ?_); (repeat (refine SxNew.mk fun _ => ?_; (try refine sx_use ?_))))
  refine SxIf.dec (fun h => ?_) (fun h => ?_)
  · have hlt : k < ms.length := by omega
    obtain ⟨x, hx⟩ : ∃ x, ms[k]? = some x := ⟨ms[k], by simp [hlt]⟩
    obtain ⟨hx1, hx2⟩ := g8 x (List.mem_of_getElem? hx)
    have hsn := flatI_snoc ms k x hx
    ((try refine sx_use ?_); (repeat (refine SxNew.mk fun _ => ?_; (try refine sx_use ?_))))
    refine SxIA.rd 1 _ rfl k rfl hlt (by simpa using hlt) fun g off ha => ?_
    ((try refine sx_use ?_); (repeat (refine SxNew.mk fun _ => ?_; (try refine sx_use ?_))))
    refine SxLd.rd 1 rfl ha rfl (by rw [Nat.mul_one]; exact u4V_get hx) ?_
    ((try refine sx_use ?_); (repeat (refine SxNew.mk fun _ => ?_; (try refine sx_use ?_))))
    refine SxCall.quiet (v := txV (idL x)) (fun w => rc32_any x ⟨by omega, by omega⟩ w) ?_
    ((try refine sx_use ?_); (repeat (refine SxNew.mk fun _ => ?_; (try refine sx_use ?_))))
    refine SxLe.mk (by rw [mk_size, mk_size, idL, numL_len]; omega) ?_
    have hcat : preR nm sz re im ms.length ++ (ms.take k).flatMap idL ++ idL x = preR nm sz re im ms.length ++ (ms.take (k + 1)).flatMap idL := by rw [List.append_assoc, ← hsn]
    rw [mkr_append, hcat]
    ((try refine sx_use ?_); (repeat (refine SxNew.mk fun _ => ?_; (try refine sx_use ?_))))
    exact SxRound.mk (k + 1) [0, 1] rfl rfl rfl hlt (by omega)
  · obtain rfl : k = ms.length := by omega
    rw [List.take_length]
    ((try refine sx_use ?_); (repeat (refine SxNew.mk fun _ => ?_; (try refine sx_use ?_))))
    refine SxCall.quiet (rcseal_any (bodyR nm sz re im ms) (by rw [bodyR_len]; omega)) ?_
    ((try refine sx_use ?_); (repeat (refine SxNew.mk fun _ => ?_; (try refine sx_use ?_))))
    exact SxDone.mk fun w' hs => ⟨by rw [if_pos hm]; rfl, hs.touch.below⟩
theorem awake_any (w : World) : Calls Try.prog 9 #[] w fun e w' => e = .returned (.bool true) ∧ Below w.heap.size w w' := by
  have hm : mayR 1 3 (-2) 2 [9] := by decide
  have hO := fun (w : World) (ao : Option Addr) (hs : Rd w ao ([(9 : Int)].map u4V)) => (Of_any [97] [1, 2, 3] (by decide) [9] (by decide) ao 1 (by decide) w hs).mono fun e w' h => h.1 hm
  rw [show reW [1, 2, 3] ([1, 2, 3] : List UInt8).length = -2 from by decide, show imW [1, 2, 3] ([1, 2, 3] : List UInt8).length = 2 from by decide] at hO
  have hP := fun (w : World) (ao : Option Addr) (cap : Nat) (hs : Rd w ao ([(9 : Int)].map u4V)) => Put_any [97] 3 (-2) 2 [9] (by decide) ao cap w hs
  rw [if_pos (show mayR (([97] : List UInt8).length : Nat) 3 (-2) 2 [9] from hm)] at hP
  have hpl : (putL [97] 3 (-2) 2 [9]).length = 31 := putL_len _ _ _ _ _
  have hS := RSize_any [97] 1 (by decide)
  rw [show sizeR (([97] : List UInt8).length : Nat) 1 = 31 from by decide] at hS
  refine sx_fn (S := SX) (M := []) (N := 51) (H0 := []) Try.func9 rfl rfl rfl (Sat.nil _ _) ?_
  ((try refine sx_use ?_); (repeat (refine SxNew.mk fun _ => ?_; (try refine sx_use ?_))))
  refine SxCall.newRow (v := fun ao' cap' => .tuple #[rcV [97] (([1, 2, 3] : List UInt8).length : Nat) (-2) 2 ao' ([9] : List Int).length cap', .int .i64 0]) (fun w hs => hO w _ (hs.rowRd 0 rfl (by decide))) fun bo bcap => ?_
  ((try refine sx_use ?_); (repeat (refine SxNew.mk fun _ => ?_; (try refine sx_use ?_))))
  refine SxCall.quietS (fun w hs => hP w bo bcap (hs.rowRd 1 rfl (by decide))) ?_
  ((try refine sx_use ?_); (repeat (refine SxNew.mk fun _ => ?_; (try refine sx_use ?_))))
  refine SxCall.quiet hS ?_
  ((try refine sx_use ?_); (repeat (refine SxNew.mk fun _ => ?_; (try refine sx_use ?_))))
  exact SxDone.mk fun w' hs => ⟨rfl, hs.touch.below⟩
theorem RecipeSizes_law (w : World) (s : ByteArray) (hs : s.size ≤ maxLen) (n : Int) (_hn : IntKind.i64.min ≤ n ∧ n ≤ IntKind.i64.max) :
    Calls Try.prog 3 #[.string s, .int .i64 n] w fun e w' => e = .returned (.bool true) ∧ Below w.heap.size w w' := by
  obtain ⟨l, rfl⟩ : ∃ l : List UInt8, s = ⟨l.toArray⟩ := ⟨s.data.toList, rfl⟩
  rw [mk_size] at hs
  refine sx_fn (S := SX) (M := []) (N := 41) (H0 := []) Try.func3 rfl rfl rfl (Sat.nil _ _) ?_
  ((try refine sx_use ?_); (repeat (refine SxNew.mk fun _ => ?_; (try refine sx_use ?_))))
  refine SxIf.dec (fun h => ?_) (fun h => ?_)
  · rw [mk_size] at h
    ((try refine sx_use ?_); (repeat (refine SxNew.mk fun _ => ?_; (try refine sx_use ?_))))
    refine SxBnd.mk 0 60 rfl rfl (by omega) (by rw [mk_size]; omega) ?_
    have hex : (⟨l.toArray⟩ : ByteArray).extract 0 60 = ⟨(l.take 60).toArray⟩ := by rw [mk_extract]; simp
    rw [hex]
    have hl : (l.take 60).length ≤ 60 := by rw [List.length_take]; omega
    clear hex h hs
    generalize l.take 60 = l at hl
    have hsz : (⟨l.toArray⟩ : ByteArray).size = l.length := mk_size l
    have hS := RSize_any l n (by unfold maxLen; omega)
    by_cases h1 : l.length < 1
    · rw [show sizeR l.length n = 0 by unfold sizeR; rw [if_neg (by omega)]] at hS
      ((try refine sx_use ?_); (repeat (refine SxNew.mk fun _ => ?_; (try refine sx_use ?_))))
      refine SxCall.quiet hS ?_
      ((try refine sx_use ?_); (repeat (refine SxNew.mk fun _ => ?_; (try refine sx_use ?_))))
      refine SxCall.quiet awake_any ?_
      ((try refine sx_use ?_); (repeat (refine SxNew.mk fun _ => ?_; (try refine sx_use ?_))))
      exact SxDone.mk fun w' hs => ⟨rfl, hs.touch.below⟩
    by_cases h2 : l.length > 48
    · rw [show sizeR l.length n = 0 by unfold sizeR; rw [if_neg (by omega)]] at hS
      ((try refine sx_use ?_); (repeat (refine SxNew.mk fun _ => ?_; (try refine sx_use ?_))))
      refine SxCall.quiet hS ?_
      ((try refine sx_use ?_); (repeat (refine SxNew.mk fun _ => ?_; (try refine sx_use ?_))))
      refine SxCall.quiet awake_any ?_
      ((try refine sx_use ?_); (repeat (refine SxNew.mk fun _ => ?_; (try refine sx_use ?_))))
      exact SxDone.mk fun w' hs => ⟨rfl, hs.touch.below⟩
    by_cases h3 : n < 0
    · rw [show sizeR l.length n = 0 by unfold sizeR; rw [if_neg (by omega)]] at hS
      ((try refine sx_use ?_); (repeat (refine SxNew.mk fun _ => ?_; (try refine sx_use ?_))))
      refine SxCall.quiet hS ?_
      ((try refine sx_use ?_); (repeat (refine SxNew.mk fun _ => ?_; (try refine sx_use ?_))))
      refine SxCall.quiet awake_any ?_
      ((try refine sx_use ?_); (repeat (refine SxNew.mk fun _ => ?_; (try refine sx_use ?_))))
      exact SxDone.mk fun w' hs => ⟨rfl, hs.touch.below⟩
    by_cases h4 : n > 1024
    · rw [show sizeR l.length n = 0 by unfold sizeR; rw [if_neg (by omega)]] at hS
      ((try refine sx_use ?_); (repeat (refine SxNew.mk fun _ => ?_; (try refine sx_use ?_))))
      refine SxCall.quiet hS ?_
      ((try refine sx_use ?_); (repeat (refine SxNew.mk fun _ => ?_; (try refine sx_use ?_))))
      refine SxCall.quiet awake_any ?_
      ((try refine sx_use ?_); (repeat (refine SxNew.mk fun _ => ?_; (try refine sx_use ?_))))
      exact SxDone.mk fun w' hs => ⟨rfl, hs.touch.below⟩
    rw [show sizeR l.length n = 26 + l.length + 4 * n by unfold sizeR; rw [if_pos (by omega)]] at hS
    ((try refine sx_use ?_); (repeat (refine SxNew.mk fun _ => ?_; (try refine sx_use ?_))))
    refine SxCall.quiet hS ?_
    ((try refine sx_use ?_); (repeat (refine SxNew.mk fun _ => ?_; (try refine sx_use ?_))))
    refine SxCall.quiet awake_any ?_
    ((try refine sx_use ?_); (repeat (refine SxNew.mk fun _ => ?_; (try refine sx_use ?_))))
    exact SxDone.mk fun w' hs => ⟨rfl, hs.touch.below⟩
  · rw [mk_size] at h
    have hl : l.length ≤ 60 := by omega
    have hsz : (⟨l.toArray⟩ : ByteArray).size = l.length := mk_size l
    have hS := RSize_any l n (by unfold maxLen; omega)
    by_cases h1 : l.length < 1
    · rw [show sizeR l.length n = 0 by unfold sizeR; rw [if_neg (by omega)]] at hS
      ((try refine sx_use ?_); (repeat (refine SxNew.mk fun _ => ?_; (try refine sx_use ?_))))
      refine SxCall.quiet hS ?_
      ((try refine sx_use ?_); (repeat (refine SxNew.mk fun _ => ?_; (try refine sx_use ?_))))
      refine SxCall.quiet awake_any ?_
      ((try refine sx_use ?_); (repeat (refine SxNew.mk fun _ => ?_; (try refine sx_use ?_))))
      exact SxDone.mk fun w' hs => ⟨rfl, hs.touch.below⟩
    by_cases h2 : l.length > 48
    · rw [show sizeR l.length n = 0 by unfold sizeR; rw [if_neg (by omega)]] at hS
      ((try refine sx_use ?_); (repeat (refine SxNew.mk fun _ => ?_; (try refine sx_use ?_))))
      refine SxCall.quiet hS ?_
      ((try refine sx_use ?_); (repeat (refine SxNew.mk fun _ => ?_; (try refine sx_use ?_))))
      refine SxCall.quiet awake_any ?_
      ((try refine sx_use ?_); (repeat (refine SxNew.mk fun _ => ?_; (try refine sx_use ?_))))
      exact SxDone.mk fun w' hs => ⟨rfl, hs.touch.below⟩
    by_cases h3 : n < 0
    · rw [show sizeR l.length n = 0 by unfold sizeR; rw [if_neg (by omega)]] at hS
      ((try refine sx_use ?_); (repeat (refine SxNew.mk fun _ => ?_; (try refine sx_use ?_))))
      refine SxCall.quiet hS ?_
      ((try refine sx_use ?_); (repeat (refine SxNew.mk fun _ => ?_; (try refine sx_use ?_))))
      refine SxCall.quiet awake_any ?_
      ((try refine sx_use ?_); (repeat (refine SxNew.mk fun _ => ?_; (try refine sx_use ?_))))
      exact SxDone.mk fun w' hs => ⟨rfl, hs.touch.below⟩
    by_cases h4 : n > 1024
    · rw [show sizeR l.length n = 0 by unfold sizeR; rw [if_neg (by omega)]] at hS
      ((try refine sx_use ?_); (repeat (refine SxNew.mk fun _ => ?_; (try refine sx_use ?_))))
      refine SxCall.quiet hS ?_
      ((try refine sx_use ?_); (repeat (refine SxNew.mk fun _ => ?_; (try refine sx_use ?_))))
      refine SxCall.quiet awake_any ?_
      ((try refine sx_use ?_); (repeat (refine SxNew.mk fun _ => ?_; (try refine sx_use ?_))))
      exact SxDone.mk fun w' hs => ⟨rfl, hs.touch.below⟩
    rw [show sizeR l.length n = 26 + l.length + 4 * n by unfold sizeR; rw [if_pos (by omega)]] at hS
    ((try refine sx_use ?_); (repeat (refine SxNew.mk fun _ => ?_; (try refine sx_use ?_))))
    refine SxCall.quiet hS ?_
    ((try refine sx_use ?_); (repeat (refine SxNew.mk fun _ => ?_; (try refine sx_use ?_))))
    refine SxCall.quiet awake_any ?_
    ((try refine sx_use ?_); (repeat (refine SxNew.mk fun _ => ?_; (try refine sx_use ?_))))
    exact SxDone.mk fun w' hs => ⟨rfl, hs.touch.below⟩
end Go.Proofs.Ytbbngmlgpjepnaa
