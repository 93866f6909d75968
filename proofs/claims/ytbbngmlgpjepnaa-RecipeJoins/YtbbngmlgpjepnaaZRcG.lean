/- The walks: texts by both readers; Get. -/
import Derived.Test.YtbbngmlgpjepnaaZRcF
import Derived.Test.YtbbngmlgpjepnaaZReadR
import Derived.Test.YtbbngmlgpjepnaaZSxb
namespace Go.Proofs.Ytbbngmlgpjepnaa
open Go.RowKit

section
variable {W : World} {M : List Nat} {H : Hp} {w : World}
theorem Left_sat (hs : Sat W M H w) (p b : Nat) (l : List UInt8) (e : Int) (hp : H[p]? = some (rdE b l e)) :
    Calls Try.prog 66 #[.pointer (some ⟨b, 0, none⟩)] w fun en w' => en = .returned (.int .i64 (l.length : Nat)) ∧ Sat W M H w' := by
  refine sx_fn (S := SX) (N := 10) Try.func66 rfl rfl rfl hs ?_
  ((try refine sx_use ?_); (repeat (refine SxNew.mk fun _ => ?_; (try refine sx_use ?_))))
  refine SxRun.pEqNil Try.underlying63 ?_
  ((try refine sx_use ?_); (repeat (refine SxNew.mk fun _ => ?_; (try refine sx_use ?_))))
  refine SxLd.blk p hp rfl ?_
  ((try refine sx_use ?_); (repeat (refine SxNew.mk fun _ => ?_; (try refine sx_use ?_))))
  exact SxDone.mk fun w' hs => ⟨rfl, hs⟩
def endE (l : List UInt8) (e : Int) : Int := if e = 0 ∧ 0 < l.length then 7 else e
theorem End_sat (hs : Sat W M H w) (p b : Nat) (l : List UInt8) (e : Int) (hp : H[p]? = some (rdE b l e)) :
    Calls Try.prog 38 #[.pointer (some ⟨b, 0, none⟩)] w fun en w' => en = .returned (.int .i64 (endE l e)) ∧ Sat W M H w' := by
  refine sx_fn (S := SX) (N := 13) Try.func38 rfl rfl rfl hs ?_
  ((try refine sx_use ?_); (repeat (refine SxNew.mk fun _ => ?_; (try refine sx_use ?_))))
  refine SxCall.sat H (fun w hs => Err_sat hs p b l e hp) ?_
  ((try refine sx_use ?_); (repeat (refine SxNew.mk fun _ => ?_; (try refine sx_use ?_))))
  refine SxIf.eq (fun he => ?_) (fun he => ?_)
  · subst he
    ((try refine sx_use ?_); (repeat (refine SxNew.mk fun _ => ?_; (try refine sx_use ?_))))
    refine SxCall.sat H (fun w hs => Left_sat hs p b l 0 hp) ?_
    ((try refine sx_use ?_); (repeat (refine SxNew.mk fun _ => ?_; (try refine sx_use ?_))))
    refine SxIf.dec (fun h => ?_) (fun h => ?_)
    · ((try refine sx_use ?_); (repeat (refine SxNew.mk fun _ => ?_; (try refine sx_use ?_))))
      exact SxDone.mk fun w' hs => ⟨by unfold endE; rw [if_pos ⟨rfl, by omega⟩]; rfl, hs⟩
    · ((try refine sx_use ?_); (repeat (refine SxNew.mk fun _ => ?_; (try refine sx_use ?_))))
      refine SxCall.sat H (fun w hs => Err_sat hs p b l 0 hp) ?_
      ((try refine sx_use ?_); (repeat (refine SxNew.mk fun _ => ?_; (try refine sx_use ?_))))
      exact SxDone.mk fun w' hs => ⟨by unfold endE; rw [if_neg (by omega)]; rfl, hs⟩
  · ((try refine sx_use ?_); (repeat (refine SxNew.mk fun _ => ?_; (try refine sx_use ?_))))
    refine SxCall.sat H (fun w hs => Err_sat hs p b l e hp) ?_
    ((try refine sx_use ?_); (repeat (refine SxNew.mk fun _ => ?_; (try refine sx_use ?_))))
    exact SxDone.mk fun w' hs => ⟨by unfold endE; rw [if_neg (fun h => he h.1)]; rfl, hs⟩
theorem length_sat (hs : Sat W M H w) (p b : Nat) (l : List UInt8) (e : Int) (hp : H[p]? = some (rdE b l e)) :
    Calls Try.prog 64 #[.pointer (some ⟨b, 0, none⟩), .int .i64 65536] w fun en w' => en = .returned (.int .i64 (longK (leV (takeR 4 l e).1) : Nat)) ∧ Sat W M (H.set p (rdE b (longS (leV (takeR 4 l e).1) (takeR 4 l e).2).1 (longS (leV (takeR 4 l e).1) (takeR 4 l e).2).2)) w' := by
  have hpl : p < H.length := (List.getElem?_eq_some_iff.1 hp).1
  have hlt := leV_take4 l e
  refine sx_fn (S := SX) (N := 16) Try.func64 rfl rfl rfl hs ?_
  ((try refine sx_use ?_); (repeat (refine SxNew.mk fun _ => ?_; (try refine sx_use ?_))))
  refine SxCall.sat _ (fun w hs => number_sat hs p b l e hp 4 (by decide)) ?_
  generalize takeR 4 l e = r at hlt ⊢
  ((try refine sx_use ?_); (repeat (refine SxNew.mk fun _ => ?_; (try refine sx_use ?_))))
  refine SxRng.u64 (by decide) (by decide) ?_
  ((try refine sx_use ?_); (repeat (refine SxNew.mk fun _ => ?_; (try refine sx_use ?_))))
  refine SxIf.dec (fun h => ?_) (fun h => ?_)
  · have hn : leV r.1 > 65536 := by omega
    ((try refine sx_use ?_); (repeat (refine SxNew.mk fun _ => ?_; (try refine sx_use ?_))))
    refine SxCall.sat _ (fun w hs => fail_sat hs p b r.2.1 r.2.2 2 (List.getElem?_set_self hpl)) ?_
    ((try refine sx_use ?_); (repeat (refine SxNew.mk fun _ => ?_; (try refine sx_use ?_))))
    refine SxDone.mk fun w' hs => ⟨?_, ?_⟩
    · unfold longK; rw [if_pos hn]; rfl
    · unfold longS; rw [if_pos hn]; rw [List.set_set] at hs; exact hs
  · have hn : ¬ leV r.1 > 65536 := by omega
    ((try refine sx_use ?_); (repeat (refine SxNew.mk fun _ => ?_; (try refine sx_use ?_))))
    refine SxDone.mk fun w' hs => ⟨?_, ?_⟩
    · unfold longK; rw [if_neg hn]; rfl
    · unfold longS; rw [if_neg hn]; exact hs
theorem longK_le (n : Nat) : longK n ≤ 65536 := by unfold longK; split <;> omega
theorem PRText_sat (hs : Sat W M H w) (p b : Nat) (l : List UInt8) (e : Int) (hp : H[p]? = some (rdE b l e)) :
    Calls Try.prog 36 #[.pointer (some ⟨b, 0, none⟩)] w fun en w' => en = .returned (txV (textR l e).1) ∧ Sat W M (H.set p (rdE b (textR l e).2.1 (textR l e).2.2)) w' := by
  have hpl : p < H.length := (List.getElem?_eq_some_iff.1 hp).1
  have hk := longK_le (leV (takeR 4 l e).1)
  refine sx_fn (S := SX) (N := 9) Try.func36 rfl rfl rfl hs ?_
  ((try refine sx_use ?_); (repeat (refine SxNew.mk fun _ => ?_; (try refine sx_use ?_))))
  refine SxRun.pEqNil Try.underlying63 ?_
  ((try refine sx_use ?_); (repeat (refine SxNew.mk fun _ => ?_; (try refine sx_use ?_))))
  refine SxCall.sat _ (fun w hs => length_sat hs p b l e hp) ?_
  ((try refine sx_use ?_); (repeat (refine SxNew.mk fun _ => ?_; (try refine sx_use ?_))))
  refine SxCall.sat _ (fun w hs => Take_sat hs p b _ _ (List.getElem?_set_self hpl) (longK (leV (takeR 4 l e).1)) (by omega)) ?_
  ((try refine sx_use ?_); (repeat (refine SxNew.mk fun _ => ?_; (try refine sx_use ?_))))
  refine SxDone.mk fun w' hs => ⟨rfl, ?_⟩
  rw [List.set_set] at hs
  exact hs
end
/-- Are these bytes a recipe's? -/
def isRc (s : List UInt8) : Prop := ∃ r : Rc, r.may ∧ r.put = s
theorem openL_seal (t : List UInt8) : openL (sealL t) = (t, 0) := by
  have hl : (sealL t).length = t.length + 4 := by unfold sealL; rw [List.length_append, numL_len]
  have ht : (sealL t).take ((sealL t).length - 4) = t := by rw [hl, Nat.add_sub_cancel]; unfold sealL; exact List.take_left' rfl
  unfold openL
  rw [if_neg (by omega), ht, if_pos rfl]
theorem openL_inv {s : List UInt8} (h : (openL s).2 = 0) : sealL (openL s).1 = s := by
  unfold openL at h ⊢
  split at h
  · simp at h
  · rename_i h4
    rw [if_neg h4]
    split at h
    · rename_i h5
      rw [if_pos h5]
      exact h5
    · simp at h
theorem openL_err (s : List UInt8) : (openL s).2 = 0 ∨ (openL s).2 ≠ 0 := by omega
theorem wrap_sgn (u : Nat) (h : u < 4294967296) : IntKind.i32.wrap (u : Int) = sgn u := by
  unfold sgn
  have hm : (u : Int) % 2 ^ 32 = u := by omega
  simp only [IntKind.wrap, IntKind.signed, IntKind.bits, hm]
  by_cases h1 : u > 2147483647
  · rw [if_pos h1, if_pos (by simp; omega)]; rfl
  · rw [if_neg h1, if_neg (by simp; omega)]
theorem sgn_bd {u : Nat} (h : u < 4294967296) : -2147483648 ≤ sgn u ∧ sgn u < 2147483648 := by unfold sgn; split <;> omega
theorem bcopen_any (l : List UInt8) (h : l.length ≤ 1000000) (w : World) : Calls Try.prog 32 #[txV l] w fun e w' => e = .returned (.tuple #[txV (openL l).1, .int .i64 (openL l).2]) ∧ Below w.heap.size w w' := Open_any ⟨l.toArray⟩ h w
def zrc : Rc := ⟨[], 0, 0, 0, []⟩
theorem isRc_open {s : List UInt8} {r : Rc} (hr : r.may) (h : r.put = s) : openL s = (r.body, 0) := by
  rw [← h]; exact openL_seal _
set_option maxHeartbeats 4000000 in
theorem Get_any (s : List UInt8) (hs : s.length ≤ 1000000) (w : World) :
    Calls Try.prog 19 #[txV s] w fun e w' => (∀ r : Rc, r.may → r.put = s → ∃ ao cap, e = .returned (.tuple #[r.v ao cap, .int .i64 0]) ∧ NewRow w w' ao r.ms.length cap 42 1 (r.ms.map u4V)) ∧ (¬ isRc s → e = .returned (.tuple #[zrc.v none 0, .int .i64 110]) ∧ Below w.heap.size w w') := by
  refine sx_fn (S := SX) (M := []) (N := 65) (H0 := [.row none 0 0 42 1 []]) Try.func19 rfl rfl rfl ((Sat.nil _ _).nilRow 42 1) ?_
  ((try refine sx_use ?_); (repeat (refine SxNew.mk fun _ => ?_; (try refine sx_use ?_))))
  rename_i b2
  refine SxCall.quiet (bcopen_any s hs) ?_
  ((try refine sx_use ?_); (repeat (refine SxNew.mk fun _ => ?_; (try refine sx_use ?_))))
  refine SxIf.ne (fun he => ?_) (fun he => ?_)
  · have hbad : ¬ isRc s := fun ⟨r, hr, h⟩ => he (by rw [isRc_open hr h])
    ((try refine sx_use ?_); (repeat (refine SxNew.mk fun _ => ?_; (try refine sx_use ?_))))
    exact SxDone.mk fun w' hs => ⟨fun r hr h => absurd ⟨r, hr, h⟩ hbad, fun _ => ⟨rfl, hs.touch.below⟩⟩
  have hsl := openL_inv he
  have hop : ∀ r : Rc, r.may → r.put = s → (openL s).1 = r.body := fun r hr h => by rw [isRc_open hr h]
  have htl : (openL s).1.length ≤ 1000000 := by
    have := congrArg List.length hsl
    unfold sealL at this
    rw [List.length_append] at this
    omega
  generalize (openL s).1 = t at hsl hop htl
  clear he
  ((try refine sx_use ?_); (repeat (refine SxNew.mk fun _ => ?_; (try refine sx_use ?_))))
  refine SxCall.mk fun w hs => (Read_sat hs ⟨t.toArray⟩).mono ?_
  rintro e w' ⟨g, rfl, hs'⟩
  refine ⟨_, [rdE g t 0, .blk b2 28 [.string ⟨#[]⟩, .int .i64 0, .int .i64 0, .int .i64 0, .slice none 0 0], .row none 0 0 42 1 []], rfl, hs', ?_⟩
  clear hs' hs w'
  ((try refine sx_use ?_); (repeat (refine SxNew.mk fun _ => ?_; (try refine sx_use ?_))))
  refine SxCall.sat [rdE g (q1 t).2.1 (q1 t).2.2, .blk b2 28 [.string ⟨#[]⟩, .int .i64 0, .int .i64 0, .int .i64 0, .slice none 0 0], .row none 0 0 42 1 []] (fun w hs => Take_sat hs 0 g t 0 rfl 4 (by decide)) ?_
  ((try refine sx_use ?_); (repeat (refine SxNew.mk fun _ => ?_; (try refine sx_use ?_))))
  rename_i b8
  refine SxCall.sat [.blk b8 28 [.string ⟨#[]⟩, .int .i64 0, .int .i64 0, .int .i64 0, .slice none 0 0], rdE g (q2 t).2.1 (q2 t).2.2, .blk b2 28 [.string ⟨#[]⟩, .int .i64 0, .int .i64 0, .int .i64 0, .slice none 0 0], .row none 0 0 42 1 []] (fun w hs => U32_sat hs 1 g _ _ rfl) ?_
  have b2' : leV (q2 t).1 < 4294967296 := leV_take4 _ _
  have b3 : leV (q3 t).1 < 4294967296 := leV_take4 _ _
  have b4 : leV (q4 t).1 < 4294967296 := leV_take4 _ _
  change leV (takeR 4 (q1 t).2.1 (q1 t).2.2).1 < 4294967296 at b2'
  ((try refine sx_use ?_); (repeat (refine SxNew.mk fun _ => ?_; (try refine sx_use ?_))))
  refine SxCall.sat [.blk b8 28 [.string ⟨#[]⟩, .int .i64 (leV (q2 t).1 : Nat), .int .i64 0, .int .i64 0, .slice none 0 0], rdE g (q3 t).2.1 (q3 t).2.2, .blk b2 28 [.string ⟨#[]⟩, .int .i64 0, .int .i64 0, .int .i64 0, .slice none 0 0], .row none 0 0 42 1 []] (fun w hs => U32_sat hs 1 g _ _ rfl) ?_
  have w3 := wrap_sgn _ b3
  have w4 := wrap_sgn _ b4
  have s3 := sgn_bd b3
  have s4 := sgn_bd b4
  change IntKind.i32.wrap ((leV (takeR 4 (q2 t).2.1 (q2 t).2.2).1 : Nat) : Int) = _ at w3
  change IntKind.i32.wrap ((leV (takeR 4 (q3 t).2.1 (q3 t).2.2).1 : Nat) : Int) = _ at w4
  ((try refine sx_use ?_); (repeat (refine SxNew.mk fun _ => ?_; (try refine sx_use ?_))))
  refine ⟨?_⟩
  rw [w3]
  ((try refine sx_use ?_); (repeat (refine SxNew.mk fun _ => ?_; (try refine sx_use ?_))))
  refine SxCall.sat [.blk b8 28 [.string ⟨#[]⟩, .int .i64 (leV (q2 t).1 : Nat), .int .i64 0, .int .i64 0, .slice none 0 0], rdE g (q4 t).2.1 (q4 t).2.2, .blk b2 28 [.string ⟨#[]⟩, .int .i64 0, .int .i64 0, .int .i64 0, .slice none 0 0], .row none 0 0 42 1 []] (fun w hs => U32_sat hs 1 g _ _ rfl) ?_
  ((try refine sx_use ?_); (repeat (refine SxNew.mk fun _ => ?_; (try refine sx_use ?_))))
  refine ⟨?_⟩
  rw [w4]
  ((try refine sx_use ?_); (repeat (refine SxNew.mk fun _ => ?_; (try refine sx_use ?_))))
  refine SxCall.sat [.blk b8 28 [.string ⟨#[]⟩, .int .i64 (leV (q2 t).1 : Nat), .int .i64 (sgn (leV (q3 t).1)), .int .i64 (sgn (leV (q4 t).1)), .slice none 0 0], rdE g (q6 t).2.1 (q6 t).2.2, .blk b2 28 [.string ⟨#[]⟩, .int .i64 0, .int .i64 0, .int .i64 0, .slice none 0 0], .row none 0 0 42 1 []] (fun w hs => PRText_sat hs 1 g _ _ rfl) ?_
  ((try refine sx_use ?_); (repeat (refine SxNew.mk fun _ => ?_; (try refine sx_use ?_))))
  refine SxCall.sat [.blk b8 28 [txV (q6 t).1, .int .i64 (leV (q2 t).1 : Nat), .int .i64 (sgn (leV (q3 t).1)), .int .i64 (sgn (leV (q4 t).1)), .slice none 0 0], rdE g (q7 t).2.1 (q7 t).2.2, .blk b2 28 [.string ⟨#[]⟩, .int .i64 0, .int .i64 0, .int .i64 0, .slice none 0 0], .row none 0 0 42 1 []] (fun w hs => U16_sat hs 1 g _ _ rfl) ?_
  have b7 : cntR t < 65536 := leV_take2 _ _
  have hcn : leV (takeR 2 (q6 t).2.1 (q6 t).2.2).1 = cntR t := rfl
  rw [hcn]
  ((try refine sx_use ?_); (repeat (refine SxNew.mk fun _ => ?_; (try refine sx_use ?_))))
  refine SxCode.loop (σ := Nat × Option Addr × Nat) [41] [42, 43, 44, 45, 46, 47, 48, 49, 50, 41] (fun x => [.int .u16 (x.1 : Nat)]) (fun x => [.blk b8 28 [txV (q6 t).1, .int .i64 (leV (q2 t).1 : Nat), .int .i64 (sgn (leV (q3 t).1)), .int .i64 (sgn (leV (q4 t).1)), .slice x.2.1 x.1 x.2.2], rdE g (rdN x.1 (q7 t).2.1 (q7 t).2.2).2.1 (rdN x.1 (q7 t).2.1 (q7 t).2.2).2.2, .blk b2 28 [.string ⟨#[]⟩, .int .i64 0, .int .i64 0, .int .i64 0, .slice none 0 0], .row x.2.1 x.1 x.2.2 42 1 ((rdN x.1 (q7 t).2.1 (q7 t).2.2).1.map u4V)]) (fun x => x.1 ≤ cntR t) (fun x => cntR t - x.1) (0, none, 0) [0, 1, 2, 3] rfl rfl rfl rfl (Nat.zero_le _) ?_
  rintro ⟨k, ao, cap⟩ hk
  dsimp only at hk ⊢
  ((try refine sx_use ?_); (repeat (refine SxNew.mk fun _ => ?_; (try refine sx_use ?_))))
  refine SxIf.dec (fun h => ?_) (fun h => ?_)
  · ((try refine sx_use ?_); (repeat (refine SxNew.mk fun _ => ?_; (try refine sx_use ?_))))
    refine SxCode.draw rfl [.blk b8 28 [txV (q6 t).1, .int .i64 (leV (q2 t).1 : Nat), .int .i64 (sgn (leV (q3 t).1)), .int .i64 (sgn (leV (q4 t).1)), .slice ao k cap]] [7] [0] rfl rfl ?_
    ((try refine sx_use ?_); (repeat (refine SxNew.mk fun _ => ?_; (try refine sx_use ?_))))
    refine SxCall.sat [.blk b8 28 [txV (q6 t).1, .int .i64 (leV (q2 t).1 : Nat), .int .i64 (sgn (leV (q3 t).1)), .int .i64 (sgn (leV (q4 t).1)), .slice ao k cap], rdE g (rdN (k + 1) (q7 t).2.1 (q7 t).2.2).2.1 (rdN (k + 1) (q7 t).2.1 (q7 t).2.2).2.2, .blk b2 28 [.string ⟨#[]⟩, .int .i64 0, .int .i64 0, .int .i64 0, .slice none 0 0], .row ao k cap 42 1 ((rdN k (q7 t).2.1 (q7 t).2.2).1.map u4V)] (fun w hs => U32_sat hs 1 g _ _ rfl) ?_
    ((try refine sx_use ?_); (repeat (refine SxNew.mk fun _ => ?_; (try refine sx_use ?_))))
    refine SxApp.mk 4 rfl 0 (.inr (.inr (.inr ⟨by decide, _, rfl⟩))) rfl rfl (by unfold maxLen; omega) (by omega) (cs' := (rdN (k + 1) (q7 t).2.1 (q7 t).2.2).1.map u4V) (by simp only [rdN, List.map_append]; rfl) fun ao' cap' => ?_
    ((try refine sx_use ?_); (repeat (refine SxNew.mk fun _ => ?_; (try refine sx_use ?_))))
    refine SxRng.u16 (by omega) (by omega) ?_
    ((try refine sx_use ?_); (repeat (refine SxNew.mk fun _ => ?_; (try refine sx_use ?_))))
    exact SxRound.mk (k + 1, ao', cap') [1, 2, 3, 4] rfl rfl rfl (by dsimp only; omega) (by dsimp only; omega)
  · obtain rfl : k = cntR t := by omega
    ((try refine sx_use ?_); (repeat (refine SxNew.mk fun _ => ?_; (try refine sx_use ?_))))
    have hfl : (finR t).1.length = cntR t := rdN_len _ _ _
    have hnl : (q6 t).1.length ≤ maxLen := by
      have h1 := takeR_len (longK (leV (takeR 4 (q4 t).2.1 (q4 t).2.2).1)) (longS (leV (takeR 4 (q4 t).2.1 (q4 t).2.2).1) (takeR 4 (q4 t).2.1 (q4 t).2.2).2).1 (longS (leV (takeR 4 (q4 t).2.1 (q4 t).2.2).1) (takeR 4 (q4 t).2.1 (q4 t).2.2).2).2
      have h2 := longK_le (leV (takeR 4 (q4 t).2.1 (q4 t).2.2).1)
      have h3 : (q6 t).1.length ≤ _ := h1
      unfold maxLen; omega
    have hwhole : ∀ r : Rc, r.may → r.put = s → pRc t = r ∧ (q1 t).1 = [82, 69, 67, 80] ∧ (finR t).2 = ([], 0) := by
      intro r hr hp
      have h1 := parse_whole hr []
      rw [List.append_nil, ← hop r hr hp] at h1
      exact ⟨h1.1, h1.2.1, h1.2.2.1⟩
    refine SxIf.nt (SxIf.str (fun hm => ?_) (fun hm => ?_))
    rotate_left
    · have hbad : ¬ isRc s := fun ⟨r, hr, hp⟩ => hm (by show (⟨(q1 t).1.toArray⟩ : ByteArray) = _; rw [(hwhole r hr hp).2.1])
      ((try refine sx_use ?_); (repeat (refine SxNew.mk fun _ => ?_; (try refine sx_use ?_))))
      exact SxDone.mk fun w' hs => ⟨fun r hr h => absurd ⟨r, hr, h⟩ hbad, fun _ => ⟨rfl, hs.touch.below⟩⟩
    have hm : (q1 t).1 = [82, 69, 67, 80] := mkr_inj hm
    ((try refine sx_use ?_); (repeat (refine SxNew.mk fun _ => ?_; (try refine sx_use ?_))))
    refine SxCall.sat _ (fun w hs => End_sat hs 1 g (finR t).2.1 (finR t).2.2 rfl) ?_
    ((try refine sx_use ?_); (repeat (refine SxNew.mk fun _ => ?_; (try refine sx_use ?_))))
    refine SxIf.ne (fun he => ?_) (fun he => ?_)
    · have hbad : ¬ isRc s := fun ⟨r, hr, hp⟩ => he (by rw [(hwhole r hr hp).2.2]; rfl)
      ((try refine sx_use ?_); (repeat (refine SxNew.mk fun _ => ?_; (try refine sx_use ?_))))
      exact SxDone.mk fun w' hs => ⟨fun r hr h => absurd ⟨r, hr, h⟩ hbad, fun _ => ⟨rfl, hs.touch.below⟩⟩
    have hfin : (finR t).2.2 = 0 ∧ (finR t).2.1 = [] := by
      unfold endE at he
      split at he
      · omega
      · rename_i h1
        refine ⟨he, ?_⟩
        cases hl : (finR t).2.1 with
        | nil => rfl
        | cons a b => exact absurd ⟨he, by rw [hl]; simp⟩ h1
    obtain ⟨hb, _⟩ := parse_sound hfin.1 hm
    rw [hfin.2, List.append_nil] at hb
    have hlm : ((finR t).1.map u4V).length ≤ maxLen := by rw [List.length_map, hfl]; unfold maxLen; omega
    have hC := fun (w : World) (hs : Rd w ao ((finR t).1.map u4V)) => Check_any (q6 t).1 (leV (q2 t).1 : Nat) (sgn (leV (q3 t).1)) (sgn (leV (q4 t).1)) (finR t).1 hnl ao cap w hs
    rw [hfl] at hC
    ((try refine sx_use ?_); (repeat (refine SxNew.mk fun _ => ?_; (try refine sx_use ?_))))
    refine SxCall.quietS (fun w hs => hC w (hs.rowRd 3 rfl hlm)) ?_
    by_cases hmay : mayR (q6 t).1.length (leV (q2 t).1 : Nat) (sgn (leV (q3 t).1)) (sgn (leV (q4 t).1)) (finR t).1
    · rw [show chkR _ _ _ _ _ = 0 from if_pos hmay]
      ((try refine sx_use ?_); (repeat (refine SxNew.mk fun _ => ?_; (try refine sx_use ?_))))
      refine SxDone.mk fun w' hs => ⟨fun r hr hp => ?_, fun hn => absurd ⟨pRc t, hmay, ?_⟩ hn⟩
      · have hpr := (hwhole r hr hp).1
        subst hpr
        refine ⟨ao, cap, ?_, ?_⟩
        · unfold Rc.v pRc
          dsimp only
          rw [hfl]
          rfl
        · unfold pRc
          dsimp only
          rw [hfl]
          exact hs.newRow 3 rfl
      · exact (congrArg sealL hb.symm).trans hsl
    · rw [show chkR _ _ _ _ _ = 1 from if_neg hmay]
      have hbad : ¬ isRc s := fun ⟨r, hr, hp⟩ => hmay (by have := (hwhole r hr hp).1; subst this; exact hr)
      ((try refine sx_use ?_); (repeat (refine SxNew.mk fun _ => ?_; (try refine sx_use ?_))))
      exact SxDone.mk fun w' hs => ⟨fun r hr h => absurd ⟨r, hr, h⟩ hbad, fun _ => ⟨rfl, hs.touch.below⟩⟩
end Go.Proofs.Ytbbngmlgpjepnaa
