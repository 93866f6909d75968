/- The walk: the document's Get. -/
import Derived.Test.YtbbngmlgpjepnaaZRcG
namespace Go.Proofs.Ytbbngmlgpjepnaa
open Go.RowKit

theorem takeS_R2 (n : Nat) (s : List UInt8) (a : Nat) (e : Int) : takeR n (s.drop a) e = ((takeS n ⟨s.toArray⟩ a e).1, s.drop (takeS n ⟨s.toArray⟩ a e).2.1, (takeS n ⟨s.toArray⟩ a e).2.2) := by
  have hsz : (⟨s.toArray⟩ : ByteArray).size = s.length := mk_size s
  unfold takeR takeS
  rw [hsz, List.length_drop]
  split
  · rfl
  · split
    · simp
    · simp [List.drop_drop]
theorem takeS_le2 (n : Nat) (s : List UInt8) (a : Nat) (e : Int) (h : a ≤ s.length) : (takeS n ⟨s.toArray⟩ a e).2.1 ≤ s.length := by
  have hsz : (⟨s.toArray⟩ : ByteArray).size = s.length := mk_size s
  unfold takeS
  rw [hsz]
  split
  · exact h
  · split
    · exact Nat.le_refl _
    · dsimp only; omega
/-- What the document's reader makes of a text. -/
def textS (s : List UInt8) (a : Nat) (e : Int) : List UInt8 × Nat × Int :=
  if leV (takeS 4 ⟨s.toArray⟩ a e).1 > 65536 then ([], if (takeS 4 ⟨s.toArray⟩ a e).2.2 = 0 then s.length else (takeS 4 ⟨s.toArray⟩ a e).2.1, if (takeS 4 ⟨s.toArray⟩ a e).2.2 = 0 then 2 else (takeS 4 ⟨s.toArray⟩ a e).2.2)
  else takeS (leV (takeS 4 ⟨s.toArray⟩ a e).1) ⟨s.toArray⟩ (takeS 4 ⟨s.toArray⟩ a e).2.1 (takeS 4 ⟨s.toArray⟩ a e).2.2
theorem takeS_errS {n : Nat} {s : ByteArray} {a : Nat} {e : Int} (h : e ≠ 0) : takeS n s a e = ([], a, e) := by unfold takeS; rw [if_pos h]
theorem textS_R (s : List UInt8) (a : Nat) (e : Int) : textR (s.drop a) e = ((textS s a e).1, s.drop (textS s a e).2.1, (textS s a e).2.2) := by
  have h1 := takeS_R2 4 s a e
  by_cases he : e = 0
  · unfold textR textS
    rw [h1]
    dsimp only
    unfold longS longK
    by_cases hn : leV (takeS 4 ⟨s.toArray⟩ a e).1 > 65536
    · rw [if_pos hn, if_pos hn, if_pos hn]
      by_cases h2 : (takeS 4 ⟨s.toArray⟩ a e).2.2 = 0
      · rw [if_pos h2, if_pos h2, takeR_errR _ _ _ (by decide)]
        simp
      · rw [if_neg h2, if_neg h2, takeR_errR _ _ _ h2]
        have h3 : (takeS 4 ⟨s.toArray⟩ a e).1 = [] := by
          unfold takeS at h2 ⊢
          split
          · rfl
          · rename_i h4
            split
            · rfl
            · rename_i h5
              rw [if_neg h4, if_neg h5] at h2
              exact absurd rfl h2
        rw [h3] at hn
        simp [leV] at hn
    · rw [if_neg hn, if_neg hn, if_neg hn]
      exact takeS_R2 _ s _ _
  · have h2 : takeS 4 ⟨s.toArray⟩ a e = ([], a, e) := takeS_errS he
    unfold textR textS
    rw [takeR_errR _ _ _ he, h2]
    dsimp only
    have h3 : leV [] = 0 := rfl
    rw [h3, if_neg (by decide)]
    unfold longS longK
    rw [if_neg (by decide), if_neg (by decide), takeR_errR _ _ _ he, takeS_errS he]
theorem textS_le (s : List UInt8) (a : Nat) (e : Int) (h : a ≤ s.length) : (textS s a e).2.1 ≤ s.length := by
  have h1 := takeS_le2 4 s a e h
  unfold textS
  split
  · dsimp only
    split
    · exact Nat.le_refl _
    · exact h1
  · exact takeS_le2 _ s _ _ h1
section
variable {W : World} {M : List Nat} {H : Hp} {w : World}
theorem RTakeErr_sat (hs : Sat W M H w) (p b : Nat) (s : ByteArray) (a : Nat) (e : Int) (he : e ≠ 0) (hp : H[p]? = some (rrE b s a e)) (n : Int) :
    Calls Try.prog 39 #[.pointer (some ⟨b, 0, none⟩), .int .i64 n] w fun en w' => en = .returned (txV []) ∧ Sat W M H w' := by
  refine sx_fn (S := SX) (N := 54) Try.func39 rfl rfl rfl hs ?_
  ((try refine sx_use ?_); (repeat (refine SxNew.mk fun _ => ?_; (try refine sx_use ?_))))
  refine SxLd.blk p hp rfl ?_
  ((try refine sx_use ?_); (repeat (refine SxNew.mk fun _ => ?_; (try refine sx_use ?_))))
  exact SxDone.mk fun w' hs => ⟨rfl, hs⟩
theorem RRText_sat (hs : Sat W M H w) (p b : Nat) (s : List UInt8) (hsz : s.length ≤ 1000000) (a : Nat) (ha : a ≤ s.length) (e : Int) (hp : H[p]? = some (rrE b ⟨s.toArray⟩ a e)) :
    Calls Try.prog 42 #[.pointer (some ⟨b, 0, none⟩)] w fun en w' => en = .returned (txV (textS s a e).1) ∧ Sat W M (H.set p (rrE b ⟨s.toArray⟩ (textS s a e).2.1 (textS s a e).2.2)) w' := by
  have hpl : p < H.length := (List.getElem?_eq_some_iff.1 hp).1
  have hss : (⟨s.toArray⟩ : ByteArray).size ≤ maxLen := by rw [mk_size]; unfold maxLen; omega
  have hb4 := leV_take4 (s.drop a) e
  have h1 := takeS_R2 4 s a e
  rw [h1] at hb4
  dsimp only at hb4
  have hle := takeS_le2 4 s a e ha
  refine sx_fn (S := SX) (N := 14) Try.func42 rfl rfl rfl hs ?_
  unfold textS
  ((try refine sx_use ?_); (repeat (refine SxNew.mk fun _ => ?_; (try refine sx_use ?_))))
  refine SxCall.sat _ (fun w hs => RNum_sat hs p b ⟨s.toArray⟩ hss a ha e hp 4 (by decide)) ?_
  generalize takeS 4 ⟨s.toArray⟩ a e = r at hb4 hle ⊢
  ((try refine sx_use ?_); (repeat (refine SxNew.mk fun _ => ?_; (try refine sx_use ?_))))
  refine SxIf.dec (fun h => ?_) (fun h => ?_)
  · have hn : leV r.1 > 65536 := by omega
    rw [if_pos hn]
    ((try refine sx_use ?_); (repeat (refine SxNew.mk fun _ => ?_; (try refine sx_use ?_))))
    refine SxCall.sat _ (fun w hs => Rfail_sat hs p b ⟨s.toArray⟩ r.2.1 r.2.2 2 (List.getElem?_set_self hpl)) ?_
    ((try refine sx_use ?_); (repeat (refine SxNew.mk fun _ => ?_; (try refine sx_use ?_))))
    refine SxCall.sat _ (fun w hs => RTakeErr_sat hs p b ⟨s.toArray⟩ _ _ (by split <;> omega) (List.getElem?_set_self (by simpa using hpl)) _) ?_
    ((try refine sx_use ?_); (repeat (refine SxNew.mk fun _ => ?_; (try refine sx_use ?_))))
    refine SxDone.mk fun w' hs => ⟨rfl, ?_⟩
    rw [List.set_set] at hs
    exact hs
  · have hn : ¬ leV r.1 > 65536 := by omega
    rw [if_neg hn]
    ((try refine sx_use ?_); (repeat (refine SxNew.mk fun _ => ?_; (try refine sx_use ?_))))
    refine SxCall.sat _ (fun w hs => RTake_sat hs p b ⟨s.toArray⟩ hss r.2.1 hle r.2.2 (List.getElem?_set_self hpl) (leV r.1) (by omega)) ?_
    ((try refine sx_use ?_); (repeat (refine SxNew.mk fun _ => ?_; (try refine sx_use ?_))))
    refine SxDone.mk fun w' hs => ⟨rfl, ?_⟩
    rw [List.set_set] at hs
    exact hs
end
theorem signed_any (u : Nat) (h : u < 4294967296) (w : World) : Calls Try.prog 41 #[.int .u64 (u : Nat)] w fun e w' => e = .returned (.int .i64 (sgn u)) ∧ Below w.heap.size w w' := by
  refine sx_fn (S := SX) (M := []) (N := 10) (H0 := []) Try.func41 rfl rfl rfl (Sat.nil _ _) ?_
  ((try refine sx_use ?_); (repeat (refine SxNew.mk fun _ => ?_; (try refine sx_use ?_))))
  refine SxIf.dec (fun h1 => ?_) (fun h1 => ?_)
  · ((try refine sx_use ?_); (repeat (refine SxNew.mk fun _ => ?_; (try refine sx_use ?_))))
    exact SxDone.mk fun w' hs => ⟨by unfold sgn; rw [if_pos (by omega)]; rfl, hs.touch.below⟩
  · ((try refine sx_use ?_); (repeat (refine SxNew.mk fun _ => ?_; (try refine sx_use ?_))))
    exact SxDone.mk fun w' hs => ⟨by unfold sgn; rw [if_neg (by omega)]; rfl, hs.touch.below⟩
theorem rdN_err (l : List UInt8) (e : Int) (k : Nat) (h : (rdN k l e).2.2 ≠ 0) : ∀ j, (rdN (k + j) l e).2.2 ≠ 0
  | 0 => h
  | j + 1 => by
    have ih := rdN_err l e k h j
    show (takeR 4 (rdN (k + j) l e).2.1 (rdN (k + j) l e).2.2).2.2 ≠ 0
    rw [takeR_errR _ _ _ ih]
    exact ih
/-- What the document's reader has read. -/
def p1 (s : List UInt8) := takeS 4 ⟨s.toArray⟩ 0 0
def p2 (s : List UInt8) := takeS 4 ⟨s.toArray⟩ (p1 s).2.1 (p1 s).2.2
def p3 (s : List UInt8) := takeS 4 ⟨s.toArray⟩ (p2 s).2.1 (p2 s).2.2
def p4 (s : List UInt8) := takeS 4 ⟨s.toArray⟩ (p3 s).2.1 (p3 s).2.2
def p6 (s : List UInt8) := textS s (p4 s).2.1 (p4 s).2.2
def p7 (s : List UInt8) := takeS 2 ⟨s.toArray⟩ (p6 s).2.1 (p6 s).2.2
theorem p_eq (s : List UInt8) : q1 s = ((p1 s).1, s.drop (p1 s).2.1, (p1 s).2.2) ∧ q2 s = ((p2 s).1, s.drop (p2 s).2.1, (p2 s).2.2) ∧ q3 s = ((p3 s).1, s.drop (p3 s).2.1, (p3 s).2.2) ∧ q4 s = ((p4 s).1, s.drop (p4 s).2.1, (p4 s).2.2) ∧ q6 s = ((p6 s).1, s.drop (p6 s).2.1, (p6 s).2.2) ∧ q7 s = ((p7 s).1, s.drop (p7 s).2.1, (p7 s).2.2) := by
  have h1 : q1 s = ((p1 s).1, s.drop (p1 s).2.1, (p1 s).2.2) := takeS_R2 4 s 0 0
  have h2 : q2 s = ((p2 s).1, s.drop (p2 s).2.1, (p2 s).2.2) := by unfold q2; rw [h1]; exact takeS_R2 4 s _ _
  have h3 : q3 s = ((p3 s).1, s.drop (p3 s).2.1, (p3 s).2.2) := by unfold q3; rw [h2]; exact takeS_R2 4 s _ _
  have h4 : q4 s = ((p4 s).1, s.drop (p4 s).2.1, (p4 s).2.2) := by unfold q4; rw [h3]; exact takeS_R2 4 s _ _
  have h6 : q6 s = ((p6 s).1, s.drop (p6 s).2.1, (p6 s).2.2) := by unfold q6; rw [h4]; exact textS_R s _ _
  exact ⟨h1, h2, h3, h4, h6, by unfold q7; rw [h6]; exact takeS_R2 2 s _ _⟩
theorem p_le (s : List UInt8) : (p1 s).2.1 ≤ s.length ∧ (p2 s).2.1 ≤ s.length ∧ (p3 s).2.1 ≤ s.length ∧ (p4 s).2.1 ≤ s.length ∧ (p6 s).2.1 ≤ s.length ∧ (p7 s).2.1 ≤ s.length := by
  have h1 : (p1 s).2.1 ≤ s.length := takeS_le2 4 s 0 0 (Nat.zero_le _)
  have h2 : (p2 s).2.1 ≤ s.length := takeS_le2 4 s _ _ h1
  have h3 : (p3 s).2.1 ≤ s.length := takeS_le2 4 s _ _ h2
  have h4 : (p4 s).2.1 ≤ s.length := takeS_le2 4 s _ _ h3
  have h6 : (p6 s).2.1 ≤ s.length := textS_le s _ _ h4
  exact ⟨h1, h2, h3, h4, h6, takeS_le2 2 s _ _ h6⟩
end Go.Proofs.Ytbbngmlgpjepnaa
