/- The walks: slot, Chunk, Chunks of box and of the document. -/
import Derived.Test.YtdhdminocboipaaZBoxJ
namespace Go.Proofs.Ytdhdminocboipaa
open Go.RowKit

theorem row_cap {w : World} {B e k n cap : Nat} {ao : Option Addr} {xs : List Value} (h : w.ownsRow B e k (.slice ao n cap) n xs) : n ≤ cap := by
  rcases h.2 with ⟨h, rfl⟩ | ⟨g, cap', cur, h, _, _, hc, _⟩
  · omega
  · simp only [Value.slice.injEq] at h; omega
def slH (s : List UInt8) : List (Int × Int) := slP s (cntP s)
theorem slH_len (s : List UInt8) : (slH s).length = cntP s := slP_len s _
def chunkL (s : List UInt8) (i : Nat) : List UInt8 := (s.drop (fromV (slH s) i).toNat).take (slotP s i).1.toNat
def crcOk (s : List UInt8) (i : Nat) : Prop := crcI (chunkL s i) = (slotP s i).2
noncomputable instance (s : List UInt8) (i : Nat) : Decidable (crcOk s i) := by unfold crcOk; infer_instance
theorem slH_get (s : List UInt8) {i : Nat} (h : i < cntP s) : (slH s)[i]? = some (slotP s i) := by
  unfold slH slP
  exact tab_get _ _ _ h
structure HeadFacts (s : List UInt8) : Prop where
  good : goodB (idN s) (slH s) = true
  ok : okS (slH s)
  cnt : cntP s ≤ 256
  long : 14 + 6 * cntP s ≤ s.length
  all : 14 + 6 * (cntP s : Int) + sumS (slH s) = s.length
theorem headFacts {s : List UInt8} (h : headOk s) : HeadFacts s := by
  obtain ⟨h1, h2, h3⟩ := size_good h.2.2.1 (by have := h.1; omega)
  rw [slP_len] at h2 h3
  refine ⟨h1, (goodB_P h1).2.2.2.2.1, h2, h3, ?_⟩
  have h4 := h.2.2.1
  unfold sizeV at h4
  rw [if_pos h1, slP_len] at h4
  exact h4
theorem sumS_split (l : List (Int × Int)) (k : Nat) : sumS l = sumS (l.take k) + sumS (l.drop k) := by
  unfold sumS
  rw [← List.sum_append, ← List.map_append, List.take_append_drop]
theorem from_in {s : List UInt8} (h : headOk s) {i : Nat} (hi : i < cntP s) : 0 ≤ fromV (slH s) i ∧ 1 ≤ (slotP s i).1 ∧ (slotP s i).1 ≤ 4096 ∧ fromV (slH s) i + (slotP s i).1 ≤ s.length := by
  have hf := headFacts h
  have h1 := sum_le _ (okS_take hf.ok i)
  have h2 := hf.ok _ (List.mem_of_getElem? (slH_get s hi))
  have h3 := sumS_snoc (slH s) i _ (slH_get s hi)
  have h4 := sumS_split (slH s) (i + 1)
  have h5 := sum_le ((slH s).drop (i + 1)) fun x hx => hf.ok x (List.mem_of_mem_drop hx)
  have h6 := hf.all
  have h7 : fromV (slH s) i = 14 + 6 * (cntP s : Int) + sumS ((slH s).take i) := by unfold fromV; rw [slH_len]
  omega
/-- What a slot's chunk is, and the error. -/
noncomputable def slotV (s : List UInt8) (i : Int) : List UInt8 × Int := if 0 ≤ i ∧ i < cntP s then (if crcOk s i.toNat then (chunkL s i.toNat, 0) else ([], 110)) else ([], 5)
theorem slotV_in (s : List UInt8) {q : Nat} (h : q < cntP s) : slotV s q = if crcOk s q then (chunkL s q, 0) else ([], 110) := by
  unfold slotV; rw [if_pos ⟨by omega, by omega⟩]; rfl
theorem slotV_out (s : List UInt8) {i : Int} (h : ¬ (0 ≤ i ∧ i < cntP s)) : slotV s i = ([], 5) := by unfold slotV; rw [if_neg h]
theorem slot_any (s : List UInt8) (hs : s.length ≤ 1000000) (hok : headOk s) (ao : Option Addr) (cap : Nat) (hcap : cntP s ≤ cap) (i : Int) (w : World) (hr : Rd w ao ((slH s).flatMap encS)) :
    Calls Try.prog 42 #[txV s, hdV (idN s) ao (cntP s) cap, .int .i64 i] w fun e w' => e = .returned (.tuple #[txV (slotV s i).1, .int .i64 (slotV s i).2]) ∧ Below w.heap.size w w' := by
  have hf := headFacts hok
  have hc := hf.cnt
  refine sx_fn (S := SX) (M := []) (N := 38) (H0 := [.rd ao ((slH s).flatMap encS)]) Try.func42 rfl rfl rfl (Sat.oneRd _ hr) ?_
  ((try refine sx_use ?_); (repeat (refine SxNew.mk fun _ => ?_; (try refine sx_use ?_))))
  have hW := fun (w : World) (hs : Rd w ao ((slH s).flatMap encS)) => BWhere_any (idN s) (slH s) ao cap w hs (by rw [slH_len]; exact hcap) (by rw [slH_len]; omega) i
  rw [slH_len] at hW
  by_cases hi : 0 ≤ i ∧ i < cntP s
  · obtain ⟨q, rfl⟩ : ∃ q : Nat, i = q := ⟨i.toNat, by omega⟩
    have hq : q < cntP s := by omega
    have hv : whereV (idN s) (slH s) q = (fromV (slH s) q, (slotP s q).1, 0) := by
      unfold whereV; rw [if_pos hf.good, if_pos (by rw [slH_len]; omega)]
      simp [List.getD, slH_get s hq]
    obtain ⟨h1, h2, h3, h4⟩ := from_in hok hq
    rw [hv] at hW
    dsimp only at hW
    refine SxCall.quietS (fun w hs => hW w (hs.rd 1 rfl)) ?_
    ((try refine sx_use ?_); (repeat (refine SxNew.mk fun _ => ?_; (try refine sx_use ?_))))
    obtain ⟨a, ha⟩ : ∃ a : Nat, fromV (slH s) q = a := ⟨(fromV (slH s) q).toNat, by omega⟩
    obtain ⟨m, hm⟩ : ∃ m : Nat, (slotP s q).1 = m := ⟨(slotP s q).1.toNat, by omega⟩
    have hck : chunkL s q = (s.drop a).take m := by unfold chunkL; rw [ha, hm]; rfl
    refine SxBnd.mk a (a + m) ha (by rw [ha, hm]; omega) (by omega) (by rw [mk_size]; omega) ?_
    have hex : (⟨s.toArray⟩ : ByteArray).extract a (a + m) = ⟨(chunkL s q).toArray⟩ := by rw [mk_extract, hck]; congr 2; rw [List.drop_take]; congr 1; omega
    have hcl : (chunkL s q).length ≤ 1000000 := by rw [hck, List.length_take, List.length_drop]; omega
    rw [hex]
    ((try refine sx_use ?_); (repeat (refine SxNew.mk fun _ => ?_; (try refine sx_use ?_))))
    refine SxCode.drawAll rfl [] ?_
    ((try refine sx_use ?_); (repeat (refine SxNew.mk fun _ => ?_; (try refine sx_use ?_))))
    refine SxIA.rd 1 _ rfl q rfl hq (by rw [flat_len encS 2 (fun _ => rfl), slH_len]; omega) fun g off ha => ?_
    ((try refine sx_use ?_); (repeat (refine SxNew.mk fun _ => ?_; (try refine sx_use ?_))))
    refine SxLd.rd 1 rfl ha rfl (slot_get2 (slH_get s hq)) ?_
    ((try refine sx_use ?_); (repeat (refine SxNew.mk fun _ => ?_; (try refine sx_use ?_))))
    refine SxCall.pure (fun w => bsum_any (chunkL s q) hcl w) ?_
    ((try refine sx_use ?_); (repeat (refine SxNew.mk fun _ => ?_; (try refine sx_use ?_))))
    refine SxIf.eq (fun hc => ?_) (fun hc => ?_)
    · ((try refine sx_use ?_); (repeat (refine SxNew.mk fun _ => ?_; (try refine sx_use ?_))))
      exact SxDone.mk fun w' hs => ⟨by rw [slotV_in s hq, if_pos (show crcOk s _ from hc)]; rfl, hs.touch.below⟩
    · ((try refine sx_use ?_); (repeat (refine SxNew.mk fun _ => ?_; (try refine sx_use ?_))))
      exact SxDone.mk fun w' hs => ⟨by rw [slotV_in s hq, if_neg (show ¬ crcOk s _ from hc)]; rfl, hs.touch.below⟩
  · have hv : whereV (idN s) (slH s) i = (0, 0, 5) := by unfold whereV; rw [if_pos hf.good, if_neg (by rw [slH_len]; omega)]
    rw [hv] at hW
    dsimp only at hW
    refine SxCall.quietS (fun w hs => hW w (hs.rd 1 rfl)) ?_
    ((try refine sx_use ?_); (repeat (refine SxNew.mk fun _ => ?_; (try refine sx_use ?_))))
    exact SxDone.mk fun w' hs => ⟨by unfold slotV; rw [if_neg hi]; rfl, hs.touch.below⟩
/-- What 'Chunk' answers. -/
noncomputable def chunkV (s : List UInt8) (i : Int) : List UInt8 × Int := @ite _ (headOk s) (Classical.propDecidable _) (slotV s i) ([], 110)
theorem BChunk_any (s : List UInt8) (hs : s.length ≤ 1000000) (i : Int) (w : World) :
    Calls Try.prog 17 #[txV s, .int .i64 i] w fun e w' => e = .returned (.tuple #[txV (chunkV s i).1, .int .i64 (chunkV s i).2]) ∧ Below w.heap.size w w' := by
  refine sx_fn (S := SX) (M := []) (N := 22) (H0 := []) Try.func17 rfl rfl rfl (Sat.nil _ _) ?_
  ((try refine sx_use ?_); (repeat (refine SxNew.mk fun _ => ?_; (try refine sx_use ?_))))
  by_cases hok : headOk s
  · have hc := (headFacts hok).cnt
    refine SxCall.newRow (v := fun ao cap => .tuple #[hdV (idN s) ao (cntP s) cap, .int .i64 0]) (fun w _ => (BHead_any s hs w).mono fun e w' h => h.1 hok) fun ao cap => ?_
    ((try refine sx_use ?_); (repeat (refine SxNew.mk fun _ => ?_; (try refine sx_use ?_))))
    refine SxCall.quietS (fun w hs2 => slot_any s hs hok ao cap (row_cap (hs2.row 1 rfl)) i w (hs2.rowRd 1 rfl (by rw [flat_len encS 2 (fun _ => rfl), slH_len]; unfold maxLen; omega))) ?_
    ((try refine sx_use ?_); (repeat (refine SxNew.mk fun _ => ?_; (try refine sx_use ?_))))
    exact SxDone.mk fun w' hs => ⟨by unfold chunkV; rw [if_pos hok]; rfl, hs.touch.below⟩
  · refine SxCall.quiet (fun w => (BHead_any s hs w).mono fun e w' h => h.2 hok) ?_
    ((try refine sx_use ?_); (repeat (refine SxNew.mk fun _ => ?_; (try refine sx_use ?_))))
    exact SxDone.mk fun w' hs => ⟨by unfold chunkV; rw [if_neg hok]; rfl, hs.touch.below⟩
/-- What the document's 'Chunk' answers. -/
noncomputable def rchunkV (s : List UInt8) (i : Int) : List UInt8 × Bool := ((chunkV s i).1, (chunkV s i).2 == 0)
theorem RChunk_any (s : List UInt8) (hs : s.length ≤ 1000000) (i : Int) (w : World) :
    Calls Try.prog 24 #[txV s, .int .i64 i] w fun e w' => e = .returned (.tuple #[txV (rchunkV s i).1, .bool (rchunkV s i).2]) ∧ Below w.heap.size w w' := by
  refine sx_fn (S := SX) (M := []) (N := 51) (H0 := []) Try.func24 rfl rfl rfl (Sat.nil _ _) ?_
  ((try refine sx_use ?_); (repeat (refine SxNew.mk fun _ => ?_; (try refine sx_use ?_))))
  by_cases hok : headOk s
  · have hf := headFacts hok
    have hc := hf.cnt
    refine SxCall.newRow (v := fun ao cap => .tuple #[hdV (idN s) ao (cntP s) cap, .bool true]) (fun w _ => (RHead_any s hs w).mono fun e w' h => h.1 hok) fun ao cap => ?_
    have hbad : ¬ (0 ≤ i ∧ i < cntP s) → rchunkV s i = ([], false) := fun hi => by unfold rchunkV chunkV; rw [if_pos hok]; unfold slotV; rw [if_neg hi]; rfl
    ((try refine sx_use ?_); (repeat (refine SxNew.mk fun _ => ?_; (try refine sx_use ?_))))
    refine SxIf.dec (fun h => ?_) (fun h => ?_)
    · ((try refine sx_use ?_); (repeat (refine SxNew.mk fun _ => ?_; (try refine sx_use ?_))))
      exact SxDone.mk fun w' hs => ⟨by rw [hbad (by omega)]; rfl, hs.touch.below⟩
    ((try refine sx_use ?_); (repeat (refine SxNew.mk fun _ => ?_; (try refine sx_use ?_))))
    refine SxIf.dec (fun h2 => ?_) (fun h2 => ?_)
    · ((try refine sx_use ?_); (repeat (refine SxNew.mk fun _ => ?_; (try refine sx_use ?_))))
      exact SxDone.mk fun w' hs => ⟨by rw [hbad (by omega)]; rfl, hs.touch.below⟩
    obtain ⟨q, rfl⟩ : ∃ q : Nat, i = q := ⟨i.toNat, by omega⟩
    have hq : q < cntP s := by omega
    obtain ⟨h1, h2, h3, h4⟩ := from_in hok hq
    ((try refine sx_use ?_); (repeat (refine SxNew.mk fun _ => ?_; (try refine sx_use ?_))))
    have hW := fun (w : World) (hs : Rd w ao ((slH s).flatMap encS)) => RWhere_any (idN s) (slH s) hf.ok ao cap w hs (by rw [slH_len]; omega) q _ (slH_get s hq)
    rw [slH_len] at hW
    refine SxCall.quietS (fun w hs2 => hW w (hs2.rowRd 1 rfl (by rw [flat_len encS 2 (fun _ => rfl), slH_len]; unfold maxLen; omega))) ?_
    ((try refine sx_use ?_); (repeat (refine SxNew.mk fun _ => ?_; (try refine sx_use ?_))))
    obtain ⟨a, ha⟩ : ∃ a : Nat, fromV (slH s) q = a := ⟨(fromV (slH s) q).toNat, by omega⟩
    obtain ⟨m, hm⟩ : ∃ m : Nat, (slotP s q).1 = m := ⟨(slotP s q).1.toNat, by omega⟩
    have hck : chunkL s q = (s.drop a).take m := by unfold chunkL; rw [ha, hm]; rfl
    refine SxBnd.mk a (a + m) ha (by rw [ha, hm]; omega) (by omega) (by rw [mk_size]; omega) ?_
    have hex : (⟨s.toArray⟩ : ByteArray).extract a (a + m) = ⟨(chunkL s q).toArray⟩ := by rw [mk_extract, hck]; congr 2; rw [List.drop_take]; congr 1; omega
    have hcl : (chunkL s q).length ≤ 1000000 := by rw [hck, List.length_take, List.length_drop]; omega
    rw [hex]
    ((try refine sx_use ?_); (repeat (refine SxNew.mk fun _ => ?_; (try refine sx_use ?_))))
    refine SxCode.drawAll rfl [] ?_
    ((try refine sx_use ?_); (repeat (refine SxNew.mk fun _ => ?_; (try refine sx_use ?_))))
    refine SxIA.row 1 _ _ _ rfl q rfl hq fun g ha => ?_
    ((try refine sx_use ?_); (repeat (refine SxNew.mk fun _ => ?_; (try refine sx_use ?_))))
    refine SxLd.row 1 rfl ha (j := q * 2 + 1) (by omega) (slot_get2 (slH_get s hq)) ?_
    ((try refine sx_use ?_); (repeat (refine SxNew.mk fun _ => ?_; (try refine sx_use ?_))))
    refine SxCall.quiet (fun w => rsum_any (chunkL s q) hcl w) ?_
    ((try refine sx_use ?_); (repeat (refine SxNew.mk fun _ => ?_; (try refine sx_use ?_))))
    refine SxIf.ne (fun hc => ?_) (fun hc => ?_)
    · ((try refine sx_use ?_); (repeat (refine SxNew.mk fun _ => ?_; (try refine sx_use ?_))))
      exact SxDone.mk fun w' hs => ⟨by unfold rchunkV chunkV; rw [if_pos hok]; rw [slotV_in s hq, if_neg (show ¬ crcOk s _ from hc)]; rfl, hs.touch.below⟩
    · ((try refine sx_use ?_); (repeat (refine SxNew.mk fun _ => ?_; (try refine sx_use ?_))))
      exact SxDone.mk fun w' hs => ⟨by unfold rchunkV chunkV; rw [if_pos hok]; rw [slotV_in s hq, if_pos (show crcOk s _ from hc)]; rfl, hs.touch.below⟩
  · refine SxCall.quiet (fun w => (RHead_any s hs w).mono fun e w' h => h.2 hok) ?_
    ((try refine sx_use ?_); (repeat (refine SxNew.mk fun _ => ?_; (try refine sx_use ?_))))
    exact SxDone.mk fun w' hs => ⟨by unfold rchunkV chunkV; rw [if_neg hok]; rfl, hs.touch.below⟩
end Go.Proofs.Ytdhdminocboipaa
