/- The laws of layer 14: BoxOnce, BoxHeads. -/
import Derived.Test.YtdhdminocboipaaZBoxP
namespace Go.Proofs.Ytdhdminocboipaa
open Go.RowKit

section
variable {P : Program} {A : Value → Prop} {t : Nat} {x y : Operand}
theorem SxRun.bNe {a b : Bool} (h : P.underlying t = some .bool) (hA : A (.bool (a != b))) : SxRun P (do eqGuard .neq t x y (.bool a) (.bool b); binOp .neq t (.bool a) (.bool b)) A :=
  ⟨_, fun w => by have : (Op.equal t (.bool a) (.bool b)).run P w = .ok (a == b) w := run_equalIn_bool' (P := P) w 9999 t a b h; simp [eqGuard, binOp, this, bne], hA⟩
theorem SxRun.bEq {a b : Bool} (h : P.underlying t = some .bool) (hA : A (.bool (a == b))) : SxRun P (do eqGuard .eql t x y (.bool a) (.bool b); binOp .eql t (.bool a) (.bool b)) A :=
  ⟨_, fun w => by have : (Op.equal t (.bool a) (.bool b)).run P w = .ok (a == b) w := run_equalIn_bool' (P := P) w 9999 t a b h; simp [eqGuard, binOp, this], hA⟩
end
theorem Rd_nil (w : World) : Rd w none ([] : List Value) := ⟨by simp [maxLen], fun h => by simp at h⟩
theorem chunk_len {s : List UInt8} (h : headOk s) {i : Nat} (hi : i < cntP s) : (chunkL s i).length ≤ 4096 := by
  obtain ⟨h1, h2, h3, h4⟩ := from_in h hi
  unfold chunkL
  rw [List.length_take]
  omega
theorem chunksL_le {s : List UInt8} (h : headOk s) : ∀ x ∈ chunksL s (cntP s), x.length < 65536 := by
  intro x hx
  simp only [chunksL, tab, List.mem_map, List.mem_range] at hx
  obtain ⟨i, hi, rfl⟩ := hx
  have := chunk_len h hi
  omega
theorem idN_bd (s : List UInt8) : 0 ≤ idN s ∧ idN s < 4294967296 := by have := sliceN_lt4 s 4; unfold idN; omega
theorem BoxOnce_law (w : World) (s : ByteArray) (hs : s.size ≤ maxLen) :
    Calls Try.prog 5 #[.string s] w fun e w' => e = .returned (.bool true) ∧ Below w.heap.size w w' := by
  obtain ⟨l, rfl⟩ : ∃ l : List UInt8, s = ⟨l.toArray⟩ := ⟨s.data.toList, rfl⟩
  rw [mk_size] at hs
  refine sx_fn (S := SX) (M := []) (N := 52) (H0 := []) Try.func5 rfl rfl rfl (Sat.nil _ _) ?_
  ((try refine sx_use ?_); (repeat (refine SxNew.mk fun _ => ?_; (try refine sx_use ?_))))
  refine SxIf.dec (fun h => ?_) (fun h => ?_)
  · rw [mk_size] at h
    ((try refine sx_use ?_); (repeat (refine SxNew.mk fun _ => ?_; (try refine sx_use ?_))))
    refine SxBnd.mk 0 20000 rfl rfl (by omega) (by rw [mk_size]; omega) ?_
    have hex : (⟨l.toArray⟩ : ByteArray).extract 0 20000 = ⟨(l.take 20000).toArray⟩ := by rw [mk_extract]; simp
    rw [hex]
    have hl : (l.take 20000).length ≤ 20000 := by rw [List.length_take]; omega
    clear hex h hs
    generalize l.take 20000 = l at hl
    ((try refine sx_use ?_); (repeat (refine SxNew.mk fun _ => ?_; (try refine sx_use ?_))))
    by_cases hok : headOk l
    · have hc := (headFacts hok).cnt
      refine SxCall.newRow (v := fun ao cap => .tuple #[hdV (idN l) ao (cntP l) cap, .int .i64 0]) (fun w _ => (BHead_any l (by omega) w).mono fun e w' h => h.1 hok) fun ao cap => ?_
      ((try refine sx_use ?_); (repeat (refine SxNew.mk fun _ => ?_; (try refine sx_use ?_))))
      by_cases hall : allOk l
      · refine SxCall.newRow (v := fun ao cap => .tuple #[.slice ao (cntP l) cap, .int .i64 0]) (fun w _ => (BChunks_any l (by omega) w).mono fun e w' h => h.1 hall) fun bo bcap => ?_
        ((try refine sx_use ?_); (repeat (refine SxNew.mk fun _ => ?_; (try refine sx_use ?_))))
        obtain ⟨hm, hbl⟩ := once hall
        have hB := fun (w : World) (h1 : cntP l ≤ bcap) (hs : Rd w bo ((chunksL l (cntP l)).map txV)) => BBuild_any (idN l) (idN_bd l) (chunksL l (cntP l)) bo bcap (by rw [chunksL_len]; exact h1) w hs (by rw [chunksL_len]; omega) (chunksL_le hok)
        unfold buildV at hB
        rw [if_pos hm, chunksL_len, hbl] at hB
        refine SxCall.quietS (fun w hs => hB w (row_cap (hs.row 0 rfl)) (hs.rowRd 0 rfl (by rw [List.length_map, chunksL_len]; unfold maxLen; omega))) ?_
        ((try refine sx_use ?_); (repeat (refine SxNew.mk fun _ => ?_; (try refine sx_use ?_))))
        refine SxIf.strT rfl ?_
        ((try refine sx_use ?_); (repeat (refine SxNew.mk fun _ => ?_; (try refine sx_use ?_))))
        refine SxCall.quiet awake_any ?_
        ((try refine sx_use ?_); (repeat (refine SxNew.mk fun _ => ?_; (try refine sx_use ?_))))
        exact SxDone.mk fun w' hs => ⟨rfl, hs.touch.below⟩
      · refine SxCall.quiet (fun w => (BChunks_any l (by omega) w).mono fun e w' h => h.2 hall) ?_
        ((try refine sx_use ?_); (repeat (refine SxNew.mk fun _ => ?_; (try refine sx_use ?_))))
        refine SxCall.quiet awake_any ?_
        ((try refine sx_use ?_); (repeat (refine SxNew.mk fun _ => ?_; (try refine sx_use ?_))))
        exact SxDone.mk fun w' hs => ⟨rfl, hs.touch.below⟩
    · refine SxCall.quiet (fun w => (BHead_any l (by omega) w).mono fun e w' h => h.2 hok) ?_
      ((try refine sx_use ?_); (repeat (refine SxNew.mk fun _ => ?_; (try refine sx_use ?_))))
      refine SxCall.quiet (fun w => (BChunks_any l (by omega) w).mono fun e w' h => h.2 fun ha => hok ha.1) ?_
      ((try refine sx_use ?_); (repeat (refine SxNew.mk fun _ => ?_; (try refine sx_use ?_))))
      refine SxCall.quiet awake_any ?_
      ((try refine sx_use ?_); (repeat (refine SxNew.mk fun _ => ?_; (try refine sx_use ?_))))
      exact SxDone.mk fun w' hs => ⟨rfl, hs.touch.below⟩
  · rw [mk_size] at h
    have hl : l.length ≤ 20000 := by omega
    ((try refine sx_use ?_); (repeat (refine SxNew.mk fun _ => ?_; (try refine sx_use ?_))))
    by_cases hok : headOk l
    · have hc := (headFacts hok).cnt
      refine SxCall.newRow (v := fun ao cap => .tuple #[hdV (idN l) ao (cntP l) cap, .int .i64 0]) (fun w _ => (BHead_any l (by omega) w).mono fun e w' h => h.1 hok) fun ao cap => ?_
      ((try refine sx_use ?_); (repeat (refine SxNew.mk fun _ => ?_; (try refine sx_use ?_))))
      by_cases hall : allOk l
      · refine SxCall.newRow (v := fun ao cap => .tuple #[.slice ao (cntP l) cap, .int .i64 0]) (fun w _ => (BChunks_any l (by omega) w).mono fun e w' h => h.1 hall) fun bo bcap => ?_
        ((try refine sx_use ?_); (repeat (refine SxNew.mk fun _ => ?_; (try refine sx_use ?_))))
        obtain ⟨hm, hbl⟩ := once hall
        have hB := fun (w : World) (h1 : cntP l ≤ bcap) (hs : Rd w bo ((chunksL l (cntP l)).map txV)) => BBuild_any (idN l) (idN_bd l) (chunksL l (cntP l)) bo bcap (by rw [chunksL_len]; exact h1) w hs (by rw [chunksL_len]; omega) (chunksL_le hok)
        unfold buildV at hB
        rw [if_pos hm, chunksL_len, hbl] at hB
        refine SxCall.quietS (fun w hs => hB w (row_cap (hs.row 0 rfl)) (hs.rowRd 0 rfl (by rw [List.length_map, chunksL_len]; unfold maxLen; omega))) ?_
        ((try refine sx_use ?_); (repeat (refine SxNew.mk fun _ => ?_; (try refine sx_use ?_))))
        refine SxIf.strT rfl ?_
        ((try refine sx_use ?_); (repeat (refine SxNew.mk fun _ => ?_; (try refine sx_use ?_))))
        refine SxCall.quiet awake_any ?_
        ((try refine sx_use ?_); (repeat (refine SxNew.mk fun _ => ?_; (try refine sx_use ?_))))
        exact SxDone.mk fun w' hs => ⟨rfl, hs.touch.below⟩
      · refine SxCall.quiet (fun w => (BChunks_any l (by omega) w).mono fun e w' h => h.2 hall) ?_
        ((try refine sx_use ?_); (repeat (refine SxNew.mk fun _ => ?_; (try refine sx_use ?_))))
        refine SxCall.quiet awake_any ?_
        ((try refine sx_use ?_); (repeat (refine SxNew.mk fun _ => ?_; (try refine sx_use ?_))))
        exact SxDone.mk fun w' hs => ⟨rfl, hs.touch.below⟩
    · refine SxCall.quiet (fun w => (BHead_any l (by omega) w).mono fun e w' h => h.2 hok) ?_
      ((try refine sx_use ?_); (repeat (refine SxNew.mk fun _ => ?_; (try refine sx_use ?_))))
      refine SxCall.quiet (fun w => (BChunks_any l (by omega) w).mono fun e w' h => h.2 fun ha => hok ha.1) ?_
      ((try refine sx_use ?_); (repeat (refine SxNew.mk fun _ => ?_; (try refine sx_use ?_))))
      refine SxCall.quiet awake_any ?_
      ((try refine sx_use ?_); (repeat (refine SxNew.mk fun _ => ?_; (try refine sx_use ?_))))
      exact SxDone.mk fun w' hs => ⟨rfl, hs.touch.below⟩
set_option maxHeartbeats 4000000 in
theorem BoxHeads_law (w : World) (s : ByteArray) (hs : s.size ≤ maxLen) (i : Int) (hi : IntKind.i64.min ≤ i ∧ i ≤ IntKind.i64.max) :
    Calls Try.prog 6 #[.string s, .int .i64 i] w fun e w' => e = .returned (.bool true) ∧ Below w.heap.size w w' := by
  obtain ⟨l, rfl⟩ : ∃ l : List UInt8, s = ⟨l.toArray⟩ := ⟨s.data.toList, rfl⟩
  rw [mk_size] at hs
  clear hi
  refine sx_fn (S := SX) (M := []) (N := 126) (H0 := []) Try.func6 rfl rfl rfl (Sat.nil _ _) ?_
  ((try refine sx_use ?_); (repeat (refine SxNew.mk fun _ => ?_; (try refine sx_use ?_))))
  refine SxIf.dec (fun h => ?_) (fun h => ?_)
  · rw [mk_size] at h
    ((try refine sx_use ?_); (repeat (refine SxNew.mk fun _ => ?_; (try refine sx_use ?_))))
    refine SxBnd.mk 0 20000 rfl rfl (by omega) (by rw [mk_size]; omega) ?_
    have hex : (⟨l.toArray⟩ : ByteArray).extract 0 20000 = ⟨(l.take 20000).toArray⟩ := by rw [mk_extract]; simp
    rw [hex]
    have hl : (l.take 20000).length ≤ 20000 := by rw [List.length_take]; omega
    clear hex h hs
    generalize l.take 20000 = l at hl
    ((try refine sx_use ?_); (repeat (refine SxNew.mk fun _ => ?_; (try refine sx_use ?_))))
    by_cases hok : headOk l
    · have hc := (headFacts hok).cnt
      refine SxCall.newRow (v := fun ao cap => .tuple #[hdV (idN l) ao (cntP l) cap, .int .i64 0]) (fun w _ => (BHead_any l (by omega) w).mono fun e w' h => h.1 hok) fun ao cap => ?_
      ((try refine sx_use ?_); (repeat (refine SxNew.mk fun _ => ?_; (try refine sx_use ?_))))
      refine SxCall.newRow (v := fun ao cap => .tuple #[hdV (idN l) ao (cntP l) cap, .bool true]) (fun w _ => (RHead_any l (by omega) w).mono fun e w' h => h.1 hok) fun bo bcap => ?_
      ((try refine sx_use ?_); (repeat (refine SxNew.mk fun _ => ?_; (try refine sx_use ?_))))
      have hBC := BChunk_any l (by omega) i
      have hRC := RChunk_any l (by omega) i
      have hcv : chunkV l i = slotV l i := by unfold chunkV; rw [if_pos hok]
      unfold rchunkV at hRC
      rw [hcv] at hBC hRC
      have hS := fun (w : World) (h1 : Rd w ao ((slP l (cntP l)).flatMap encS)) (h2 : Rd w bo ((slP l (cntP l)).flatMap encS)) => RHSame_any (idN l) (idN l) (slP l (cntP l)) (slP l (cntP l)) ao bo cap bcap w h1 h2 (by rw [slP_len]; omega)
      rw [slP_len, decide_eq_true (show sameP _ _ _ _ from ⟨rfl, rfl⟩)] at hS
      have hfl : ((slP l (cntP l)).flatMap encS).length ≤ maxLen := by rw [flat_len encS 2 (fun _ => rfl), slP_len]; unfold maxLen; omega
      have hcl : ((chunksL l (cntP l)).map txV).length ≤ maxLen := by rw [List.length_map, chunksL_len]; unfold maxLen; omega
      obtain ⟨t, f, hsv, hf⟩ : ∃ t f, slotV l i = (t, f) ∧ ((¬ (0 ≤ i ∧ i < cntP l) ∧ f = 5) ∨ ((0 ≤ i ∧ i < cntP l) ∧ (f = 0 ∨ f = 110))) := by
        unfold slotV
        split
        · rename_i hr
          split
          · exact ⟨_, _, rfl, .inr ⟨hr, .inl rfl⟩⟩
          · exact ⟨_, _, rfl, .inr ⟨hr, .inr rfl⟩⟩
        · rename_i hr
          exact ⟨_, _, rfl, .inl ⟨hr, rfl⟩⟩
      rw [hsv] at hBC hRC
      refine SxCall.quiet hBC ?_
      ((try refine sx_use ?_); (repeat (refine SxNew.mk fun _ => ?_; (try refine sx_use ?_))))
      refine SxCall.quiet hRC ?_
      ((try refine sx_use ?_); (repeat (refine SxNew.mk fun _ => ?_; (try refine sx_use ?_))))
      by_cases hall : allOk l
      · refine SxCall.newRow (v := fun ao cap => .tuple #[.slice ao (cntP l) cap, .int .i64 0]) (fun w _ => (BChunks_any l (by omega) w).mono fun e w' h => h.1 hall) fun co ccap => ?_
        ((try refine sx_use ?_); (repeat (refine SxNew.mk fun _ => ?_; (try refine sx_use ?_))))
        refine SxCall.newRow (v := fun ao cap => .tuple #[.slice ao (cntP l) cap, .bool true]) (fun w _ => (RChunks_any l (by omega) w).mono fun e w' h => h.1 hall) fun d dcap => ?_
        ((try refine sx_use ?_); (repeat (refine SxNew.mk fun _ => ?_; (try refine sx_use ?_))))
        refine SxCall.quietS (fun w hs => hS w (hs.rowRd 5 rfl hfl) (hs.rowRd 3 rfl hfl)) ?_
        ((try refine sx_use ?_); (repeat (refine SxNew.mk fun _ => ?_; (try refine sx_use ?_))))
        rcases hf with ⟨hr, rfl⟩ | ⟨hr, rfl | rfl⟩
        all_goals
          refine SxRun.bNe Try.underlying4 ?_
          ((try refine sx_use ?_); (repeat (refine SxNew.mk fun _ => ?_; (try refine sx_use ?_))))
          refine SxIf.nt (SxIf.strT rfl ?_)
          ((try refine sx_use ?_); (repeat (refine SxNew.mk fun _ => ?_; (try refine sx_use ?_))))
          refine SxRun.bNe Try.underlying4 ?_
          ((try refine sx_use ?_); (repeat (refine SxNew.mk fun _ => ?_; (try refine sx_use ?_))))
          refine SxCall.quietS (v := .bool true) (fun w hs => by
            have h := RSame_any (chunksL l (cntP l)) (chunksL l (cntP l)) co d ccap dcap w (hs.rowRd 1 rfl hcl) (hs.rowRd 0 rfl hcl)
            rw [chunksL_len, decide_eq_true rfl] at h
            exact h) ?_
          ((try refine sx_use ?_); (repeat (refine SxNew.mk fun _ => ?_; (try refine sx_use ?_))))
          refine SxRun.bNe Try.underlying4 ?_
          ((try refine sx_use ?_); (repeat (refine SxNew.mk fun _ => ?_; (try refine sx_use ?_))))
          refine SxCall.quiet awake_any ?_
          ((try refine sx_use ?_); (repeat (refine SxNew.mk fun _ => ?_; (try refine sx_use ?_))))
        · refine SxIf.dec (fun h => ?_) (fun h => ?_)
          · ((try refine sx_use ?_); (repeat (refine SxNew.mk fun _ => ?_; (try refine sx_use ?_))))
            exact SxDone.mk fun w' hs => ⟨rfl, hs.touch.below⟩
          · ((try refine sx_use ?_); (repeat (refine SxNew.mk fun _ => ?_; (try refine sx_use ?_))))
            exact SxDone.mk fun w' hs => ⟨rfl, hs.touch.below⟩
        all_goals exact SxDone.mk fun w' hs => ⟨rfl, hs.touch.below⟩
      · have hRS := fun (w : World) => RSame_any [] [] none none 0 0 w (Rd_nil w) (Rd_nil w)
        rw [decide_eq_true rfl] at hRS
        refine SxCall.quiet (fun w => (BChunks_any l (by omega) w).mono fun e w' h => h.2 hall) ?_
        ((try refine sx_use ?_); (repeat (refine SxNew.mk fun _ => ?_; (try refine sx_use ?_))))
        refine SxCall.quiet (fun w => (RChunks_any l (by omega) w).mono fun e w' h => h.2 hall) ?_
        ((try refine sx_use ?_); (repeat (refine SxNew.mk fun _ => ?_; (try refine sx_use ?_))))
        refine SxCall.quietS (fun w hs => hS w (hs.rowRd 3 rfl hfl) (hs.rowRd 1 rfl hfl)) ?_
        ((try refine sx_use ?_); (repeat (refine SxNew.mk fun _ => ?_; (try refine sx_use ?_))))
        rcases hf with ⟨hr, rfl⟩ | ⟨hr, rfl | rfl⟩
        all_goals
          refine SxRun.bNe Try.underlying4 ?_
          ((try refine sx_use ?_); (repeat (refine SxNew.mk fun _ => ?_; (try refine sx_use ?_))))
          refine SxIf.nt (SxIf.strT rfl ?_)
          ((try refine sx_use ?_); (repeat (refine SxNew.mk fun _ => ?_; (try refine sx_use ?_))))
          refine SxRun.bNe Try.underlying4 ?_
          ((try refine sx_use ?_); (repeat (refine SxNew.mk fun _ => ?_; (try refine sx_use ?_))))
          refine SxCall.quiet hRS ?_
          ((try refine sx_use ?_); (repeat (refine SxNew.mk fun _ => ?_; (try refine sx_use ?_))))
          refine SxRun.bNe Try.underlying4 ?_
          ((try refine sx_use ?_); (repeat (refine SxNew.mk fun _ => ?_; (try refine sx_use ?_))))
          refine SxCall.quiet awake_any ?_
          ((try refine sx_use ?_); (repeat (refine SxNew.mk fun _ => ?_; (try refine sx_use ?_))))
        · refine SxIf.dec (fun h => ?_) (fun h => ?_)
          · ((try refine sx_use ?_); (repeat (refine SxNew.mk fun _ => ?_; (try refine sx_use ?_))))
            exact SxDone.mk fun w' hs => ⟨rfl, hs.touch.below⟩
          · ((try refine sx_use ?_); (repeat (refine SxNew.mk fun _ => ?_; (try refine sx_use ?_))))
            exact SxDone.mk fun w' hs => ⟨rfl, hs.touch.below⟩
        all_goals exact SxDone.mk fun w' hs => ⟨rfl, hs.touch.below⟩
    · have hRS := fun (w : World) => RSame_any [] [] none none 0 0 w (Rd_nil w) (Rd_nil w)
      rw [decide_eq_true rfl] at hRS
      have hBC := BChunk_any l (by omega) i
      have hRC := RChunk_any l (by omega) i
      have hcv : chunkV l i = ([], 110) := by unfold chunkV; rw [if_neg hok]
      unfold rchunkV at hRC
      rw [hcv] at hBC hRC
      have hS := fun (w : World) => RHSame_any 0 0 [] [] none none 0 0 w (Rd_nil w) (Rd_nil w) (by decide)
      rw [decide_eq_true (show sameP _ _ _ _ from ⟨rfl, rfl⟩)] at hS
      refine SxCall.quiet (fun w => (BHead_any l (by omega) w).mono fun e w' h => h.2 hok) ?_
      ((try refine sx_use ?_); (repeat (refine SxNew.mk fun _ => ?_; (try refine sx_use ?_))))
      refine SxCall.quiet (fun w => (RHead_any l (by omega) w).mono fun e w' h => h.2 hok) ?_
      ((try refine sx_use ?_); (repeat (refine SxNew.mk fun _ => ?_; (try refine sx_use ?_))))
      refine SxCall.quiet hBC ?_
      ((try refine sx_use ?_); (repeat (refine SxNew.mk fun _ => ?_; (try refine sx_use ?_))))
      refine SxCall.quiet hRC ?_
      ((try refine sx_use ?_); (repeat (refine SxNew.mk fun _ => ?_; (try refine sx_use ?_))))
      refine SxCall.quiet (fun w => (BChunks_any l (by omega) w).mono fun e w' h => h.2 fun ha => hok ha.1) ?_
      ((try refine sx_use ?_); (repeat (refine SxNew.mk fun _ => ?_; (try refine sx_use ?_))))
      refine SxCall.quiet (fun w => (RChunks_any l (by omega) w).mono fun e w' h => h.2 fun ha => hok ha.1) ?_
      ((try refine sx_use ?_); (repeat (refine SxNew.mk fun _ => ?_; (try refine sx_use ?_))))
      refine SxCall.quiet hS ?_
      ((try refine sx_use ?_); (repeat (refine SxNew.mk fun _ => ?_; (try refine sx_use ?_))))
      refine SxRun.bNe Try.underlying4 ?_
      ((try refine sx_use ?_); (repeat (refine SxNew.mk fun _ => ?_; (try refine sx_use ?_))))
      refine SxIf.nt (SxIf.strT rfl ?_)
      ((try refine sx_use ?_); (repeat (refine SxNew.mk fun _ => ?_; (try refine sx_use ?_))))
      refine SxRun.bNe Try.underlying4 ?_
      ((try refine sx_use ?_); (repeat (refine SxNew.mk fun _ => ?_; (try refine sx_use ?_))))
      refine SxCall.quiet hRS ?_
      ((try refine sx_use ?_); (repeat (refine SxNew.mk fun _ => ?_; (try refine sx_use ?_))))
      refine SxRun.bNe Try.underlying4 ?_
      ((try refine sx_use ?_); (repeat (refine SxNew.mk fun _ => ?_; (try refine sx_use ?_))))
      refine SxCall.quiet awake_any ?_
      ((try refine sx_use ?_); (repeat (refine SxNew.mk fun _ => ?_; (try refine sx_use ?_))))
      exact SxDone.mk fun w' hs => ⟨rfl, hs.touch.below⟩
  · rw [mk_size] at h
    have hl : l.length ≤ 20000 := by omega
    ((try refine sx_use ?_); (repeat (refine SxNew.mk fun _ => ?_; (try refine sx_use ?_))))
    by_cases hok : headOk l
    · have hc := (headFacts hok).cnt
      refine SxCall.newRow (v := fun ao cap => .tuple #[hdV (idN l) ao (cntP l) cap, .int .i64 0]) (fun w _ => (BHead_any l (by omega) w).mono fun e w' h => h.1 hok) fun ao cap => ?_
      ((try refine sx_use ?_); (repeat (refine SxNew.mk fun _ => ?_; (try refine sx_use ?_))))
      refine SxCall.newRow (v := fun ao cap => .tuple #[hdV (idN l) ao (cntP l) cap, .bool true]) (fun w _ => (RHead_any l (by omega) w).mono fun e w' h => h.1 hok) fun bo bcap => ?_
      ((try refine sx_use ?_); (repeat (refine SxNew.mk fun _ => ?_; (try refine sx_use ?_))))
      have hBC := BChunk_any l (by omega) i
      have hRC := RChunk_any l (by omega) i
      have hcv : chunkV l i = slotV l i := by unfold chunkV; rw [if_pos hok]
      unfold rchunkV at hRC
      rw [hcv] at hBC hRC
      have hS := fun (w : World) (h1 : Rd w ao ((slP l (cntP l)).flatMap encS)) (h2 : Rd w bo ((slP l (cntP l)).flatMap encS)) => RHSame_any (idN l) (idN l) (slP l (cntP l)) (slP l (cntP l)) ao bo cap bcap w h1 h2 (by rw [slP_len]; omega)
      rw [slP_len, decide_eq_true (show sameP _ _ _ _ from ⟨rfl, rfl⟩)] at hS
      have hfl : ((slP l (cntP l)).flatMap encS).length ≤ maxLen := by rw [flat_len encS 2 (fun _ => rfl), slP_len]; unfold maxLen; omega
      have hcl : ((chunksL l (cntP l)).map txV).length ≤ maxLen := by rw [List.length_map, chunksL_len]; unfold maxLen; omega
      obtain ⟨t, f, hsv, hf⟩ : ∃ t f, slotV l i = (t, f) ∧ ((¬ (0 ≤ i ∧ i < cntP l) ∧ f = 5) ∨ ((0 ≤ i ∧ i < cntP l) ∧ (f = 0 ∨ f = 110))) := by
        unfold slotV
        split
        · rename_i hr
          split
          · exact ⟨_, _, rfl, .inr ⟨hr, .inl rfl⟩⟩
          · exact ⟨_, _, rfl, .inr ⟨hr, .inr rfl⟩⟩
        · rename_i hr
          exact ⟨_, _, rfl, .inl ⟨hr, rfl⟩⟩
      rw [hsv] at hBC hRC
      refine SxCall.quiet hBC ?_
      ((try refine sx_use ?_); (repeat (refine SxNew.mk fun _ => ?_; (try refine sx_use ?_))))
      refine SxCall.quiet hRC ?_
      ((try refine sx_use ?_); (repeat (refine SxNew.mk fun _ => ?_; (try refine sx_use ?_))))
      by_cases hall : allOk l
      · refine SxCall.newRow (v := fun ao cap => .tuple #[.slice ao (cntP l) cap, .int .i64 0]) (fun w _ => (BChunks_any l (by omega) w).mono fun e w' h => h.1 hall) fun co ccap => ?_
        ((try refine sx_use ?_); (repeat (refine SxNew.mk fun _ => ?_; (try refine sx_use ?_))))
        refine SxCall.newRow (v := fun ao cap => .tuple #[.slice ao (cntP l) cap, .bool true]) (fun w _ => (RChunks_any l (by omega) w).mono fun e w' h => h.1 hall) fun d dcap => ?_
        ((try refine sx_use ?_); (repeat (refine SxNew.mk fun _ => ?_; (try refine sx_use ?_))))
        refine SxCall.quietS (fun w hs => hS w (hs.rowRd 5 rfl hfl) (hs.rowRd 3 rfl hfl)) ?_
        ((try refine sx_use ?_); (repeat (refine SxNew.mk fun _ => ?_; (try refine sx_use ?_))))
        rcases hf with ⟨hr, rfl⟩ | ⟨hr, rfl | rfl⟩
        all_goals
          refine SxRun.bNe Try.underlying4 ?_
          ((try refine sx_use ?_); (repeat (refine SxNew.mk fun _ => ?_; (try refine sx_use ?_))))
          refine SxIf.nt (SxIf.strT rfl ?_)
          ((try refine sx_use ?_); (repeat (refine SxNew.mk fun _ => ?_; (try refine sx_use ?_))))
          refine SxRun.bNe Try.underlying4 ?_
          ((try refine sx_use ?_); (repeat (refine SxNew.mk fun _ => ?_; (try refine sx_use ?_))))
          refine SxCall.quietS (v := .bool true) (fun w hs => by
            have h := RSame_any (chunksL l (cntP l)) (chunksL l (cntP l)) co d ccap dcap w (hs.rowRd 1 rfl hcl) (hs.rowRd 0 rfl hcl)
            rw [chunksL_len, decide_eq_true rfl] at h
            exact h) ?_
          ((try refine sx_use ?_); (repeat (refine SxNew.mk fun _ => ?_; (try refine sx_use ?_))))
          refine SxRun.bNe Try.underlying4 ?_
          ((try refine sx_use ?_); (repeat (refine SxNew.mk fun _ => ?_; (try refine sx_use ?_))))
          refine SxCall.quiet awake_any ?_
          ((try refine sx_use ?_); (repeat (refine SxNew.mk fun _ => ?_; (try refine sx_use ?_))))
        · refine SxIf.dec (fun h => ?_) (fun h => ?_)
          · ((try refine sx_use ?_); (repeat (refine SxNew.mk fun _ => ?_; (try refine sx_use ?_))))
            exact SxDone.mk fun w' hs => ⟨rfl, hs.touch.below⟩
          · ((try refine sx_use ?_); (repeat (refine SxNew.mk fun _ => ?_; (try refine sx_use ?_))))
            exact SxDone.mk fun w' hs => ⟨rfl, hs.touch.below⟩
        all_goals exact SxDone.mk fun w' hs => ⟨rfl, hs.touch.below⟩
      · have hRS := fun (w : World) => RSame_any [] [] none none 0 0 w (Rd_nil w) (Rd_nil w)
        rw [decide_eq_true rfl] at hRS
        refine SxCall.quiet (fun w => (BChunks_any l (by omega) w).mono fun e w' h => h.2 hall) ?_
        ((try refine sx_use ?_); (repeat (refine SxNew.mk fun _ => ?_; (try refine sx_use ?_))))
        refine SxCall.quiet (fun w => (RChunks_any l (by omega) w).mono fun e w' h => h.2 hall) ?_
        ((try refine sx_use ?_); (repeat (refine SxNew.mk fun _ => ?_; (try refine sx_use ?_))))
        refine SxCall.quietS (fun w hs => hS w (hs.rowRd 3 rfl hfl) (hs.rowRd 1 rfl hfl)) ?_
        ((try refine sx_use ?_); (repeat (refine SxNew.mk fun _ => ?_; (try refine sx_use ?_))))
        rcases hf with ⟨hr, rfl⟩ | ⟨hr, rfl | rfl⟩
        all_goals
          refine SxRun.bNe Try.underlying4 ?_
          ((try refine sx_use ?_); (repeat (refine SxNew.mk fun _ => ?_; (try refine sx_use ?_))))
          refine SxIf.nt (SxIf.strT rfl ?_)
          ((try refine sx_use ?_); (repeat (refine SxNew.mk fun _ => ?_; (try refine sx_use ?_))))
          refine SxRun.bNe Try.underlying4 ?_
          ((try refine sx_use ?_); (repeat (refine SxNew.mk fun _ => ?_; (try refine sx_use ?_))))
          refine SxCall.quiet hRS ?_
          ((try refine sx_use ?_); (repeat (refine SxNew.mk fun _ => ?_; (try refine sx_use ?_))))
          refine SxRun.bNe Try.underlying4 ?_
          ((try refine sx_use ?_); (repeat (refine SxNew.mk fun _ => ?_; (try refine sx_use ?_))))
          refine SxCall.quiet awake_any ?_
          ((try refine sx_use ?_); (repeat (refine SxNew.mk fun _ => ?_; (try refine sx_use ?_))))
        · refine SxIf.dec (fun h => ?_) (fun h => ?_)
          · ((try refine sx_use ?_); (repeat (refine SxNew.mk fun _ => ?_; (try refine sx_use ?_))))
            exact SxDone.mk fun w' hs => ⟨rfl, hs.touch.below⟩
          · ((try refine sx_use ?_); (repeat (refine SxNew.mk fun _ => ?_; (try refine sx_use ?_))))
            exact SxDone.mk fun w' hs => ⟨rfl, hs.touch.below⟩
        all_goals exact SxDone.mk fun w' hs => ⟨rfl, hs.touch.below⟩
    · have hRS := fun (w : World) => RSame_any [] [] none none 0 0 w (Rd_nil w) (Rd_nil w)
      rw [decide_eq_true rfl] at hRS
      have hBC := BChunk_any l (by omega) i
      have hRC := RChunk_any l (by omega) i
      have hcv : chunkV l i = ([], 110) := by unfold chunkV; rw [if_neg hok]
      unfold rchunkV at hRC
      rw [hcv] at hBC hRC
      have hS := fun (w : World) => RHSame_any 0 0 [] [] none none 0 0 w (Rd_nil w) (Rd_nil w) (by decide)
      rw [decide_eq_true (show sameP _ _ _ _ from ⟨rfl, rfl⟩)] at hS
      refine SxCall.quiet (fun w => (BHead_any l (by omega) w).mono fun e w' h => h.2 hok) ?_
      ((try refine sx_use ?_); (repeat (refine SxNew.mk fun _ => ?_; (try refine sx_use ?_))))
      refine SxCall.quiet (fun w => (RHead_any l (by omega) w).mono fun e w' h => h.2 hok) ?_
      ((try refine sx_use ?_); (repeat (refine SxNew.mk fun _ => ?_; (try refine sx_use ?_))))
      refine SxCall.quiet hBC ?_
      ((try refine sx_use ?_); (repeat (refine SxNew.mk fun _ => ?_; (try refine sx_use ?_))))
      refine SxCall.quiet hRC ?_
      ((try refine sx_use ?_); (repeat (refine SxNew.mk fun _ => ?_; (try refine sx_use ?_))))
      refine SxCall.quiet (fun w => (BChunks_any l (by omega) w).mono fun e w' h => h.2 fun ha => hok ha.1) ?_
      ((try refine sx_use ?_); (repeat (refine SxNew.mk fun _ => ?_; (try refine sx_use ?_))))
      refine SxCall.quiet (fun w => (RChunks_any l (by omega) w).mono fun e w' h => h.2 fun ha => hok ha.1) ?_
      ((try refine sx_use ?_); (repeat (refine SxNew.mk fun _ => ?_; (try refine sx_use ?_))))
      refine SxCall.quiet hS ?_
      ((try refine sx_use ?_); (repeat (refine SxNew.mk fun _ => ?_; (try refine sx_use ?_))))
      refine SxRun.bNe Try.underlying4 ?_
      ((try refine sx_use ?_); (repeat (refine SxNew.mk fun _ => ?_; (try refine sx_use ?_))))
      refine SxIf.nt (SxIf.strT rfl ?_)
      ((try refine sx_use ?_); (repeat (refine SxNew.mk fun _ => ?_; (try refine sx_use ?_))))
      refine SxRun.bNe Try.underlying4 ?_
      ((try refine sx_use ?_); (repeat (refine SxNew.mk fun _ => ?_; (try refine sx_use ?_))))
      refine SxCall.quiet hRS ?_
      ((try refine sx_use ?_); (repeat (refine SxNew.mk fun _ => ?_; (try refine sx_use ?_))))
      refine SxRun.bNe Try.underlying4 ?_
      ((try refine sx_use ?_); (repeat (refine SxNew.mk fun _ => ?_; (try refine sx_use ?_))))
      refine SxCall.quiet awake_any ?_
      ((try refine sx_use ?_); (repeat (refine SxNew.mk fun _ => ?_; (try refine sx_use ?_))))
      exact SxDone.mk fun w' hs => ⟨rfl, hs.touch.below⟩
end Go.Proofs.Ytdhdminocboipaa
