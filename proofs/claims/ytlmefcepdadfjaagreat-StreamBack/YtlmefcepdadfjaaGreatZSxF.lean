/- A symbolic walk: a stretch of code. No program is named here. -/
import Derived.Test.YtlmefcepdadfjaaGreatZSxE
namespace Go.Proofs.YtlmefcepdadfjaaGreat
open Go.RowKit

theorem places_of {S : Sx} : ∀ (fs : List Field), (fs.map fun (f : Field) => (f.offset, f.type)).all (fun f => (S.sz f.2).isSome) = true → fs.mapM (fun f => (S.P.info? f.type).map fun i => (f.offset, i.size)) = some (fs.map fun f => (f.offset, (S.sz f.type).getD 0))
  | [], _ => rfl
  | f :: fs, h => by
    simp only [List.map_cons, List.all_cons, Bool.and_eq_true] at h
    obtain ⟨n, hn⟩ := Option.isSome_iff_exists.1 h.1
    obtain ⟨x, h1, h2⟩ := Sx.siz hn
    rw [List.mapM_cons, places_of fs h.2]
    simp [h1, h2, hn]
theorem extract_sub (cs : Array Value) (off n : Nat) : cs.extract off (off + n) = ((cs.toList.drop off).take n).toArray := by
  apply Array.ext'
  simp [Array.toList_extract, List.extract_eq_take_drop]
section
variable {S : Sx}
theorem part_agg {t : Nat} {i : TInf} (hi : tl S.T t = some i) (hag : isAggD i.d = true) (cs : Array Value) (off : Nat) (w : World) : (part t cs off).run S.P w = .ok (.agg ((cs.toList.drop off).take i.size).toArray) w := by
  simp [part, run_agg hi w, hag, run_size' hi w, extract_sub]
theorem part_one {t : Nat} {i : TInf} (hi : tl S.T t = some i) (hag : isAggD i.d = false) (cs : Array Value) (off : Nat) (v : Value) (hv : cs.toList[off]? = some v) (w : World) : (part t cs off).run S.P w = .ok v w := by
  rw [Array.getElem?_toList] at hv
  simp [part, run_agg hi w, hag, hv]
end
section
variable {S : Sx} {W : World} {M : List Nat} {N : Nat} {F : Fr} {H : Hp} {A : Value → Hp → Prop} {a : Act} {w : World}
theorem sxOp_sound {o : Oper} (h : sxOp S W M N o F H A) (ha : Agree N F a) (hs : Sat W M H w) (Q : Exit → Act → World → Prop) : o.wp S.P a w (OpK W M o a A) Q := by
  obtain ⟨dst, op, ty, pos, after, guard⟩ := o
  cases op
  case move x =>
    simp only [sxOp] at h
    split at h
    · rename_i v hv; exact op_value (w' := w) (by simp [execOp, ev_eval ha hv]) hs h
    · exact h.elim
  case assign x =>
    simp only [sxOp] at h
    split at h
    · rename_i v hv; exact op_value (w' := w) (by simp [execOp, ev_eval ha hv]) hs h
    · exact h.elim
  case pick c x y =>
    simp only [sxOp] at h
    split at h
    · rename_i t ht
      cases h with
      | mk h1 h2 =>
        cases t with
        | true =>
          have h := h1 rfl
          split at h
          · rename_i v hv; exact op_value (w' := w) (by simp [execOp, ev_eval ha ht, ev_eval ha hv, asBool]) hs h
          · exact h.elim
        | false =>
          have h := h2 rfl
          split at h
          · rename_i v hv; exact op_value (w' := w) (by simp [execOp, ev_eval ha ht, ev_eval ha hv, asBool]) hs h
          · exact h.elim
    · exact h.elim
  case binOp b t x y yt =>
    simp only [sxOp] at h
    split at h
    · rename_i u v hu hv
      obtain ⟨r, hr, hrun⟩ := sxBin_run h
      have := hrun w
      exact op_value (w' := w) (by simp only [execOp, ev_eval ha hu, ev_eval ha hv]; rw [Sem.run_bind, this]; rfl) hs hr
    · exact h.elim
  case unOp b t x =>
    simp only [sxOp] at h
    split at h
    · rename_i b hb; exact op_value (w' := w) (by simp [execOp, ev_eval ha hb, Op.unary]) hs h
    · rename_i v hv
      cases h with | mk r hr h => exact op_value (w' := w) (by simp [execOp, ev_eval ha hv, hr w]) hs h
    · exact h.elim
  case convert src dst' x =>
    simp only [sxOp] at h
    split at h
    · rename_i v hv
      obtain ⟨r, H', w', hA, hs', hr⟩ := conv_get h hs
      exact op_value (w' := w') (by simp [execOp, ev_eval ha hv, hr]) hs' hA
    · exact h.elim
  case alloc t =>
    simp only [sxOp] at h
    split at h
    · rename_i d0 n0 b0 z0 hi
      cases hrow : S.rows.any (Nat.beq t) with
      | false =>
        rw [hrow] at h
        obtain ⟨h⟩ := h
        refine op_value (w' := w.alloc (.cells z0.cells t)) ?_ (hs.cons (new_grown w _) (e := .blk w.heap.size t z0.cells.toList) (Blk.new w z0.cells t) (fun g hg => by simp only [Ent.uses] at hg; omega)) (h w.heap.size)
        simp [execOp, Instr.alloc, run_zero hi, newVar, newRow]
      | true =>
        rw [hrow] at h
        obtain ⟨h1, ⟨h⟩⟩ := h
        have hown : (Ent.row (some ⟨w.heap.size, 0, none⟩) 1 1 t n0 z0.cells.toList).Holds (w.alloc (.cells z0.cells t)) :=
          ⟨by simp [h1], .inr ⟨w.heap.size, 1, z0.cells, rfl, Nat.zero_le _, heap_alloc_new w _, Nat.le_refl _, by unfold maxLen; omega, by simp [h1], by rw [List.take_of_length_le (by simp [h1])]⟩⟩
        refine op_value (w' := w.alloc (.cells z0.cells t)) ?_ (hs.cons (new_grown w _) hown (fun g hg => by simp only [Ent.uses, Option.map_some, Option.some.injEq] at hg; omega)) (h w.heap.size)
        simp [execOp, Instr.alloc, run_zero hi, newVar, newRow]
    · exact h.elim
  case box t x =>
    simp only [sxOp] at h
    split at h
    · rename_i v hv
      obtain ⟨h⟩ := h
      refine op_value (w' := w.alloc (.cells v.cells t)) ?_ (hs.cons (new_grown w _) (e := .blk w.heap.size t v.cells.toList) (Blk.new w v.cells t) (fun g hg => by simp only [Ent.uses] at hg; omega)) (h w.heap.size)
      simp [execOp, Instr.box, ev_eval ha hv, newVar, newRow]
    · exact h.elim
  case build t ps =>
    simp only [sxOp] at h
    split at h
    · rename_i d0 n0 b0 z0 vs hi hvs
      have hev := evParts_eval ha hvs
      have hps : (ps.map fun (x : Nat × Operand) => (x.1, a.eval x.2)).toList.map (fun p => (p.1, p.2.cells.toList)) = vs := by rw [← hev]; simp
      split at h
      · rename_i fs
        obtain ⟨l, hl1, hl2⟩ := Sx.ustruct (S := S) (t := t) (fs := fs) (Sx.descOf hi)
        subst hl2
        cases hall : (l.toList.map fun (f : Field) => (f.offset, f.type)).all (fun f => (S.sz f.2).isSome) with
        | false => rw [hall] at h; exact h.elim
        | true =>
          rw [hall] at h
          simp only [cond_true] at h
          rw [← hps] at h
          have hpl : ∀ j x, placeF S (l.toList.map fun (f : Field) => (f.offset, f.type)) j = some x → Option.map (fun f => (f.offset, (S.sz f.type).getD 0)) l[j]? = some x := by
            intro j x hx
            unfold placeF at hx
            split at hx
            · rename_i fo ft hf
              rw [nthF_eq, List.getElem?_map, Array.getElem?_toList] at hf
              obtain ⟨y, hy1, hy2⟩ := Option.map_eq_some_iff.1 hf
              simp only [Prod.mk.injEq] at hy2
              obtain ⟨rfl, rfl⟩ := hy2
              split at hx
              · rename_i n hn
                rw [← Option.some.inj hx, hy1]
                simp [hn]
              · cases hx
            · cases hx
          obtain ⟨cs', hA, _, hf⟩ := SxFill.get (place' := fun j => Option.map (fun f => (f.offset, (S.sz f.type).getD 0)) l[j]?) hpl _ _ h
          refine op_value (w' := w) ?_ hs hA
          simp only [Array.toArray_toList, Array.toList_map] at hf
          simp [execOp, Instr.build, run_zero hi, run_underlying hl1, Array.mapM_eq_mapM_toList, run_places w _ _ (places_of l.toList hall), hf]
      · rename_i n e
        split at h
        · rename_i k hk
          rw [← hps] at h
          obtain ⟨cs', hA, _, hf⟩ := SxFill.get (place' := fun j => some (j * k, k)) (fun _ _ h => h) _ _ h
          refine op_value (w' := w) ?_ hs hA
          simp only [Array.toArray_toList, Array.toList_map] at hf
          have hu := Sx.uarr (S := S) (t := t) (n := n) (e := e) (Sx.descOf hi)
          simp [execOp, Instr.build, run_zero hi, run_underlying hu, run_size hk, hf]
        · exact h.elim
      · exact h.elim
    · exact h.elim
  case buildSlice t n ps =>
    simp only [sxOp] at h
    split at h
    · rename_i e vs hd hvs
      have hev := evParts_eval ha hvs
      have hps : (ps.map fun (x : Nat × Operand) => (x.1, a.eval x.2)).toList.map (fun p => (p.1, p.2.cells.toList)) = vs := by rw [← hev]; simp
      split at h
      · rename_i d0 n0 b0 z0 hi
        cases h with
        | mk h0 h =>
          obtain ⟨h0, hz, hk⟩ := h0
          rw [← hps] at h
          obtain ⟨cs', hA, hl, hf⟩ := SxFill.get (place' := fun j => some (j * n0, n0)) (fun _ _ h => h) _ _ h
          have hz' : z0.cells.toList.length = n0 := by simpa using hz
          rw [zerosL_length, hz'] at hl
          obtain ⟨hA⟩ := hA
          simp only [Array.toList_map] at hf
          rw [← made_zeros z0.cells n0 n hz hk] at hf
          have hm : n ≤ maxLen := by rw [maxLen_val]; have := Nat.le_mul_of_pos_right n hk; omega
          have hown : (Ent.row (some ⟨w.heap.size, 0, none⟩) n n e n0 cs').Holds (w.alloc (.cells cs'.toArray e)) := by
            refine ⟨hl, .inr ⟨w.heap.size, n, cs'.toArray, rfl, Nat.zero_le _, heap_alloc_new w _, Nat.le_refl _, hm, by simpa using hl, ?_⟩⟩
            rw [List.toList_toArray, ← hl, List.take_length]
          refine op_value (w' := w.alloc (.cells cs'.toArray e)) ?_ (hs.cons (new_grown w _) hown (fun g hg => by simp only [Ent.uses, Option.map_some, Option.some.injEq] at hg; omega)) (hA w.heap.size)
          have h24 : ¬ (16777216 < n * n0) := by omega
          by_cases hn : n * n0 = 0
          · have hn0 : n = 0 := by rcases Nat.mul_eq_zero.1 hn with h | h <;> omega
            subst hn0
            have hz0 : (Array.range (0 * n0)).map (z0.cells[· % z0.cells.size]!) = #[] := by simp
            rw [hz0] at hf
            simp [execOp, Instr.buildSlice, run_sl hd, run_size' hi, hf, newRow, Array.range_zero']
          · simp [execOp, Instr.buildSlice, run_sl hd, run_size' hi, h24, hn, run_zero hi, hf, newRow]
      · exact h.elim
    · exact h.elim
  case load t x =>
    simp only [sxOp] at h
    split at h
    · rename_i d0 n0 b0 z0 g off hi hx
      cases hag : isAggD d0 with
      | true =>
        rw [hag] at h
        simp only [cond_true] at h
        obtain ⟨vs, hA, hl, hc⟩ := h.get hs
        refine op_value (w' := w) ?_ hs hA
        have := run_loadVar_many (P := S.P) (by rw [run_agg hi w, hag]) (run_size' hi w) hl hc
        simp [execOp, Instr.loadAt, Instr.sureAddr, ev_eval ha hx, this]
      | false =>
        rw [hag] at h
        simp only [cond_false] at h
        obtain ⟨v, hA, hc⟩ := h.get hs
        refine op_value (w' := w) ?_ hs hA
        have := run_loadVar_one (P := S.P) (by rw [run_agg hi w, hag]) hc
        simp [execOp, Instr.loadAt, Instr.sureAddr, ev_eval ha hx, this]
    · exact h.elim
  case store t x y =>
    simp only [sxOp] at h
    split at h
    · rename_i k g off v hk hx hy
      cases h with
      | mk h0 h =>
        obtain ⟨w', H', hr, hs', hA⟩ := h.get (P := S.P) hs
        refine op_skip (w' := w') ?_ hs' hA
        have := run_storeVar_of (run_size hk w) h0 hr
        simp [execOp, Instr.storeAt, Instr.sureAddr, ev_eval ha hx, ev_eval ha hy, this]
    · exact h.elim
  case fieldAddr t x f =>
    simp only [sxOp] at h
    split at h
    · rename_i fs g off hd hx
      split at h
      · rename_i d n hp
        cases hn : Nat.blt 0 n with
        | false => rw [hn] at h; exact h.elim
        | true =>
          rw [hn] at h
          have hn' : n ≠ 0 := by have : 0 < n := by simpa using hn
                                 omega
          obtain ⟨l, hl1, hl2⟩ := Sx.ustruct hd
          subst hl2
          unfold placeF at hp
          split at hp
          · rename_i fo ft hf
            rw [nthF_eq, List.getElem?_map, Array.getElem?_toList] at hf
            obtain ⟨y, hy1, hy2⟩ := Option.map_eq_some_iff.1 hf
            simp only [Prod.mk.injEq] at hy2
            obtain ⟨rfl, rfl⟩ := hy2
            split at hp
            · rename_i k hk
              simp only [Option.some.injEq, Prod.mk.injEq] at hp
              obtain ⟨rfl, rfl⟩ := hp
              refine op_value (w' := w) ?_ hs h
              simp [execOp, Instr.fieldAt, run_underlying hl1, hy1, ev_eval ha hx, Instr.sureAddr, fieldPlace, run_size hk, hn', Addr.add_lit]
            · cases hp
          · cases hp
      · exact h.elim
    · exact h.elim
  case nilCheck x =>
    simp only [sxOp] at h
    split at h
    · rename_i ad hx; exact op_value (w' := w) (by simp [execOp, ev_eval ha hx]) hs h
    · rename_i f first captured hx; exact op_value (w' := w) (by simp [execOp, ev_eval ha hx]) hs h
    · exact h.elim
  case indexAddr t x ix =>
    simp only [sxOp] at h
    split at h
    · rename_i e ao n cap kk i hd hx hix
      split at h
      · rename_i k hk
        have main : ∀ (j g off : Nat), i = j → j < n → ao = some ⟨g, off, none⟩ → A (.pointer (some ⟨g, off + j * k, none⟩)) H → Oper.wp S.P ⟨dst, .indexAddr t x ix, ty, pos, after, guard⟩ a w (OpK W M ⟨dst, .indexAddr t x ix, ty, pos, after, guard⟩ a A) Q := by
          rintro j g off rfl hj rfl hA
          refine op_value (w' := w) ?_ hs hA
          have h0 : (0 : Int) ≤ (j : Int) ∧ (j : Int) < (n : Int) := by omega
          simp [execOp, Instr.indexAt, asIntOf, run_sl hd, ev_eval ha hx, ev_eval ha hix, hj, run_size hk, Addr.add_lit]
        cases h with
        | rd p cs hp j h1 hj hc h =>
          have hr := hs.rd p hp
          obtain ⟨g, off, he, _⟩ := hr.2 (by omega)
          exact main j g off h1 hj he (h g off he)
        | row p cap' e' cs hp j h1 hj h =>
          have hr := hs.row p hp
          rcases hr.2 with ⟨_, h0⟩ | ⟨g, c, cur, he, _⟩
          · omega
          · simp only [Value.slice.injEq] at he
            exact main j g 0 h1 hj he.1 (h g he.1)
        | ptr g off he j h1 hj h => exact main j g off h1 hj he h
        | any cs hx' j h1 hj hc h =>
          obtain ⟨g, off, he, _⟩ := (hx' W M w hs).2 (by omega)
          exact main j g off h1 hj he (h g off he)
      · exact h.elim
    · rename_i n e g off kk i hd hx hix
      split at h
      · rename_i k hk
        cases h with
        | mk j h1 hj h =>
          subst h1
          refine op_value (w' := w) ?_ hs h
          simp [execOp, Instr.indexAt, asIntOf, run_arr hd, ev_eval ha hx, ev_eval ha hix, hj, run_size hk, Instr.sureAddr, Addr.add_lit]
      · exact h.elim
    · exact h.elim
  case index t x ix =>
    simp only [sxOp] at h
    split at h
    · rename_i s kk i hd hx hix
      cases h with
      | mk j h1 hj h =>
        subst h1
        refine op_value (w' := w) ?_ hs h
        have hsz : j < s.data.toList.length := by simpa using hj
        have hget : s[j]? = some s[j] := by simp [hj]
        have hb : s.data.toList.getD j 0 = s[j] := by
          have hsz2 : j < s.data.size := by simpa using hsz
          simp only [List.getD, Array.getElem?_toList]
          rw [Array.getElem?_eq_getElem hsz2]; rfl
        simp only [hb]
        simp [execOp, Instr.index, asIntOf, run_str hd, ev_eval ha hx, ev_eval ha hix, hj]
    · rename_i n e cs kk i hd hx hix
      split at h
      · rename_i d0 n0 b0 z0 hu
        cases h with
        | mk j h1 hj h =>
          subst h1
          cases hag : isAggD d0 with
          | true =>
            rw [hag] at h
            simp only [cond_true] at h
            cases h with
            | mk hl hv h =>
              refine op_value (w' := w) ?_ hs h
              simp [execOp, Instr.index, asIntOf, run_arr hd, ev_eval ha hx, ev_eval ha hix, hj, run_size' hu, part_agg hu hag, hv]
          | false =>
            rw [hag] at h
            simp only [cond_false] at h
            cases h with
            | mk hv h =>
              refine op_value (w' := w) ?_ hs h
              simp [execOp, Instr.index, asIntOf, run_arr hd, ev_eval ha hx, ev_eval ha hix, hj, run_size' hu, part_one hu hag _ _ _ hv]
      · exact h.elim
    · exact h.elim
  case field t x f =>
    simp only [sxOp] at h
    split at h
    · rename_i fs cs hd hx
      split at h
      · rename_i fo ft hf
        obtain ⟨l, hl1, hl2⟩ := Sx.ustruct hd
        subst hl2
        rw [nthF_eq, List.getElem?_map, Array.getElem?_toList] at hf
        obtain ⟨y, hy1, hy2⟩ := Option.map_eq_some_iff.1 hf
        simp only [Prod.mk.injEq] at hy2
        obtain ⟨rfl, rfl⟩ := hy2
        split at h
        · rename_i d0 n0 b0 z0 hu
          cases hag : isAggD d0 with
          | true =>
            rw [hag] at h
            simp only [cond_true] at h
            cases h with
            | mk hl hv h =>
              refine op_value (w' := w) ?_ hs h
              simp [execOp, Instr.field, run_underlying hl1, ev_eval ha hx, hy1, asAgg, part_agg hu hag, hv]
          | false =>
            rw [hag] at h
            simp only [cond_false] at h
            cases h with
            | mk hv h =>
              refine op_value (w' := w) ?_ hs h
              simp [execOp, Instr.field, run_underlying hl1, ev_eval ha hx, hy1, asAgg, part_one hu hag _ _ _ hv]
        · exact h.elim
      · exact h.elim
    · exact h.elim
  case extract x i =>
    simp only [sxOp] at h
    split at h
    · rename_i vs hv
      split at h
      · rename_i v hn
        rw [nthV_eq, Array.getElem?_toList] at hn
        exact op_value (w' := w) (by simp [execOp, ev_eval ha hv, Instr.extract, hn]) hs h
      · exact h.elim
    · exact h.elim
  case slice t x lo hi mx =>
    cases mx with
    | some m => simp only [sxOp] at h; cases h with | mk h => exact h a w Q ha hs
    | none =>
      simp only [sxOp] at h
      split at h
      · rename_i v hv
        obtain ⟨r, hA, hr⟩ := slice_get (N := N) h
        exact op_value (w' := w) (by simp [execOp, ev_eval ha hv, hr a ha w]) hs hA
      · exact h.elim
  case makeSlice t x y =>
    simp only [sxOp] at h
    split at h
    · rename_i e l c hd hx hy
      split at h
      · rename_i d0 n0 b0 z0 hi
        cases h with
        | mk p q h1 h2 h3 h4 h =>
          cases h with
          | mk h0 h =>
            obtain ⟨hb, hz, hk⟩ := h0
            obtain ⟨h⟩ := h
            subst h1
            subst h2
            obtain ⟨z, hz0, hz1, hz2, hz3⟩ := Sx.info hi
            have hm : (b0 : Int) * (q : Int) ≤ 281474976710656 := by
              have h : ((q * b0 : Nat) : Int) ≤ 281474976710656 := by omega
              rw [Int.natCast_mul, Int.mul_comm] at h
              exact h
            rw [maxLen_val] at h4
            have hr := run_make (P := S.P) w t e z z0 (Sx.usl hd) hz0 hz1 .i64 .i64 p q (by omega) (by omega) (by rw [hz3]; exact hm) (by omega)
            simp only [Int.toNat_natCast, hz2] at hr
            have hz' : z0.cells.toList.length = n0 := by simpa using hz
            have hmade : madeCells z0.cells (q * n0) = (zerosL z0.cells.toList q).toArray := made_zeros _ _ _ hz hk
            rw [hmade] at hr
            have hown : (Ent.row (some ⟨w.heap.size, 0, none⟩) p q e n0 (zerosL z0.cells.toList p)).Holds (w.alloc (.cells (zerosL z0.cells.toList q).toArray e)) := by
              refine ⟨by rw [zerosL_length, hz'], .inr ⟨w.heap.size, q, _, rfl, Nat.zero_le _, heap_alloc_new w _, h3, by rw [maxLen_val]; exact h4, by rw [List.size_toArray, zerosL_length, hz'], ?_⟩⟩
              rw [List.toList_toArray]
              exact zerosL_take _ p q _ hz' h3
            exact op_value (w' := w.alloc (.cells (zerosL z0.cells.toList q).toArray e)) (by simp [execOp, ev_eval ha hx, ev_eval ha hy, hr]) (hs.cons (new_grown w _) hown (fun g hg => by simp only [Ent.uses, Option.map_some, Option.some.injEq] at hg; omega)) (h w.heap.size)
      · exact h.elim
    · exact h.elim
  case makeFunc fn first captured =>
    simp only [sxOp] at h
    split at h
    · rename_i u v hu hv
      have h1 : first.map a.eval = u.toArray := by apply Array.ext'; rw [Array.toList_map, evs_eval ha hu]
      have h2 : captured.map a.eval = v.toArray := by apply Array.ext'; rw [Array.toList_map, evs_eval ha hv]
      exact op_value (w' := w) (by simp [execOp, Instr.makeFunc, h1, h2]) hs h
    · exact h.elim
  case call c =>
    obtain ⟨callee, args, tys⟩ := c
    simp only [sxOp] at h
    split at h
    · rename_i b vs hvs
      cases hus : useSem b vs with
      | true =>
        rw [hus] at h
        simp only [cond_true] at h
        cases h with | mk h => exact h a w Q ha hs
      | false =>
        rw [hus] at h
        simp only [cond_false] at h
        have hargs : args.map a.eval = vs.toArray := by apply Array.ext'; rw [Array.toList_map, evs_eval ha hvs]
        obtain ⟨r, H', w', hA, hs', hr⟩ := builtin_get ty h hs (args.map fun | .const _ => true | _ => false)
        exact op_value (w' := w') (by simp only [Array.toArray_toList] at hr; simp [execOp, resolve, invoke, hargs]; exact hr) hs' hA
    · rename_i f vs hvs
      have hargs : args.map a.eval = vs.toArray := by apply Array.ext'; rw [Array.toList_map, evs_eval ha hvs]
      split at h
      · rename_i fv hf
        unfold sxCallee at h
        split at h
        · rename_i n first captured
          cases hn : S.fns.any (Nat.beq n) with
          | false =>
            rw [hn] at h
            simp only [cond_false] at h
            have h : SxExt S W M n (first ++ vs.toArray ++ captured) H A := by
              split at h
              · rename_i h1 h2
                have e1 : first = #[] := by apply Array.ext'; exact h1
                have e2 : captured = #[] := by apply Array.ext'; exact h2
                rw [e1, e2]
                simpa using h
              · have e : (first.toList ++ vs ++ captured.toList).toArray = first ++ vs.toArray ++ captured := by apply Array.ext'; simp
                rw [e] at h
                exact h
            cases h with
            | mk v h hA =>
              refine op_value (w' := w) ?_ hs hA
              rw [← h w hs]
              simp [execOp, resolve, invoke, ev_eval ha hf, Deferred.ofValue, hargs]
          | true =>
            rw [hn] at h
            simp only [cond_true] at h
            have h : SxCall S W M n (first ++ vs.toArray ++ captured) H A := by
              split at h
              · rename_i h1 h2
                have e1 : first = #[] := by apply Array.ext'; exact h1
                have e2 : captured = #[] := by apply Array.ext'; exact h2
                rw [e1, e2]
                simpa using h
              · have e : (first.toList ++ vs ++ captured.toList).toArray = first ++ vs.toArray ++ captured := by apply Array.ext'; simp
                rw [e] at h
                exact h
            cases h with
            | mk h =>
              have hm : n ∈ S.fns := by
                obtain ⟨m, hm, he⟩ := List.any_eq_true.1 hn
                rw [Nat.eq_of_beq_eq_true he]; exact hm
              have hok := List.all_eq_true.1 S.fnsOk n hm
              cases hfn : S.P.funcs[n]? with
              | none => rw [hfn] at hok; cases hok
              | some fn =>
                rw [hfn] at hok
                simp only [Bool.and_eq_true, Bool.not_eq_true'] at hok
                unfold Oper.wp execOp
                simp only [resolve, invoke, Sem.run_bind, Sem.run_pure, Result.andThen_ok, ev_eval ha hf, Deferred.ofValue, callFunc, run_program, hfn, hok.1, hok.2, Bool.false_eq_true, if_false, Oper.upon, hargs]
                refine Calls.mono (h w hs) fun e w' he => ?_
                obtain ⟨v, H', rfl, hs', hA⟩ := he
                exact ⟨v, H', rfl, hs', hA⟩
        · exact h.elim
      · exact h.elim
    · exact h.elim
  all_goals (simp only [sxOp] at h; cases h with | mk h => exact h a w Q ha hs)
end
end Go.Proofs.YtlmefcepdadfjaaGreat
