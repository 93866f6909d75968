/- Layer 19: Segment. -/
import Derived.Test.YtlmefcepdadfjaaGreatZMtD
namespace Go.Proofs.YtlmefcepdadfjaaGreat
open Go.RowKit

section
variable (cs : List ByteArray) (kn : List En) (tl : Nat → ByteArray × Bool)
def pK (c : ByteArray) (i : Nat) : Bool := match kn[i]? with
  | some x => okT x (tl i) c
  | none => false
def pO (c : ByteArray) (i : Nat) : Bool := decide (cs[i]? = some c)
def stepG (s : List (Int × Int) × List (Nat × Fq)) (k : Nat) (c : ByteArray) : List (Int × Int) × List (Nat × Fq) :=
  let a := atL (pK kn tl c) (idxs (psK kn) (bFq c))
  let x := (a, if a = -1 then atL (pO cs c) (idxs s.2 (bFq c)) else -1)
  (s.1 ++ [x], if freshB x then s.2 ++ [(k, bFq c)] else s.2)
def segG : Nat → List (Int × Int) × List (Nat × Fq)
  | 0 => ([], [])
  | k + 1 => match cs[k]? with
    | some c => stepG cs kn tl (segG k) k c
    | none => segG k
theorem segG_len : ∀ k, k ≤ cs.length → (segG cs kn tl k).1.length = k
  | 0, _ => rfl
  | k + 1, h => by
    obtain ⟨c, hc⟩ : ∃ c, cs[k]? = some c := ⟨cs[k], by simp [show k < cs.length by omega]⟩
    unfold segG
    rw [hc]
    show ((segG cs kn tl k).1 ++ [_]).length = _
    rw [List.length_append, segG_len k (by omega)]; rfl
theorem segG_pos : ∀ (k i : Nat) (q : Fq), (i, q) ∈ (segG cs kn tl k).2 → i < k
  | 0, i, q, h => by simp [segG] at h
  | k + 1, i, q, h => by
    unfold segG at h
    split at h
    · rename_i c _
      have h2 : ∀ b : Bool, (i, q) ∈ (if b = true then (segG cs kn tl k).2 ++ [(k, bFq c)] else (segG cs kn tl k).2) → i < k + 1 := fun b hb => by
        cases b with
        | true =>
          rcases List.mem_append.1 hb with h1 | h1
          · have := segG_pos k i q h1; omega
          · simp only [List.mem_singleton, Prod.mk.injEq] at h1; omega
        | false => have := segG_pos k i q hb; omega
      exact h2 _ h
    · have := segG_pos k i q h; omega
end
theorem segG2_len (cs : List ByteArray) (kn : List En) (tl : Nat → ByteArray × Bool) : ∀ k, (segG cs kn tl k).2.length ≤ k
  | 0 => Nat.le_refl _
  | k + 1 => by
    have ih := segG2_len cs kn tl k
    unfold segG
    split
    · rename_i c _
      have h2 : ∀ b : Bool, (if b = true then (segG cs kn tl k).2 ++ [(k, bFq c)] else (segG cs kn tl k).2).length ≤ k + 1 := fun b => by
        cases b with
        | true => show ((segG cs kn tl k).2 ++ [_]).length ≤ _; rw [List.length_append]; simp; exact ih
        | false => exact Nat.le_succ_of_le ih
      exact h2 _
    · omega
theorem SxCall.weak {S : Sx} {W : World} {M : List Nat} {f : Nat} {args : Array Value} {H H' : Hp} {A : Value → Hp → Prop} (hw : Weak H H') (h : SxCall S W M f args H' A) : SxCall S W M f args H A := by
  cases h with | mk h => exact ⟨fun w hs => h w (hw _ _ _ hs)⟩
theorem freshB_ge {a b : Int} (h : a ≠ -1) (h1 : -1 ≤ a) : freshB (a, b) = false := by
  unfold freshB; rw [decide_eq_false (show ¬ a < 0 by omega)]; rfl
theorem atL_ge (p : Nat → Bool) (l : List Nat) : -1 ≤ atL p l := by
  unfold atL; split <;> omega
theorem SxRun.fEqNil {P : Program} {A : Value → Prop} {t : Nat} {x y : Operand} {n : Nat} {a b : Array Value} {ps rs : Array Nat} {v : Bool} (h : P.underlying t = some (.func ps rs v)) (hA : A (.bool false)) : SxRun P (do eqGuard .eql t x y (.func (.func n) a b) .nilFunc; binOp .eql t (.func (.func n) a b) .nilFunc) A := by
  refine ⟨_, fun w => ?_, hA⟩
  have h2 := run_eql_func_nil w t ps rs v (.func n) a b h
  simp only [eqGuard]
  simp [h2]
set_option maxHeartbeats 16000000 in
theorem Segment_any (cs : List ByteArray) (hcl : cs.length ≤ 100000) (hcs : ∀ c ∈ cs, c.size ≤ 900000) (kn : List En) (hkl : kn.length ≤ 100000) (tl : Nat → ByteArray × Bool) (so ko : Option Addr) (sc kc gb : Nat) (w : World) (hr : Rd w so (strE.fl cs)) (hk : Rd w ko (enE.fl kn))
    (hB : ∀ (i : Nat) (x : En), kn[i]? = some x → ∀ w1, Below w.heap.size w w1 → Calls Tryz.prog byN (byArgs gb x) w1 fun e w' => e = .returned (.tuple #[.string (tl i).1, .bool (tl i).2]) ∧ Below w1.heap.size w1 w') :
    Calls Tryz.prog 70 #[.slice so cs.length sc, .slice ko kn.length kc, byVal gb] w fun e w' => ∃ ao' cap', e = .returned (.slice ao' cs.length cap') ∧ NewRow w w' ao' cs.length cap' 135 2 (fdE.fl (segG cs kn tl cs.length).1) := by
  refine sx_fn (S := SX) (M := []) (N := 79) (H0 := [.rd so (strE.fl cs), .rd ko (enE.fl kn)]) Tryz.func70 rfl rfl rfl (Sat.twoRd _ hr hk) ?_
  ((try refine sU ?_);repeat(refine sN fun _=>?_;try refine sU ?_))
  rename_i b3 b4 b5
  refine SxRun.fEqNil Tryz.underlying41 ?_
  ((try refine sU ?_);repeat(refine sN fun _=>?_;try refine sU ?_))
  refine SxSem.make fqKey rfl fun gt => ?_
  ((try refine sU ?_);repeat(refine sN fun _=>?_;try refine sU ?_))
  refine SxSem.make fqKey rfl fun gn => ?_
  ((try refine sU ?_);repeat(refine sN fun _=>?_;try refine sU ?_))
  refine SxCode.loop (σ := Nat × FMap) [22] [23, 24, 25, 26, 10, 9, 27, 28, 29, 31, 32, 33, 30, 34, 35, 36, 22] (fun x => [.int .i64 (x.1 : Nat)]) (fun x => .blk b3 26 [.slice so cs.length sc] :: .blk b4 65 [.slice ko kn.length kc] :: .blk b5 41 [byVal gb] :: mapE fqKey gt (kvF x.2) :: mapE fqKey gn (kvF []) :: .rd so (strE.fl cs) :: .rd ko (enE.fl kn) :: rowsF x.2) (fun x => x.1 ≤ kn.length ∧ IsBp x.2 (psK (kn.take x.1))) (fun x => kn.length - x.1) (0, []) [4, 3, 2, 1, 0, 5, 6] rfl rfl rfl rfl ⟨Nat.zero_le _, IsBp.nil⟩ ?_
  rintro ⟨k, es⟩ ⟨hkl2, hbp⟩
  dsimp only at hkl2 hbp ⊢
  refine sx_weaken (Weak.nil 3 1) ?_
  ((try refine sU ?_);repeat(refine sN fun _=>?_;try refine sU ?_))
  refine SxIf.dec (fun h => ?_) (fun h => ?_)
  · have hlt : k < kn.length := by omega
    obtain ⟨x, hx⟩ : ∃ x, kn[k]? = some x := ⟨kn[k], by simp [hlt]⟩
    ((try refine sU ?_);repeat(refine sN fun _=>?_;try refine sU ?_))
    refine SxIA.rd 7 _ rfl k rfl hlt (by rw [enE_len1]; omega) fun g off ha => ?_
    ((try refine sU ?_);repeat(refine sN fun _=>?_;try refine sU ?_))
    refine SxLdN.rd 7 rfl ha rfl (vs := enC x) (enC_len x) (enE_at1 hx) ?_
    ((try refine sU ?_);repeat(refine sN fun _=>?_;try refine sU ?_))
    refine SxSt.elem enE (x := x) 0 rfl rfl ?_
    ((try refine sU ?_);repeat(refine sN fun _=>?_;try refine sU ?_))
    refine SxLdN.blk 0 rfl (vs := fqC x.fq) (fqC_len _) (enC_fq x) ?_
    ((try refine sU ?_);repeat(refine sN fun _=>?_;try refine sU ?_))
    rcases hbp.has x.fq with ⟨j, d, hj, hd⟩ | ⟨hq, hno⟩
    · have hdl : d.l.length ≤ k := by
        rw [hd]
        refine Nat.le_trans (idxs_len _ _) ?_
        unfold psK
        rw [List.length_map, List.length_zipIdx, List.length_take]; omega
      refine SxSem.mapEntry fqKey 6 rfl Tryz.underlying169 rfl rfl rfl (fqKey_ok x.fq) (.inl ⟨j, _, kvF_at hj, fun _ => ?_⟩)
      ((try refine sU ?_);repeat(refine sN fun _=>?_;try refine sU ?_))
      refine SxApp.mk (j + 10) (rowsF_at hj) 0 (.inr (.inr (.inr ⟨by omega, _, rfl⟩))) (vs := [.int .i64 (k : Nat)]) (m := 1) rfl rfl (by unfold maxLen; omega) (by omega) (cs' := natE.fl (d.l ++ [k])) (by rw [natE.fl_append]; rfl) fun ao' cap' => ?_
      ((try refine sU ?_);repeat(refine sN fun _=>?_;try refine sU ?_))
      refine SxSem.entryStore fqKey 6 rfl rfl rfl rfl rfl (kvF_at hj) ?_
      ((try refine sU ?_);repeat(refine sN fun _=>?_;try refine sU ?_))
      have hl : ((rowsF es).set j (.row ao' (d.l.length + [k].length) cap' 3 1 (natE.fl (d.l ++ [k])))).length = es.length := by rw [List.length_set, rowsF_len]
      exact SxRound.mk (k + 1, es.set j (x.fq, ⟨ao', cap', d.l ++ [k]⟩)) ([3, 4, 5, 6, 7, 8, 9] ++ tailIx 10 es.length) rfl (by
        dsimp only
        rw [kvF_set, rowsF_set]
        unfold Drow.v
        dsimp only
        rw [List.length_append]
        exact pickH_append (A := [_, _, _, _, _, _, _]) rfl (pickH_tail 10 rfl hl)) (nodup_tail 10 _ rfl rfl) ⟨hlt, by rw [psK_snoc hx]; exact hbp.upd hj rfl⟩ (by dsimp only; omega)
    · refine SxSem.mapEntry fqKey 6 rfl Tryz.underlying169 rfl rfl rfl (fqKey_ok x.fq) (.inr ⟨kvF_no hno, _, rfl, fun _ => ?_⟩)
      ((try refine sU ?_);repeat(refine sN fun _=>?_;try refine sU ?_))
      refine SxApp.mk 2 rfl 0 (.inr (.inr (.inr ⟨by decide, _, rfl⟩))) (vs := [.int .i64 (k : Nat)]) (m := 1) rfl rfl (by unfold maxLen; omega) (by omega) (cs' := natE.fl [k]) rfl fun ao' cap' => ?_
      ((try refine sU ?_);repeat(refine sN fun _=>?_;try refine sU ?_))
      refine SxSem.entryStore fqKey 6 rfl rfl rfl rfl rfl (j := (kvF es).length) (by rw [List.getElem?_append_right (Nat.le_refl _), Nat.sub_self]; rfl) ?_
      ((try refine sU ?_);repeat(refine sN fun _=>?_;try refine sU ?_))
      exact SxRound.mk (k + 1, es ++ [(x.fq, ⟨ao', cap', [k]⟩)]) ([3, 4, 5, 6, 7, 8, 9] ++ (tailIx 10 es.length ++ [2])) rfl (by
        dsimp only
        rw [kvF_snoc, rowsF_snoc]
        refine pickH_append (A := [_, _, _, _, _, _, _]) ?_ (pickH_append (pickH_tail 10 rfl (rowsF_len es)) rfl)
        show some _ = some _
        rw [List.set_append_right _ _ (Nat.le_refl _), Nat.sub_self]; rfl) (nodup_tail_new 10 _ 2 rfl rfl) ⟨hlt, by rw [psK_snoc hx]; exact hbp.new hq hno rfl⟩ (by dsimp only; omega)
  · obtain rfl : k = kn.length := by omega
    rw [List.take_length] at hbp
    have hF : ∀ w1, Rd w1 so (strE.fl cs) → Calls Tryz.prog 66 #[.slice so cs.length sc] w1 fun e w' => ∃ ao' cap', e = .returned (.slice ao' cs.length cap') ∧ NewRow w1 w' ao' cs.length cap' 69 32 (fqE.fl (cs.map bFq)) := fun w1 h1 => by
      have h2 := Fps_any cs hcl hcs so sc w1 h1
      rw [List.length_map] at h2
      exact h2
    have hmx : ∀ d ∈ es.map (·.2), (natE.fl d.l).length ≤ maxLen := fun d hd => by
      obtain ⟨⟨q, d'⟩, hm, rfl⟩ := List.mem_map.1 hd
      have h1 := (hbp.val q d' hm).1
      have h2 := idxs_len (psK kn) q
      rw [← h1] at h2
      have h3 : (psK kn).length = kn.length := by unfold psK; rw [List.length_map, List.length_zipIdx]
      rw [natE_len]; unfold maxLen; show d'.l.length * 1 ≤ _; omega
    ((try refine sU ?_);repeat(refine sN fun _=>?_;try refine sU ?_))
    refine SxCall.weak (Weak.trans (Weak.nil 135 2) (Weak.gather (E := natE) (e := 3) (A := [.row none 0 0 135 2 [], .row none 0 0 3 1 [], .blk b3 26 [.slice so cs.length sc], .blk b4 65 [.slice ko kn.length kc], .blk b5 41 [byVal gb], mapE fqKey gt (kvF es), mapE fqKey gn (kvF []), .rd so (strE.fl cs), .rd ko (enE.fl kn)]) (ds := es.map Prod.snd) hmx)) ?_
    refine SxCall.newRow (fun w1 hs => hF w1 (hs.rd 7 rfl)) fun fo fc => ?_
    clear hF hmx h hkl2
    ((try refine sU ?_);repeat(refine sN fun _=>?_;try refine sU ?_))
    refine SxCode.loop (σ := Nat × FMap × Option Addr × Nat) [40, 11] [41, 42, 43, 44, 13, 12, 45, 46, 47, 48, 14, 49, 15, 50, 51, 52, 53, 54, 55, 56, 57, 58, 59, 60, 61, 62, 63, 64, 65, 66, 68, 69, 70, 67, 71, 72, 73, 74, 75, 76, 11, 77, 40] (fun x => [.int .i64 (x.1 : Nat), .slice x.2.2.1 x.1 x.2.2.2]) (fun x => .row fo cs.length fc 69 32 (fqE.fl (cs.map bFq)) :: .row x.2.2.1 x.1 x.2.2.2 135 2 (fdE.fl (segG cs kn tl x.1).1) :: .blk b3 26 [.slice so cs.length sc] :: .blk b4 65 [.slice ko kn.length kc] :: .blk b5 41 [byVal gb] :: mapE fqKey gt (kvF es) :: readsG natE (es.map (·.2)) :: mapE fqKey gn (kvF x.2.1) :: .rd so (strE.fl cs) :: .rd ko (enE.fl kn) :: rowsF x.2.1) (fun x => x.1 ≤ cs.length ∧ IsBp x.2.1 (segG cs kn tl x.1).2) (fun x => cs.length - x.1) (0, [], none, 0) [0, 1, 3, 4, 5, 6, 10, 7, 8, 9] rfl rfl rfl rfl ⟨Nat.zero_le _, IsBp.nil⟩ ?_
    rintro ⟨k, ns, oo, oc⟩ ⟨hk2, hns⟩
    dsimp only at hk2 hns ⊢
    have hg2 := segG2_len cs kn tl k
    refine sx_base 0 rfl fun hfo _ => ?_
    refine sx_weaken (Weak.nil 3 1) ?_
    ((try refine sU ?_);repeat(refine sN fun _=>?_;try refine sU ?_))
    refine SxIf.dec (fun h => ?_) (fun h => ?_)
    · have hlt : k < cs.length := by omega
      obtain ⟨c, hc⟩ : ∃ c, cs[k]? = some c := ⟨cs[k], by simp [hlt]⟩
      have hfc : (cs.map bFq)[k]? = some (bFq c) := by rw [List.getElem?_map, hc]; rfl
      have hsg : segG cs kn tl (k + 1) = stepG cs kn tl (segG cs kn tl k) k c := by rw [segG, hc]
      obtain ⟨gf, rfl⟩ := hfo (by omega)
      ((try refine sU ?_);repeat(refine sN fun _=>?_;try refine sU ?_))
      refine SxIA.row 1 _ _ _ rfl k rfl hlt fun g' hg' => ?_
      obtain rfl : gf = g' := by simpa using hg'
      ((try refine sU ?_);repeat(refine sN fun _=>?_;try refine sU ?_))
      refine SxLdN.row 1 rfl rfl rfl (vs := fqC (bFq c)) (fqC_len _) (fqE_at hfc) ?_
      ((try refine sU ?_);repeat(refine sN fun _=>?_;try refine sU ?_))
      refine SxSt.elem fqE (x := bFq c) 0 rfl rfl ?_
      ((try refine sU ?_);repeat(refine sN fun _=>?_;try refine sU ?_))
      refine SxIA.rd 10 _ rfl k rfl hlt (by rw [strE_len]; omega) fun g off ha => ?_
      ((try refine sU ?_);repeat(refine sN fun _=>?_;try refine sU ?_))
      refine SxLd.rd 10 rfl ha rfl (j := k * 1) (strE_at hc) ?_
      ((try refine sU ?_);repeat(refine sN fun _=>?_;try refine sU ?_))
      refine SxLdN.blk 2 rfl (vs := fqC (bFq c)) (fqC_len _) (fqC_take _) ?_
      ((try refine sU ?_);repeat(refine sN fun _=>?_;try refine sU ?_))
      rename_i bf bc bx
      obtain ⟨lo, lc, hlook, hrd⟩ := hbp.look (bFq c)
      obtain ⟨a, haL⟩ : ∃ a, a = atL (pK kn tl c) (idxs (psK kn) (bFq c)) := ⟨_, rfl⟩
      have hage : -1 ≤ a := by rw [haL]; exact atL_ge _ _
      refine SxCall.quietS (v := .int .i64 a) (fun w1 hs => by
        rw [haL]
        refine at2_any (bFq c) (idxs (psK kn) (bFq c)) lo lc gt b4 bc b5 (kvF es) hlook (pK kn tl c) w1 (hs.holds 9 _ rfl) (hrd w1 (hs.holds 10 _ rfl)) fun i hi w2 hb2 => ?_
        obtain ⟨x, hx, _⟩ := psK_mem (idxs_mem.1 hi)
        have he : pK kn tl c i = okT x (tl i) c := by unfold pK; rw [hx]
        rw [he]
        exact Seg2_any kn (tl i) c i x hx ko kc b4 bc b5 gb w2 ((Rd.of_blk (hs.blk 7 rfl) (by show 1 ≤ maxLen; decide)).kept hb2) ((Rd.of_blk (hs.blk 1 rfl) (by show 1 ≤ maxLen; decide)).kept hb2) ((Rd.of_blk (hs.blk 8 rfl) (by show 1 ≤ maxLen; decide)).kept hb2) ((hs.rd 13 rfl).kept hb2) fun w3 hb3 => hB i x hx w3 (kp_step (kp_step hs.touch.below hb2) hb3)) ?_
      ((try refine sU ?_);repeat(refine sN fun _=>?_;try refine sU ?_))
      refine SxIf.eq (fun h1 => ?_) (fun h1 => ?_)
      · obtain ⟨b, hbL⟩ : ∃ b, b = atL (pO cs c) (idxs (segG cs kn tl k).2 (bFq c)) := ⟨_, rfl⟩
        have hbge : -1 ≤ b := by rw [hbL]; exact atL_ge _ _
        obtain ⟨mo, mc, hlook3, hrd3⟩ := hns.look (bFq c)
        have hsg1 : segG cs kn tl (k + 1) = ((segG cs kn tl k).1 ++ [(a, b)], if freshB (a, b) then (segG cs kn tl k).2 ++ [(k, bFq c)] else (segG cs kn tl k).2) := by
          rw [hsg]; unfold stepG; dsimp only; rw [← haL, if_pos h1, ← hbL]
        have hout : (segG cs kn tl (k + 1)).1 = (segG cs kn tl k).1 ++ [(a, b)] := by rw [hsg1]
        ((try refine sU ?_);repeat(refine sN fun _=>?_;try refine sU ?_))
        refine SxLdN.blk 2 rfl (vs := fqC (bFq c)) (fqC_len _) (fqC_take _) ?_
        ((try refine sU ?_);repeat(refine sN fun _=>?_;try refine sU ?_))
        refine SxCall.quietS (v := .int .i64 b) (fun w1 hs => by
          rw [hbL]
          refine at3_any (bFq c) (idxs (segG cs kn tl k).2 (bFq c)) mo mc gn b3 bc (kvF ns) hlook3 (pO cs c) w1 (hs.holds 11 _ rfl) (hrd3 w1 fun d hd => ?_) fun i hi w2 hb2 => ?_
          · obtain ⟨⟨q, d'⟩, hm, rfl⟩ := List.mem_map.1 hd
            obtain ⟨j, hj⟩ := List.getElem?_of_mem hm
            have h5 := (hns.val q d' hm).1
            have h6 := idxs_len (segG cs kn tl k).2 q
            rw [← h5] at h6
            exact hs.rowRd (j + 14) (rowsF_at hj) (by rw [natE_len]; unfold maxLen; show d'.l.length * 1 ≤ _; omega)
          · have hi2 := segG_pos cs kn tl k i _ (idxs_mem.1 hi)
            exact Seg3_any cs c i (by omega) so sc b3 bc w2 ((Rd.of_blk (hs.blk 6 rfl) (by show 1 ≤ maxLen; decide)).kept hb2) ((Rd.of_blk (hs.blk 1 rfl) (by show 1 ≤ maxLen; decide)).kept hb2) ((hs.rd 12 rfl).kept hb2)) ?_
        ((try refine sU ?_);repeat(refine sN fun _=>?_;try refine sU ?_))
        refine SxCall.quiet (fresh_any (a, b)) ?_
        ((try refine sU ?_);repeat(refine sN fun _=>?_;try refine sU ?_))
        refine ⟨fun hf => ?_, fun hf => ?_⟩
        · rw [if_pos hf] at hsg1
          have hps : (segG cs kn tl (k + 1)).2 = (segG cs kn tl k).2 ++ [(k, bFq c)] := by rw [hsg1]
          ((try refine sU ?_);repeat(refine sN fun _=>?_;try refine sU ?_))
          refine SxLdN.blk 2 rfl (vs := fqC (bFq c)) (fqC_len _) (fqC_take _) ?_
          ((try refine sU ?_);repeat(refine sN fun _=>?_;try refine sU ?_))
          rcases hns.has (bFq c) with ⟨j, d, hj, hd⟩ | ⟨hq, hno⟩
          · have hdl : d.l.length ≤ k := by
              rw [hd]; exact Nat.le_trans (idxs_len _ _) hg2
            refine SxSem.mapEntry fqKey 12 rfl Tryz.underlying169 rfl rfl rfl (fqKey_ok (bFq c)) (.inl ⟨j, _, kvF_at hj, fun _ => ?_⟩)
            ((try refine sU ?_);repeat(refine sN fun _=>?_;try refine sU ?_))
            refine SxApp.mk (j + 15) (rowsF_at hj) 0 (.inr (.inr (.inr ⟨by omega, _, rfl⟩))) (vs := [.int .i64 (k : Nat)]) (m := 1) rfl rfl (by unfold maxLen; omega) (by omega) (cs' := natE.fl (d.l ++ [k])) (by rw [natE.fl_append]; rfl) fun ao' cap' => ?_
            ((try refine sU ?_);repeat(refine sN fun _=>?_;try refine sU ?_))
            refine SxSem.entryStore fqKey 12 rfl rfl rfl rfl rfl (kvF_at hj) ?_
            ((try refine sU ?_);repeat(refine sN fun _=>?_;try refine sU ?_))
            refine SxApp.mk 7 rfl 0 (.inr (.inr (.inr ⟨by decide, _, rfl⟩))) (vs := fdC (a, b)) (m := 1) rfl rfl (by unfold maxLen; omega) (by omega) (cs' := fdE.fl (segG cs kn tl (k + 1)).1) (by rw [hout, fdE.fl_append, fdE.fl_one]; rfl) fun oo' oc' => ?_
            ((try refine sU ?_);repeat(refine sN fun _=>?_;try refine sU ?_))
            have hl : ((rowsF ns).set j (.row ao' (d.l.length + [k].length) cap' 3 1 (natE.fl (d.l ++ [k])))).length = ns.length := by rw [List.length_set, rowsF_len]
            exact SxRound.mk (k + 1, ns.set j (bFq c, ⟨ao', cap', d.l ++ [k]⟩), oo', oc') ([6, 7, 8, 9, 10, 11, 12, 13, 14, 15] ++ tailIx 16 ns.length) rfl (by
              dsimp only
              rw [kvF_set, rowsF_set]
              unfold Drow.v
              dsimp only
              rw [List.length_append]
              exact pickH_append (A := [_, _, _, _, _, _, _, _, _, _]) rfl (pickH_tail 16 rfl hl)) (nodup_tail 16 _ rfl rfl) ⟨hlt, by rw [hps]; exact hns.upd hj rfl⟩ (by dsimp only; omega)
          · refine SxSem.mapEntry fqKey 12 rfl Tryz.underlying169 rfl rfl rfl (fqKey_ok (bFq c)) (.inr ⟨kvF_no hno, _, rfl, fun _ => ?_⟩)
            ((try refine sU ?_);repeat(refine sN fun _=>?_;try refine sU ?_))
            refine SxApp.mk 4 rfl 0 (.inr (.inr (.inr ⟨by decide, _, rfl⟩))) (vs := [.int .i64 (k : Nat)]) (m := 1) rfl rfl (by unfold maxLen; omega) (by omega) (cs' := natE.fl [k]) rfl fun ao' cap' => ?_
            ((try refine sU ?_);repeat(refine sN fun _=>?_;try refine sU ?_))
            refine SxSem.entryStore fqKey 12 rfl rfl rfl rfl rfl (j := (kvF ns).length) (by rw [List.getElem?_append_right (Nat.le_refl _), Nat.sub_self]; rfl) ?_
            ((try refine sU ?_);repeat(refine sN fun _=>?_;try refine sU ?_))
            refine SxApp.mk 7 rfl 0 (.inr (.inr (.inr ⟨by decide, _, rfl⟩))) (vs := fdC (a, b)) (m := 1) rfl rfl (by unfold maxLen; omega) (by omega) (cs' := fdE.fl (segG cs kn tl (k + 1)).1) (by rw [hout, fdE.fl_append, fdE.fl_one]; rfl) fun oo' oc' => ?_
            ((try refine sU ?_);repeat(refine sN fun _=>?_;try refine sU ?_))
            exact SxRound.mk (k + 1, ns ++ [(bFq c, ⟨ao', cap', [k]⟩)], oo', oc') ([6, 7, 8, 9, 10, 11, 12, 13, 14, 15] ++ (tailIx 16 ns.length ++ [5])) rfl (by
              dsimp only
              rw [kvF_snoc, rowsF_snoc]
              refine pickH_append (A := [_, _, _, _, _, _, _, _, _, _]) ?_ (pickH_append (pickH_tail 16 rfl (rowsF_len ns)) rfl)
              show some _ = some _
              rw [List.set_append_right _ _ (Nat.le_refl _), Nat.sub_self]; rfl) (nodup_tail_new 16 _ 5 rfl rfl) ⟨hlt, by rw [hps]; exact hns.new hq hno rfl⟩ (by dsimp only; omega)
        · rw [if_neg (by rw [hf]; simp)] at hsg1
          have hps : (segG cs kn tl (k + 1)).2 = (segG cs kn tl k).2 := by rw [hsg1]
          ((try refine sU ?_);repeat(refine sN fun _=>?_;try refine sU ?_))
          refine SxApp.mk 6 rfl 0 (.inr (.inr (.inr ⟨by decide, _, rfl⟩))) (vs := fdC (a, b)) (m := 1) rfl rfl (by unfold maxLen; omega) (by omega) (cs' := fdE.fl (segG cs kn tl (k + 1)).1) (by rw [hout, fdE.fl_append, fdE.fl_one]; rfl) fun oo' oc' => ?_
          ((try refine sU ?_);repeat(refine sN fun _=>?_;try refine sU ?_))
          exact SxRound.mk (k + 1, ns, oo', oc') ([5, 6, 7, 8, 9, 10, 11, 12, 13, 14] ++ tailIx 15 ns.length) rfl (pickH_append (A := [_, _, _, _, _, _, _, _, _, _]) rfl (pickH_tail 15 rfl (rowsF_len ns))) (nodup_tail 15 _ rfl rfl) ⟨hlt, by rw [hps]; exact hns⟩ (by dsimp only; omega)
      · have hsg1 : segG cs kn tl (k + 1) = ((segG cs kn tl k).1 ++ [(a, -1)], (segG cs kn tl k).2) := by
          rw [hsg]; unfold stepG; dsimp only; rw [← haL, if_neg h1, if_neg (by rw [freshB_ge h1 hage]; simp)]
        have hout : (segG cs kn tl (k + 1)).1 = (segG cs kn tl k).1 ++ [(a, -1)] := by rw [hsg1]
        have hps : (segG cs kn tl (k + 1)).2 = (segG cs kn tl k).2 := by rw [hsg1]
        ((try refine sU ?_);repeat(refine sN fun _=>?_;try refine sU ?_))
        refine SxCall.quiet (v := .bool false) (fun w1 => by
          have h5 := fresh_any (a, -1) w1
          rw [freshB_ge h1 hage] at h5
          exact h5) ?_
        ((try refine sU ?_);repeat(refine sN fun _=>?_;try refine sU ?_))
        refine SxApp.mk 6 rfl 0 (.inr (.inr (.inr ⟨by decide, _, rfl⟩))) (vs := fdC (a, -1)) (m := 1) rfl rfl (by unfold maxLen; omega) (by omega) (cs' := fdE.fl (segG cs kn tl (k + 1)).1) (by rw [hout, fdE.fl_append, fdE.fl_one]; rfl) fun oo' oc' => ?_
        ((try refine sU ?_);repeat(refine sN fun _=>?_;try refine sU ?_))
        exact SxRound.mk (k + 1, ns, oo', oc') ([5, 6, 7, 8, 9, 10, 11, 12, 13, 14] ++ tailIx 15 ns.length) rfl (pickH_append (A := [_, _, _, _, _, _, _, _, _, _]) rfl (pickH_tail 15 rfl (rowsF_len ns))) (nodup_tail 15 _ rfl rfl) ⟨hlt, by rw [hps]; exact hns⟩ (by dsimp only; omega)
    · obtain rfl : k = cs.length := by omega
      ((try refine sU ?_);repeat(refine sN fun _=>?_;try refine sU ?_))
      exact SxDone.mk fun w' hs => ⟨oo, oc, rfl, hs.newRow 2 rfl⟩
end Go.Proofs.YtlmefcepdadfjaaGreat
