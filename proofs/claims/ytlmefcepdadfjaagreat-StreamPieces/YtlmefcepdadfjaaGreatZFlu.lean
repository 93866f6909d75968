/- Texts of this claim, one behind the other. -/
import Derived.Test.YtlmefcepdadfjaaGreatZSuC
import Derived.Test.YtlmefcepdadfjaaGreatZGen
/- Layer 23, the document: weights, chunks, what is too much. -/
namespace Go.Proofs.YtlmefcepdadfjaaGreat
open Go.RowKit

theorem freshX_app (a b : List Bx) : freshX (a ++ b) = freshX a + freshX b := by simp [freshX]
theorem reW_step (l : List UInt8) (k : Nat) : (k % 4 = 0 → reW l (k + 1) = reW l k + ((l.getD k 0).toNat : Int) ∧ imW l (k + 1) = imW l k) ∧ (k % 4 = 1 → reW l (k + 1) = reW l k ∧ imW l (k + 1) = imW l k + ((l.getD k 0).toNat : Int)) ∧ (k % 4 = 2 → reW l (k + 1) = reW l k - ((l.getD k 0).toNat : Int) ∧ imW l (k + 1) = imW l k) ∧ (k % 4 = 3 → reW l (k + 1) = reW l k ∧ imW l (k + 1) = imW l k - ((l.getD k 0).toNat : Int)) := by
  refine ⟨fun h => ?_, fun h => ?_, fun h => ?_, fun h => ?_⟩ <;> simp only [reW, imW, wAt, h] <;> refine ⟨?_, ?_⟩ <;> simp <;> omega
set_option maxHeartbeats 4000000 in
theorem RWeight_any (s : ByteArray) (hs : s.size ≤ 1000000) (w : World) : Calls Tryz.prog 29 #[.string s] w fun e w' => e = .returned (.tuple #[.int .i64 (reA s), .int .i64 (imA s)]) ∧ Below w.heap.size w w' := by
  refine sx_fn (S := SX) (M := []) (N := 47) (H0 := []) Tryz.func29 rfl rfl rfl (Sat.nil _ _) ?_
  ((try refine sU ?_);repeat(refine sN fun _=>?_;try refine sU ?_))
  have hl := ba_lenS s
  have hbd := fun k => And.intro (wAt_bd s.data.toList 0 k) (And.intro (wAt_bd s.data.toList 1 k) (And.intro (wAt_bd s.data.toList 2 k) (wAt_bd s.data.toList 3 k)))
  refine SxCode.loop (σ := Nat) [6, 4, 5] [7, 8, 9, 10, 13, 14, 22, 21, 23, 24, 25, 26, 27, 28, 4, 30, 29, 31, 32, 33, 34, 35, 36, 5, 38, 37, 39, 40, 41, 42, 43, 44, 15, 16, 17, 18, 19, 20, 11, 12, 6] (fun i => [.int .i64 (i : Nat), .int .i64 (reW s.data.toList i), .int .i64 (imW s.data.toList i)]) (fun _ => []) (fun i => i ≤ s.size) (fun i => s.size - i) 0 [] rfl rfl rfl rfl (Nat.zero_le _) ?_
  rintro i hi
  by_cases hlt : i < s.size
  · obtain ⟨s1, s2, s3, s4⟩ := reW_step s.data.toList i
    have hb := hbd i
    unfold reW imW at s1 s2 s3 s4 ⊢
    have h4 : i % 4 = 0 ∨ i % 4 = 1 ∨ i % 4 = 2 ∨ i % 4 = 3 := by omega
    rcases h4 with h | h | h | h
    all_goals
      ((try refine sU ?_);repeat(refine sN fun _=>?_;try refine sU ?_))
      refine SxIdx.mk i rfl hlt ?_
      have hby := (s.data.toList.getD i 0).toNat_lt
      ((try refine sU ?_);repeat(refine sN fun _=>?_;try refine sU ?_))
      exact SxRound.mk (i + 1) [] (by dsimp only; first | (rw [(s1 h).1, (s1 h).2]; rfl) | (rw [(s2 h).1, (s2 h).2]; rfl) | (rw [(s3 h).1, (s3 h).2]; rfl) | (rw [(s4 h).1, (s4 h).2]; rfl)) rfl rfl hlt (by omega)
  · obtain rfl : i = s.size := by omega
    ((try refine sU ?_);repeat(refine sN fun _=>?_;try refine sU ?_))
    refine SxDone.mk fun w' hs => ⟨?_, hs.touch.below⟩
    unfold reA imA
    rw [hl]; rfl
set_option maxHeartbeats 8000000 in
theorem RChunks_any (c : Nat → Int) (hm : mayC c = true) (s : ByteArray) (hs : s.size ≤ 9000) (fin : Bool) (w : World) : Calls Tryz.prog 53 #[confA c, .string s, .bool fin] w fun e w' => ∃ cs r ao cap, e = .returned (.slice ao (cs ++ if fin then lastOf r else []).length cap) ∧ Cuts (cf c) s cs r ∧ cutN (cf c) r.data.toList = 0 ∧ NewRow w w' ao (cs ++ if fin then lastOf r else []).length cap 9 1 (strE.fl (cs ++ if fin then lastOf r else [])) := by
  refine sx_fn (S := SX) (M := []) (N := 37) (H0 := [.row none 0 0 9 1 []]) Tryz.func53 rfl rfl rfl ((Sat.nil _ _).nilRow 9 1) ?_
  ((try refine sU ?_);repeat(refine sN fun _=>?_;try refine sU ?_))
  refine SxCall.quiet (RCut_all c s (by omega)) ?_
  ((try refine sU ?_);repeat(refine sN fun _=>?_;try refine sU ?_))
  rename_i gc
  refine SxCode.loop (σ := ByteArray × List ByteArray × Option Addr × Nat) [1, 8, 7] [12, 13, 14, 15, 16, 17, 18, 19, 7, 20, 21, 22, 1, 23, 24, 25, 8] (fun x => [.string x.1, .int .i64 (cutC c x.1 : Nat), .slice x.2.2.1 x.2.1.length x.2.2.2]) (fun x => [.blk gc 23 (tab 13 (confV c)), .row x.2.2.1 x.2.1.length x.2.2.2 9 1 (strE.fl x.2.1)]) (fun x => Cuts (cf c) s x.2.1 x.1) (fun x => x.1.size) (s, [], none, 0) [0, 1] rfl rfl rfl rfl .nil ?_
  rintro ⟨r, cs, oo, oc⟩ hcs
  dsimp only at hcs ⊢
  have hl := hcs.len
  have hz := hcs.sizeS
  obtain ⟨q, hq⟩ : ∃ q, q = cutC c r := ⟨_, rfl⟩
  have hql : q ≤ r.size := by
    rw [hq, cutC_cf hm]
    have := cutN_le (cf c) r.data.toList
    rwa [ba_lenS] at this
  rw [← hq]
  rcases Nat.eq_zero_or_pos q with h0 | h0
  · subst h0
    have hz : cutN (cf c) r.data.toList = 0 := by rw [← cutC_cf hm]; exact hq.symm
    cases fin with
    | false =>
      have e : cs ++ (if false = true then lastOf r else []) = cs := List.append_nil _
      ((try refine sU ?_);repeat(refine sN fun _=>?_;try refine sU ?_))
      exact SxDone.mk fun w' hs => ⟨cs, r, oo, oc, by rw [e]; rfl, hcs, hz, by rw [e]; exact hs.newRow 1 rfl⟩
    | true =>
      rcases Nat.eq_zero_or_pos r.size with h1 | h1
      · have e : cs ++ (if true = true then lastOf r else []) = cs := by unfold lastOf; rw [if_pos rfl, if_pos h1, List.append_nil]
        ((try refine sU ?_);repeat(refine sN fun _=>?_;try refine sU ?_))
        exact SxDone.mk fun w' hs => ⟨cs, r, oo, oc, by rw [e]; rfl, hcs, hz, by rw [e]; exact hs.newRow 1 rfl⟩
      · have e : cs ++ (if true = true then lastOf r else []) = cs ++ [r] := by unfold lastOf; rw [if_pos rfl, if_neg (by omega)]
        have el : (cs ++ [r]).length = cs.length + 1 := by simp
        ((try refine sU ?_);repeat(refine sN fun _=>?_;try refine sU ?_))
        refine SxApp.mk 2 rfl 0 (.inr (.inr (.inr ⟨by decide, _, rfl⟩))) (vs := [.string r]) (m := 1) rfl rfl (by unfold maxLen; omega) (by omega) (cs' := strE.fl (cs ++ [r])) (by rw [strE.fl_append]; rfl) fun ao cap => ?_
        ((try refine sU ?_);repeat(refine sN fun _=>?_;try refine sU ?_))
        exact SxDone.mk fun w' hs => ⟨cs, r, ao, cap, by rw [e, el]; rfl, hcs, hz, by rw [e, el]; exact hs.newRow 2 rfl⟩
  · have hsn := hcs.snoc (by rw [← cutC_cf hm]; rw [← hq]; exact h0)
    rw [← cutC_cf hm, ← hq] at hsn
    have el : (cs ++ [r.extract 0 q]).length = cs.length + 1 := by simp
    have hsz2 : (r.extract q r.size).size = r.size - q := by simp
    ((try refine sU ?_);repeat(refine sN fun _=>?_;try refine sU ?_))
    refine SxBnd.mk 0 q rfl rfl (Nat.zero_le _) hql ?_
    ((try refine sU ?_);repeat(refine sN fun _=>?_;try refine sU ?_))
    refine SxApp.mk 2 rfl 0 (.inr (.inr (.inr ⟨by decide, _, rfl⟩))) (vs := [.string (r.extract 0 q)]) (m := 1) rfl rfl (by unfold maxLen; omega) (by omega) (cs' := strE.fl (cs ++ [r.extract 0 q])) (by rw [strE.fl_append]; rfl) fun ao cap => ?_
    ((try refine sU ?_);repeat(refine sN fun _=>?_;try refine sU ?_))
    refine SxBnd.mk q r.size rfl rfl hql (Nat.le_refl _) ?_
    ((try refine sU ?_);repeat(refine sN fun _=>?_;try refine sU ?_))
    refine SxCall.quiet (RCut_all c (r.extract q r.size) (by omega)) ?_
    ((try refine sU ?_);repeat(refine sN fun _=>?_;try refine sU ?_))
    exact SxRound.mk (r.extract q r.size, cs ++ [r.extract 0 q], ao, cap) [1, 2] (by dsimp only; rw [el]; rfl) (by dsimp only; rw [el]; rfl) rfl hsn (by dsimp only; omega)
theorem ROver_any (g : Nat) (box man : Int) (mo bo : Option Addr) (ml mc bl bc : Nat) (lv : Value) (hb0 : 0 ≤ box) (hb1 : box < 4294967296) (hm0 : 0 ≤ man) (hm1 : man < 4294967296) (hml : ml ≤ 1000000) (hbl : bl ≤ 1000000) (w : World) (hr : Rd w (some ⟨g, 0, none⟩) [.slice mo ml mc, .slice bo bl bc, lv]) :
    Calls Tryz.prog 27 #[.pointer (some ⟨g, 0, none⟩), .int .u32 box, .int .u32 man] w fun e w' => e = .returned (.bool (overC box man ml bl)) ∧ Below w.heap.size w w' := by
  refine sx_fn (S := SX) (M := []) (N := 37) (H0 := [.rd (some ⟨g, 0, none⟩) [.slice mo ml mc, .slice bo bl bc, lv]]) Tryz.func27 rfl rfl rfl (Sat.oneRd _ hr) ?_
  by_cases h1 : (ml : Int) > 1024
  · ((try refine sU ?_);repeat(refine sN fun _=>?_;try refine sU ?_))
    refine SxLd.rd 0 rfl rfl (j := 0) (v := .slice mo ml mc) rfl rfl ?_
    ((try refine sU ?_);repeat(refine sN fun _=>?_;try refine sU ?_))
    exact SxDone.mk fun w' hs => ⟨by unfold overC; rw [decide_eq_true h1]; rfl, hs.touch.below⟩
  · by_cases h2 : box + bl > 4294967295
    · ((try refine sU ?_);repeat(refine sN fun _=>?_;try refine sU ?_))
      refine SxLd.rd 0 rfl rfl (j := 0) (v := .slice mo ml mc) rfl rfl ?_
      ((try refine sU ?_);repeat(refine sN fun _=>?_;try refine sU ?_))
      refine SxRng.u64 (by omega) (by omega) ?_
      ((try refine sU ?_);repeat(refine sN fun _=>?_;try refine sU ?_))
      refine SxLd.rd 0 rfl rfl (j := 1) (v := .slice bo bl bc) rfl rfl ?_
      ((try refine sU ?_);repeat(refine sN fun _=>?_;try refine sU ?_))
      refine SxRng.u64 (by omega) (by omega) ?_
      ((try refine sU ?_);repeat(refine sN fun _=>?_;try refine sU ?_))
      refine SxRng.u64 (by omega) (by omega) ?_
      ((try refine sU ?_);repeat(refine sN fun _=>?_;try refine sU ?_))
      exact SxDone.mk fun w' hs => ⟨by unfold overC; rw [decide_eq_false h1, decide_eq_true h2]; rfl, hs.touch.below⟩
    · ((try refine sU ?_);repeat(refine sN fun _=>?_;try refine sU ?_))
      refine SxLd.rd 0 rfl rfl (j := 0) (v := .slice mo ml mc) rfl rfl ?_
      ((try refine sU ?_);repeat(refine sN fun _=>?_;try refine sU ?_))
      refine SxRng.u64 (by omega) (by omega) ?_
      ((try refine sU ?_);repeat(refine sN fun _=>?_;try refine sU ?_))
      refine SxLd.rd 0 rfl rfl (j := 1) (v := .slice bo bl bc) rfl rfl ?_
      ((try refine sU ?_);repeat(refine sN fun _=>?_;try refine sU ?_))
      refine SxRng.u64 (by omega) (by omega) ?_
      ((try refine sU ?_);repeat(refine sN fun _=>?_;try refine sU ?_))
      refine SxRng.u64 (by omega) (by omega) ?_
      ((try refine sU ?_);repeat(refine sN fun _=>?_;try refine sU ?_))
      refine SxRng.u64 (by omega) (by omega) ?_
      ((try refine sU ?_);repeat(refine sN fun _=>?_;try refine sU ?_))
      refine SxLd.rd 0 rfl rfl (j := 0) (v := .slice mo ml mc) rfl rfl ?_
      ((try refine sU ?_);repeat(refine sN fun _=>?_;try refine sU ?_))
      refine SxRng.u64 (by omega) (by omega) ?_
      ((try refine sU ?_);repeat(refine sN fun _=>?_;try refine sU ?_))
      refine SxRng.u64 (by omega) (by omega) ?_
      ((try refine sU ?_);repeat(refine sN fun _=>?_;try refine sU ?_))
      exact SxDone.mk fun w' hs => ⟨by unfold overC; rw [decide_eq_false h1, decide_eq_false h2]; rfl, hs.touch.below⟩
set_option maxHeartbeats 4000000 in
theorem RFresh_any (g : Nat) (mv lv : Value) (bs : List Nb) (bo : Option Addr) (bc : Nat) (hbl : bs.length ≤ 100000) (hcl : ∀ b ∈ bs, b.2.l.length ≤ 100000) (hfr : freshX (bs.map Nb.bx) ≤ 10000000) (w : World) (hr : Rd w (some ⟨g, 0, none⟩) [mv, .slice bo bs.length bc, lv]) (hb : Rd w bo (mbE.fl (bs.map Nb.mb))) (hd : RdAll w (bxL bs)) :
    Calls Tryz.prog 28 #[.pointer (some ⟨g, 0, none⟩)] w fun e w' => e = .returned (.int .i64 (freshX (bs.map Nb.bx) : Nat)) ∧ Below w.heap.size w w' := by
  refine sx_fn (S := SX) (M := []) (N := 25) (H0 := [.rd (some ⟨g, 0, none⟩) [mv, .slice bo bs.length bc, lv], .rd bo (mbE.fl (bs.map Nb.mb)), .gen (rdsG (bxL bs))]) Tryz.func28 rfl rfl rfl (Sat.rdsM w [] _ fun j e hj => by
    match j, hj with
    | 0, hj => cases hj; exact ⟨rfl, hr⟩
    | 1, hj => cases hj; exact ⟨rfl, hb⟩
    | 2, hj => cases hj; exact ⟨rfl, hd⟩) ?_
  ((try refine sU ?_);repeat(refine sN fun _=>?_;try refine sU ?_))
  have hft : ∀ i, freshX ((bs.map Nb.bx).take i) ≤ freshX (bs.map Nb.bx) := fun i => by
    have h := freshX_app ((bs.map Nb.bx).take i) ((bs.map Nb.bx).drop i)
    rw [List.take_append_drop] at h
    omega
  refine SxCode.loop (σ := Nat) [4, 3] [5, 6, 7, 8, 9, 10, 11, 14, 15, 16, 17, 18, 19, 20, 21, 22, 23, 3, 12, 13, 4] (fun i => [.int .i64 (i : Nat), .int .i64 (freshX ((bs.map Nb.bx).take i) : Nat)]) (fun _ => [.rd (some ⟨g, 0, none⟩) [mv, .slice bo bs.length bc, lv], .rd bo (mbE.fl (bs.map Nb.mb)), .gen (rdsG (bxL bs))]) (fun i => i ≤ bs.length) (fun i => bs.length - i) 0 [0, 1, 2] rfl rfl rfl rfl (Nat.zero_le _) ?_
  rintro i hi
  have hfi := hft i
  by_cases hlt : i < bs.length
  · obtain ⟨b, hb1⟩ : ∃ b, bs[i]? = some b := ⟨bs[i], by simp [hlt]⟩
    have hmem := List.mem_of_getElem? hb1
    have hbc := hcl b hmem
    have hsn : freshX ((bs.map Nb.bx).take (i + 1)) = freshX ((bs.map Nb.bx).take i) + szB b.2.l := by rw [take_snocE (Nb.bx_at hb1), freshX_snoc]; rfl
    have hfi1 := hft (i + 1)
    ((try refine sU ?_);repeat(refine sN fun _=>?_;try refine sU ?_))
    refine SxLd.rd 0 rfl rfl (j := 1) (v := .slice bo bs.length bc) rfl rfl ?_
    ((try refine sU ?_);repeat(refine sN fun _=>?_;try refine sU ?_))
    refine SxLd.rd 0 rfl rfl (j := 1) (v := .slice bo bs.length bc) rfl rfl ?_
    ((try refine sU ?_);repeat(refine sN fun _=>?_;try refine sU ?_))
    refine SxIA.rd 1 _ rfl i rfl hlt (by rw [mbE_len, List.length_map]; omega) fun g1 off ha => ?_
    ((try refine sU ?_);repeat(refine sN fun _=>?_;try refine sU ?_))
    refine SxLdN.rd 1 rfl ha rfl (vs := mbC b.mb) rfl (mbE.fl_at (Nb.mb_at hb1)) ?_
    ((try refine sU ?_);repeat(refine sN fun _=>?_;try refine sU ?_))
    refine SxCall.quietS (v := .int .i64 (szB b.2.l : Nat)) (fun w1 hs1 => Size_any b.1 b.2.ao b.2.l b.2.cap hbc (by omega) w1 (hs1.rdIn 2 rfl (bxL_mem hmem))) ?_
    ((try refine sU ?_);repeat(refine sN fun _=>?_;try refine sU ?_))
    exact SxRound.mk (i + 1) [0, 1, 2] (by rw [hsn]; rfl) rfl rfl hlt (by omega)
  · obtain rfl : i = bs.length := by omega
    ((try refine sU ?_);repeat(refine sN fun _=>?_;try refine sU ?_))
    refine SxLd.rd 0 rfl rfl (j := 1) (v := .slice bo bs.length bc) rfl rfl ?_
    ((try refine sU ?_);repeat(refine sN fun _=>?_;try refine sU ?_))
    refine SxDone.mk fun w' hs => ⟨?_, hs.touch.below⟩
    rw [List.take_of_length_le (by rw [List.length_map]; exact Nat.le_refl _)]; rfl
end Go.Proofs.YtlmefcepdadfjaaGreat
/- Cells written within an element of a row. No program is named here. -/
namespace Go.Proofs.YtlmefcepdadfjaaGreat
open Go.RowKit

theorem splice_head {X T vs : List Value} {j : Nat} (h : j + vs.length ≤ X.length) : splice j vs (X ++ T) = splice j vs X ++ T := by
  unfold splice
  rw [List.take_append_of_le_length (by omega), List.drop_append_of_le_length (by omega)]
  simp only [List.append_assoc]
theorem splice_past {A T vs : List Value} {n j : Nat} (h : A.length = n) : splice (n + j) vs (A ++ T) = A ++ splice j vs T := by
  subst h
  unfold splice
  rw [List.take_length_add_append, Nat.add_assoc, List.drop_length_add_append]
  simp only [List.append_assoc]
theorem Enc.fl_splice {α : Type} (E : Enc α) {l : List α} {k j : Nat} {x x' : α} {vs : List Value} (h : l[k]? = some x) (hj : j + vs.length ≤ E.k) (hx : splice j vs (E.enc x) = E.enc x') : splice (k * E.k + j) vs (E.fl l) = E.fl (l.set k x') := by
  obtain ⟨hl, he⟩ := List.getElem?_eq_some_iff.1 h
  have e : E.fl l = E.fl (l.take k) ++ (E.enc x ++ E.fl (l.drop (k + 1))) := by
    conv => lhs; rw [← List.take_append_drop k l, List.drop_eq_getElem_cons hl, he, E.fl_append, E.fl_cons]
  rw [e, splice_past (by rw [E.fl_len, List.length_take, Nat.min_eq_left (by omega)]), splice_head (by rw [E.len]; exact hj), hx, List.set_eq_take_append_cons_drop, if_pos hl, E.fl_append, E.fl_cons]
end Go.Proofs.YtlmefcepdadfjaaGreat
