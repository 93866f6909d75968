/- Texts of this claim, one behind the other. -/
import Derived.Test.YtlmefcepdadfjaaGreatZShaJ
import Derived.Test.YtlmefcepdadfjaaGreatZSxA
/- The walks over Write and Len. -/
namespace Go.Proofs.YtlmefcepdadfjaaGreat
open Go.RowKit

set_option maxHeartbeats 4000000 in
set_option maxRecDepth 100000 in
theorem Write_cells (p c n : Nat) (st : Nat → Nat) (hs : ∀ j, st j < 4294967296) (r str : ByteArray) (hl : r.size + str.size ≤ 1000000) (hn : n ≤ 1000000) (w : World) (hpc : p < c) (hP : Blk w p 209 (tab 11 (hV (cloV c) st r n))) (hC : Blk w c 190 [.pointer (some ⟨p, 0, none⟩)]) :
    Calls Tryz.prog 117 #[.pointer (some ⟨p, 0, none⟩), .string str] w fun e w' => e = .returned (.int .i64 0) ∧ CloW p c (fedS (r ++ str).data.toList st ((r ++ str).size / 64)) ((r ++ str).extract (64 * ((r ++ str).size / 64)) (r ++ str).size) (n + str.size) w w' := by
  have hc10 : w.cell? ⟨p, 10, none⟩ = some (.func (.func 138) #[] #[.pointer (some ⟨c, 0, none⟩)]) := hP.at 10 (by omega)
  have hfl3 : ∀ W, (Instr.fieldAt 209 (.pointer (some ⟨p, 0, none⟩)) 3).run Tryz.prog W = .ok (.pointer (some ⟨p, 10, none⟩)) W := fun W => hash_field W p 3 10 (by simp)
  have hfl2 : ∀ W, (Instr.fieldAt 209 (.pointer (some ⟨p, 0, none⟩)) 2).run Tryz.prog W = .ok (.pointer (some ⟨p, 9, none⟩)) W := fun W => hash_field W p 2 9 (by simp)
  have hnf : ∀ W, (binOp .eql 103 (.func (.func 138) #[] #[.pointer (some ⟨c, 0, none⟩)]) .nilFunc).run Tryz.prog W = .ok (.bool false) W := fun W => run_eql_func_nil W _ _ _ _ _ _ _ Tryz.underlying103
  have HP := Go.Lib.hid hP; have HC := Go.Lib.hid hC; have HS := Go.Lib.hid hs; have HL := Go.Lib.hid hl
  have hss : str.size ≤ 1000000 := by omega
  clear hP hC hs hl
  go_enter Tryz.func117, Tryz.ntmps117
  go_wp2_with (go_at_call 138; refine (clo_any p c n st HS.out r str HL.out _ hpc ⟨HP.out, HC.out, Below.refl _ _⟩).mono ?_; rintro e w1 ⟨rfl, hW⟩; have hc9 : w1.cell? ⟨p, 9, none⟩ = some (.int .i64 (n : Nat)) := hW.atP.at 9 (by omega); have hfr9 := hW.atP.freeAt 9 (by omega); have HW := Go.Lib.hid hW; clear hW)
  have hb := HW.out.atP.set 9 (.int .i64 ((n + str.size : Nat) : Int))
  rw [hV_set9] at hb
  exact bodyPost_ret (results_tmp rfl _ _ _) rfl ⟨rfl, HW.out.only hb (Only.setCell _ _) hpc⟩
end Go.Proofs.YtlmefcepdadfjaaGreat
/- A variable that a drawn region makes and fills, under an existence. No program is named here. -/
namespace Go.Proofs.YtlmefcepdadfjaaGreat
open Go.RowKit

def VarD (L : Nat → Bool) (m f : Nat) (a : Act) (sl B : Nat) (w : World) (T : TypeId) (n : Nat) (fin zero : Nat → Value) : Prop := ∃ g, Cell3 (L m) (L f) (a.tmps.getD sl undef) B g w T n fin zero
section
variable {L : Nat → Bool} {m f sl B n : Nat} {a : Act} {w w' : World} {T : TypeId} {fin zero : Nat → Value}
theorem VarD.start (hm : L m = false) (hf : L f = false) : VarD L m f a sl B w T n fin zero := ⟨0, by rw [hm, hf]; exact Cell3.start _ _ _ _ _ _ _ _⟩
theorem VarD.put (h : VarD L m f a sl B w T n fin zero) {i s : Nat} (hm : m ≠ i) (hf : f ≠ i) (hs : sl ≠ s) (v : Value) (hb : Below w.heap.size w w') : VarD (setL L i) m f (a.put (some s) v) sl B w' T n fin zero := by
  obtain ⟨g, c⟩ := h
  exact ⟨g, by rw [setL_ne hm, setL_ne hf]; exact (c.kept hb).slot (slot_other rfl hs)⟩
theorem VarD.made (h : VarD L m f a sl B w T n fin zero) (hL : L m = false) (hmf : f ≠ m) (hsz : sl < a.tmps.size) (hB : B ≤ w.heap.size) (hb : Blk w' w.heap.size T (tab n zero)) : VarD (setL L m) m f (a.put (some sl) (.pointer (some ⟨w.heap.size, 0, none⟩))) sl B w' T n fin zero := by
  obtain ⟨g, c⟩ := h
  exact ⟨w.heap.size, by rw [setL_eq, setL_ne hmf]; exact Cell3.new (c.empty hL) (slot_same hsz) hB hb⟩
theorem VarD.at (h : VarD L m f a sl B w T n fin zero) (hm : L m = true) : ∃ g, a.tmps.getD sl undef = .pointer (some ⟨g, 0, none⟩) ∧ B ≤ g ∧ (L f = false → Blk w g T (tab n zero)) ∧ (L f = true → Blk w g T (tab n fin)) := by
  obtain ⟨g, c⟩ := h
  obtain ⟨h1, h2, h3, h4⟩ := c.2 hm
  exact ⟨g, h1, h2, h4, h3⟩
theorem VarD.filled {g : Nat} (hm : L m = true) (hmf : m ≠ f) (hv : a.tmps.getD sl undef = .pointer (some ⟨g, 0, none⟩)) (hB : B ≤ g) (hb : Blk w' g T (tab n fin)) : VarD (setL L f) m f a sl B w' T n fin zero :=
  ⟨g, by rw [setL_eq, setL_ne hmf, hm]; exact ⟨fun _ => rfl, fun _ => ⟨hv, hB, fun _ => hb, fun h => by cases h⟩⟩⟩
end
theorem run_index_tab {P : Program} (w : World) (t e : TypeId) (n k : Nat) (f : Nat → Value) (d : TypeDesc) (ki : IntKind) (ht : P.underlying t = some (.array n e)) (he : P.underlying e = some d) (hd : (match d with | .struct _ | .array _ _ => true | _ => false) = false)
    (hs : (P.info? e).map (·.size) = some 1) (hk : k < n) : (Instr.index t (.agg (tab n f).toArray) (.int ki (k : Nat))).run P w = .ok (f k) w := by
  have hagg : ∀ w : World, (isAgg e).run P w = .ok false w := by
    intro w
    unfold isAgg
    rw [Sem.run_bind, run_underlying he w]
    cases d <;> simp_all
  have hx : (tab n f).toArray[k]? = some (f k) := by rw [List.getElem?_toArray]; exact tab_get n f k hk
  cases hq : P.info? e with
  | none => simp [hq] at hs
  | some i =>
    have hi : i.size = 1 := by simpa [hq] using hs
    have h1 : (0 : Int) ≤ (k : Int) ∧ (k : Int) < (n : Int) := by omega
    simp [Instr.index, asIntOf, run_underlying ht, h1, sizeOf, typeInfo, hq, hi, part, hagg]
    have hx' : (tab n f)[k]? = some (f k) := tab_get n f k hk
    simp [hx', hk]
end Go.Proofs.YtlmefcepdadfjaaGreat
/- The walk over a hash's Sum. -/
namespace Go.Proofs.YtlmefcepdadfjaaGreat
open Go.RowKit

def sumV (st : Nat → Nat) (j : Nat) : Value := .int .u8 ((st (j / 4) / 256 ^ (3 - j % 4) % 256 : Nat) : Int)
theorem four_set (st : Nat → Nat) (k : Nat) (_hk : k < 8) (hl : st k < 4294967296) :
    ((((tab 32 fun j => if j < 4 * k then sumV st j else .int .u8 0).set (4 * k) (.int .u8 ((st k : Int) / 16777216))).set (4 * k + 1) (.int .u8 ((st k : Int) / 65536 % 256))).set (4 * k + 2) (.int .u8 ((st k : Int) / 256 % 256))).set (4 * k + 3) (.int .u8 ((st k : Int) % 256)) = tab 32 fun j => if j < 4 * (k + 1) then sumV st j else .int .u8 0 := by
  rw [tab_set, tab_set, tab_set, tab_set]
  refine tab_congr fun j hj => ?_
  by_cases h3 : j = 4 * k + 3
  · subst h3
    rw [if_pos rfl, if_pos (by omega)]
    simp only [sumV, show (4 * k + 3) / 4 = k by omega, show 3 - (4 * k + 3) % 4 = 0 by omega]
    congr 1 <;> omega
  rw [if_neg h3]
  by_cases h2 : j = 4 * k + 2
  · subst h2
    rw [if_pos rfl, if_pos (by omega)]
    simp only [sumV, show (4 * k + 2) / 4 = k by omega, show 3 - (4 * k + 2) % 4 = 1 by omega]
    congr 1 <;> omega
  rw [if_neg h2]
  by_cases h1 : j = 4 * k + 1
  · subst h1
    rw [if_pos rfl, if_pos (by omega)]
    simp only [sumV, show (4 * k + 1) / 4 = k by omega, show 3 - (4 * k + 1) % 4 = 2 by omega]
    congr 1 <;> omega
  rw [if_neg h1]
  by_cases h0 : j = 4 * k
  · subst h0
    rw [if_pos rfl, if_pos (by omega)]
    simp only [sumV, show (4 * k) / 4 = k by omega, show 3 - (4 * k) % 4 = 3 by omega]
    congr 1 <;> omega
  rw [if_neg h0]
  by_cases hh : j < 4 * k
  · rw [if_pos hh, if_pos (by omega)]
  · rw [if_neg hh, if_neg (by omega)]
def ISum (p : Nat) (st st2 : Nat → Nat) (r r2 q pad : ByteArray) (w0 : World) (A : Array Value) (L : Nat → Bool) (a : Act) (w : World) : Prop :=
  FrameI A [29, 30, 31, 32, 33, 34, 35, 36, 37, 38, 39, 28, 40, 41, 6, 7] a ∧
  Below w0.heap.size w0 w ∧
  VarD L 14 15 a 6 w0.heap.size w 206 8 (stV st2) (stV fun _ => 0) ∧
  (L 0 = true → a.tmps.getD 29 undef = .pointer (some ⟨p, 0, none⟩)) ∧
  (L 1 = true → a.tmps.getD 30 undef = .pointer (some ⟨p, 0, none⟩)) ∧
  (L 2 = true → a.tmps.getD 31 undef = .pointer (some ⟨p, 0, none⟩)) ∧
  (L 3 = true → a.tmps.getD 32 undef = .agg (tab 8 (stV st)).toArray) ∧
  (L 4 = true → a.tmps.getD 33 undef = .pointer (some ⟨p, 0, none⟩)) ∧
  (L 5 = true → a.tmps.getD 34 undef = .pointer (some ⟨p, 0, none⟩)) ∧
  (L 6 = true → a.tmps.getD 35 undef = .pointer (some ⟨p, 8, none⟩)) ∧
  (L 7 = true → a.tmps.getD 36 undef = .string r) ∧
  (L 8 = true → a.tmps.getD 37 undef = .string pad) ∧
  (L 9 = true → a.tmps.getD 38 undef = .string q) ∧
  (L 10 = true → a.tmps.getD 39 undef = .tuple #[.agg (tab 8 (stV st2)).toArray, .string r2]) ∧
  (L 11 = true → a.tmps.getD 28 undef = .tuple #[.agg (tab 8 (stV st2)).toArray, .string r2]) ∧
  (L 12 = true → a.tmps.getD 40 undef = .agg (tab 8 (stV st2)).toArray) ∧
  (L 13 = true → a.tmps.getD 41 undef = .string r2) ∧
  (L 16 = true → a.tmps.getD 7 undef = .string r2)
set_option maxHeartbeats 8000000 in
set_option maxRecDepth 100000 in
theorem Sum_cells (p c n : Nat) (st : Nat → Nat) (hs : ∀ j, st j < 4294967296) (r : ByteArray) (hl : r.size ≤ 1000) (hn : n ≤ 1000000) (w : World) (hP : Blk w p 209 (tab 11 (hV (cloV c) st r n))) :
    Calls Tryz.prog 118 #[.pointer (some ⟨p, 0, none⟩)] w fun e w' => e = .returned (.agg (tab 32 (sumV (fedS (r ++ padB n).data.toList st ((r ++ padB n).size / 64)))).toArray) ∧ Below w.heap.size w w' := by
  have hc10 : w.cell? ⟨p, 10, none⟩ = some (.func (.func 138) #[] #[.pointer (some ⟨c, 0, none⟩)]) := hP.at 10 (by omega)
  have hfl3 : ∀ W, (Instr.fieldAt 209 (.pointer (some ⟨p, 0, none⟩)) 3).run Tryz.prog W = .ok (.pointer (some ⟨p, 10, none⟩)) W := fun W => hash_field W p 3 10 (by simp)
  have hfl2 : ∀ W, (Instr.fieldAt 209 (.pointer (some ⟨p, 0, none⟩)) 2).run Tryz.prog W = .ok (.pointer (some ⟨p, 9, none⟩)) W := fun W => hash_field W p 2 9 (by simp)
  have hnf : ∀ W, (binOp .eql 103 (.func (.func 138) #[] #[.pointer (some ⟨c, 0, none⟩)]) .nilFunc).run Tryz.prog W = .ok (.bool false) W := fun W => run_eql_func_nil W _ _ _ _ _ _ _ Tryz.underlying103
  have hsz : r.size + (padB n).size ≤ 1000000 := by have := padB_size n; have := zeros_lt n; omega
  have hst2l : ∀ j, fedS (r ++ padB n).data.toList st ((r ++ padB n).size / 64) j < 4294967296 := fedS_lt _ _ hs _
  have hfd : ∀ W : World, Calls Tryz.prog 139 #[.agg (tab 8 (stV st)).toArray, .string (r ++ padB n)] W fun e w' => e = .returned (.tuple #[.agg (tab 8 (stV (fedS (r ++ padB n).data.toList st ((r ++ padB n).size / 64)))).toArray, .string ((r ++ padB n).extract (64 * ((r ++ padB n).size / 64)) (r ++ padB n).size)]) ∧ Below W.heap.size W w' := fun W =>
    feed_any st hs (r ++ padB n) (by rw [ByteArray.size_append]; exact hsz) W
  have hpd : ∀ W : World, Calls Tryz.prog 140 #[.int .i64 (n : Nat)] W fun e w' => e = .returned (.tuple #[.string (padB n), .int .i64 0]) ∧ Below W.heap.size W w' := fun W => Pad_any n (by omega) W
  generalize hst2 : fedS (r ++ padB n).data.toList st ((r ++ padB n).size / 64) = st2 at *
  generalize hr2 : (r ++ padB n).extract (64 * ((r ++ padB n).size / 64)) (r ++ padB n).size = r2 at *
  generalize hqq : r ++ padB n = q at *
  generalize hpp : padB n = pad at *
  have HFD := Go.Lib.hid hfd; have HPD := Go.Lib.hid hpd; have HQ := Go.Lib.hid hqq; have HSZ := Go.Lib.hid hsz; have HST := Go.Lib.hid hst2l
  clear hfd hpd hqq hst2 hr2 hpp hl hs hsz hst2l
  go_enter Tryz.func118, Tryz.ntmps118
  go_wp2_with (with_reducible refine wpList_alloc_blk (o := ⟨some 2, _, _, _, _, _⟩) rfl 69 rfl (.agg (tab 32 (sumV fun _ => 0)).toArray) (by kernel_rfl) ?_)
  intro w1 hb1 hbel1 hsz1
  go_wp2_with (with_reducible refine wpList_alloc_blk (o := ⟨some 3, _, _, _, _, _⟩) rfl 69 rfl (.agg (tab 32 (sumV fun _ => 0)).toArray) (by kernel_rfl) ?_)
  intro w2 hb2 hbel2 hsz2
  have hb12 := hb1.kept hbel2
  have hbel := kp_step hbel1 hbel2
  have hP2 := hP.kept hbel
  have hc10' : w2.cell? ⟨p, 10, none⟩ = some (.func (.func 138) #[] #[.pointer (some ⟨c, 0, none⟩)]) := hP2.at 10 (by omega)
  have hc9' : w2.cell? ⟨p, 9, none⟩ = some (.int .i64 (n : Nat)) := hP2.at 9 (by omega)
  obtain ⟨g2, hg2⟩ : ∃ g, w.heap.size = g := ⟨_, rfl⟩
  obtain ⟨g3, hg3⟩ : ∃ g, w1.heap.size = g := ⟨_, rfl⟩
  have h23 : g2 < g3 := by omega
  rw [hg2] at hb12
  rw [hg3] at hb2
  simp only [hg2, hg3]
  have HBEL := Go.Lib.hid hbel; have HP2 := Go.Lib.hid hP2; have HB2 := Go.Lib.hid hb12; have HB3 := Go.Lib.hid hb2; have HG := Go.Lib.hid hg2
  clear hb1 hbel1 hbel2 hsz1 hsz2 hbel hg3 hP hP2 hc10 hb12 hb2 hg2
  go_wp2_with (go_at_call 140; refine (HPD.out _).mono ?_; rintro e W ⟨rfl, hbW⟩; have HP := Go.Lib.hid (HP2.out.kept hbW); have HB2' := Go.Lib.hid (HB2.out.kept hbW); have HB3' := Go.Lib.hid (HB3.out.kept hbW); have HBW := Go.Lib.hid (kp_step HBEL.out hbW); clear hbW hc10' hc9' HBEL HP2 HB2 HB3 HPD hnf)
  refine wp_region_inv2 (by kernel_rfl) (by kernel_rfl) (ISum p st st2 r r2 q pad W) ?_ ?_ ?_
  · exact ⟨FrameI.refl _ _, (Below.refl _ _).drew, VarD.start rfl rfl, absF, absF, absF, absF, absF, absF, absF, absF, absF, absF, absF, absF, absF, absF, absF⟩
  · intro L a wx i o hI ho hL hd
    obtain ⟨hF, hbw, hv, h0, h1, h2, h3, h4, h5, h6, h7, h8, h9, h10, h11, h12, h13, h16⟩ := hI
    have hsz : a.tmps.size = 75 := hF.size
    have hi : i < 17 := (Array.getElem?_eq_some_iff.1 ho).1
    obtain rfl | rfl | rfl | rfl | rfl | rfl | rfl | rfl | rfl | rfl | rfl | rfl | rfl | rfl | rfl | rfl | rfl : i = 0 ∨ i = 1 ∨ i = 2 ∨ i = 3 ∨ i = 4 ∨ i = 5 ∨ i = 6 ∨ i = 7 ∨ i = 8 ∨ i = 9 ∨ i = 10 ∨ i = 11 ∨ i = 12 ∨ i = 13 ∨ i = 14 ∨ i = 15 ∨ i = 16 := by omega
    all_goals
      have ho' := ho
      simp only [List.getElem?_toArray, List.getElem?_cons_zero, List.getElem?_cons_succ, Option.some.injEq] at ho'
      subst ho'
    · refine wpOp_of ho rfl (wp_move _ rfl ?_)
      rw [show a.eval (.tmp 0) = .pointer (some ⟨p, 0, none⟩) from hF.keep 0 (by decide)]
      exact ⟨hF.put (by decide) _, hbw, hv.put (by decide) (by decide) (by decide) _ (Below.refl _ _), (fun _ => slot_same (by omega)), (imp_set h1 (by decide) (fun h => slot_other h (by decide))), (imp_set h2 (by decide) (fun h => slot_other h (by decide))), (imp_set h3 (by decide) (fun h => slot_other h (by decide))), (imp_set h4 (by decide) (fun h => slot_other h (by decide))), (imp_set h5 (by decide) (fun h => slot_other h (by decide))), (imp_set h6 (by decide) (fun h => slot_other h (by decide))), (imp_set h7 (by decide) (fun h => slot_other h (by decide))), (imp_set h8 (by decide) (fun h => slot_other h (by decide))), (imp_set h9 (by decide) (fun h => slot_other h (by decide))), (imp_set h10 (by decide) (fun h => slot_other h (by decide))), (imp_set h11 (by decide) (fun h => slot_other h (by decide))), (imp_set h12 (by decide) (fun h => slot_other h (by decide))), (imp_set h13 (by decide) (fun h => slot_other h (by decide))), (imp_set h16 (by decide) (fun h => slot_other h (by decide)))⟩
    · have d0 := h0 (hd { on := 0, ground := Ground.data } (by simp) rfl)
      refine wpOp_of ho rfl (wp_nilCheck _ rfl ⟨p, 0, none⟩ d0 ?_)
      exact ⟨hF.put (by decide) _, hbw, hv.put (by decide) (by decide) (by decide) _ (Below.refl _ _), (imp_set h0 (by decide) (fun h => slot_other h (by decide))), (fun _ => slot_same (by omega)), (imp_set h2 (by decide) (fun h => slot_other h (by decide))), (imp_set h3 (by decide) (fun h => slot_other h (by decide))), (imp_set h4 (by decide) (fun h => slot_other h (by decide))), (imp_set h5 (by decide) (fun h => slot_other h (by decide))), (imp_set h6 (by decide) (fun h => slot_other h (by decide))), (imp_set h7 (by decide) (fun h => slot_other h (by decide))), (imp_set h8 (by decide) (fun h => slot_other h (by decide))), (imp_set h9 (by decide) (fun h => slot_other h (by decide))), (imp_set h10 (by decide) (fun h => slot_other h (by decide))), (imp_set h11 (by decide) (fun h => slot_other h (by decide))), (imp_set h12 (by decide) (fun h => slot_other h (by decide))), (imp_set h13 (by decide) (fun h => slot_other h (by decide))), (imp_set h16 (by decide) (fun h => slot_other h (by decide)))⟩
    · have d1 := h1 (hd { on := 1, ground := Ground.data } (by simp) rfl)
      refine wpOp_of ho rfl (wp_fieldAddr 209 _ 0 rfl ⟨p, 0, none⟩ ⟨p, 0, none⟩ d1 (hash_field wx p 0 0 (by simp)) ?_)
      exact ⟨hF.put (by decide) _, hbw, hv.put (by decide) (by decide) (by decide) _ (Below.refl _ _), (imp_set h0 (by decide) (fun h => slot_other h (by decide))), (imp_set h1 (by decide) (fun h => slot_other h (by decide))), (fun _ => slot_same (by omega)), (imp_set h3 (by decide) (fun h => slot_other h (by decide))), (imp_set h4 (by decide) (fun h => slot_other h (by decide))), (imp_set h5 (by decide) (fun h => slot_other h (by decide))), (imp_set h6 (by decide) (fun h => slot_other h (by decide))), (imp_set h7 (by decide) (fun h => slot_other h (by decide))), (imp_set h8 (by decide) (fun h => slot_other h (by decide))), (imp_set h9 (by decide) (fun h => slot_other h (by decide))), (imp_set h10 (by decide) (fun h => slot_other h (by decide))), (imp_set h11 (by decide) (fun h => slot_other h (by decide))), (imp_set h12 (by decide) (fun h => slot_other h (by decide))), (imp_set h13 (by decide) (fun h => slot_other h (by decide))), (imp_set h16 (by decide) (fun h => slot_other h (by decide)))⟩
    · have d2 := h2 (hd { on := 2, ground := Ground.data } (by simp) rfl)
      refine wpOp_of ho rfl (wp_load_agg 206 _ rfl p 0 209 d2 _ 8 _ (HP.out.kept hbw) Tryz.underlying206 rfl (by kernel_rfl) (by rw [tab_length]; omega) ?_)
      rw [hV_take]
      exact ⟨hF.put (by decide) _, hbw, hv.put (by decide) (by decide) (by decide) _ (Below.refl _ _), (imp_set h0 (by decide) (fun h => slot_other h (by decide))), (imp_set h1 (by decide) (fun h => slot_other h (by decide))), (imp_set h2 (by decide) (fun h => slot_other h (by decide))), (fun _ => slot_same (by omega)), (imp_set h4 (by decide) (fun h => slot_other h (by decide))), (imp_set h5 (by decide) (fun h => slot_other h (by decide))), (imp_set h6 (by decide) (fun h => slot_other h (by decide))), (imp_set h7 (by decide) (fun h => slot_other h (by decide))), (imp_set h8 (by decide) (fun h => slot_other h (by decide))), (imp_set h9 (by decide) (fun h => slot_other h (by decide))), (imp_set h10 (by decide) (fun h => slot_other h (by decide))), (imp_set h11 (by decide) (fun h => slot_other h (by decide))), (imp_set h12 (by decide) (fun h => slot_other h (by decide))), (imp_set h13 (by decide) (fun h => slot_other h (by decide))), (imp_set h16 (by decide) (fun h => slot_other h (by decide)))⟩
    · refine wpOp_of ho rfl (wp_move _ rfl ?_)
      rw [show a.eval (.tmp 0) = .pointer (some ⟨p, 0, none⟩) from hF.keep 0 (by decide)]
      exact ⟨hF.put (by decide) _, hbw, hv.put (by decide) (by decide) (by decide) _ (Below.refl _ _), (imp_set h0 (by decide) (fun h => slot_other h (by decide))), (imp_set h1 (by decide) (fun h => slot_other h (by decide))), (imp_set h2 (by decide) (fun h => slot_other h (by decide))), (imp_set h3 (by decide) (fun h => slot_other h (by decide))), (fun _ => slot_same (by omega)), (imp_set h5 (by decide) (fun h => slot_other h (by decide))), (imp_set h6 (by decide) (fun h => slot_other h (by decide))), (imp_set h7 (by decide) (fun h => slot_other h (by decide))), (imp_set h8 (by decide) (fun h => slot_other h (by decide))), (imp_set h9 (by decide) (fun h => slot_other h (by decide))), (imp_set h10 (by decide) (fun h => slot_other h (by decide))), (imp_set h11 (by decide) (fun h => slot_other h (by decide))), (imp_set h12 (by decide) (fun h => slot_other h (by decide))), (imp_set h13 (by decide) (fun h => slot_other h (by decide))), (imp_set h16 (by decide) (fun h => slot_other h (by decide)))⟩
    · have d4 := h4 (hd { on := 4, ground := Ground.data } (by simp) rfl)
      refine wpOp_of ho rfl (wp_nilCheck _ rfl ⟨p, 0, none⟩ d4 ?_)
      exact ⟨hF.put (by decide) _, hbw, hv.put (by decide) (by decide) (by decide) _ (Below.refl _ _), (imp_set h0 (by decide) (fun h => slot_other h (by decide))), (imp_set h1 (by decide) (fun h => slot_other h (by decide))), (imp_set h2 (by decide) (fun h => slot_other h (by decide))), (imp_set h3 (by decide) (fun h => slot_other h (by decide))), (imp_set h4 (by decide) (fun h => slot_other h (by decide))), (fun _ => slot_same (by omega)), (imp_set h6 (by decide) (fun h => slot_other h (by decide))), (imp_set h7 (by decide) (fun h => slot_other h (by decide))), (imp_set h8 (by decide) (fun h => slot_other h (by decide))), (imp_set h9 (by decide) (fun h => slot_other h (by decide))), (imp_set h10 (by decide) (fun h => slot_other h (by decide))), (imp_set h11 (by decide) (fun h => slot_other h (by decide))), (imp_set h12 (by decide) (fun h => slot_other h (by decide))), (imp_set h13 (by decide) (fun h => slot_other h (by decide))), (imp_set h16 (by decide) (fun h => slot_other h (by decide)))⟩
    · have d5 := h5 (hd { on := 5, ground := Ground.data } (by simp) rfl)
      refine wpOp_of ho rfl (wp_fieldAddr 209 _ 1 rfl ⟨p, 0, none⟩ ⟨p, 8, none⟩ d5 (hash_field wx p 1 8 (by simp)) ?_)
      exact ⟨hF.put (by decide) _, hbw, hv.put (by decide) (by decide) (by decide) _ (Below.refl _ _), (imp_set h0 (by decide) (fun h => slot_other h (by decide))), (imp_set h1 (by decide) (fun h => slot_other h (by decide))), (imp_set h2 (by decide) (fun h => slot_other h (by decide))), (imp_set h3 (by decide) (fun h => slot_other h (by decide))), (imp_set h4 (by decide) (fun h => slot_other h (by decide))), (imp_set h5 (by decide) (fun h => slot_other h (by decide))), (fun _ => slot_same (by omega)), (imp_set h7 (by decide) (fun h => slot_other h (by decide))), (imp_set h8 (by decide) (fun h => slot_other h (by decide))), (imp_set h9 (by decide) (fun h => slot_other h (by decide))), (imp_set h10 (by decide) (fun h => slot_other h (by decide))), (imp_set h11 (by decide) (fun h => slot_other h (by decide))), (imp_set h12 (by decide) (fun h => slot_other h (by decide))), (imp_set h13 (by decide) (fun h => slot_other h (by decide))), (imp_set h16 (by decide) (fun h => slot_other h (by decide)))⟩
    · have d6 := h6 (hd { on := 6, ground := Ground.data } (by simp) rfl)
      have hcr : wx.cell? ⟨p, 8, none⟩ = some (.string r) := (HP.out.kept hbw).at 8 (by omega)
      refine wpOp_of ho rfl (wp_load_cell 9 _ rfl ⟨p, 8, none⟩ d6 (.string r) _ hcr Tryz.underlying9 rfl ?_)
      exact ⟨hF.put (by decide) _, hbw, hv.put (by decide) (by decide) (by decide) _ (Below.refl _ _), (imp_set h0 (by decide) (fun h => slot_other h (by decide))), (imp_set h1 (by decide) (fun h => slot_other h (by decide))), (imp_set h2 (by decide) (fun h => slot_other h (by decide))), (imp_set h3 (by decide) (fun h => slot_other h (by decide))), (imp_set h4 (by decide) (fun h => slot_other h (by decide))), (imp_set h5 (by decide) (fun h => slot_other h (by decide))), (imp_set h6 (by decide) (fun h => slot_other h (by decide))), (fun _ => slot_same (by omega)), (imp_set h8 (by decide) (fun h => slot_other h (by decide))), (imp_set h9 (by decide) (fun h => slot_other h (by decide))), (imp_set h10 (by decide) (fun h => slot_other h (by decide))), (imp_set h11 (by decide) (fun h => slot_other h (by decide))), (imp_set h12 (by decide) (fun h => slot_other h (by decide))), (imp_set h13 (by decide) (fun h => slot_other h (by decide))), (imp_set h16 (by decide) (fun h => slot_other h (by decide)))⟩
    · refine wpOp_of ho rfl (wp_move _ rfl ?_)
      rw [show a.eval (.tmp 4) = .string pad from hF.keep 4 (by decide)]
      exact ⟨hF.put (by decide) _, hbw, hv.put (by decide) (by decide) (by decide) _ (Below.refl _ _), (imp_set h0 (by decide) (fun h => slot_other h (by decide))), (imp_set h1 (by decide) (fun h => slot_other h (by decide))), (imp_set h2 (by decide) (fun h => slot_other h (by decide))), (imp_set h3 (by decide) (fun h => slot_other h (by decide))), (imp_set h4 (by decide) (fun h => slot_other h (by decide))), (imp_set h5 (by decide) (fun h => slot_other h (by decide))), (imp_set h6 (by decide) (fun h => slot_other h (by decide))), (imp_set h7 (by decide) (fun h => slot_other h (by decide))), (fun _ => slot_same (by omega)), (imp_set h9 (by decide) (fun h => slot_other h (by decide))), (imp_set h10 (by decide) (fun h => slot_other h (by decide))), (imp_set h11 (by decide) (fun h => slot_other h (by decide))), (imp_set h12 (by decide) (fun h => slot_other h (by decide))), (imp_set h13 (by decide) (fun h => slot_other h (by decide))), (imp_set h16 (by decide) (fun h => slot_other h (by decide)))⟩
    · have d7 := h7 (hd { on := 7, ground := Ground.data } (by simp) rfl)
      have d8 := h8 (hd { on := 8, ground := Ground.data } (by simp) rfl)
      refine wpOp_of ho rfl (wp_add_str _ _ _ _ rfl Tryz.underlying9 r pad d7 d8 (by have := HSZ.out; omega) ?_)
      rw [show r ++ pad = q from HQ.out]
      exact ⟨hF.put (by decide) _, hbw, hv.put (by decide) (by decide) (by decide) _ (Below.refl _ _), (imp_set h0 (by decide) (fun h => slot_other h (by decide))), (imp_set h1 (by decide) (fun h => slot_other h (by decide))), (imp_set h2 (by decide) (fun h => slot_other h (by decide))), (imp_set h3 (by decide) (fun h => slot_other h (by decide))), (imp_set h4 (by decide) (fun h => slot_other h (by decide))), (imp_set h5 (by decide) (fun h => slot_other h (by decide))), (imp_set h6 (by decide) (fun h => slot_other h (by decide))), (imp_set h7 (by decide) (fun h => slot_other h (by decide))), (imp_set h8 (by decide) (fun h => slot_other h (by decide))), (fun _ => slot_same (by omega)), (imp_set h10 (by decide) (fun h => slot_other h (by decide))), (imp_set h11 (by decide) (fun h => slot_other h (by decide))), (imp_set h12 (by decide) (fun h => slot_other h (by decide))), (imp_set h13 (by decide) (fun h => slot_other h (by decide))), (imp_set h16 (by decide) (fun h => slot_other h (by decide)))⟩
    · have d3 := h3 (hd { on := 3, ground := Ground.data } (by simp) rfl)
      have d9 := h9 (hd { on := 9, ground := Ground.data } (by simp) rfl)
      refine wpOp_of ho rfl (wp_call 139 _ _ rfl Tryz.f139 Tryz.func139 (by kernel_rfl) (by kernel_rfl) #[.agg (tab 8 (stV st)).toArray, .string q] ?_ ((HFD.out _).mono ?_))
      · simp only [List.map_toArray, List.map_cons, List.map_nil]
        rw [show a.eval (.tmp 32) = .agg (tab 8 (stV st)).toArray from d3, show a.eval (.tmp 38) = .string q from d9]
      rintro e w3 ⟨rfl, hb3⟩
      refine ⟨_, rfl, ?_⟩
      exact ⟨hF.put (by decide) _, kp_step hbw hb3, hv.put (by decide) (by decide) (by decide) _ hb3, (imp_set h0 (by decide) (fun h => slot_other h (by decide))), (imp_set h1 (by decide) (fun h => slot_other h (by decide))), (imp_set h2 (by decide) (fun h => slot_other h (by decide))), (imp_set h3 (by decide) (fun h => slot_other h (by decide))), (imp_set h4 (by decide) (fun h => slot_other h (by decide))), (imp_set h5 (by decide) (fun h => slot_other h (by decide))), (imp_set h6 (by decide) (fun h => slot_other h (by decide))), (imp_set h7 (by decide) (fun h => slot_other h (by decide))), (imp_set h8 (by decide) (fun h => slot_other h (by decide))), (imp_set h9 (by decide) (fun h => slot_other h (by decide))), (fun _ => slot_same (by omega)), (imp_set h11 (by decide) (fun h => slot_other h (by decide))), (imp_set h12 (by decide) (fun h => slot_other h (by decide))), (imp_set h13 (by decide) (fun h => slot_other h (by decide))), (imp_set h16 (by decide) (fun h => slot_other h (by decide)))⟩
    · have d10 := h10 (hd { on := 10, ground := Ground.data } (by simp) rfl)
      refine wpOp_of ho rfl (wp_move _ rfl ?_)
      rw [show a.eval (.tmp 39) = _ from d10]
      exact ⟨hF.put (by decide) _, hbw, hv.put (by decide) (by decide) (by decide) _ (Below.refl _ _), (imp_set h0 (by decide) (fun h => slot_other h (by decide))), (imp_set h1 (by decide) (fun h => slot_other h (by decide))), (imp_set h2 (by decide) (fun h => slot_other h (by decide))), (imp_set h3 (by decide) (fun h => slot_other h (by decide))), (imp_set h4 (by decide) (fun h => slot_other h (by decide))), (imp_set h5 (by decide) (fun h => slot_other h (by decide))), (imp_set h6 (by decide) (fun h => slot_other h (by decide))), (imp_set h7 (by decide) (fun h => slot_other h (by decide))), (imp_set h8 (by decide) (fun h => slot_other h (by decide))), (imp_set h9 (by decide) (fun h => slot_other h (by decide))), (imp_set h10 (by decide) (fun h => slot_other h (by decide))), (fun _ => slot_same (by omega)), (imp_set h12 (by decide) (fun h => slot_other h (by decide))), (imp_set h13 (by decide) (fun h => slot_other h (by decide))), (imp_set h16 (by decide) (fun h => slot_other h (by decide)))⟩
    · have d11 := h11 (hd { on := 11, ground := Ground.data } (by simp) rfl)
      refine wpOp_of ho rfl (wp_extract _ 0 rfl _ d11 _ rfl ?_)
      exact ⟨hF.put (by decide) _, hbw, hv.put (by decide) (by decide) (by decide) _ (Below.refl _ _), (imp_set h0 (by decide) (fun h => slot_other h (by decide))), (imp_set h1 (by decide) (fun h => slot_other h (by decide))), (imp_set h2 (by decide) (fun h => slot_other h (by decide))), (imp_set h3 (by decide) (fun h => slot_other h (by decide))), (imp_set h4 (by decide) (fun h => slot_other h (by decide))), (imp_set h5 (by decide) (fun h => slot_other h (by decide))), (imp_set h6 (by decide) (fun h => slot_other h (by decide))), (imp_set h7 (by decide) (fun h => slot_other h (by decide))), (imp_set h8 (by decide) (fun h => slot_other h (by decide))), (imp_set h9 (by decide) (fun h => slot_other h (by decide))), (imp_set h10 (by decide) (fun h => slot_other h (by decide))), (imp_set h11 (by decide) (fun h => slot_other h (by decide))), (fun _ => slot_same (by omega)), (imp_set h13 (by decide) (fun h => slot_other h (by decide))), (imp_set h16 (by decide) (fun h => slot_other h (by decide)))⟩
    · have d11 := h11 (hd { on := 11, ground := Ground.data } (by simp) rfl)
      refine wpOp_of ho rfl (wp_extract _ 1 rfl _ d11 _ rfl ?_)
      exact ⟨hF.put (by decide) _, hbw, hv.put (by decide) (by decide) (by decide) _ (Below.refl _ _), (imp_set h0 (by decide) (fun h => slot_other h (by decide))), (imp_set h1 (by decide) (fun h => slot_other h (by decide))), (imp_set h2 (by decide) (fun h => slot_other h (by decide))), (imp_set h3 (by decide) (fun h => slot_other h (by decide))), (imp_set h4 (by decide) (fun h => slot_other h (by decide))), (imp_set h5 (by decide) (fun h => slot_other h (by decide))), (imp_set h6 (by decide) (fun h => slot_other h (by decide))), (imp_set h7 (by decide) (fun h => slot_other h (by decide))), (imp_set h8 (by decide) (fun h => slot_other h (by decide))), (imp_set h9 (by decide) (fun h => slot_other h (by decide))), (imp_set h10 (by decide) (fun h => slot_other h (by decide))), (imp_set h11 (by decide) (fun h => slot_other h (by decide))), (imp_set h12 (by decide) (fun h => slot_other h (by decide))), (fun _ => slot_same (by omega)), (imp_set h16 (by decide) (fun h => slot_other h (by decide)))⟩
    · refine wpOp_of ho rfl (wp_alloc_blk 206 rfl (.agg (tab 8 (stV fun _ => 0)).toArray) (by kernel_rfl) ?_)
      intro w3 hb3n hb3 hlt3
      exact ⟨hF.put (by decide) _, kp_step hbw hb3, hv.made hL (by decide) (by omega) hbw.size hb3n, (imp_set h0 (by decide) (fun h => slot_other h (by decide))), (imp_set h1 (by decide) (fun h => slot_other h (by decide))), (imp_set h2 (by decide) (fun h => slot_other h (by decide))), (imp_set h3 (by decide) (fun h => slot_other h (by decide))), (imp_set h4 (by decide) (fun h => slot_other h (by decide))), (imp_set h5 (by decide) (fun h => slot_other h (by decide))), (imp_set h6 (by decide) (fun h => slot_other h (by decide))), (imp_set h7 (by decide) (fun h => slot_other h (by decide))), (imp_set h8 (by decide) (fun h => slot_other h (by decide))), (imp_set h9 (by decide) (fun h => slot_other h (by decide))), (imp_set h10 (by decide) (fun h => slot_other h (by decide))), (imp_set h11 (by decide) (fun h => slot_other h (by decide))), (imp_set h12 (by decide) (fun h => slot_other h (by decide))), (imp_set h13 (by decide) (fun h => slot_other h (by decide))), (imp_set h16 (by decide) (fun h => slot_other h (by decide)))⟩
    · have d12 := h12 (hd { on := 12, ground := Ground.data } (by simp) rfl)
      have d14 : L 14 = true := hd { on := 14, ground := Ground.data } (by simp) rfl
      obtain ⟨g6, e6, b6, z6, _⟩ := hv.at d14
      refine wpOp_of ho rfl (wp_store_tab 206 (.tmp 6) (.tmp 40) rfl g6 206 8 (stV st2) (stV fun _ => 0) e6 d12 (z6 hL) (by kernel_rfl) (fun _ => rfl) ?_)
      intro w3 hb3 ho3
      exact ⟨hF, hbw.trans (ho3.below b6), VarD.filled d14 (by decide) e6 b6 hb3, (imp_set h0 (by decide) id), (imp_set h1 (by decide) id), (imp_set h2 (by decide) id), (imp_set h3 (by decide) id), (imp_set h4 (by decide) id), (imp_set h5 (by decide) id), (imp_set h6 (by decide) id), (imp_set h7 (by decide) id), (imp_set h8 (by decide) id), (imp_set h9 (by decide) id), (imp_set h10 (by decide) id), (imp_set h11 (by decide) id), (imp_set h12 (by decide) id), (imp_set h13 (by decide) id), (imp_set h16 (by decide) id)⟩
    · have d13 := h13 (hd { on := 13, ground := Ground.data } (by simp) rfl)
      refine wpOp_of ho rfl (wp_assign _ rfl ?_)
      rw [show a.eval (.tmp 41) = _ from d13]
      exact ⟨hF.put (by decide) _, hbw, hv.put (by decide) (by decide) (by decide) _ (Below.refl _ _), (imp_set h0 (by decide) (fun h => slot_other h (by decide))), (imp_set h1 (by decide) (fun h => slot_other h (by decide))), (imp_set h2 (by decide) (fun h => slot_other h (by decide))), (imp_set h3 (by decide) (fun h => slot_other h (by decide))), (imp_set h4 (by decide) (fun h => slot_other h (by decide))), (imp_set h5 (by decide) (fun h => slot_other h (by decide))), (imp_set h6 (by decide) (fun h => slot_other h (by decide))), (imp_set h7 (by decide) (fun h => slot_other h (by decide))), (imp_set h8 (by decide) (fun h => slot_other h (by decide))), (imp_set h9 (by decide) (fun h => slot_other h (by decide))), (imp_set h10 (by decide) (fun h => slot_other h (by decide))), (imp_set h11 (by decide) (fun h => slot_other h (by decide))), (imp_set h12 (by decide) (fun h => slot_other h (by decide))), (imp_set h13 (by decide) (fun h => slot_other h (by decide))), (fun _ => slot_same (by omega))⟩
  · intro L a wx hI hall
    obtain ⟨hF, hbw, hv, h0, h1, h2, h3, h4, h5, h6, h7, h8, h9, h10, h11, h12, h13, h16⟩ := hI
    have e0 := h0 (hall 0 (by decide))
    have e1 := h1 (hall 1 (by decide))
    have e2 := h2 (hall 2 (by decide))
    have e3 := h3 (hall 3 (by decide))
    have e4 := h4 (hall 4 (by decide))
    have e5 := h5 (hall 5 (by decide))
    have e6 := h6 (hall 6 (by decide))
    have e7 := h7 (hall 7 (by decide))
    have e8 := h8 (hall 8 (by decide))
    have e9 := h9 (hall 9 (by decide))
    have e10 := h10 (hall 10 (by decide))
    have e11 := h11 (hall 11 (by decide))
    have e12 := h12 (hall 12 (by decide))
    have e13 := h13 (hall 13 (by decide))
    have e16 := h16 (hall 16 (by decide))
    have t14 : L 14 = true := hall 14 (by decide)
    have t15 : L 15 = true := hall 15 (by decide)
    obtain ⟨g6, e14, b6, _, f6⟩ := hv.at t14
    have hb6 := f6 t15
    have hA := hF.eq [(29, .pointer (some ⟨p, 0, none⟩)), (30, .pointer (some ⟨p, 0, none⟩)), (31, .pointer (some ⟨p, 0, none⟩)), (32, .agg (tab 8 (stV st)).toArray), (33, .pointer (some ⟨p, 0, none⟩)), (34, .pointer (some ⟨p, 0, none⟩)), (35, .pointer (some ⟨p, 8, none⟩)), (36, .string r), (37, .string pad), (38, .string q), (39, .tuple #[.agg (tab 8 (stV st2)).toArray, .string r2]), (28, .tuple #[.agg (tab 8 (stV st2)).toArray, .string r2]), (40, .agg (tab 8 (stV st2)).toArray), (41, .string r2), (6, .pointer (some ⟨g6, 0, none⟩)), (7, .string r2)]
      (by
        intro x hx
        simp only [List.mem_cons, List.not_mem_nil, or_false] at hx
        rcases hx with rfl | rfl | rfl | rfl | rfl | rfl | rfl | rfl | rfl | rfl | rfl | rfl | rfl | rfl | rfl | rfl
        · exact ⟨show (29 : Nat) < 75 by decide, e0⟩
        · exact ⟨show (30 : Nat) < 75 by decide, e1⟩
        · exact ⟨show (31 : Nat) < 75 by decide, e2⟩
        · exact ⟨show (32 : Nat) < 75 by decide, e3⟩
        · exact ⟨show (33 : Nat) < 75 by decide, e4⟩
        · exact ⟨show (34 : Nat) < 75 by decide, e5⟩
        · exact ⟨show (35 : Nat) < 75 by decide, e6⟩
        · exact ⟨show (36 : Nat) < 75 by decide, e7⟩
        · exact ⟨show (37 : Nat) < 75 by decide, e8⟩
        · exact ⟨show (38 : Nat) < 75 by decide, e9⟩
        · exact ⟨show (39 : Nat) < 75 by decide, e10⟩
        · exact ⟨show (28 : Nat) < 75 by decide, e11⟩
        · exact ⟨show (40 : Nat) < 75 by decide, e12⟩
        · exact ⟨show (41 : Nat) < 75 by decide, e13⟩
        · exact ⟨show (6 : Nat) < 75 by decide, e14⟩
        · exact ⟨show (7 : Nat) < 75 by decide, e16⟩)
      (by
        intro s hs
        simp only [List.mem_cons, List.not_mem_nil, or_false] at hs
        rcases hs with rfl | rfl | rfl | rfl | rfl | rfl | rfl | rfl | rfl | rfl | rfl | rfl | rfl | rfl | rfl | rfl <;> rfl)
    rw [hA]
    simp only [putAll, List.setIfInBounds_toArray, List.set_cons_zero, List.set_cons_succ]
    clear hA hF hall h0 h1 h2 h3 h4 h5 h6 h7 h8 h9 h10 h11 h12 h13 h16 e0 e1 e2 e3 e4 e5 e6 e7 e8 e9 e10 e11 e12 e13 e14 e16
    have HB2n := Go.Lib.hid (HB2'.out.kept hbw); have HB3n := Go.Lib.hid (HB3'.out.kept hbw); have HBLn := Go.Lib.hid (kp_step HBW.out hbw); have HB6n := Go.Lib.hid hb6
    clear hb6 hbw b6 f6 hfl2 hfl3
    go_wp2_with (with_reducible refine wpList_load_tab (o := ⟨some 42, _, _, _, _, _⟩) rfl 206 _ rfl g6 206 rfl 8 _ _ HB6n.out Tryz.underlying206 rfl (by kernel_rfl) ?_)
    go_loopw [43] (fun i wr => ∃ k : Nat, k ≤ 8 ∧ i = .int .i64 (k : Nat) ∧ Blk wr g3 69 (tab 32 (fun j => if j < 4 * k then sumV st2 j else .int .u8 0)) ∧ Blk wr g2 69 (tab 32 (sumV fun _ => 0)) ∧ Below w.heap.size w wr) (fun i _ => (8 - intOf i).toNat)
    case atStart => exact ⟨0, by omega, rfl, HB3n.out, HB2n.out, HBLn.out⟩
    case round =>
      obtain ⟨k, hk, rfl, hb3, hb2, hbl⟩ := hrel
      by_cases hk8 : k < 8
      · have hix : (Instr.index 206 (.agg (tab 8 (stV st2)).toArray) (.int .i64 (k : Nat))).run Tryz.prog wr = .ok (.int .u32 (st2 k : Nat)) wr := run_index_tab (P := Tryz.prog) wr 206 24 8 k (stV st2) _ .i64 Tryz.underlying206 Tryz.underlying24 rfl (by kernel_rfl) hk8
        have HB2r := Go.Lib.hid hb2; have HBLr := Go.Lib.hid hbl; have HB3r := Go.Lib.hid hb3
        clear hb2 hbl hb3
        have hk0 : (0 : Int) ≤ (k : Int) := by omega
        have hk1 : (k : Int) < 8 := by omega
        have t0 : (4 * (k : Int)).toNat = 4 * k := by omega
        have t1 : (4 * (k : Int) + 1).toNat = 4 * k + 1 := by omega
        have t2 : (4 * (k : Int) + 2).toNat = 4 * k + 2 := by omega
        have t3 : (4 * (k : Int) + 3).toNat = 4 * k + 3 := by omega
        have hxl := HST.out k
        have HT0 := Go.Lib.hid t0
        go_wp2_with (with_reducible refine wpList_store_cell (o := ⟨none, .store 5 (.tmp 69) (.tmp 60), _, _, _, _⟩) rfl 5 _ _ rfl g3 (4 * k) 69 _ rfl rfl _ HB3r.out (by kernel_rfl) (by rw [tab_length]; omega) rfl rfl ?_)
        intro w4 hb4 ho4
        have HB4 := Go.Lib.hid hb4; clear hb4
        go_wp2_with (with_reducible refine wpList_store_cell (o := ⟨none, .store 5 (.tmp 70) (.tmp 63), _, _, _, _⟩) rfl 5 _ _ rfl g3 (4 * k + 1) 69 _ rfl rfl _ HB4.out (by kernel_rfl) (by simp only [List.length_set, tab_length]; omega) rfl rfl ?_)
        intro w5 hb5 ho5
        have HB5 := Go.Lib.hid hb5; clear hb5
        go_wp2_with (with_reducible refine wpList_store_cell (o := ⟨none, .store 5 (.tmp 71) (.tmp 66), _, _, _, _⟩) rfl 5 _ _ rfl g3 (4 * k + 2) 69 _ rfl rfl _ HB5.out (by kernel_rfl) (by simp only [List.length_set, tab_length]; omega) rfl rfl ?_)
        intro w6 hb6 ho6
        have HB6 := Go.Lib.hid hb6; clear hb6
        go_wp2_with (with_reducible refine wpList_store_cell (o := ⟨none, .store 5 (.tmp 72) (.tmp 68), _, _, _, _⟩) rfl 5 _ _ rfl g3 (4 * k + 3) 69 _ rfl rfl _ HB6.out (by kernel_rfl) (by simp only [List.length_set, tab_length]; omega) rfl rfl ?_)
        intro w7 hb7 ho7
        have HB7 := Go.Lib.hid hb7; clear hb7
        go_wp2_with fail
        go_roundw
        case rel =>
          have hne : g2 ≠ g3 := by omega
          refine ⟨k + 1, by omega, by simp, HB7.out.congr (four_set st2 k hk8 hxl), ho7.other (ho6.other (ho5.other (ho4.other HB2r.out hne) hne) hne) hne, ?_⟩
          have hle : w.heap.size ≤ g3 := by have := HG.out; omega
          exact (((HBLr.out.trans (ho4.below hle)).trans (ho5.below hle)).trans (ho6.below hle)).trans (ho7.below hle)
        case measure => simp [intOf]; omega
      · obtain rfl : k = 8 := by omega
        have hb3' : Blk wr g3 69 (tab 32 (sumV st2)) := hb3.congr (tab_congr fun j hj => if_pos (by omega))
        have HBL := Go.Lib.hid hbl
        clear hb3 hbl
        go_wp2_with (first
          | (with_reducible refine wpList_load_tab (o := ⟨some 74, _, _, _, _, _⟩) rfl 69 _ rfl g3 69 rfl 32 _ _ hb3' Tryz.underlying69 rfl (by kernel_rfl) ?_)
          | (with_reducible refine wpList_store_tab (o := ⟨none, .store _ (.tmp 2) (.tmp 74), _, _, _, _⟩) rfl 69 _ _ rfl g2 69 32 _ _ rfl rfl hb2 (by kernel_rfl) (fun _ => rfl) ?_))
        intro w4 hb4 ho4
        go_wp2_with fail
        refine bodyPost_ret (results_cell_tab rfl _ _ g2 69 32 _ _ rfl hb4 Tryz.underlying69 rfl (by kernel_rfl)) rfl ⟨rfl, ?_⟩
        exact HBL.out.trans (ho4.below (by have := HG.out; omega))
end Go.Proofs.YtlmefcepdadfjaaGreat
