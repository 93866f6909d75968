/- Layer 23: End. -/
import Derived.Test.YtlmefcepdadfjaaGreatZStU
namespace Go.Proofs.YtlmefcepdadfjaaGreat
open Go.RowKit

theorem laid_fine {c : Nat → Int} {box man : Int} {L : Lb} {cs : List ByteArray} {ms : List Mr} {bs : List Nb} {ch : List ByteArray} (hc : segC c = true) (hg : Good L) (h1 : cs.length ≤ 9000) (h4 : szB cs ≤ 9000) (h2 : ((⟨ms.map Mr.mn, bs.map Nb.bx⟩ : Ls), ch) = laidP c box man L.G cs) : Fine L ms bs ch := by
  obtain ⟨a1, a2, a3, a4, a5⟩ := laidP_much (box := box) (man := man) (G := L.G) hc cs
  rw [← h2] at a1 a2 a3 a4 a5
  dsimp only at a1 a2 a3 a4 a5
  rw [List.length_map] at a1 a3
  refine ⟨hg.ok, hg.kn, by omega, fun m hm => ?_, by omega, fun b hb => ?_, by omega, by omega, by omega⟩
  · have := a2 m.mn (List.mem_map.2 ⟨m, hm, rfl⟩)
    have e : m.mn.2.length = m.2.l.length := rfl
    omega
  · have := a4 b.bx (List.mem_map.2 ⟨b, hb, rfl⟩)
    have e : b.bx.2.length = b.2.l.length := rfl
    omega
def mdL (ms : List Mr) (mo : Option Addr) (bs : List Nb) (bo : Option Addr) : RdL := (mo, mbE.fl (ms.map Mr.mb)) :: (bo, mbE.fl (bs.map Nb.mb)) :: (maL ms ++ bxL bs)
def mdC (mv bv : Value) (n re im : Int) : List Value := [mv, bv, .int .i64 n, .int .i64 re, .int .i64 im]
def madeP (c : Nat → Int) (box man : Int) (G : List (List Rk)) (cs : List ByteArray) : Ls := lastP c box man G (laidP c box man G cs)
theorem madeP_much {c : Nat → Int} {box man : Int} {G : List (List Rk)} (hc : segC c = true) (cs : List ByteArray) : (madeP c box man G cs).ms.length ≤ cs.length ∧ (∀ x ∈ (madeP c box man G cs).ms, x.2.length ≤ cs.length) ∧ (madeP c box man G cs).bs.length ≤ cs.length ∧ (∀ b ∈ (madeP c box man G cs).bs, b.2.length ≤ cs.length) ∧ freshX (madeP c box man G cs).bs ≤ szB cs := by
  obtain ⟨a1, a2, a3, a4, a5⟩ := laidP_much (box := box) (man := man) (G := G) hc cs
  unfold madeP lastP
  split
  · exact ⟨by omega, a2, by omega, fun b hb => by have := a4 b hb; omega, by omega⟩
  · rename_i h
    have hp : 0 < (laidP c box man G cs).2.length := List.length_pos_iff.2 h
    obtain ⟨b1, b2, b3, b4, b5⟩ := layP_much (c := c) (box := box) (man := man) (G := G) (laidP c box man G cs).1 (laidP c box man G cs).2 (m := cs.length - (laidP c box man G cs).2.length) (fun b hb => by have := a4 b hb; omega)
    refine ⟨by omega, fun y hy => ?_, by omega, fun b hb => by have := b4 b hb; omega, by omega⟩
    rcases b2 y hy with h6 | h6
    · exact a2 y h6
    · omega
theorem made_fine {c : Nat → Int} {box man : Int} {L : Lb} {cs : List ByteArray} {ms : List Mr} {bs : List Nb} (hc : segC c = true) (hg : Good L) (h1 : cs.length ≤ 9000) (h4 : szB cs ≤ 9000) (h2 : (⟨ms.map Mr.mn, bs.map Nb.bx⟩ : Ls) = madeP c box man L.G cs) : Fine L ms bs [] := by
  obtain ⟨a1, a2, a3, a4, a5⟩ := madeP_much (box := box) (man := man) (G := L.G) hc cs
  rw [← h2] at a1 a2 a3 a4 a5
  dsimp only at a1 a2 a3 a4 a5
  rw [List.length_map] at a1 a3
  refine ⟨hg.ok, hg.kn, by omega, fun m hm => ?_, by omega, fun b hb => ?_, Nat.zero_le _, Nat.zero_le _, by omega⟩
  · have := a2 m.mn (List.mem_map.2 ⟨m, hm, rfl⟩)
    have e : m.mn.2.length = m.2.l.length := rfl
    omega
  · have := a4 b.bx (List.mem_map.2 ⟨b, hb, rfl⟩)
    have e : b.bx.2.length = b.2.l.length := rfl
    omega
theorem Sat.made {W : World} {M : List Nat} {R : Hp} {w : World} {ms : List Mr} {mo : Option Addr} {mc : Nat} {bs : List Nb} {bo : Option Addr} {bc nl : Nat} {e0 e5 e6 e7 e8 e9 e10 e11 : Ent} (hml : ms.length ≤ 9000) (hbl : bs.length ≤ 9000) (hcl : ∀ b ∈ bs, b.2.l.length ≤ 9000)
    (hs : Sat W M ([e0, .row mo nl mc 67 2 (mbE.fl (ms.map Mr.mb)), .row bo bs.length bc 60 2 (mbE.fl (bs.map Nb.mb)), topRow bs, .gen (rdsG (bxL bs.dropLast)), e5, e6, e7, e8, e9, e10, e11, .gen (rdsG (maL ms))] ++ R) w) : Sat W M (.gen (rdsG (mdL ms mo bs bo)) :: e9 :: e10 :: e8 :: R) w := by
  have hb := hs.boxes (bs := bs) (fun b hb => by have := hcl b hb; omega) 3 4 rfl rfl
  refine hs.reader (rdsG (mdL ms mo bs bo)) rfl ([9, 10, 8] ++ tailIx 13 R.length) (pickH_append (A := [_, _, _]) rfl (pickH_tail (L := R) 13 rfl rfl)) (nodup_tail 13 _ rfl rfl) ?_ ?_
  · intro x hx
    unfold mdL at hx
    simp only [List.mem_cons] at hx
    rcases hx with rfl | rfl | hx
    · exact hs.rowRd 1 rfl (by rw [mbE_len, List.length_map]; unfold maxLen; omega)
    · exact hs.rowRd 2 rfl (by rw [mbE_len, List.length_map]; unfold maxLen; omega)
    · rcases List.mem_append.1 hx with h | h
      · exact hs.rds1 12 rfl x h
      · exact hb x h
  · intro g hu
    obtain ⟨x, hx, hu⟩ := hu
    unfold mdL at hx
    simp only [List.mem_cons] at hx
    rcases hx with rfl | rfl | hx
    · exact ⟨1, _, tail_no rfl (by omega), rfl, hu.2⟩
    · exact ⟨2, _, tail_no rfl (by omega), rfl, hu.2⟩
    · rcases List.mem_append.1 hx with h | h
      · exact ⟨12, _, tail_no rfl (by omega), rfl, ⟨x, h, hu⟩⟩
      · unfold bxL at h
        obtain ⟨b, hb2, rfl⟩ := List.mem_map.1 h
        rcases List.eq_nil_or_concat bs with h0 | ⟨bs', d, h0⟩
        · subst h0; cases hb2
        · rw [List.concat_eq_append] at h0
          rw [h0] at hb2
          rcases List.mem_append.1 hb2 with h5 | h5
          · refine ⟨4, .gen (rdsG (bxL bs.dropLast)), tail_no rfl (by omega), rfl, ⟨_, List.mem_map.2 ⟨b, ?_, rfl⟩, hu⟩⟩
            rw [h0, List.dropLast_concat]; exact h5
          · obtain rfl := List.mem_singleton.1 h5
            refine ⟨3, topRow bs, tail_no rfl (by omega), rfl, ?_⟩
            rw [h0, topRow_snoc]
            exact hu.2
theorem lastOf_bytes (s : ByteArray) : s.extract 0 s.size = s := by
  apply ba_extS
  rw [ba_extractS, List.drop_zero, Nat.sub_zero, List.take_of_length_le (by rw [ba_lenS]; exact Nat.le_refl _)]
set_option maxHeartbeats 16000000 in
theorem end_sat {W : World} {M : List Nat} {R : Hp} {w : World} (box man : Int) (hb0 : 0 ≤ box) (hb1 : box < 4294967296) (hm0 : 0 ≤ man) (hm1 : man < 4294967296) (c : Nat → Int) (hc : conC c = true) (L : Lb) (hg : Good L) (A : ByteArray) (σ : Sr) (hσ : σ.held box man c L A) (hsz : A.size ≤ 9000) (g : Nat)
    (hs : Sat W M (.blk g 101 σ.cells :: .gen (rdsG σ.rds) :: .gen (rdsG L.rds) :: R) w) :
    Calls Tryz.prog 16 #[.pointer (some ⟨g, 0, none⟩)] w fun e w' => ∃ CS, Whole (cf c) A CS ∧ ((overC box man (madeP c box man L.G CS).ms.length (madeP c box man L.G CS).bs.length = true ∧ e = .returned (.tuple #[.agg (mdC nilS nilS 0 0 0).toArray, .int .i64 240]) ∧ Sat W M (.blk g 101 σ.cells :: .gen (rdsG σ.rds) :: .gen (rdsG L.rds) :: R) w') ∨
      (overC box man (madeP c box man L.G CS).ms.length (madeP c box man L.G CS).bs.length = false ∧ ∃ (ms : List Mr) (mo : Option Addr) (mc : Nat) (bs : List Nb) (bo : Option Addr) (bc : Nat), e = .returned (.tuple #[.agg (mdC (.slice mo ms.length mc) (.slice bo bs.length bc) (A.size : Nat) (reA A) (imA A)).toArray, .int .i64 0]) ∧ ms.map Mr.mn = (madeP c box man L.G CS).ms ∧ bs.map Nb.bx = (madeP c box man L.G CS).bs ∧
        Sat W M (.gen (rdsG (mdL ms mo bs bo)) :: .blk g 101 σ.cells :: .gen (rdsG σ.rds) :: .gen (rdsG L.rds) :: R) w')) := by
  have hseg := (conC_may hc).2
  have hmay := (conC_may hc).1
  obtain ⟨rfl, rfl, rfl, rfl, hat, hcut, hwa, hwb, hn, hlast, hfresh⟩ := hσ
  have hf := hat.fine hseg hg (by omega)
  have hz := hat.zero hseg
  have hll := hat.left
  have hsm : σ.small := ⟨by have := hf.ml; omega, by have := hf.bl; omega, by have := hf.hl; omega, fun b hb => by have := hf.cl b hb; omega⟩
  obtain ⟨cs, hcs, hlaid⟩ := hat
  have hcl := hcs.len
  have hcsz := hcs.sumS
  rw [cutC_cf hmay] at hcut
  refine sx_fn (S := SX) (N := 105) Tryz.func16 rfl rfl rfl hs ?_
  ((try refine sU ?_);repeat(refine sN fun _=>?_;try refine sU ?_))
  refine SxRun.pEqNil Tryz.underlying44 ?_
  ((try refine sU ?_);repeat(refine sN fun _=>?_;try refine sU ?_))
  refine SxRun.fEqNil Tryz.underlying39 ?_
  ((try refine sU ?_);repeat(refine sN fun _=>?_;try refine sU ?_))
  rename_i gr
  refine SxCall.mk fun w1 hs1 => (copied_sat (R := .gen (rdsG σ.L.rds) :: .blk gr 52 (mdC nilS nilS 0 0 0) :: R) σ hsm g (hs1.pick (ks := [1, 2, 3, 0] ++ tailIx 4 R.length) (pickH_append (A := [_, _, _, _]) rfl (pickH_tail (L := R) 4 rfl rfl)) (nodup_tail 4 _ rfl rfl))).mono ?_
  rintro e w2 ⟨gn, mo, mc, bo, bc, ds, co, cc, fo, fc, rfl, hds, hs2⟩
  have hs3 : Sat W M (stO gn σ.box σ.man σ.c σ.L σ.ms mo mc ds bo bc σ.left σ.ch co cc fo fc σ.wa σ.wb (A.size : Nat) ++ (.blk g 101 σ.cells :: .gen (rdsG σ.rds) :: .gen (rdsG σ.L.rds) :: .blk gr 52 (mdC nilS nilS 0 0 0) :: R)) w2 := by
    unfold stO
    rw [hds, ← hlast, ← hfresh, ← hn]
    exact hs2
  refine ⟨_, _, rfl, hs3.pick (ks := [0, 1, 2, 3, 4, 5, 6, 7] ++ ([10, 8, 9, 11] ++ tailIx 12 R.length)) (pickH_append (A := stO gn σ.box σ.man σ.c σ.L σ.ms mo mc ds bo bc σ.left σ.ch co cc fo fc σ.wa σ.wb (A.size : Nat)) rfl (pickH_append (A := [_, _, _, _]) rfl (pickH_tail (L := R) 12 rfl rfl))) (nodup_tail (ks := [0, 1, 2, 3, 4, 5, 6, 7, 10, 8, 9, 11]) 12 _ rfl rfl), ?_⟩
  ((try refine sx_usej ?_); (repeat (refine SxNew.mk fun _ => ?_; (try refine sx_usej ?_))))
  refine sx_meet (σ := Cj) [] [21, 22, 23, 24, 25, 26, 27, 28, 29, 30, 31, 32] (fun _ => []) (fun x => stO gn σ.box σ.man σ.c σ.L x.ms x.mo x.mc x.bs x.bo x.bc x.left x.ch x.co x.cc x.fo x.fc σ.wa σ.wb (A.size : Nat) ++ (.gen (rdsG σ.L.rds) :: .blk g 101 σ.cells :: .gen (rdsG σ.rds) :: .blk gr 52 (mdC nilS nilS 0 0 0) :: R)) (fun x => ((⟨x.ms.map Mr.mn, x.bs.map Nb.bx⟩ : Ls), x.ch) = laidP σ.c σ.box σ.man σ.L.G (cs ++ lastOf σ.left)) rfl ?_ ?_
  · ((try refine sx_usej ?_); (repeat (refine SxNew.mk fun _ => ?_; (try refine sx_usej ?_))))
    refine SxIf.mk (fun h => ?_) (fun h => ?_)
    · have h0 : 0 < σ.left.size := by
        rcases Nat.eq_zero_or_pos σ.left.size with h9 | h9
        · have e := size_none _ h9
          have h' : (!strEq σ.left ⟨#[]⟩) = true := h
          rw [e, strEq_dec, decide_eq_true rfl] at h'
          cases h'
        · exact h9
      ((try refine sx_usej ?_); (repeat (refine SxNew.mk fun _ => ?_; (try refine sx_usej ?_))))
      have hds' : At σ.c σ.box σ.man σ.L.G A (σ.ms.map Mr.mn) (ds.map Nb.bx) σ.ch σ.left := ⟨cs, hcs, by rw [hds]; exact hlaid⟩
      refine SxCall.mk fun w1 hs1 => (chop_sat σ.box σ.man σ.c hseg σ.L σ.ms mo mc ds bo bc σ.left σ.ch co cc fo fc _ _ _ gn σ.left.size (hds'.fine hseg hg (by omega)) (Nat.le_refl _) (by omega) hz hs1).mono ?_
      rintro e w2 ⟨m2, mo2, mc2, b2, bo2, bc2, h2, co2, cc2, fo2, fc2, rfl, hf2, hs2⟩
      refine ⟨_, _, rfl, hs2, ?_⟩
      ((try refine sx_usej ?_); (repeat (refine SxNew.mk fun _ => ?_; (try refine sx_usej ?_))))
      refine SxMeet.mk ⟨m2, mo2, mc2, b2, bo2, bc2, σ.left.extract σ.left.size σ.left.size, h2, co2, cc2, fo2, fc2⟩ ([0, 1, 2, 3, 4, 5, 6, 7, 8, 9, 10, 11] ++ tailIx 12 R.length) rfl (pickH_append (A := [_, _, _, _, _, _, _, _, _, _, _, _]) rfl (pickH_tail (L := R) 12 rfl rfl)) (nodup_tail 12 _ rfl rfl) ?_
      dsimp only
      rw [hf2, lastOf_bytes, hds, hlaid]
      unfold lastOf
      rw [if_neg (by omega), laidP_snoc]
    · have h0 : σ.left.size = 0 := by
        have h' : (!strEq σ.left ⟨#[]⟩) = false := h
        rw [strEq_dec, Bool.not_eq_false', decide_eq_true_iff] at h'
        rw [h']; rfl
      ((try refine sx_usej ?_); (repeat (refine SxNew.mk fun _ => ?_; (try refine sx_usej ?_))))
      refine SxMeet.mk ⟨σ.ms, mo, mc, ds, bo, bc, σ.left, σ.ch, co, cc, fo, fc⟩ ([0, 1, 2, 3, 4, 5, 6, 7, 8, 9, 10, 11] ++ tailIx 12 R.length) rfl (pickH_append (A := [_, _, _, _, _, _, _, _, _, _, _, _]) rfl (pickH_tail (L := R) 12 rfl rfl)) (nodup_tail 12 _ rfl rfl) ?_
      dsimp only
      rw [hds, hlaid]
      unfold lastOf
      rw [if_pos h0, List.append_nil]
  · rintro ⟨m1, mo1, mc1, b1, bo1, bc1, l1, h1, co1, cc1, fo1, fc1⟩ hat1
    dsimp only at hat1 ⊢
    obtain ⟨CS, hCS⟩ : ∃ CS, CS = cs ++ lastOf σ.left := ⟨_, rfl⟩
    have hwhole : Whole (cf σ.c) A CS := ⟨cs, σ.left, hcs, hcut, hCS⟩
    have hCl : CS.length ≤ 9000 := by have := hwhole.len; omega
    have hCz : szB CS ≤ 9000 := by
      rw [hCS, szB_app]
      have : szB (lastOf σ.left) = σ.left.size := by
        unfold lastOf
        split
        · rename_i h9; rw [h9]; rfl
        · simp [szB]
      omega
    rw [← hCS] at hat1
    have hf1 := laid_fine hseg hg hCl hCz hat1
    ((try refine sx_usej ?_); (repeat (refine SxNew.mk fun _ => ?_; (try refine sx_usej ?_))))
    refine sx_meet (σ := Cj) [] [33, 34, 35, 36, 37, 38, 39, 40, 41, 42, 43, 44, 45] (fun _ => []) (fun x => [.blk gn 101 (smC σ.box σ.man (.slice x.mo x.ms.length x.mc) (.slice x.bo x.bs.length x.bc) (lastX (x.bs.map Nb.bx) : Nat) (freshX (x.bs.map Nb.bx) : Nat) σ.c σ.L.kn σ.L.bt x.left (.slice x.co x.ch.length x.cc) (.slice x.fo x.ch.length x.fc) (.complex .f64 σ.wa σ.wb) (A.size : Nat)), .row x.mo x.ms.length x.mc 67 2 (mbE.fl (x.ms.map Mr.mb)), .row x.bo x.bs.length x.bc 60 2 (mbE.fl (x.bs.map Nb.mb)), topRow x.bs, .gen (rdsG (bxL x.bs.dropLast)), .gen (offR x.co x.ch.length x.cc 9 1 (strE.fl x.ch)), .gen (offR x.fo x.ch.length x.fc 69 32 (fqE.fl (x.ch.map bFq))), .gen (rdsG (maL x.ms)), .gen (rdsG σ.L.rds), .blk g 101 σ.cells, .gen (rdsG σ.rds), .blk gr 52 (mdC nilS nilS 0 0 0)] ++ R) (fun x => (⟨x.ms.map Mr.mn, x.bs.map Nb.bx⟩ : Ls) = madeP σ.c σ.box σ.man σ.L.G CS) rfl ?_ ?_
    · ((try refine sx_usej ?_); (repeat (refine SxNew.mk fun _ => ?_; (try refine sx_usej ?_))))
      refine SxIf.dec (fun h => ?_) (fun h => ?_)
      · have h0 : 0 < h1.length := by have h' : ((h1.length : Nat) : Int) > 0 := h; omega
        ((try refine sx_usej ?_); (repeat (refine SxNew.mk fun _ => ?_; (try refine sx_usej ?_))))
        refine SxCall.mk fun w1 hs1 => (lay_sat σ.box σ.man m1 mo1 mc1 b1 bo1 bc1 _ _ σ.c σ.L l1 h1 co1 cc1 fo1 fc1 σ.wa σ.wb _ gn h1.length rfl hf1.ok hf1.kn (by have := hf1.hl; omega) (by have := hf1.ml; omega) (fun m' hm' => by have := hf1.me m' hm'; omega) (by have := hf1.bl; omega) (fun b hb => by have := hf1.cl b hb; omega) (fun s hs => by have := mem_szB hs; have := hf1.hs; omega) (by have := hf1.hs; omega) (by have := hf1.fx; omega) rfl rfl hs1).mono ?_
        rintro e w2 ⟨ms', mo', mc', bs', bo', bc', cn, fn, rfl, e1, e2, hs2⟩
        refine ⟨_, _, rfl, hs2, ?_⟩
        ((try refine sx_usej ?_); (repeat (refine SxNew.mk fun _ => ?_; (try refine sx_usej ?_))))
        refine SxMeet.mk ⟨ms', mo', mc', bs', bo', bc', l1, [], cn, cc1 - h1.length, fn, fc1 - h1.length⟩ ([0, 1, 2, 3, 4, 5, 6, 7, 8, 9, 10, 11] ++ tailIx 12 R.length) rfl (pickH_append (A := [_, _, _, _, _, _, _, _, _, _, _, _]) rfl (pickH_tail (L := R) 12 rfl rfl)) (nodup_tail 12 _ rfl rfl) ?_
        dsimp only
        unfold madeP lastP
        rw [← hat1]
        dsimp only
        rw [if_neg (fun e => by rw [e] at h0; cases h0), e1, e2]
      · have h0 : h1 = [] := by have h' : ¬ ((h1.length : Nat) : Int) > 0 := h; exact List.eq_nil_of_length_eq_zero (by omega)
        ((try refine sx_usej ?_); (repeat (refine SxNew.mk fun _ => ?_; (try refine sx_usej ?_))))
        refine SxMeet.mk ⟨m1, mo1, mc1, b1, bo1, bc1, l1, h1, co1, cc1, fo1, fc1⟩ ([0, 1, 2, 3, 4, 5, 6, 7, 8, 9, 10, 11] ++ tailIx 12 R.length) rfl (pickH_append (A := [_, _, _, _, _, _, _, _, _, _, _, _]) rfl (pickH_tail (L := R) 12 rfl rfl)) (nodup_tail 12 _ rfl rfl) ?_
        dsimp only
        unfold madeP lastP
        rw [← hat1]
        dsimp only
        rw [if_pos h0]
    · rintro ⟨m2, mo2, mc2, b2, bo2, bc2, l2, h2, co2, cc2, fo2, fc2⟩ hmd
      dsimp only at hmd ⊢
      have hf2 := made_fine hseg hg hCl hCz hmd
      have hF1 : (madeP σ.c σ.box σ.man σ.L.G CS).ms.length = m2.length := by rw [← hmd]; exact List.length_map ..
      have hF2 : (madeP σ.c σ.box σ.man σ.L.G CS).bs.length = b2.length := by rw [← hmd]; exact List.length_map ..
      ((try refine sU ?_);repeat(refine sN fun _=>?_;try refine sU ?_))
      refine SxCall.quietS (v := .bool (overC σ.box σ.man m2.length b2.length)) (fun w5 hs5 => Over_any gn σ.box σ.man _ _ mo2 bo2 m2.length mc2 b2.length bc2 _ hb0 hb1 hm0 hm1 (by have := hf2.ml; omega) (by have := hf2.bl; omega) (by show (20 : Nat) ≤ 100; omega) w5 (Rd.of_blk (hs5.blk 0 rfl) (by show (26 : Nat) ≤ maxLen; unfold maxLen; omega))) ?_
      ((try refine sU ?_);repeat(refine sN fun _=>?_;try refine sU ?_))
      refine SxIf.mk (fun ho => ?_) (fun ho => ?_)
      · ((try refine sU ?_);repeat(refine sN fun _=>?_;try refine sU ?_))
        refine SxSt.blk 11 rfl rfl rfl (cs' := mdC nilS nilS 0 0 0) rfl ?_
        ((try refine sU ?_);repeat(refine sN fun _=>?_;try refine sU ?_))
        refine SxLdN.blk 11 rfl (vs := mdC nilS nilS 0 0 0) rfl rfl ?_
        ((try refine sU ?_);repeat(refine sN fun _=>?_;try refine sU ?_))
        exact SxDone.mk fun w' hs => ⟨CS, hwhole, .inl ⟨by rw [hF1, hF2]; exact ho, rfl, hs.pick (ks := [9, 10, 8] ++ tailIx 12 R.length) (pickH_append (A := [_, _, _]) rfl (pickH_tail (L := R) 12 rfl rfl)) (nodup_tail 12 _ rfl rfl)⟩⟩
      · ((try refine sU ?_);repeat(refine sN fun _=>?_;try refine sU ?_))
        refine SxCall.quiet (Parts_any σ.wa σ.wb (reA A) (imA A) hwa hwb) ?_
        ((try refine sU ?_);repeat(refine sN fun _=>?_;try refine sU ?_))
        refine SxCode.wk (Weak.rds0 _) ?_
        refine SxCode.loop (σ := List Mr) [66] [67, 68, 8, 69, 70, 71, 72, 73, 74, 75, 76, 77, 78, 79, 80, 81, 82, 83, 84, 85, 86, 87, 66] (fun ds => [.int .i64 (ds.length : Nat)]) (fun ds => [.blk gn 101 (smC σ.box σ.man (.slice mo2 m2.length mc2) (.slice bo2 b2.length bc2) (lastX (b2.map Nb.bx) : Nat) (freshX (b2.map Nb.bx) : Nat) σ.c σ.L.kn σ.L.bt l2 (.slice co2 h2.length cc2) (.slice fo2 h2.length fc2) (.complex .f64 σ.wa σ.wb) (A.size : Nat)), .row mo2 m2.length mc2 67 2 (mbE.fl (ds.map Mr.mb ++ (m2.drop ds.length).map Mr.mb)), .row bo2 b2.length bc2 60 2 (mbE.fl (b2.map Nb.mb)), topRow b2, .gen (rdsG (bxL b2.dropLast)), .gen (offR co2 h2.length cc2 9 1 (strE.fl h2)), .gen (offR fo2 h2.length fc2 69 32 (fqE.fl (h2.map bFq))), .gen (rdsG (maL m2)), .gen (rdsG σ.L.rds), .blk g 101 σ.cells, .gen (rdsG σ.rds), .blk gr 52 (mdC nilS nilS 0 0 0), .gen (rdsG (maL ds))] ++ R)
          (fun ds => ds.map Mr.mn = (m2.take ds.length).map Mr.mn ∧ ds.length ≤ m2.length) (fun ds => m2.length - ds.length) [] ([1, 2, 3, 4, 5, 6, 7, 8, 9, 10, 11, 12, 0] ++ tailIx 13 R.length) rfl rfl (pickH_append (A := [_, _, _, _, _, _, _, _, _, _, _, _, _]) rfl (pickH_tail (L := R) 13 rfl rfl)) (nodup_tail 13 _ rfl rfl) ⟨rfl, Nat.zero_le _⟩ ?_
        have hml2 := hf2.ml
        rintro es ⟨hes, hel⟩
        by_cases hlt : es.length < m2.length
        · obtain ⟨m, hm⟩ : ∃ m, m2[es.length]? = some m := ⟨m2[es.length], by simp [hlt]⟩
          have hmm := List.mem_of_getElem? hm
          have hml := hf2.me m hmm
          have hdrop : m2.drop es.length = m :: m2.drop (es.length + 1) := by
            obtain ⟨hl, he⟩ := List.getElem?_eq_some_iff.1 hm
            rw [List.drop_eq_getElem_cons hl, he]
          have hat3 : (es.map Mr.mb ++ (m2.drop es.length).map Mr.mb)[es.length]? = some m.mb := by
            rw [List.getElem?_append_right (by rw [List.length_map]; exact Nat.le_refl _), List.length_map, Nat.sub_self, hdrop]; rfl
          refine sx_base 1 rfl fun hbo _ => ?_
          obtain ⟨gb, rfl⟩ := hbo (by omega)
          ((try refine sU ?_);repeat(refine sN fun _=>?_;try refine sU ?_))
          refine SxCode.draw rfl [.blk gn 101 (smC σ.box σ.man (.slice (some ⟨gb, 0, none⟩) m2.length mc2) (.slice bo2 b2.length bc2) (lastX (b2.map Nb.bx) : Nat) (freshX (b2.map Nb.bx) : Nat) σ.c σ.L.kn σ.L.bt l2 (.slice co2 h2.length cc2) (.slice fo2 h2.length fc2) (.complex .f64 σ.wa σ.wb) (A.size : Nat)), .row (some ⟨gb, 0, none⟩) m2.length mc2 67 2 (mbE.fl (es.map Mr.mb ++ (m2.drop es.length).map Mr.mb))] [18] [0, 1] rfl rfl ?_
          ((try refine sU ?_);repeat(refine sN fun _=>?_;try refine sU ?_))
          refine SxIA.row 1 _ _ _ rfl es.length rfl hlt fun g' hg' => ?_
          obtain rfl : gb = g' := by simpa using hg'
          ((try refine sU ?_);repeat(refine sN fun _=>?_;try refine sU ?_))
          refine SxLd.row 1 rfl rfl (j := es.length * 2 + 1) (by omega) (v := .slice m.2.ao m.2.l.length m.2.cap) (mbE.fl_cell hat3 rfl) ?_
          ((try refine sU ?_);repeat(refine sN fun _=>?_;try refine sU ?_))
          refine SxCall.newRow (v := fun ao cap => .slice ao m.2.l.length cap) (fun w1 hs1 => CloneEn_any m.2.l m.2.ao m.2.cap (by omega) w1 (hs1.rdIn 7 rfl (maL_mem hmm))) fun ao cap => ?_
          ((try refine sU ?_);repeat(refine sN fun _=>?_;try refine sU ?_))
          refine SxIA.row 2 _ _ _ rfl es.length rfl hlt fun g' hg' => ?_
          obtain rfl : gb = g' := by simpa using hg'
          ((try refine sU ?_);repeat(refine sN fun _=>?_;try refine sU ?_))
          have hset : splice (es.length * 2 + 1) [.slice ao m.2.l.length cap] (mbE.fl (es.map Mr.mb ++ (m2.drop es.length).map Mr.mb)) = mbE.fl ((es ++ [((m.1, ⟨ao, cap, m.2.l⟩) : Mr)]).map Mr.mb ++ (m2.drop (es.length + 1)).map Mr.mb) := by
            rw [mb_set1 hat3, hdrop, List.map_cons, List.set_append_right _ _ (by rw [List.length_map]; exact Nat.le_refl _), List.length_map, Nat.sub_self, List.map_append, List.append_assoc]; rfl
          refine SxSt.row 2 rfl rfl (j := es.length * 2 + 1) (by omega) (by rw [mbE_len, List.length_append, List.length_map, List.length_map, List.length_drop]; show es.length * 2 + 1 + 1 ≤ _; omega) rfl hset ?_
          ((try refine sU ?_);repeat(refine sN fun _=>?_;try refine sU ?_))
          have hlen : (es ++ [((m.1, ⟨ao, cap, m.2.l⟩) : Mr)]).length = es.length + 1 := by simp
          refine SxRound.via (es ++ [(m.1, ⟨ao, cap, m.2.l⟩)]) (by rw [hlen]; rfl) (Weak.trans (Weak.merge (L' := maL (es ++ [((m.1, ⟨ao, cap, m.2.l⟩) : Mr)])) 0 13 (by decide) rfl rfl 71 35 (fun W2 M2 w2 hs2 => by
            unfold maL
            rw [List.map_append]
            exact (hs2.rds1 13 rfl).app ((RdAll.nil _).cons (hs2.rowRd 0 rfl (by rw [enE_len1]; unfold maxLen; dsimp only; omega)))) (fun g' hg' => by
            obtain ⟨x, hx, hu⟩ := hg'
            unfold maL at hx
            rw [List.map_append] at hx
            rcases List.mem_append.1 hx with h | h
            · exact .inl ⟨x, h, hu⟩
            · simp only [List.map_cons, List.map_nil, List.mem_singleton] at h
              subst h
              exact .inr hu.2)) (Weak.pick (ks := [1, 2, 3, 4, 5, 6, 7, 8, 9, 10, 11, 12, 13] ++ tailIx 14 R.length) (by
              rw [hlen]
              exact pickH_append (A := [_, _, _, _, _, _, _, _, _, _, _, _, _]) rfl (pickH_tail (L := R) 14 rfl rfl)) (nodup_tail 14 _ rfl rfl))) ⟨?_, by omega⟩ (by omega)
          rw [hlen, List.map_append, hes, take_snocE hm, List.map_append]; rfl
        · have hl : es.length = m2.length := by omega
          rw [hl, List.take_length] at hes
          rw [hl, List.drop_of_length_le (Nat.le_refl _), List.map_nil, List.append_nil]
          ((try refine sU ?_);repeat(refine sN fun _=>?_;try refine sU ?_))
          refine SxCode.draw rfl [.blk gn 101 (smC σ.box σ.man (.slice mo2 m2.length mc2) (.slice bo2 b2.length bc2) (lastX (b2.map Nb.bx) : Nat) (freshX (b2.map Nb.bx) : Nat) σ.c σ.L.kn σ.L.bt l2 (.slice co2 h2.length cc2) (.slice fo2 h2.length fc2) (.complex .f64 σ.wa σ.wb) (A.size : Nat))] [] [0] rfl rfl ?_
          ((try refine sU ?_);repeat(refine sN fun _=>?_;try refine sU ?_))
          refine SxSt.blk 11 rfl rfl rfl (cs' := mdC (.slice mo2 m2.length mc2) (.slice bo2 b2.length bc2) (A.size : Nat) (reA A) (imA A)) rfl ?_
          ((try refine sU ?_);repeat(refine sN fun _=>?_;try refine sU ?_))
          refine SxLdN.blk 11 rfl (vs := mdC (.slice mo2 m2.length mc2) (.slice bo2 b2.length bc2) (A.size : Nat) (reA A) (imA A)) rfl rfl ?_
          ((try refine sU ?_);repeat(refine sN fun _=>?_;try refine sU ?_))
          refine SxDone.mk fun w' hs => ⟨CS, hwhole, .inr ⟨by rw [hF1, hF2]; exact ho, es, mo2, mc2, b2, bo2, bc2, by rw [hl]; rfl, by rw [hes, ← hmd], by rw [← hmd], ?_⟩⟩
          exact Sat.made (ms := es) (R := R) (by have := hf2.ml; omega) hf2.bl hf2.cl hs
end Go.Proofs.YtlmefcepdadfjaaGreat
