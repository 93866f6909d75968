/- Texts of this claim, one behind the other. -/
import Derived.Test.YtlmefcepdadfjaaGreatZFlu
import Derived.Test.YtlmefcepdadfjaaGreatZSuE
import Derived.Test.YtlmefcepdadfjaaGreatZStO
import Derived.Test.YtlmefcepdadfjaaGreatZStV
/- Layer 23, the document: all that is laid of some bytes. -/
namespace Go.Proofs.YtlmefcepdadfjaaGreat
open Go.RowKit

def docL (g : Nat) (ms : List Mr) (mo : Option Addr) (mc : Nat) (bs : List Nb) (bo : Option Addr) (bc : Nat) (lv : Value) : RdL := (some ⟨g, 0, none⟩, [.slice mo ms.length mc, .slice bo bs.length bc, lv]) :: mdL ms mo bs bo
theorem Sat.doc {W : World} {M : List Nat} {R : Hp} {w : World} {g : Nat} {ms : List Mr} {mo : Option Addr} {mc : Nat} {bs : List Nb} {bo : Option Addr} {bc : Nat} {lv : Value} {e : Ent} (hml : ms.length ≤ 20000) (hbl : bs.length ≤ 20000)
    (hs : Sat W M (dow g (.slice mo ms.length mc) bs bo bc lv ++ (.row mo ms.length mc 67 2 (mbE.fl (ms.map Mr.mb)) :: .gen (rdsG (maL ms)) :: e :: R)) w) : Sat W M (.gen (rdsG (docL g ms mo mc bs bo bc lv)) :: e :: R) w := by
  refine hs.reader (rdsG (docL g ms mo mc bs bo bc lv)) rfl ([5] ++ tailIx 6 R.length) (pickH_append (A := [_]) rfl (pickH_tail (L := R) 6 rfl rfl)) (nodup_tail 6 _ rfl rfl) ?_ ?_
  · intro x hx
    unfold docL mdL at hx
    simp only [List.mem_cons] at hx
    rcases hx with rfl | rfl | rfl | hx
    · exact Rd.of_blk (hs.blk 0 rfl) (by show (3 : Nat) ≤ maxLen; unfold maxLen; omega)
    · exact hs.rowRd 3 rfl (by rw [mbE_len, List.length_map]; unfold maxLen; omega)
    · exact hs.rowRd 1 rfl (by rw [mbE_len, List.length_map]; unfold maxLen; omega)
    · rcases List.mem_append.1 hx with h | h
      · exact hs.rds1 4 rfl x h
      · exact hs.rds1 2 rfl x h
  · intro g1 hu
    obtain ⟨x, hx, hu⟩ := hu
    unfold docL mdL at hx
    simp only [List.mem_cons] at hx
    rcases hx with rfl | rfl | rfl | hx
    · exact ⟨0, _, tail_no rfl (by omega), rfl, by
        have h2 := hu.2
        simp only [Option.map_some, Option.some.injEq] at h2
        subst h2; rfl⟩
    · exact ⟨3, _, tail_no rfl (by omega), rfl, hu.2⟩
    · exact ⟨1, _, tail_no rfl (by omega), rfl, hu.2⟩
    · rcases List.mem_append.1 hx with h | h
      · exact ⟨4, _, tail_no rfl (by omega), rfl, ⟨x, h, hu⟩⟩
      · exact ⟨2, _, tail_no rfl (by omega), rfl, ⟨x, h, hu⟩⟩
theorem Weak.subRdS {H : Hp} (p : Nat) {ao ao' : Option Addr} {cs : List Value} (hp : H[p]? = some (.rd ao cs)) (off m : Nat) (ha : off < cs.length → ao' = ao.map (·.add off)) {cs' : List Value} (he : (cs.drop off).take m = cs') : Weak H (.rd ao' cs' :: H) := fun W M w hs =>
  hs.cons_rd (he ▸ (hs.rd p hp).sub off m ha) fun i e g hi ho hu => by
    have hne : i ≠ p := fun h => by subst h; rw [hp] at hi; cases hi; cases ho
    have hlt : off < cs.length := by
      rcases Nat.lt_or_ge off cs.length with h | h
      · exact h
      · exact absurd (by rw [← he, List.drop_of_length_le h]; simp) hu.1
    obtain ⟨b, o, h1, _⟩ := (hs.rd p hp).2 (by omega)
    have h2 := ha hlt
    rw [h1] at h2
    simp only [Option.map_some, Addr.add_lit] at h2
    refine hs.sep i p e _ hne hi hp g ho ⟨fun h => by rw [h] at hlt; simp at hlt, ?_⟩
    have := hu.2
    rw [h2] at this
    rw [h1]; exact this
structure Mj where
  ms : List Mr
  mo : Option Addr
  mc : Nat
  bs : List Nb
  bo : Option Addr
  bc : Nat
  ch : List ByteArray
  so : Option Addr
  sc : Nat
  fo : Option Addr
  fc : Nat
set_option maxHeartbeats 16000000 in
theorem RMake_sat {W : World} {M : List Nat} {R : Hp} {w : World} (box man : Int) (c : Nat → Int) (hc : conC c = true) (go : Option Addr) (gc : Nat) (gs : List (Drow Rk)) (hgl : gs.length ≤ 1000) (hdl : ∀ d ∈ gs, d.l.length ≤ 1000) (hKl : ∀ hk, (knownG (gs.map (·.l)) hk).length ≤ 10000) (A : ByteArray) (hA : A.size ≤ 9000) (fin : Bool)
    (hs : Sat W M (.gen (rdsG (grL go gs)) :: R) w) :
    Calls Tryz.prog 26 #[confA c, .int .u32 box, .int .u32 man, .agg (lbC go gs.length gc).toArray, .string A, .bool fin] w fun e w' => ∃ g ms mo mc bs bo bc lv cs r, e = .returned (.pointer (some ⟨g, 0, none⟩)) ∧ Cuts (cf c) A cs r ∧ cutN (cf c) r.data.toList = 0 ∧ (⟨ms.map Mr.mn, bs.map Nb.bx⟩ : Ls) = (if fin then madeP c box man (gs.map (·.l)) (cs ++ lastOf r) else (laidP c box man (gs.map (·.l)) cs).1) ∧
      Sat W M (.gen (rdsG (docL g ms mo mc bs bo bc lv)) :: .gen (rdsG (grL go gs)) :: R) w' := by
  obtain ⟨hmay, hseg⟩ := conC_may hc
  refine sx_fn (S := SX) (N := 63) Tryz.func26 rfl rfl rfl hs ?_
  ((try refine sU ?_);repeat(refine sN fun _=>?_;try refine sU ?_))
  refine SxCall.mk fun w1 hs1 => (RChunks_any c hmay A hA fin w1).mono ?_
  rintro e w2 ⟨cs, r, so, sc, rfl, hcs, hz, hnr⟩
  refine ⟨_, _, rfl, hs1.addNew hnr, ?_⟩
  have hscB := hnr.base.2
  obtain ⟨all, hall⟩ : ∃ all, all = cs ++ if fin then lastOf r else [] := ⟨_, rfl⟩
  rw [← hall] at hscB ⊢
  have hclen := hcs.len
  have hcsum := hcs.sumS
  have hlo : szB (if fin then lastOf r else []) ≤ r.size ∧ (if fin then lastOf r else []).length ≤ r.size := by
    cases fin with
    | false => exact ⟨Nat.zero_le _, Nat.zero_le _⟩
    | true =>
      rw [if_pos rfl]
      unfold lastOf
      split
      · exact ⟨Nat.zero_le _, Nat.zero_le _⟩
      · simp [szB]; omega
  have hal : all.length ≤ 9000 := by rw [hall, List.length_append]; omega
  have haz : szB all ≤ 9000 := by rw [hall, szB_app]; omega
  ((try refine sU ?_);repeat(refine sN fun _=>?_;try refine sU ?_))
  refine SxCall.newRowB (v := fun ao cap => .slice ao all.length cap) (fun w1 hs1 => RFps_any all (by omega) (fun s hs => by have := mem_szB hs; omega) so sc w1 (hs1.rowRd 0 rfl (by rw [strE_len]; unfold maxLen; omega))) fun fo fc hfoB hfcB => ?_
  ((try refine sU ?_);repeat(refine sN fun _=>?_;try refine sU ?_))
  have hafl : (all.map bFq).length = all.length := List.length_map ..
  refine SxCode.wk (Weak.read (p := 1) rfl (by rw [strE_len]; unfold maxLen; omega)) ?_
  refine SxCode.wk (Weak.read (p := 0) rfl (by rw [fqE_len]; unfold maxLen; omega)) ?_
  rename_i bf bl g
  refine SxCode.wk (Weak.nil 61 2) ?_
  refine SxCode.wk (Weak.rds0 _) ?_
  refine SxCode.wk (Weak.nil 67 2) ?_
  refine SxCode.wk (Weak.rds0 _) ?_
  obtain ⟨G, hG⟩ : ∃ G, G = gs.map (·.l) := ⟨_, rfl⟩
  have hend : ∀ (σ : Ls) (l : List ByteArray), (laidP c box man G all = (σ, l) ∧ (fin = true → l = [])) ∨ (fin = true ∧ σ = madeP c box man G all) → σ = if fin then madeP c box man G (cs ++ lastOf r) else (laidP c box man G cs).1 := fun σ l h => by
    cases fin with
    | false =>
      rcases h with ⟨h, _⟩ | ⟨h, _⟩
      · have e : all = cs := by rw [hall]; exact List.append_nil _
        rw [e] at h
        rw [h]; rfl
      · cases h
    | true =>
      have e : all = cs ++ lastOf r := hall
      rw [if_pos rfl, ← e]
      rcases h with ⟨h, hl⟩ | ⟨_, h⟩
      · unfold madeP lastP
        rw [h]
        dsimp only
        rw [if_pos (hl rfl)]
      · exact h
  refine SxCode.loop (σ := Mj) [14, 15] [25, 26, 27, 28, 29, 30, 16, 31, 32, 33, 34, 35, 36, 37, 38, 39, 40, 41, 42, 43, 44, 45, 46, 47, 48, 49, 50, 51, 52, 53, 54, 14, 55, 56, 57, 15] (fun x => [.slice x.so x.ch.length x.sc, .slice x.fo x.ch.length x.fc]) (fun x => dow g (.slice x.mo x.ms.length x.mc) x.bs x.bo x.bc nilS ++ (.row x.mo x.ms.length x.mc 67 2 (mbE.fl (x.ms.map Mr.mb)) :: .gen (rdsG (maL x.ms)) :: .gen (rdsG (grL go gs)) :: .rd x.so (strE.fl x.ch) :: .rd x.fo (fqE.fl (x.ch.map bFq)) :: .blk bl 36 (lbC go gs.length gc) :: .blk bf 23 (tab 13 (confV c)) :: R))
    (fun x => x.ch.length ≤ x.sc ∧ x.ch.length ≤ x.fc ∧ ((∃ pre, pre ++ x.ch = all ∧ laidP c box man G pre = (⟨x.ms.map Mr.mn, x.bs.map Nb.bx⟩, [])) ∨ (fin = true ∧ x.ch = [] ∧ (⟨x.ms.map Mr.mn, x.bs.map Nb.bx⟩ : Ls) = madeP c box man G all))) (fun x => x.ch.length) ⟨[], none, 0, [], none, 0, all, so, sc, fo, fc⟩ ([6, 3, 2, 1, 0, 9, 5, 4, 7, 8] ++ tailIx 10 R.length) rfl rfl (pickH_append (A := [_, _, _, _, _, _, _, _, _, _]) rfl (pickH_tail (L := R) 10 rfl rfl)) (nodup_tail 10 _ rfl rfl) ⟨hscB, hfcB, .inl ⟨[], rfl, rfl⟩⟩ ?_
  rintro ⟨ms, mo, mc, bs, bo, bc, ch, so, sc, fo, fc⟩ ⟨hsc, hfc, hok⟩
  dsimp only at hsc hfc hok ⊢
  by_cases h0 : 0 < ch.length
  · obtain ⟨pre, hpre, hlp⟩ : ∃ pre, pre ++ ch = all ∧ laidP c box man G pre = (⟨ms.map Mr.mn, bs.map Nb.bx⟩, []) := by
      rcases hok with h | ⟨_, h, _⟩
      · exact h
      · rw [h] at h0; cases h0
    have hpl : pre.length + ch.length = all.length := by rw [← hpre, List.length_append]
    have hpz : szB pre + szB ch = szB all := by rw [← hpre, szB_app]
    have hmuch := laidP_much (box := box) (man := man) (G := G) hseg pre
    rw [hlp] at hmuch
    obtain ⟨a1, a2, a3, a4, a5⟩ := hmuch
    dsimp only at a1 a2 a3 a4 a5
    rw [List.length_map] at a1 a3
    simp only [List.length_nil, Nat.add_zero] at a1 a3 a4
    obtain ⟨n, hn⟩ : ∃ n, n = segN c (ch.map bFq) := ⟨_, rfl⟩
    have hnl : n ≤ ch.length := by rw [hn]; have := segN_le c (ch.map bFq); rwa [List.length_map] at this
    ((try refine sU ?_);repeat(refine sN fun _=>?_;try refine sU ?_))
    refine SxLdN.blk 9 rfl (vs := tab 13 (confV c)) rfl rfl ?_
    ((try refine sU ?_);repeat(refine sN fun _=>?_;try refine sU ?_))
    refine SxCall.quietS (v := .int .i64 (n : Nat)) (fun w1 hs1 => by
      have h := RSCut_any c (ch.map bFq) (by rw [List.length_map]; omega) fo fc w1 (hs1.rd 7 rfl)
      rw [List.length_map, ← hn] at h
      exact h) ?_
    have hpre2 : laidP c box man G all = ch.foldl (feedP c box man G) (⟨ms.map Mr.mn, bs.map Nb.bx⟩, []) := by rw [← hpre, laidP_app, hlp]
    have hnone : n = 0 → laidP c box man G all = (⟨ms.map Mr.mn, bs.map Nb.bx⟩, ch) := fun h => by
      rw [hpre2, feed_none hseg ch [] (by rw [List.nil_append, ← hn]; exact h), List.nil_append]
    rcases (by cases fin <;> simp <;> omega : (n = 0 ∧ fin = false) ∨ (n = 0 ∧ fin = true) ∨ 0 < n) with ⟨hn0, hf⟩ | ⟨hn0, hf⟩ | hn0
    · subst hn0
      subst hf
      ((try refine sU ?_);repeat(refine sN fun _=>?_;try refine sU ?_))
      refine SxDone.mk fun w' hs => ⟨g, ms, mo, mc, bs, bo, bc, .slice so ch.length sc, cs, r, rfl, hcs, hz, ?_, ?_⟩
      · rw [← hG]
        exact hend _ ch (.inl ⟨hnone rfl, fun h => (by cases h)⟩)
      · exact Sat.doc (R := R) (by omega) (by omega) (hs.pick (ks := [0, 1, 2, 3, 4, 5] ++ tailIx 10 R.length) (pickH_append (A := [_, _, _, _, _, _]) rfl (pickH_tail (L := R) 10 rfl rfl)) (nodup_tail 10 _ rfl rfl))
    case' inr.inl =>
      have hz2 := hnone hn0
      clear hn
      subst hn0
      subst hf
      obtain ⟨m, hm⟩ : ∃ m, m = ch.length := ⟨_, rfl⟩
      have hm0 : 0 < m := by omega
      have hml : m ≤ ch.length := by omega
      have hmok : (∃ pre', pre' ++ ch.drop m = all ∧ laidP c box man G pre' = (layP c box man G ⟨ms.map Mr.mn, bs.map Nb.bx⟩ (ch.take m), [])) ∨ (true = true ∧ ch.drop m = [] ∧ layP c box man G ⟨ms.map Mr.mn, bs.map Nb.bx⟩ (ch.take m) = madeP c box man G all) := by
        refine .inr ⟨rfl, by rw [hm, List.drop_length], ?_⟩
        rw [hm, List.take_length]
        unfold madeP lastP
        rw [hz2]
        dsimp only
        rw [if_neg (fun h => by rw [h] at h0; cases h0)]
      ((try refine sU ?_);repeat(refine sN fun _=>?_;try refine sU ?_))
    case' inr.inr =>
      obtain ⟨m, hm⟩ : ∃ m, m = n := ⟨_, rfl⟩
      have hm0 : 0 < m := by omega
      have hml : m ≤ ch.length := by omega
      have hmok : (∃ pre', pre' ++ ch.drop m = all ∧ laidP c box man G pre' = (layP c box man G ⟨ms.map Mr.mn, bs.map Nb.bx⟩ (ch.take m), [])) ∨ (fin = true ∧ ch.drop m = [] ∧ layP c box man G ⟨ms.map Mr.mn, bs.map Nb.bx⟩ (ch.take m) = madeP c box man G all) := by
        refine .inl ⟨pre ++ ch.take m, by rw [List.append_assoc, List.take_append_drop]; exact hpre, ?_⟩
        obtain ⟨j, hj⟩ : ∃ j, m = j + 1 := ⟨m - 1, by omega⟩
        have hj2 : segN c (ch.map bFq) = j + 1 := by omega
        have h1 := (segN_pos hseg hj2).1
        rw [← List.map_take, ← hj] at h1
        have hlt : (ch.take m).length = m := by rw [List.length_take]; omega
        rw [laidP_app, hlp, feed_seg hseg (l := ch.take m) (pend := []) (fun h => by rw [h] at hlt; simp at hlt; omega) (by rw [List.nil_append, h1, hlt]), List.nil_append]
      rw [← hm]
      clear hn hm hnl hnone hn0
      clear n
      ((try refine sU ?_);repeat(refine sN fun _=>?_;try refine sU ?_))
    all_goals
      refine SxCode.draw rfl [.blk bl 36 (lbC go gs.length gc), .blk bf 23 (tab 13 (confV c))] [] [8, 9] rfl rfl ?_
      ((try refine sU ?_);repeat(refine sN fun _=>?_;try refine sU ?_))
      refine SxBnd.mk 0 m rfl (by omega) (Nat.zero_le _) (by omega) ?_
      intro ao1 h1 h2
      obtain rfl := ao_same0 h1 h2
      rw [Nat.sub_zero, Nat.sub_zero]
      ((try refine sU ?_);repeat(refine sN fun _=>?_;try refine sU ?_))
      refine SxBnd.mk 0 m rfl (by omega) (Nat.zero_le _) (by omega) ?_
      intro ao2 h1 h2
      obtain rfl := ao_same0 h1 h2
      rw [Nat.sub_zero, Nat.sub_zero]
      ((try refine sU ?_);repeat(refine sN fun _=>?_;try refine sU ?_))
      have hlt : (ch.take m).length = m := by rw [List.length_take]; omega
      have hlm : ((ch.take m).map bFq).length = m := by rw [List.length_map, hlt]
      have htz := szB_take ch m
      have hst1 : (strE.fl ch).take (m * 1) = strE.fl (ch.take m) := strE.fl_take ch m
      have hst2 : (fqE.fl (ch.map bFq)).take (m * 32) = fqE.fl ((ch.take m).map bFq) := by rw [List.map_take]; exact fqE.fl_take _ m
      refine SxCall.weaken (Weak.subRdS (ao' := ao2) 7 rfl 0 (m * 32) (fun _ => by cases ao2 <;> simp [Addr.add]) (cs' := fqE.fl ((ch.take m).map bFq)) (by rw [List.drop_zero]; exact hst2)) ?_
      refine SxCall.weaken (Weak.subRdS (ao' := ao1) 7 rfl 0 (m * 1) (fun _ => by cases ao1 <;> simp [Addr.add]) (cs' := strE.fl (ch.take m)) (by rw [List.drop_zero]; exact hst1)) ?_
      refine SxCall.mk fun w3 hs3 => (show Calls _ _ _ _ _ from (by
        have h := RMlay_sat (R := .rd ao1 (strE.fl ch) :: .rd ao2 (fqE.fl (ch.map bFq)) :: .blk bl 36 (lbC go gs.length gc) :: .blk bf 23 (tab 13 (confV c)) :: R) box man c go gc gs hgl hdl hKl ms mo mc bs bo bc nilS g (ch.take m) ao1 sc ao2 fc (by omega) (by omega) (fun y hy => by have := a2 y.mn (List.mem_map.2 ⟨y, hy, rfl⟩); have e : y.mn.2.length = y.2.l.length := rfl; omega) (by omega) (fun y hy => by have := a4 y.bx (List.mem_map.2 ⟨y, hy, rfl⟩); have e : y.bx.2.length = y.2.l.length := rfl; omega) (fun s hs => by have := mem_szB hs; omega) (by omega) (by omega) (hs3.pick (ks := [2, 3, 4, 5, 6, 7, 0, 1, 8, 9, 10, 11] ++ tailIx 12 R.length) (pickH_append (A := [_, _, _, _, _, _, _, _, _, _, _, _]) rfl (pickH_tail (L := R) 12 rfl rfl)) (nodup_tail 12 _ rfl rfl))
        rw [hlt] at h
        exact h)).mono ?_
      rintro e w4 ⟨ms2, mo2, mc2, bs2, bo2, bc2, rfl, e1, e2, hs4⟩
      refine ⟨_, _, rfl, hs4.pick (ks := [0, 1, 2, 3, 4, 5, 8, 9, 10, 11] ++ tailIx 12 R.length) (pickH_append (A := [_, _, _, _, _, _, _, _, _, _]) rfl (pickH_tail (L := R) 12 rfl rfl)) (nodup_tail 12 _ rfl rfl), ?_⟩
      ((try refine sU ?_);repeat(refine sN fun _=>?_;try refine sU ?_))
      refine SxStable.mk [8, 9] rfl rfl ?_
      ((try refine sU ?_);repeat(refine sN fun _=>?_;try refine sU ?_))
      refine SxBnd.mk m ch.length (by omega) (by omega) hml (by omega) ?_
      intro ao3 h3 _
      ((try refine sU ?_);repeat(refine sN fun _=>?_;try refine sU ?_))
      refine SxBnd.mk m ch.length (by omega) (by omega) hml (by omega) ?_
      intro ao4 h4 _
      ((try refine sU ?_);repeat(refine sN fun _=>?_;try refine sU ?_))
      have hdl2 : (ch.drop m).length = ch.length - m := List.length_drop ..
      refine SxRound.via ⟨ms2, mo2, mc2, bs2, bo2, bc2, ch.drop m, ao3, sc - m, ao4, fc - m⟩ (by dsimp only; rw [hdl2]; rfl) (Weak.trans (Weak.subRdS (ao' := ao4) 7 rfl (m * 32) ((ch.length - m) * 32) (fun h => h4 (by rw [fqE_len, List.length_map] at h; omega)) (cs' := fqE.fl ((ch.drop m).map bFq)) (by
          rw [List.map_drop]
          refine Eq.trans (congrArg _ (fqE.fl_drop (ch.map bFq) m)) (List.take_of_length_le ?_)
          rw [fqE_len, List.length_drop, List.length_map]; exact Nat.le_refl _)) (Weak.trans (Weak.subRdS (ao' := ao3) 7 rfl (m * 1) ((ch.length - m) * 1) (fun h => h3 (by rw [strE_len] at h; omega)) (cs' := strE.fl (ch.drop m)) (by
          refine Eq.trans (congrArg _ (strE.fl_drop ch m)) (List.take_of_length_le ?_)
          rw [strE_len, List.length_drop]; exact Nat.le_refl _)) (Weak.pick (ks := [2, 3, 4, 5, 6, 7, 0, 1, 10, 11] ++ tailIx 12 R.length) (pickH_append (A := [_, _, _, _, _, _, _, _, _, _]) rfl (pickH_tail (L := R) 12 rfl rfl)) (nodup_tail 12 _ rfl rfl)))) ⟨by dsimp only; omega, by dsimp only; omega, ?_⟩ (by dsimp only; omega)
      dsimp only
      rw [e1, e2, hG]
      rw [hG] at hmok
      exact hmok
  · have h1 : ch = [] := List.eq_nil_of_length_eq_zero (by omega)
    subst h1
    have hmsl : ms.length ≤ 20000 ∧ bs.length ≤ 20000 := by
      rcases hok with ⟨pre, hpre, hlp⟩ | ⟨_, _, h⟩
      · have h1 := laidP_much (box := box) (man := man) (G := G) hseg pre
        rw [List.append_nil] at hpre
        rw [hlp, hpre] at h1
        obtain ⟨a1, _, a3, _⟩ := h1
        dsimp only at a1 a3
        rw [List.length_map] at a1 a3
        omega
      · have h1 := madeP_much (box := box) (man := man) (G := G) hseg all
        rw [← h] at h1
        obtain ⟨a1, _, a3, _⟩ := h1
        dsimp only at a1 a3
        rw [List.length_map] at a1 a3
        omega
    ((try refine sU ?_);repeat(refine sN fun _=>?_;try refine sU ?_))
    refine SxDone.mk fun w' hs => ⟨g, ms, mo, mc, bs, bo, bc, .slice so 0 sc, cs, r, rfl, hcs, hz, ?_, ?_⟩
    · rw [← hG]
      refine hend _ [] ?_
      rcases hok with ⟨pre, hpre, hlp⟩ | ⟨h1, _, h⟩
      · rw [List.append_nil] at hpre
        exact .inl ⟨by rw [← hpre]; exact hlp, fun _ => rfl⟩
      · exact .inr ⟨h1, h⟩
    · exact Sat.doc (R := R) hmsl.1 hmsl.2 (hs.pick (ks := [0, 1, 2, 3, 4, 5] ++ tailIx 10 R.length) (pickH_append (A := [_, _, _, _, _, _]) rfl (pickH_tail (L := R) 10 rfl rfl)) (nodup_tail 10 _ rfl rfl))
end Go.Proofs.YtlmefcepdadfjaaGreat
/- The walks of layer 15: number, Check, Size; Entry, May, Same. -/
namespace Go.Proofs.YtlmefcepdadfjaaGreat
open Go.RowKit

def mnV (id : Int) (ao : Option Addr) (n cap : Nat) : Value := .agg #[.int .u32 id, .slice ao n cap]
def okNo (x : Int) : Prop := 1 ≤ x ∧ x ≤ 4294967294
instance (x : Int) : Decidable (okNo x) := by unfold okNo; infer_instance
def okEn (e : En) : Prop := 1 ≤ e.ln ∧ e.ln ≤ 4096 ∧ okNo e.bx ∧ 0 ≤ e.sl ∧ e.sl < 256
instance (e : En) : Decidable (okEn e) := by unfold okEn; infer_instance
def allEn (es : List En) : Prop := ∀ e ∈ es, okEn e
instance (es : List En) : Decidable (allEn es) := by unfold allEn; infer_instance
def mayM (id : Int) (es : List En) : Prop := okNo id ∧ 1 ≤ es.length ∧ es.length ≤ 256 ∧ allEn es
instance (id : Int) (es : List En) : Decidable (mayM id es) := by unfold mayM; infer_instance
end Go.Proofs.YtlmefcepdadfjaaGreat
/- The walks of layer 15: the document's Entry, May, Same; the program's Same. -/
namespace Go.Proofs.YtlmefcepdadfjaaGreat
open Go.RowKit

theorem RMSame_any (id jd : Int) (es fs : List En) (ao bo : Option Addr) (ac bc : Nat) (w : World) (ha : Rd w ao (enE.fl es)) (hb : Rd w bo (enE.fl fs)) :
    Calls Tryz.prog 31 #[mnV id ao es.length ac, mnV jd bo fs.length bc] w fun e w' => e = .returned (.bool (decide (id = jd ∧ es = fs))) ∧ Below w.heap.size w w' := by
  have hlen : es.length * 35 ≤ maxLen := by have := ha.1; rw [rowEn_len] at this; exact this
  unfold maxLen at hlen
  refine sx_fn (S := SX) (M := []) (N := 38) (H0 := [.rd ao (enE.fl es), .rd bo (enE.fl fs)]) Tryz.func31 rfl rfl rfl (Sat.twoRd _ ha hb) ?_
  ((try refine sU ?_);repeat(refine sN fun _=>?_;try refine sU ?_))
  rename_i b1 b2
  refine SxIf.ne (fun h => ?_) (fun h => ?_)
  · ((try refine sU ?_);repeat(refine sN fun _=>?_;try refine sU ?_))
    exact SxDone.mk fun w' hs => ⟨by rw [decide_eq_false (fun hh => h hh.1)]; rfl, hs.touch.below⟩
  subst h
  ((try refine sU ?_);repeat(refine sN fun _=>?_;try refine sU ?_))
  refine SxIf.ne (fun h => ?_) (fun h => ?_)
  · ((try refine sU ?_);repeat(refine sN fun _=>?_;try refine sU ?_))
    exact SxDone.mk fun w' hs => ⟨by rw [decide_eq_false (fun hh => h (by rw [hh.2]))]; rfl, hs.touch.below⟩
  have hl : es.length = fs.length := by omega
  ((try refine sU ?_);repeat(refine sN fun _=>?_;try refine sU ?_))
  refine SxCode.loop (σ := Nat) [5, 4] [20, 21, 22, 23, 24, 27, 28, 29, 30, 31, 32, 33, 34, 35, 36, 37, 4, 25, 26, 5] (fun k => [.int .i64 (k : Nat), .bool false]) (fun _ => [.blk b2 67 [.int .u32 id, .slice bo fs.length bc], .blk b1 67 [.int .u32 id, .slice ao es.length ac], .rd ao (enE.fl es), .rd bo (enE.fl fs)]) (fun k => k ≤ es.length ∧ es.take k = fs.take k) (fun k => es.length - k) 0 [0, 1, 2, 3] rfl rfl rfl rfl ⟨Nat.zero_le _, rfl⟩ ?_
  rintro k ⟨hk, heq⟩
  ((try refine sU ?_);repeat(refine sN fun _=>?_;try refine sU ?_))
  refine SxIf.dec (fun h => ?_) (fun h => ?_)
  · have hlt : k < es.length := by omega
    obtain ⟨x, hx⟩ : ∃ x, es[k]? = some x := ⟨es[k], by simp [hlt]⟩
    obtain ⟨y, hy⟩ : ∃ y, fs[k]? = some y := ⟨fs[k]'(by omega), by simp [show k < fs.length by omega]⟩
    ((try refine sU ?_);repeat(refine sN fun _=>?_;try refine sU ?_))
    refine SxCode.drawAll rfl [] ?_
    ((try refine sU ?_);repeat(refine sN fun _=>?_;try refine sU ?_))
    refine SxIA.rd 2 _ rfl k rfl hlt (by rw [rowEn_len]; omega) fun g off ha => ?_
    ((try refine sU ?_);repeat(refine sN fun _=>?_;try refine sU ?_))
    refine SxLdN.rd 2 rfl ha rfl (vs := enC x) (enC_len x) (rowEn_at hx) ?_
    ((try refine sU ?_);repeat(refine sN fun _=>?_;try refine sU ?_))
    refine SxIA.rd 3 _ rfl k rfl (by omega) (by rw [rowEn_len]; omega) fun g off ha => ?_
    ((try refine sU ?_);repeat(refine sN fun _=>?_;try refine sU ?_))
    refine SxLdN.rd 3 rfl ha rfl (vs := enC y) (enC_len y) (rowEn_at hy) ?_
    ((try refine sU ?_);repeat(refine sN fun _=>?_;try refine sU ?_))
    refine SxRun.neEn (x := x) (y := y) ?_
    ((try refine sU ?_);repeat(refine sN fun _=>?_;try refine sU ?_))
    refine SxIf.nt (SxIf.dec (fun h3 => ?_) (fun h3 => ?_))
    · ((try refine sU ?_);repeat(refine sN fun _=>?_;try refine sU ?_))
      exact SxRound.mk (k + 1) [0, 1, 2, 3] rfl rfl rfl ⟨hlt, by rw [List.take_add_one, List.take_add_one, heq, hx, hy, h3]⟩ (by omega)
    · ((try refine sU ?_);repeat(refine sN fun _=>?_;try refine sU ?_))
      refine SxDone.mk fun w' hs => ⟨?_, hs.touch.below⟩
      rw [decide_eq_false (fun hh => h3 (Option.some.inj (by rw [← hx, ← hy, hh.2])))]; rfl
  · obtain rfl : k = es.length := by omega
    rw [List.take_length, hl, List.take_length] at heq
    ((try refine sU ?_);repeat(refine sN fun _=>?_;try refine sU ?_))
    exact SxDone.mk fun w' hs => ⟨by rw [decide_eq_true ⟨rfl, heq⟩]; rfl, hs.touch.below⟩
end Go.Proofs.YtlmefcepdadfjaaGreat
/- Layer 23: the law's own: is what is made the document's. -/
namespace Go.Proofs.YtlmefcepdadfjaaGreat
open Go.RowKit

set_option maxHeartbeats 8000000 in
set_option maxRecDepth 20000 in
theorem same_any (m1 : List Mr) (mo1 : Option Addr) (mc1 : Nat) (b1 : List Nb) (bo1 : Option Addr) (bc1 : Nat) (n re im : Int) (g : Nat) (m2 : List Mr) (mo2 : Option Addr) (mc2 : Nat) (b2 : List Nb) (bo2 : Option Addr) (bc2 : Nat) (lv : Value) (hm : m1.map Mr.mn = m2.map Mr.mn) (hb : b1.map Nb.bx = b2.map Nb.bx) (hml : m1.length ≤ 20000) (hbl : b1.length ≤ 20000) (hcl : ∀ b ∈ b1, b.2.l.length ≤ 20000) (hel : ∀ m ∈ m1, m.2.l.length ≤ 20000) (w : World)
    (h1 : RdAll w (mdL m1 mo1 b1 bo1)) (h2 : RdAll w (docL g m2 mo2 mc2 b2 bo2 bc2 lv)) :
    Calls Tryz.prog 30 #[.agg (mdC (.slice mo1 m1.length mc1) (.slice bo1 b1.length bc1) n re im).toArray, .pointer (some ⟨g, 0, none⟩)] w fun e w' => e = .returned (.bool true) ∧ Below w.heap.size w w' := by
  have hl1 : m1.length = m2.length := by have := congrArg List.length hm; rwa [List.length_map, List.length_map] at this
  have hl2 : b1.length = b2.length := by have := congrArg List.length hb; rwa [List.length_map, List.length_map] at this
  have a1 : (mo1, mbE.fl (m1.map Mr.mb)) ∈ mdL m1 mo1 b1 bo1 := by unfold mdL; simp
  have a2 : (bo1, mbE.fl (b1.map Nb.mb)) ∈ mdL m1 mo1 b1 bo1 := by unfold mdL; simp
  have a3 : ∀ m ∈ m1, (m.2.ao, enE.fl m.2.l) ∈ mdL m1 mo1 b1 bo1 := fun m hm => by have := maL_mem hm; unfold mdL; simp [this]
  have a4 : ∀ b ∈ b1, (b.2.ao, strE.fl b.2.l) ∈ mdL m1 mo1 b1 bo1 := fun m hm => by have := bxL_mem hm; unfold mdL; simp [this]
  have d0 : (some ⟨g, 0, none⟩, [.slice mo2 m2.length mc2, .slice bo2 b2.length bc2, lv]) ∈ docL g m2 mo2 mc2 b2 bo2 bc2 lv := by unfold docL; simp
  have d1 : (mo2, mbE.fl (m2.map Mr.mb)) ∈ docL g m2 mo2 mc2 b2 bo2 bc2 lv := by unfold docL mdL; simp
  have d2 : (bo2, mbE.fl (b2.map Nb.mb)) ∈ docL g m2 mo2 mc2 b2 bo2 bc2 lv := by unfold docL mdL; simp
  have d3 : ∀ m ∈ m2, (m.2.ao, enE.fl m.2.l) ∈ docL g m2 mo2 mc2 b2 bo2 bc2 lv := fun m hm => by have := maL_mem hm; unfold docL mdL; simp [this]
  have d4 : ∀ b ∈ b2, (b.2.ao, strE.fl b.2.l) ∈ docL g m2 mo2 mc2 b2 bo2 bc2 lv := fun m hm => by have := bxL_mem hm; unfold docL mdL; simp [this]
  obtain ⟨L1, hL1⟩ : ∃ L1, L1 = mdL m1 mo1 b1 bo1 := ⟨_, rfl⟩
  obtain ⟨L2, hL2⟩ : ∃ L2, L2 = docL g m2 mo2 mc2 b2 bo2 bc2 lv := ⟨_, rfl⟩
  rw [← hL1] at h1 a1 a2 a3 a4
  rw [← hL2] at h2 d0 d1 d2 d3 d4
  refine sx_fn (S := SX) (M := []) (N := 124) (H0 := [.gen (rdsG L1), .gen (rdsG L2)]) Tryz.func30 rfl rfl rfl (Sat.rdsM w [] _ fun j e hj => by
    match j, hj with
    | 0, hj => cases hj; exact ⟨rfl, h1⟩
    | 1, hj => cases hj; exact ⟨rfl, h2⟩) ?_
  ((try refine sU ?_);repeat(refine sN fun _=>?_;try refine sU ?_))
  rename_i bm
  refine SxCode.drawAll rfl [] ?_
  ((try refine sU ?_);repeat(refine sN fun _=>?_;try refine sU ?_))
  refine SxLd.of 2 rfl d0 rfl rfl (j := 0) (v := .slice mo2 m2.length mc2) rfl ?_
  ((try refine sU ?_);repeat(refine sN fun _=>?_;try refine sU ?_))
  refine SxLd.of 2 rfl d0 rfl rfl (j := 1) (v := .slice bo2 b2.length bc2) rfl ?_
  ((try refine sU ?_);repeat(refine sN fun _=>?_;try refine sU ?_))
  obtain ⟨MC, hMC⟩ : ∃ MC, MC = mdC (.slice mo1 m1.length mc1) (.slice bo1 b1.length bc1) n re im := ⟨_, rfl⟩
  refine SxCode.loop (σ := Nat) [5, 4] [28, 29, 30, 31, 32, 35, 36, 37, 38, 39, 40, 41, 42, 43, 44, 45, 46, 47, 48, 4, 33, 34, 5] (fun i => [.int .i64 (i : Nat), .bool false]) (fun _ => [.blk bm 52 (mdC (.slice mo1 m1.length mc1) (.slice bo1 b1.length bc1) n re im), .gen (rdsG L1), .gen (rdsG L2)]) (fun i => i ≤ m1.length) (fun i => m1.length - i) 0 [0, 1, 2] rfl rfl rfl rfl (Nat.zero_le _) ?_
  rintro i hi
  by_cases hlt : i < m1.length
  · obtain ⟨⟨i1, ⟨o1, c1, l1⟩⟩, hx1⟩ : ∃ x, m1[i]? = some x := ⟨m1[i], by simp [hlt]⟩
    obtain ⟨⟨i2, ⟨o2, c2, l2⟩⟩, hx2⟩ : ∃ x, m2[i]? = some x := ⟨m2[i]'(by omega), by simp [show i < m2.length by omega]⟩
    have heq : ((i1, l1) : Mn) = (i2, l2) := by
      have h := congrArg (fun l : List Mn => l[i]?) hm
      simp only [List.getElem?_map, hx1, hx2, Option.map_some, Mr.mn, Option.some.injEq] at h
      exact h
    simp only [Prod.mk.injEq] at heq
    obtain ⟨rfl, rfl⟩ := heq
    have hm1 := a3 _ (List.mem_of_getElem? hx1)
    have hm2 := d3 _ (List.mem_of_getElem? hx2)
    dsimp only at hm1 hm2
    ((try refine sU ?_);repeat(refine sN fun _=>?_;try refine sU ?_))
    refine SxCode.drawAll rfl [] ?_
    ((try refine sU ?_);repeat(refine sN fun _=>?_;try refine sU ?_))
    refine SxIA.of 1 rfl a1 i rfl hlt (by rw [mbE_len, List.length_map]; omega) fun g1 off ha => ?_
    ((try refine sU ?_);repeat(refine sN fun _=>?_;try refine sU ?_))
    refine SxLdN.of 1 rfl a1 ha rfl (vs := [.int .u32 i1, .slice o1 l1.length c1]) rfl (mbE.fl_at (Mr.mb_at hx1)) ?_
    ((try refine sU ?_);repeat(refine sN fun _=>?_;try refine sU ?_))
    refine SxLd.of 2 rfl d0 rfl rfl (j := 0) (v := .slice mo2 m2.length mc2) rfl ?_
    ((try refine sU ?_);repeat(refine sN fun _=>?_;try refine sU ?_))
    refine SxIA.of 2 rfl d1 i rfl (by omega) (by rw [mbE_len, List.length_map]; omega) fun g1 off ha => ?_
    ((try refine sU ?_);repeat(refine sN fun _=>?_;try refine sU ?_))
    refine SxLdN.of 2 rfl d1 ha rfl (vs := [.int .u32 i1, .slice o2 l1.length c2]) rfl (mbE.fl_at (Mr.mb_at hx2)) ?_
    ((try refine sU ?_);repeat(refine sN fun _=>?_;try refine sU ?_))
    refine SxCall.quietS (v := .bool true) (fun w1 hs1 => by
      have h := RMSame_any i1 i1 l1 l1 o1 o2 c1 c2 w1 (hs1.rdIn 1 rfl hm1) (hs1.rdIn 2 rfl hm2)
      rw [decide_eq_true ⟨rfl, rfl⟩] at h
      exact h) ?_
    ((try refine sU ?_);repeat(refine sN fun _=>?_;try refine sU ?_))
    exact SxRound.mk (i + 1) [0, 1, 2] rfl rfl rfl hlt (by omega)
  · ((try refine sU ?_);repeat(refine sN fun _=>?_;try refine sU ?_))
    refine SxCode.loop (σ := Nat) [6, 4] [49, 50, 51, 52, 53, 56, 57, 58, 59, 60, 61, 62, 63, 64, 65, 66, 67, 68, 69, 70, 71, 72, 73, 74, 75, 76, 77, 78, 79, 80, 81, 82, 83, 84, 85, 86, 87, 88, 89, 4, 7, 90, 91, 92, 93, 94, 95, 96, 97, 98, 99, 100, 103, 104, 105, 106, 107, 108, 109, 110, 111, 112, 113, 114, 115, 116, 117, 118, 119, 120, 121, 122, 123, 101, 102, 54, 55, 6] (fun i => [.int .i64 (i : Nat), .bool false]) (fun _ => [.blk bm 52 (mdC (.slice mo1 m1.length mc1) (.slice bo1 b1.length bc1) n re im), .gen (rdsG L1), .gen (rdsG L2)]) (fun i => i ≤ b1.length) (fun i => b1.length - i) 0 [0, 1, 2] rfl rfl rfl rfl (Nat.zero_le _) ?_
    rintro j hj
    by_cases hjl : j < b1.length
    · obtain ⟨⟨i1, ⟨o1, c1, l1⟩⟩, hx1⟩ : ∃ x, b1[j]? = some x := ⟨b1[j], by simp [hjl]⟩
      obtain ⟨⟨i2, ⟨o2, c2, l2⟩⟩, hx2⟩ : ∃ x, b2[j]? = some x := ⟨b2[j]'(by omega), by simp [show j < b2.length by omega]⟩
      have heq : ((i1, l1) : Bx) = (i2, l2) := by
        have h := congrArg (fun l : List Bx => l[j]?) hb
        simp only [List.getElem?_map, hx1, hx2, Option.map_some, Nb.bx, Option.some.injEq] at h
        exact h
      simp only [Prod.mk.injEq] at heq
      obtain ⟨rfl, rfl⟩ := heq
      have hm1 := a4 _ (List.mem_of_getElem? hx1)
      have hm2 := d4 _ (List.mem_of_getElem? hx2)
      have hll := hcl _ (List.mem_of_getElem? hx1)
      dsimp only at hm1 hm2 hll
      have e10 := mbE.fl_cell (j := 0) (v := .int .u32 i1) (Nb.mb_at hx1) rfl
      have e11 := mbE.fl_cell (j := 1) (v := .slice o1 l1.length c1) (Nb.mb_at hx1) rfl
      have e20 := mbE.fl_cell (j := 0) (v := .int .u32 i1) (Nb.mb_at hx2) rfl
      have e21 := mbE.fl_cell (j := 1) (v := .slice o2 l1.length c2) (Nb.mb_at hx2) rfl
      have q1 : j * 2 < (mbE.fl (b1.map Nb.mb)).length := by rw [mbE_len, List.length_map]; omega
      have q2 : j * 2 < (mbE.fl (b2.map Nb.mb)).length := by rw [mbE_len, List.length_map]; omega
      ((try refine sU ?_);repeat(refine sN fun _=>?_;try refine sU ?_))
      refine SxCode.drawAll rfl [] ?_
      ((try refine sU ?_);repeat(refine sN fun _=>?_;try refine sU ?_))
      refine SxIA.of 1 rfl a2 j rfl hjl q1 fun g1 off ha => ?_
      ((try refine sU ?_);repeat(refine sN fun _=>?_;try refine sU ?_))
      refine SxLd.of 1 rfl a2 ha (by omega) (j := j * 2) e10 ?_
      ((try refine sU ?_);repeat(refine sN fun _=>?_;try refine sU ?_))
      refine SxLd.of 2 rfl d0 rfl rfl (j := 1) (v := .slice bo2 b2.length bc2) rfl ?_
      ((try refine sU ?_);repeat(refine sN fun _=>?_;try refine sU ?_))
      refine SxIA.of 2 rfl d2 j rfl (by omega) q2 fun g1 off ha => ?_
      ((try refine sU ?_);repeat(refine sN fun _=>?_;try refine sU ?_))
      refine SxLd.of 2 rfl d2 ha (by omega) (j := j * 2) e20 ?_
      ((try refine sU ?_);repeat(refine sN fun _=>?_;try refine sU ?_))
      refine SxIA.of 1 rfl a2 j rfl hjl q1 fun g1 off ha => ?_
      ((try refine sU ?_);repeat(refine sN fun _=>?_;try refine sU ?_))
      refine SxLd.of 1 rfl a2 ha (by omega) (j := j * 2 + 1) e11 ?_
      ((try refine sU ?_);repeat(refine sN fun _=>?_;try refine sU ?_))
      refine SxLd.of 2 rfl d0 rfl rfl (j := 1) (v := .slice bo2 b2.length bc2) rfl ?_
      ((try refine sU ?_);repeat(refine sN fun _=>?_;try refine sU ?_))
      refine SxIA.of 2 rfl d2 j rfl (by omega) q2 fun g1 off ha => ?_
      ((try refine sU ?_);repeat(refine sN fun _=>?_;try refine sU ?_))
      refine SxLd.of 2 rfl d2 ha (by omega) (j := j * 2 + 1) e21 ?_
      ((try refine sU ?_);repeat(refine sN fun _=>?_;try refine sU ?_))
      refine SxCode.loop (σ := Nat) [7, 4] [90, 91, 92, 93, 94, 95, 96, 97, 98, 99, 100, 103, 104, 105, 106, 107, 108, 109, 110, 111, 112, 113, 114, 115, 116, 117, 118, 119, 120, 121, 122, 123, 4, 101, 102, 7] (fun i => [.int .i64 (i : Nat), .bool false]) (fun _ => [.blk bm 52 (mdC (.slice mo1 m1.length mc1) (.slice bo1 b1.length bc1) n re im), .gen (rdsG L1), .gen (rdsG L2)]) (fun i => i ≤ l1.length) (fun i => l1.length - i) 0 [0, 1, 2] rfl rfl rfl rfl (Nat.zero_le _) ?_
      rintro k hk
      by_cases hkl : k < l1.length
      · obtain ⟨s, hs1⟩ : ∃ s, l1[k]? = some s := ⟨l1[k], by simp [hkl]⟩
        ((try refine sU ?_);repeat(refine sN fun _=>?_;try refine sU ?_))
        refine SxLd.of 2 rfl d0 rfl rfl (j := 1) (v := .slice bo2 b2.length bc2) rfl ?_
        ((try refine sU ?_);repeat(refine sN fun _=>?_;try refine sU ?_))
        refine SxIA.of 2 rfl d2 j rfl (by omega) q2 fun g1 off ha => ?_
        ((try refine sU ?_);repeat(refine sN fun _=>?_;try refine sU ?_))
        refine SxLd.of 2 rfl d2 ha (by omega) (j := j * 2 + 1) e21 ?_
        ((try refine sU ?_);repeat(refine sN fun _=>?_;try refine sU ?_))
        refine SxCode.drawAll rfl [] ?_
        ((try refine sU ?_);repeat(refine sN fun _=>?_;try refine sU ?_))
        refine SxIA.of 1 rfl a2 j rfl hjl q1 fun g1 off ha => ?_
        ((try refine sU ?_);repeat(refine sN fun _=>?_;try refine sU ?_))
        refine SxLd.of 1 rfl a2 ha (by omega) (j := j * 2 + 1) e11 ?_
        ((try refine sU ?_);repeat(refine sN fun _=>?_;try refine sU ?_))
        refine SxIA.of 1 rfl hm1 k rfl hkl (by rw [rowSr_len]; omega) fun g1 off ha => ?_
        ((try refine sU ?_);repeat(refine sN fun _=>?_;try refine sU ?_))
        refine SxLd.of 1 rfl hm1 ha rfl (j := k * 1) (rowSr_cell (j := 0) hs1 rfl) ?_
        ((try refine sU ?_);repeat(refine sN fun _=>?_;try refine sU ?_))
        refine SxLd.of 2 rfl d0 rfl rfl (j := 1) (v := .slice bo2 b2.length bc2) rfl ?_
        ((try refine sU ?_);repeat(refine sN fun _=>?_;try refine sU ?_))
        refine SxIA.of 2 rfl d2 j rfl (by omega) q2 fun g1 off ha => ?_
        ((try refine sU ?_);repeat(refine sN fun _=>?_;try refine sU ?_))
        refine SxLd.of 2 rfl d2 ha (by omega) (j := j * 2 + 1) e21 ?_
        ((try refine sU ?_);repeat(refine sN fun _=>?_;try refine sU ?_))
        refine SxIA.of 2 rfl hm2 k rfl hkl (by rw [rowSr_len]; omega) fun g1 off ha => ?_
        ((try refine sU ?_);repeat(refine sN fun _=>?_;try refine sU ?_))
        refine SxLd.of 2 rfl hm2 ha rfl (j := k * 1) (rowSr_cell (j := 0) hs1 rfl) ?_
        ((try refine sU ?_);repeat(refine sN fun _=>?_;try refine sU ?_))
        refine SxIf.nt (SxIf.strT rfl ?_)
        ((try refine sU ?_);repeat(refine sN fun _=>?_;try refine sU ?_))
        exact SxRound.mk (k + 1) [0, 1, 2] rfl rfl rfl hkl (by omega)
      · ((try refine sU ?_);repeat(refine sN fun _=>?_;try refine sU ?_))
        refine SxLd.of 2 rfl d0 rfl rfl (j := 1) (v := .slice bo2 b2.length bc2) rfl ?_
        ((try refine sU ?_);repeat(refine sN fun _=>?_;try refine sU ?_))
        refine SxIA.of 2 rfl d2 j rfl (by omega) q2 fun g1 off ha => ?_
        ((try refine sU ?_);repeat(refine sN fun _=>?_;try refine sU ?_))
        refine SxLd.of 2 rfl d2 ha (by omega) (j := j * 2 + 1) e21 ?_
        ((try refine sU ?_);repeat(refine sN fun _=>?_;try refine sU ?_))
        exact SxRound.mk (j + 1) [0, 1, 2] rfl rfl rfl hjl (by omega)
    · ((try refine sU ?_);repeat(refine sN fun _=>?_;try refine sU ?_))
      exact SxDone.mk fun w' hs => ⟨rfl, hs.touch.below⟩
end Go.Proofs.YtlmefcepdadfjaaGreat
/- Layer 23: a stream of nothing; how long it is; the page's example. -/
namespace Go.Proofs.YtlmefcepdadfjaaGreat
open Go.RowKit

theorem Weak.rdsNil {H : Hp} (L : RdL) (h : ∀ x ∈ L, x.2 = []) : Weak H (.gen (rdsG L) :: H) := fun _ _ w hs =>
  hs.cons ⟨rfl, rfl, rfl, Nat.le_refl _, fun _ _ _ => rfl⟩ (e := .gen (rdsG L)) (fun x hx => by rw [h x hx]; exact Rd_nil _ _) (fun g hg => by
    obtain ⟨x, hx, hu⟩ := hg
    rw [h x hx] at hu
    exact absurd rfl hu.1)
def sr0 (box man : Int) (c : Nat → Int) (L : Lb) : Sr := ⟨box, man, [], none, 0, [], none, 0, 0, 0, c, L, ⟨#[]⟩, [], none, 0, none, 0, 0, 0, 0⟩
theorem sr0_rds (box man : Int) (c : Nat → Int) (L : Lb) : ∀ x ∈ (sr0 box man c L).rds, x.2 = [] := by
  intro x hx
  simp only [sr0, Sr.rds, maL, bxL, List.map_nil, List.append_nil, List.mem_cons, List.not_mem_nil, or_false] at hx
  rcases hx with rfl | rfl | rfl | rfl <;> rfl
theorem good_no : Good .no := ⟨trivial, fun _ => by show 0 ≤ 10000; omega⟩
theorem sr0_held (box man : Int) (c : Nat → Int) (hc : conC c = true) (L : Lb) : (sr0 box man c L).held box man c L ⟨#[]⟩ := by
  have hmay := (conC_may hc).1
  refine ⟨rfl, rfl, rfl, rfl, ⟨[], .nil, rfl⟩, ?_, ?_, ?_, rfl, rfl, rfl⟩
  · show cutC c ⟨#[]⟩ = 0
    rw [cutC_cf hmay]
    exact cutN_nil (cf c) (conf4_of hmay).1
  · exact W_0
  · exact W_0
theorem new_sat {W : World} {M : List Nat} {H : Hp} {w : World} (hs : Sat W M H w) (c : Nat → Int) (box man : Int) (hok : conC c = true) (hb : box ≠ 0) (hm : man ≠ 0) :
    Calls Tryz.prog 14 #[confA c, .int .u32 box, .int .u32 man, .nilFunc, .nilFunc] w fun e w' => ∃ g, e = .returned (.tuple #[.pointer (some ⟨g, 0, none⟩), .int .i64 0]) ∧ Sat W M (.blk g 101 (sr0 box man c .no).cells :: .gen (rdsG (sr0 box man c .no).rds) :: .gen (rdsG Lb.no.rds) :: H) w' := by
  refine (SNew_nil_sat hs c box man hok hb hm).mono ?_
  rintro e w' ⟨g, rfl, hs'⟩
  refine ⟨g, rfl, ?_⟩
  have h1 := Weak.rds0 _ _ _ _ hs'
  have h2 := Weak.rdsNil _ (sr0_rds box man c .no) _ _ _ h1
  exact h2.pick (ks := [2, 0, 1] ++ tailIx 3 H.length) (pickH_append (A := [_, _, _]) rfl (pickH_tail (L := H) 3 rfl rfl)) (nodup_tail 3 _ rfl rfl)
section
variable {box man : Int} {c : Nat → Int} {L : Lb} {A : ByteArray} {σ : Sr} (w : World) (g : Nat)
theorem len_held (hσ : σ.held box man c L A) (hb : Blk w g 101 σ.cells) : Calls Tryz.prog 23 #[.pointer (some ⟨g, 0, none⟩)] w fun e w' => e = .returned (.int .i64 (A.size : Nat)) ∧ Below w.heap.size w w' := by
  have h := SLen_any g σ.box σ.man σ.last σ.fresh σ.n σ.mo σ.bo σ.ms.length σ.mc σ.bs.length σ.bc σ.c σ.L.kn σ.L.bt (.slice σ.co σ.ch.length σ.cc) (.slice σ.fo σ.ch.length σ.fc) (.complex .f64 σ.wa σ.wb) σ.left w hb
  rw [hσ.hn] at h
  exact h
theorem mans_held (hb : Blk w g 101 σ.cells) : Calls Tryz.prog 24 #[.pointer (some ⟨g, 0, none⟩)] w fun e w' => e = .returned (.int .i64 (σ.ms.length : Nat)) ∧ Below w.heap.size w w' :=
  SMans_any g σ.box σ.man σ.last σ.fresh σ.n σ.mo σ.bo σ.ms.length σ.mc σ.bs.length σ.bc σ.c σ.L.kn σ.L.bt (.slice σ.co σ.ch.length σ.cc) (.slice σ.fo σ.ch.length σ.fc) (.complex .f64 σ.wa σ.wb) σ.left w hb
theorem fresh_held (hσ : σ.held box man c L A) (hb : Blk w g 101 σ.cells) : Calls Tryz.prog 25 #[.pointer (some ⟨g, 0, none⟩)] w fun e w' => e = .returned (.int .i64 (freshX (σ.bs.map Nb.bx) : Nat)) ∧ Below w.heap.size w w' := by
  have h := SFresh_any g σ.box σ.man σ.last σ.fresh σ.n σ.mo σ.bo σ.ms.length σ.mc σ.bs.length σ.bc σ.c σ.L.kn σ.L.bt (.slice σ.co σ.ch.length σ.cc) (.slice σ.fo σ.ch.length σ.fc) (.complex .f64 σ.wa σ.wb) σ.left w hb
  rw [hσ.hfresh] at h
  exact h
end
theorem over_small {box man : Int} {c : Nat → Int} {L : Lb} {A : ByteArray} {σ : Sr} (hc : conC c = true) (hg : Good L) (hσ : σ.held box man c L A) (hA : A.size ≤ 1000) (hb : box ≤ 4294960000) (hm : man ≤ 4294960000) : overC box man σ.ms.length σ.bs.length = false := by
  obtain ⟨cs, h1, h2⟩ := hσ.hat
  obtain ⟨a1, _, a3, _⟩ := laidP_much (box := box) (man := man) (G := L.G) (conC_may hc).2 cs
  rw [← h2] at a1 a3
  dsimp only at a1 a3
  rw [List.length_map] at a1 a3
  have h3 := h1.len
  unfold overC
  rw [decide_eq_false (by omega), decide_eq_false (by omega), decide_eq_false (by omega)]; rfl
def cEx (i : Nat) : Int := ([4, 8, 2, 1, 1, 2, 1, 0, 0, 0, 0, 3, 20] : List Int).getD i 0
theorem cEx_con : conC cEx = true := by decide
def abc : ByteArray := ⟨#[97, 98, 99]⟩
theorem abc_whole {CS : List ByteArray} (h : Whole (cf cEx) abc CS) : CS = [abc] := by
  have h0 : cutN (cf cEx) abc.data.toList = 0 := by decide +kernel
  exact h.det ⟨[], abc, .nil, h0, rfl⟩
theorem abc_made : madeP cEx 7 9 [] [abc] = ⟨[(9, [mkEn abc (7, 0)])], [(7, [abc])]⟩ := by
  have h1 : segN cEx [bFq abc] = 1 := by
    unfold segN
    rw [if_pos (conC_may cEx_con).2]
    refine firstN_some (by simp) ?_ (fun i hi => absurd hi (Nat.not_lt_zero _))
    unfold endC
    rw [decide_eq_true_iff]
    exact .inr ⟨by decide, by show _ % (1 : Int) = 0; omega⟩
  have h2 : laidP cEx 7 9 [] [abc] = (layP cEx 7 9 [] ⟨[], []⟩ [abc], []) := by
    show feedP cEx 7 9 [] ls0 abc = _
    unfold feedP ls0
    rw [List.nil_append, show [abc].map bFq = [bFq abc] from rfl, h1]; rfl
  unfold madeP lastP
  rw [h2, if_pos rfl]
  rfl
end Go.Proofs.YtlmefcepdadfjaaGreat
