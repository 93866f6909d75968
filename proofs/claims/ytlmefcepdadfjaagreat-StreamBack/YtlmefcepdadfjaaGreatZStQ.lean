/- Layer 23: a segment is laid. -/
import Derived.Test.YtlmefcepdadfjaaGreatZStO
namespace Go.Proofs.YtlmefcepdadfjaaGreat
open Go.RowKit

theorem enC_bx (s : ByteArray) (p : Int × Int) (b : Int) : splice 33 [.int .u32 b] (enC (mkEn s p)) = enC (mkEn s (b, p.2)) := by
  show splice (32 + 1) _ ((bFq s).1.map u8V ++ enT _ _ _) = _
  rw [splice_app (by rw [List.length_map, (bFq s).2])]
  rfl
theorem enC_sl (s : ByteArray) (p : Int × Int) (b : Int) : splice 34 [.int .i64 b] (enC (mkEn s p)) = enC (mkEn s (p.1, b)) := by
  show splice (32 + 2) _ ((bFq s).1.map u8V ++ enT _ _ _) = _
  rw [splice_app (by rw [List.length_map, (bFq s).2])]
  rfl
theorem any_ix {S : Sx} {W : World} {M : List Nat} {H : Hp} {N : Nat} {ops : List Oper} {Hs : Hp} {sp : List Nat} {D : List (Nat × Bool)} {listed : List Bool} {F : Fr} {K : Fr → Hp → Prop} {o : Oper} {t e : Nat} {x ix : Operand} {g off n cap kk : Nat} {ik : IntKind} (j i : Nat) (hi : nthO ops i = some o) (hop : o.op = .indexAddr t x ix) (hns : noSel ops = true) (hf : freeB ops listed i = true) (hr : readyB ops listed i = true) (hni : memN i sp = false)
    (hst : Nat.beq (status N ops o D F) 2 = true) (hd : S.desc t = some (.slice e)) (hx : ev F x = some (.slice (some ⟨g, off, none⟩) n cap)) (hix : ev F ix = some (.int ik (j : Nat))) (hk : S.sz e = some kk) (hj : j < n) (h : SxAny S W M N ops Hs sp D (setB listed i) (upd o.dst (.pointer (some ⟨g, off + j * kk, none⟩)) F) H K) : SxAny S W M N ops Hs sp D listed F H K := by
  replace hst := Nat.eq_of_beq_eq_true hst
  refine any_take hi hns hf hr hni (fun a ha => .inl ⟨(wanted_of ha).1 hst, fun w => ?_⟩) (status_dst hst) h
  simp [execOp, hop, Instr.indexAt, asIntOf, run_sl hd, ev_eval ha hx, ev_eval ha hix, hj, run_size hk, Addr.add_lit]
structure Lj where
  bs : List Nb
  bo : Option Addr
  bc : Nat
  es : List En
  eo : Option Addr
  ec : Nat
theorem szB_take (l : List ByteArray) (j : Nat) : szB (l.take j) ≤ szB l := by
  have := szB_app (l.take j) (l.drop j)
  rw [List.take_append_drop] at this
  omega
set_option maxHeartbeats 16000000 in
theorem lay_sat {W : World} {M : List Nat} {R : Hp} {w : World} (box man : Int) (ms : List Mr) (mo : Option Addr) (mc : Nat) (bs : List Nb) (bo : Option Addr) (bc : Nat) (last fresh : Int) (c : Nat → Int) (L : Lb) (left : ByteArray) (ch : List ByteArray) (co : Option Addr) (cc : Nat) (fo : Option Addr) (fc wa wb : Nat) (n : Int)
    (g k : Nat) (hk : k = ch.length) (hL : L.ok) (hKl : ∀ hk, (knownG L.G hk).length ≤ 10000) (hchl : ch.length ≤ 10000) (hml : ms.length ≤ 100000) (hme : ∀ m ∈ ms, m.2.l.length ≤ 10000) (hbl : bs.length ≤ 20000) (hcl : ∀ b ∈ bs, b.2.l.length ≤ 20000) (hchs : ∀ s ∈ ch, s.size ≤ 900000) (hsz : szB ch ≤ 1000000) (hfx : freshX (bs.map Nb.bx) ≤ 1000000) (hla : last = (lastX (bs.map Nb.bx) : Nat)) (hfr : fresh = (freshX (bs.map Nb.bx) : Nat)) (hs : Sat W M ((⟨box, man, ms, mo, mc, bs, bo, bc, last, fresh, c, L, left, ch, co, cc, fo, fc, wa, wb, n⟩ : Sr).own g ++ (.gen (rdsG L.rds) :: R)) w) :
    Calls Tryz.prog 43 #[.pointer (some ⟨g, 0, none⟩), .int .i64 (k : Nat)] w fun e w' => ∃ ms' mo' mc' bs' bo' bc' cn fn, e = .returned (.tuple #[]) ∧ ms'.map Mr.mn = (layP c box man L.G ⟨ms.map Mr.mn, bs.map Nb.bx⟩ ch).ms ∧ bs'.map Nb.bx = (layP c box man L.G ⟨ms.map Mr.mn, bs.map Nb.bx⟩ ch).bs ∧
      Sat W M ((⟨box, man, ms', mo', mc', bs', bo', bc', (lastX (bs'.map Nb.bx) : Nat), (freshX (bs'.map Nb.bx) : Nat), c, L, left, [], cn, cc - k, fn, fc - k, wa, wb, n⟩ : Sr).own g ++ (.gen (rdsG L.rds) :: R)) w' := by
  have hcc : k ≤ cc := by rw [hk]; exact (hs.holds 5 _ rfl).2.1
  have hfc : k ≤ fc := by rw [hk]; exact (hs.holds 6 _ rfl).2.1
  have hs' : Sat W M (.blk g 101 (smC box man (.slice mo ms.length mc) (.slice bo bs.length bc) last fresh c L.kn L.bt left (.slice co k cc) (.slice fo k fc) (.complex .f64 wa wb) n) :: .row mo ms.length mc 67 2 (mbE.fl (ms.map Mr.mb)) :: .row bo bs.length bc 60 2 (mbE.fl (bs.map Nb.mb)) :: topRow bs :: .gen (rdsG (bxL bs.dropLast)) :: .gen (offR co k cc 9 1 (strE.fl ch)) :: .gen (offR fo k fc 69 32 (fqE.fl (ch.map bFq))) :: .gen (rdsG (maL ms)) :: .gen (rdsG L.rds) :: R) w := by rw [hk]; exact hs
  refine sx_fn (S := SX) (N := 170) Tryz.func43 rfl rfl rfl hs' ?_
  ((try refine sU ?_);repeat(refine sN fun _=>?_;try refine sU ?_))
  refine SxCode.drawAll rfl [] ?_
  ((try refine sU ?_);repeat(refine sN fun _=>?_;try refine sU ?_))
  refine SxBnd.mk 0 k rfl rfl (Nat.zero_le _) hcc ?_
  intro ao' h1 h2
  obtain rfl := ao_same0 h1 h2
  rw [Nat.sub_zero, Nat.sub_zero]
  ((try refine sU ?_);repeat(refine sN fun _=>?_;try refine sU ?_))
  refine SxBnd.mk 0 k rfl rfl (Nat.zero_le _) hfc ?_
  intro ao2 h1 h2
  obtain rfl := ao_same0 h1 h2
  rw [Nat.sub_zero, Nat.sub_zero]
  ((try refine sU ?_);repeat(refine sN fun _=>?_;try refine sU ?_))
  refine SxCode.draw rfl [.blk g 101 (smC box man (.slice mo ms.length mc) (.slice bo bs.length bc) last fresh c L.kn L.bt left (.slice ao' k cc) (.slice ao2 k fc) (.complex .f64 wa wb) n)] [16, 19] [0] rfl rfl ?_
  ((try refine sU ?_);repeat(refine sN fun _=>?_;try refine sU ?_))
  refine SxBnd.mk k k rfl rfl (Nat.le_refl _) hcc ?_
  intro cn h3 _
  rw [Nat.sub_self]
  ((try refine sU ?_);repeat(refine sN fun _=>?_;try refine sU ?_))
  refine any_slice 13 rfl rfl rfl rfl rfl rfl rfl rfl ?_
  refine SxBnd.mk k k rfl rfl (Nat.le_refl _) hfc ?_
  intro fn h5 _
  rw [Nat.sub_self]
  ((try refine sU ?_);repeat(refine sN fun _=>?_;try refine sU ?_))
  obtain ⟨C, hC⟩ : ∃ C, C = smC box man (.slice mo ms.length mc) (.slice bo bs.length bc) last fresh c L.kn L.bt left (.slice cn 0 (cc - k)) (.slice fn 0 (fc - k)) (.complex .f64 wa wb) n := ⟨_, rfl⟩
  have hfl : (ch.map bFq).length = k := by rw [List.length_map, hk]
  refine SxCode.draw rfl [.blk g 101 (smC box man (.slice mo ms.length mc) (.slice bo bs.length bc) last fresh c L.kn L.bt left (.slice cn 0 (cc - k)) (.slice fn 0 (fc - k)) (.complex .f64 wa wb) n)] [] [0] rfl rfl ?_
  ((try refine sU ?_);repeat(refine sN fun _=>?_;try refine sU ?_))
  have hhl := hkS_len (ch.map bFq) (c 7)
  obtain ⟨HK, hHK⟩ : ∃ HK, HK = hkS (ch.map bFq) (c 7) := ⟨_, rfl⟩
  obtain ⟨K, hK⟩ : ∃ K, K = knR (knownG L.G HK) := ⟨_, rfl⟩
  have hK1 : K.length ≤ 10000 := by rw [hK, knR_lenS]; exact hKl _
  have hKn := fun ho hc w1 h1 h2 => Known_any L hL HK ho hc w1 h1 h2
  rw [← hK] at hKn
  obtain ⟨d, hdv, hdl, hdr, hdn⟩ := ahead_form ms
  have hdn1 := hdn 10000 hme
  rw [← hHK] at hhl
  refine SxCall.newRd (n := HK.length) (v := fun ao cap => .slice ao HK.length cap) (cs := fpE.fl HK) (by rw [rowFp_len]; unfold maxLen; omega) (fun w1 hs1 => by
    have h := hOf_any (ch.map bFq) (by omega) ao2 fc (c 7) w1 (hs1.offRd 6 rfl (by rw [rowFp_len]; unfold maxLen; omega))
    rw [hfl] at h
    rw [hHK]
    exact h) fun ho hc => ?_
  ((try refine sU ?_);repeat(refine sN fun _=>?_;try refine sU ?_))
  refine sxCallee_kn L ?_
  refine SxCall.newRd (v := fun ao cap => .slice ao K.length cap) (by rw [enE_len1]; unfold maxLen; omega) (fun w1 hs1 => hKn ho hc w1 (hs1.rds1 9 rfl) (hs1.rd 0 rfl)) fun ko kc => ?_
  ((try refine sU ?_);repeat(refine sN fun _=>?_;try refine sU ?_))
  refine SxStable.mk [2] rfl rfl ?_
  ((try refine sU ?_);repeat(refine sN fun _=>?_;try refine sU ?_))
  refine SxCall.newRow (v := fun ao cap => .slice ao K.length cap) (fun w1 hs1 => CloneEn_any K ko kc (by omega) w1 (hs1.rd 0 rfl)) fun k1 kc1 => ?_
  ((try refine sU ?_);repeat(refine sN fun _=>?_;try refine sU ?_))
  refine SxStable.mk [3] rfl rfl ?_
  ((try refine sU ?_);repeat(refine sN fun _=>?_;try refine sU ?_))
  refine SxCall.quietS (v := .slice d.ao d.l.length d.cap) (fun w1 hs1 => by
    have h := ahead_any ms (by omega) g mo mc (.int .u32 box) (.int .u32 man) ([.slice bo bs.length bc, .int .i64 last, .int .i64 fresh, confV c 0, confV c 1, confV c 2, confV c 3, confV c 4, confV c 5, confV c 6, confV c 7, confV c 8, confV c 9, confV c 10, confV c 11, confV c 12, L.kn, L.bt, .string left, .slice cn 0 (cc - k), .slice fn 0 (fc - k), .complex .f64 wa wb, .int .i64 n]) w1 (Rd.of_blk (hs1.blk 3 rfl) (by show (26 : Nat) ≤ maxLen; unfold maxLen; omega)) (hs1.rowRd 4 rfl (by rw [mbE_len, List.length_map]; unfold maxLen; omega))
    rw [hdv] at h
    exact h) ?_
  ((try refine sU ?_);repeat(refine sN fun _=>?_;try refine sU ?_))
  refine SxStable.mk [3] rfl rfl ?_
  ((try refine sU ?_);repeat(refine sN fun _=>?_;try refine sU ?_))
  refine SxApp.from_ 0 rfl (vs := enE.fl d.l) (fun W2 M2 w2 hs2 => by
    rcases hdr with ⟨e1, e2⟩ | h
    · rw [e1, e2]; exact Rd_nil _ _
    · exact hs2.rdIn 10 rfl h) (enE_len1 _) (enE.fl_allOne _) (by unfold maxLen; omega) (by omega) (cs' := enE.fl (K ++ d.l)) (by rw [enE.fl_append]) fun k2 kc2 => ?_
  ((try refine sU ?_);repeat(refine sN fun _=>?_;try refine sU ?_))
  refine SxStable.mk [3] rfl rfl ?_
  ((try refine sU ?_);repeat(refine sN fun _=>?_;try refine sU ?_))
  obtain ⟨KN, hKN⟩ : ∃ KN, KN = K ++ d.l := ⟨_, rfl⟩
  have hKNl : K.length + d.l.length = KN.length := by rw [hKN, List.length_append]
  have hKNb : KN.length ≤ 20000 := by omega
  rw [hKNl, ← hKN]
  refine SxCode.wk (Weak.pick (ks := [0, 3, 4, 5, 6, 7, 8, 9, 10, 11] ++ tailIx 12 R.length) (pickH_append (A := [_, .blk g 101 (smC box man (.slice mo ms.length mc) (.slice bo bs.length bc) last fresh c L.kn L.bt left (.slice cn 0 (cc - k)) (.slice fn 0 (fc - k)) (.complex .f64 wa wb) n), _, _, _, _, _, _, _, _]) rfl (pickH_tail (L := R) 12 rfl rfl)) (nodup_tail 12 _ rfl rfl)) ?_
  refine SxCode.draw rfl [.blk g 101 (smC box man (.slice mo ms.length mc) (.slice bo bs.length bc) last fresh c L.kn L.bt left (.slice cn 0 (cc - k)) (.slice fn 0 (fc - k)) (.complex .f64 wa wb) n)] [] [1] rfl rfl ?_
  ((try refine sU ?_);repeat(refine sN fun _=>?_;try refine sU ?_))
  obtain ⟨mid, hmid⟩ : ∃ mid, mid = (man + ((ms.length : Nat) : Int)) % 4294967296 := ⟨_, rfl⟩
  refine SxRng.u32 (by omega) (by omega) ?_
  ((try refine sU ?_);repeat(refine sN fun _=>?_;try refine sU ?_))
  refine SxRng.u32e hmid ?_
  ((try refine sU ?_);repeat(refine sN fun _=>?_;try refine sU ?_))
  refine SxStable.mk [2] rfl rfl ?_
  ((try refine sU ?_);repeat(refine sN fun _=>?_;try refine sU ?_))
  rename_i gm
  refine SxStable.mk [2] rfl rfl ?_
  ((try refine sU ?_);repeat(refine sN fun _=>?_;try refine sU ?_))
  have hseg := fun (w1 : World) h1 h2 h3 => Segment_any ch (by omega) hchs KN (by omega) (tlL L.G KN (bs.map Nb.bx)) ao' k2 cc kc2 g w1 h1 h2 h3
  rw [← hk] at hseg
  refine SxCall.newRd (n := k) (v := fun ao cap => .slice ao k cap) (cs := fdE.fl (segG ch KN (tlL L.G KN (bs.map Nb.bx)) k).1) (by rw [fdE_len, segG_len ch KN _ k (by omega)]; unfold maxLen; omega) (fun w1 hs1 => hseg w1 (hs1.offRd 7 rfl (by rw [strE_len]; unfold maxLen; omega)) (hs1.rowRd 1 rfl (by rw [enE_len1]; unfold maxLen; omega)) fun i x hx w2 hb2 => by
    have h := told_any L hL bs (by omega) x g box man last fresh (.slice mo ms.length mc) bo bc c L.kn left (.slice cn 0 (cc - k)) (.slice fn 0 (fc - k)) (.complex .f64 wa wb) n w2 ((Rd.of_blk (hs1.blk 2 rfl) (by show (26 : Nat) ≤ maxLen; unfold maxLen; omega)).kept hb2) ((hs1.rowRd 4 rfl (by rw [mbE_len, List.length_map]; unfold maxLen; omega)).kept hb2) ((hs1.boxes (fun b hb => by have := hcl b hb; omega) 5 6 rfl rfl).kept hb2) ((hs1.rds1 10 rfl).kept hb2)
    have e : tlL L.G KN (bs.map Nb.bx) i = toldP L.G (bs.map Nb.bx) x := by unfold tlL; rw [hx]
    rw [e]
    exact h) fun so sc => ?_
  ((try refine sU ?_);repeat(refine sN fun _=>?_;try refine sU ?_))
  subst hla
  subst hfr
  obtain ⟨fs, hfs⟩ : ∃ fs, fs = (segG ch KN (tlL L.G KN (bs.map Nb.bx)) k).1 := ⟨_, rfl⟩
  have hfsl : fs.length = k := by rw [hfs, segG_len ch KN _ k (by omega)]
  have hrng : ∀ (j : Nat) (f : Int × Int), fs[j]? = some f → f.1 < KN.length ∧ f.2 < j := fun j f h => segG_rng ch KN _ k (by omega) j f (by rw [← hfs]; exact h)
  rw [← hfs]
  refine SxCode.wk (Weak.nil 71 35) ?_
  refine SxCode.loop (σ := Lj) [80] [81, 82, 83, 84, 9, 8, 85, 86, 87, 88, 89, 90, 91, 92, 93, 94, 10, 114, 115, 116, 113, 117, 118, 119, 120, 121, 122, 123, 124, 125, 126, 127, 128, 129, 130, 132, 133, 134, 131, 135, 136, 137, 138, 139, 140, 141, 142, 143, 144, 145, 146, 147, 148, 149, 150, 95, 96, 97, 98, 99, 100, 101, 102, 103, 104, 105, 106, 11, 107, 108, 109, 110, 111, 112, 151, 152, 153, 154, 155, 156, 157, 80] (fun x => [.int .i64 (x.es.length : Nat)]) (fun x => lown g box man ms mo mc x.bs x.bo x.bc (lastX (x.bs.map Nb.bx) : Nat) (freshX (x.bs.map Nb.bx) : Nat) c L left (.slice cn 0 (cc - k)) (.slice fn 0 (fc - k)) (.complex .f64 wa wb) n ++ (.rd so (fdE.fl fs) :: .blk gm 67 [.int .u32 mid, .slice x.eo x.es.length x.ec] :: .row x.eo x.es.length x.ec 71 35 (enE.fl x.es) :: .row k2 KN.length kc2 71 35 (enE.fl KN) :: .gen (offR ao' k cc 9 1 (strE.fl ch)) :: .gen (offR ao2 k fc 69 32 (fqE.fl (ch.map bFq))) :: .gen (rdsG (maL ms)) :: .gen (rdsG L.rds) :: R))
    (fun x => x.es.length ≤ k ∧ ((ch.zip fs).take x.es.length).foldl (layStep c box KN) (bs.map Nb.bx, []) = (x.bs.map Nb.bx, x.es) ∧ x.bs.length ≤ bs.length + x.es.length ∧ (∀ b ∈ x.bs, b.2.l.length ≤ 20000 + x.es.length) ∧ freshX (x.bs.map Nb.bx) ≤ freshX (bs.map Nb.bx) + szB (ch.take x.es.length)) (fun x => k - x.es.length) ⟨bs, bo, bc, [], none, 0⟩ ([4, 5, 6, 7, 8, 1, 2, 0, 3, 9, 10, 11, 12] ++ tailIx 13 R.length) rfl rfl (pickH_append (A := [_, _, _, _, _, _, _, _, _, _, _, _, _]) rfl (pickH_tail (L := R) 13 rfl rfl)) (nodup_tail 13 _ rfl rfl) ⟨Nat.zero_le _, rfl, Nat.le_refl _, fun b hb => by have := hcl b hb; omega, Nat.le_add_right _ _⟩ ?_
  rintro ⟨bj, bjo, bjc, es, eo, ec⟩ ⟨hj, hF, hbj, hbjc, hfj⟩
  dsimp only at hj hF hbj hbjc hfj ⊢
  by_cases hlt : es.length < k
  · obtain ⟨s, hs1⟩ : ∃ s, ch[es.length]? = some s := ⟨ch[es.length]'(by omega), by simp [show es.length < ch.length by omega]⟩
    obtain ⟨f, hf1⟩ : ∃ f, fs[es.length]? = some f := ⟨fs[es.length]'(by omega), by simp [show es.length < fs.length by omega]⟩
    have hq1 : (ch.map bFq)[es.length]? = some (bFq s) := by rw [List.getElem?_map, hs1]; rfl
    have hz : (ch.zip fs)[es.length]? = some (s, f) := by rw [List.getElem?_zip_eq_some]; exact ⟨hs1, hf1⟩
    have hF1 : ((ch.zip fs).take (es.length + 1)).foldl (layStep c box KN) (bs.map Nb.bx, []) = layStep c box KN (bj.map Nb.bx, es) (s, f) := by rw [take_snocE hz, List.foldl_append, hF]; rfl
    have hss := hchs s (List.mem_of_getElem? hs1)
    have hsn : szB (ch.take (es.length + 1)) = szB (ch.take es.length) + s.size := by rw [take_snocE hs1, szB_snoc]
    obtain ⟨f1, f2⟩ := f
    obtain ⟨hr1, hr2⟩ := hrng _ _ hf1
    ((try refine sU ?_);repeat(refine sN fun _=>?_;try refine sU ?_))
    refine SxIA.rd 5 _ rfl es.length rfl hlt (by rw [fdE_len]; omega) fun g1 off ha => ?_
    ((try refine sU ?_);repeat(refine sN fun _=>?_;try refine sU ?_))
    refine SxLdN.rd 5 rfl ha rfl (vs := fdC (f1, f2)) rfl (fdE_at hf1) ?_
    ((try refine sU ?_);repeat(refine sN fun _=>?_;try refine sU ?_))
    refine SxCode.draw rfl [.gen (offR ao' k cc 9 1 (strE.fl ch)), .gen (offR ao2 k fc 69 32 (fqE.fl (ch.map bFq)))] [] [10, 11] rfl rfl ?_
    ((try refine sU ?_);repeat(refine sN fun _=>?_;try refine sU ?_))
    refine SxIA.any (fqE.fl (ch.map bFq)) (fun _ _ _ hs => hs.offRd 1 rfl (by rw [fqE_len]; unfold maxLen; omega)) es.length rfl (by omega) (by rw [fqE_len]; omega) fun g2 off2 ha2 => ?_
    ((try refine sU ?_);repeat(refine sN fun _=>?_;try refine sU ?_))
    refine SxLdN.from_ (fun _ _ _ hs => hs.offRd 1 rfl (by rw [fqE_len]; unfold maxLen; omega)) ha2 rfl (vs := fqC (bFq s)) (fqC_len _) (fqE_at hq1) ?_
    ((try refine sU ?_);repeat(refine sN fun _=>?_;try refine sU ?_))
    refine SxIA.any (strE.fl ch) (fun _ _ _ hs => hs.offRd 0 rfl (by rw [strE_len]; unfold maxLen; omega)) es.length rfl (by omega) (by rw [strE_len]; omega) fun g3 off3 ha3 => ?_
    ((try refine sU ?_);repeat(refine sN fun _=>?_;try refine sU ?_))
    refine SxLd.from_ (fun _ _ _ hs => hs.offRd 0 rfl (by rw [strE_len]; unfold maxLen; omega)) ha3 rfl (j := es.length * 1) (strE_at hs1) ?_
    ((try refine sU ?_);repeat(refine sN fun _=>?_;try refine sU ?_))
    refine SxFill.first (n := 32) rfl (fqC_len _) rfl ?_
    refine SxFill.tail (fun i => match i with | 1 => some (0, 1) | _ => none) (fqC_len _) (by
      intro y hy
      simp only [List.mem_cons, List.not_mem_nil, or_false] at hy
      rcases hy with rfl; exact ⟨_, _, rfl, rfl⟩) ?_
    refine SxFill.ok rfl rfl ?_
    ((try refine sU ?_);repeat(refine sN fun _=>?_;try refine sU ?_))
    refine SxStable.mk [11, 12] rfl rfl ?_
    ((try refine sU ?_);repeat(refine sN fun _=>?_;try refine sU ?_))
    refine SxSt.elem enE (x := mkEn s (0, 0)) 0 rfl rfl ?_
    ((try refine sU ?_);repeat(refine sN fun _=>?_;try refine sU ?_))
    refine SxStable.mk [11, 12] rfl rfl ?_
    by_cases h0 : 0 ≤ f1
    · obtain ⟨i1, rfl⟩ : ∃ i1 : Nat, f1 = i1 := ⟨f1.toNat, by omega⟩
      obtain ⟨x, hx⟩ : ∃ x, KN[i1]? = some x := ⟨KN[i1]'(by omega), by simp [show i1 < KN.length by omega]⟩
      have hpl : plcOf KN es ((i1 : Int), f2) = some (x.bx, x.sl) := by unfold plcOf; rw [if_pos h0]; dsimp only; rw [Int.toNat_natCast, hx]; rfl
      have hst : layStep c box KN (bj.map Nb.bx, es) (s, ((i1 : Int), f2)) = (bj.map Nb.bx, es ++ [mkEn s (x.bx, x.sl)]) := by unfold layStep; dsimp only; rw [hpl]
      ((try refine sU ?_);repeat(refine sN fun _=>?_;try refine sU ?_))
      rename_i gf ge
      refine SxCode.draw rfl [.row k2 KN.length kc2 71 35 (enE.fl KN), .blk gf 135 (fdC ((i1 : Int), f2))] [] [10, 1] rfl rfl ?_
      ((try refine sU ?_);repeat(refine sN fun _=>?_;try refine sU ?_))
      refine SxIA.any (enE.fl KN) (fun _ _ _ hs => hs.rowRd 0 rfl (by rw [enE_len1]; unfold maxLen; omega)) i1 rfl (by omega) (by rw [enE_len1]; omega) fun g4 off4 ha4 => ?_
      ((try refine sU ?_);repeat(refine sN fun _=>?_;try refine sU ?_))
      refine SxLd.from_ (fun _ _ _ hs => hs.rowRd 0 rfl (by rw [enE_len1]; unfold maxLen; omega)) ha4 (by omega) (j := i1 * 35 + 33) (enE_cell1 hx (enC_tail x 1 _ rfl)) ?_
      ((try refine sU ?_);repeat(refine sN fun _=>?_;try refine sU ?_))
      refine SxIA.any (enE.fl KN) (fun _ _ _ hs => hs.rowRd 0 rfl (by rw [enE_len1]; unfold maxLen; omega)) i1 rfl (by omega) (by rw [enE_len1]; omega) fun g5 off5 ha5 => ?_
      ((try refine sU ?_);repeat(refine sN fun _=>?_;try refine sU ?_))
      refine SxLd.from_ (fun _ _ _ hs => hs.rowRd 0 rfl (by rw [enE_len1]; unfold maxLen; omega)) ha5 (by omega) (j := i1 * 35 + 34) (enE_cell1 hx (enC_tail x 2 _ rfl)) ?_
      ((try refine sU ?_);repeat(refine sN fun _=>?_;try refine sU ?_))
      refine SxSt.blk 0 rfl (by show Nat.ble (33 + 1) (enC (mkEn s (0, 0))).length = true; rw [enC_len]; rfl) rfl (cs' := enC (mkEn s (x.bx, 0))) (enC_bx s (0, 0) x.bx) ?_
      ((try refine sU ?_);repeat(refine sN fun _=>?_;try refine sU ?_))
      refine SxStable.mk [10, 1] rfl rfl ?_
      ((try refine sU ?_);repeat(refine sN fun _=>?_;try refine sU ?_))
      refine SxSt.blk 0 rfl (by show Nat.ble (34 + 1) (enC (mkEn s (x.bx, 0))).length = true; rw [enC_len]; rfl) rfl (cs' := enC (mkEn s (x.bx, x.sl))) (enC_sl s (x.bx, 0) x.sl) ?_
      ((try refine sU ?_);repeat(refine sN fun _=>?_;try refine sU ?_))
      refine SxStable.mk [10, 1] rfl rfl ?_
      ((try refine sU ?_);repeat(refine sN fun _=>?_;try refine sU ?_))
      refine SxLd.blk 8 rfl rfl ?_
      ((try refine sU ?_);repeat(refine sN fun _=>?_;try refine sU ?_))
      refine SxLdN.blk 0 rfl (vs := enC (mkEn s (x.bx, x.sl))) (enC_len _) (enC_whole _) ?_
      ((try refine sU ?_);repeat(refine sN fun _=>?_;try refine sU ?_))
      refine SxFill.one rfl (enC_len _) ?_
      ((try refine sU ?_);repeat(refine sN fun _=>?_;try refine sU ?_))
      refine SxApp.mk 10 rfl 0 (.inr (.inr (.inr ⟨by decide, _, rfl⟩))) (vs := enC (mkEn s (x.bx, x.sl))) (m := 1) (by rw [enC_len]) (enC_one _) (by unfold maxLen; omega) (by omega) (cs' := enE.fl (es ++ [mkEn s (x.bx, x.sl)])) (by rw [enE.fl_append, enE.fl_one]; rfl) fun eo1 ec1 => ?_
      ((try refine sU ?_);repeat(refine sN fun _=>?_;try refine sU ?_))
      refine SxSt.blk 9 rfl rfl rfl rfl ?_
      ((try refine sU ?_);repeat(refine sN fun _=>?_;try refine sU ?_))
      have hlen : (es ++ [mkEn s (x.bx, x.sl)]).length = es.length + 1 := by simp
      refine SxRound.mk ⟨bj, bjo, bjc, es ++ [mkEn s (x.bx, x.sl)], eo1, ec1⟩ ([3, 4, 5, 6, 7, 8, 9, 10, 11, 12, 13, 14, 15] ++ tailIx 16 R.length) (by dsimp only; rw [hlen]; rfl) (by
        dsimp only
        rw [hlen]
        exact pickH_append (A := [_, _, _, _, _, _, _, _, _, _, _, _, _]) rfl (pickH_tail (L := R) 16 rfl rfl)) (nodup_tail 16 _ rfl rfl) ⟨by dsimp only; omega, by dsimp only; rw [hlen, hF1, hst], by dsimp only; omega, fun b hb => by dsimp only; have := hbjc b hb; omega, by dsimp only; rw [hlen, hsn]; omega⟩ (by dsimp only; omega)
    · by_cases h2 : 0 ≤ f2
      · obtain ⟨i1, rfl⟩ : ∃ i1 : Nat, f2 = i1 := ⟨f2.toNat, by omega⟩
        obtain ⟨x, hx⟩ : ∃ x, es[i1]? = some x := ⟨es[i1]'(by omega), by simp [show i1 < es.length by omega]⟩
        have hpl : plcOf KN es (f1, (i1 : Int)) = some (x.bx, x.sl) := by unfold plcOf; rw [if_neg h0, if_pos h2]; dsimp only; rw [Int.toNat_natCast, hx]; rfl
        have hst : layStep c box KN (bj.map Nb.bx, es) (s, (f1, (i1 : Int))) = (bj.map Nb.bx, es ++ [mkEn s (x.bx, x.sl)]) := by unfold layStep; dsimp only; rw [hpl]
        ((try refine sU ?_);repeat(refine sN fun _=>?_;try refine sU ?_))
        rename_i gf ge
        refine SxCode.draw rfl [.row eo es.length ec 71 35 (enE.fl es), .blk gf 135 (fdC (f1, (i1 : Int))), .blk gm 67 [.int .u32 mid, .slice eo es.length ec]] [] [9, 1, 8] rfl rfl ?_
        ((try refine sU ?_);repeat(refine sN fun _=>?_;try refine sU ?_))
        refine SxIA.any (enE.fl es) (fun _ _ _ hs => hs.rowRd 0 rfl (by rw [enE_len1]; unfold maxLen; omega)) i1 rfl (by omega) (by rw [enE_len1]; omega) fun g4 off4 ha4 => ?_
        ((try refine sU ?_);repeat(refine sN fun _=>?_;try refine sU ?_))
        refine SxLd.from_ (fun _ _ _ hs => hs.rowRd 0 rfl (by rw [enE_len1]; unfold maxLen; omega)) ha4 (by omega) (j := i1 * 35 + 33) (enE_cell1 hx (enC_tail x 1 _ rfl)) ?_
        ((try refine sU ?_);repeat(refine sN fun _=>?_;try refine sU ?_))
        refine SxIA.any (enE.fl es) (fun _ _ _ hs => hs.rowRd 0 rfl (by rw [enE_len1]; unfold maxLen; omega)) i1 rfl (by omega) (by rw [enE_len1]; omega) fun g5 off5 ha5 => ?_
        ((try refine sU ?_);repeat(refine sN fun _=>?_;try refine sU ?_))
        refine SxLd.from_ (fun _ _ _ hs => hs.rowRd 0 rfl (by rw [enE_len1]; unfold maxLen; omega)) ha5 (by omega) (j := i1 * 35 + 34) (enE_cell1 hx (enC_tail x 2 _ rfl)) ?_
        ((try refine sU ?_);repeat(refine sN fun _=>?_;try refine sU ?_))
        refine SxSt.blk 0 rfl (by show Nat.ble (33 + 1) (enC (mkEn s (0, 0))).length = true; rw [enC_len]; rfl) rfl (cs' := enC (mkEn s (x.bx, 0))) (enC_bx s (0, 0) x.bx) ?_
        ((try refine sU ?_);repeat(refine sN fun _=>?_;try refine sU ?_))
        refine SxStable.mk [9, 1, 8] rfl rfl ?_
        ((try refine sU ?_);repeat(refine sN fun _=>?_;try refine sU ?_))
        refine SxSt.blk 0 rfl (by show Nat.ble (34 + 1) (enC (mkEn s (x.bx, 0))).length = true; rw [enC_len]; rfl) rfl (cs' := enC (mkEn s (x.bx, x.sl))) (enC_sl s (x.bx, 0) x.sl) ?_
        ((try refine sU ?_);repeat(refine sN fun _=>?_;try refine sU ?_))
        refine SxStable.mk [9, 1, 8] rfl rfl ?_
        ((try refine sU ?_);repeat(refine sN fun _=>?_;try refine sU ?_))
        refine SxLd.blk 8 rfl rfl ?_
        ((try refine sU ?_);repeat(refine sN fun _=>?_;try refine sU ?_))
        refine SxLdN.blk 0 rfl (vs := enC (mkEn s (x.bx, x.sl))) (enC_len _) (enC_whole _) ?_
        ((try refine sU ?_);repeat(refine sN fun _=>?_;try refine sU ?_))
        refine SxFill.one rfl (enC_len _) ?_
        ((try refine sU ?_);repeat(refine sN fun _=>?_;try refine sU ?_))
        refine SxApp.mk 10 rfl 0 (.inr (.inr (.inr ⟨by decide, _, rfl⟩))) (vs := enC (mkEn s (x.bx, x.sl))) (m := 1) (by rw [enC_len]) (enC_one _) (by unfold maxLen; omega) (by omega) (cs' := enE.fl (es ++ [mkEn s (x.bx, x.sl)])) (by rw [enE.fl_append, enE.fl_one]; rfl) fun eo1 ec1 => ?_
        ((try refine sU ?_);repeat(refine sN fun _=>?_;try refine sU ?_))
        refine SxSt.blk 9 rfl rfl rfl rfl ?_
        ((try refine sU ?_);repeat(refine sN fun _=>?_;try refine sU ?_))
        have hlen : (es ++ [mkEn s (x.bx, x.sl)]).length = es.length + 1 := by simp
        refine SxRound.mk ⟨bj, bjo, bjc, es ++ [mkEn s (x.bx, x.sl)], eo1, ec1⟩ ([3, 4, 5, 6, 7, 8, 9, 10, 11, 12, 13, 14, 15] ++ tailIx 16 R.length) (by dsimp only; rw [hlen]; rfl) (by
          dsimp only
          rw [hlen]
          exact pickH_append (A := [_, _, _, _, _, _, _, _, _, _, _, _, _]) rfl (pickH_tail (L := R) 16 rfl rfl)) (nodup_tail 16 _ rfl rfl) ⟨by dsimp only; omega, by dsimp only; rw [hlen, hF1, hst], by dsimp only; omega, fun b hb => by dsimp only; have := hbjc b hb; omega, by dsimp only; rw [hlen, hsn]; omega⟩ (by dsimp only; omega)
      · have hpl : plcOf KN es (f1, f2) = none := by unfold plcOf; rw [if_neg h0, if_neg h2]
        have hst : layStep c box KN (bj.map Nb.bx, es) (s, (f1, f2)) = ((putP c box (bj.map Nb.bx) s).1, es ++ [mkEn s (putP c box (bj.map Nb.bx) s).2]) := by unfold layStep; dsimp only; rw [hpl]
        obtain ⟨P, hP⟩ : ∃ P, P = putP c box (bj.map Nb.bx) s := ⟨_, rfl⟩
        have hszt := szB_take ch es.length
        have hputS := fun (w1 : World) (R1 : Hp) h1 => putS_sat (M := M) (W := W) (R := R1) (w := w1) box man ms mo mc bj bjo bjc c L left (.slice cn 0 (cc - k)) (.slice fn 0 (fc - k)) (.complex .f64 wa wb) n (by omega) (fun b hb => by have := hbjc b hb; omega) (by omega) g s (by omega) h1
        rw [← hP] at hst hputS
        obtain ⟨P1, p1, p2⟩ := P
        ((try refine sU ?_);repeat(refine sN fun _=>?_;try refine sU ?_))
        rename_i gf ge
        refine SxCode.fact (P := ∃ gc oc, ao' = some ⟨gc, oc, none⟩) (fun w2 hs2 => by
          obtain ⟨gc, oc, _, h9, _⟩ := (hs2.holds 11 _ rfl).2.2.2 (by omega)
          exact ⟨gc, oc, h9⟩) fun hP9 => ?_
        obtain ⟨gc, oc, rfl⟩ := hP9
        refine SxCode.draw rfl [.blk g 101 (smC box man (.slice mo ms.length mc) (.slice bjo bj.length bjc) (lastX (bj.map Nb.bx) : Nat) (freshX (bj.map Nb.bx) : Nat) c L.kn L.bt left (.slice cn 0 (cc - k)) (.slice fn 0 (fc - k)) (.complex .f64 wa wb) n), .gen (offR (some ⟨gc, oc, none⟩) k cc 9 1 (strE.fl ch))] [11] [2, 11] rfl rfl ?_
        ((try refine sU ?_);repeat(refine sN fun _=>?_;try refine sU ?_))
        refine any_ix es.length 9 rfl rfl rfl rfl rfl rfl rfl rfl rfl rfl rfl (by omega) ?_
        ((try refine sU ?_);repeat(refine sN fun _=>?_;try refine sU ?_))
        refine SxLd.from_ (fun _ _ _ hs => hs.offRd 1 rfl (by rw [strE_len]; unfold maxLen; omega)) rfl rfl (j := es.length * 1) (strE_at hs1) ?_
        ((try refine sU ?_);repeat(refine sN fun _=>?_;try refine sU ?_))
        refine any_two rfl rfl rfl rfl rfl rfl rfl ?_ ?_
        · refine SxCall.mk fun w1 hs1 => (hputS w1 _ (hs1.pick (ks := [2, 3, 4, 5, 6] ++ ([0, 1, 7, 8, 9, 10, 11, 12, 13, 14] ++ tailIx 15 R.length)) (pickH_append rfl (pickH_append (A := [_, _, _, _, _, _, _, _, _, _]) rfl (pickH_tail (L := R) 15 rfl rfl))) (nodup_tail (ks := [2, 3, 4, 5, 6, 0, 1, 7, 8, 9, 10, 11, 12, 13, 14]) 15 _ rfl rfl))).mono ?_
          rintro e w2 ⟨bj2, bjo2, bjc2, rfl, hb2, hs2⟩
          refine ⟨_, _, rfl, hs2.pick (ks := [5, 6, 0, 1, 2, 3, 4, 7, 8, 9, 10, 11, 12, 13, 14] ++ tailIx 15 R.length) (pickH_append (A := [_, _, _, _, _, _, _, _, _, _, _, _, _, _, _]) rfl (pickH_tail (L := R) 15 rfl rfl)) (nodup_tail 15 _ rfl rfl), ?_⟩
          ((try refine sU ?_);repeat(refine sN fun _=>?_;try refine sU ?_))
          rename_i gp
          dsimp only at hb2 hst
          have hl2 : bj2.length ≤ bj.length + 1 := by
            have h := putP_len c box (bj.map Nb.bx) s
            rw [← hP] at h
            dsimp only at h
            rw [← hb2, List.length_map, List.length_map] at h
            exact h
          have hl3 : ∀ b ∈ bj2, b.2.l.length ≤ 20000 + es.length + 1 := fun b hb => by
            have h := putP_lens c box (bj.map Nb.bx) s (m := 20000 + es.length) (fun b' hb' => by
              obtain ⟨d', hd', rfl⟩ := List.mem_map.1 hb'
              exact hbjc d' hd')
            rw [← hP] at h
            dsimp only at h
            rw [← hb2] at h
            exact h b.bx (List.mem_map.2 ⟨b, hb, rfl⟩)
          have hl4 : freshX (bj2.map Nb.bx) = freshX (bj.map Nb.bx) + s.size := by
            have h := putP_fresh c box (bj.map Nb.bx) s
            rw [← hP] at h
            dsimp only at h
            rw [hb2]; exact h
          refine SxCode.draw rfl [.blk gp 109 [.int .u32 p1, .int .i64 p2]] [] [0] rfl rfl ?_
          ((try refine sU ?_);repeat(refine sN fun _=>?_;try refine sU ?_))
          refine SxSt.blk 1 rfl (by show Nat.ble (33 + 1) (enC (mkEn s (0, 0))).length = true; rw [enC_len]; rfl) rfl (cs' := enC (mkEn s (p1, 0))) (enC_bx s (0, 0) p1) ?_
          ((try refine sU ?_);repeat(refine sN fun _=>?_;try refine sU ?_))
          refine SxSt.blk 1 rfl (by show Nat.ble (34 + 1) (enC (mkEn s (p1, 0))).length = true; rw [enC_len]; rfl) rfl (cs' := enC (mkEn s (p1, p2))) (enC_sl s (p1, 0) p2) ?_
          ((try refine sU ?_);repeat(refine sN fun _=>?_;try refine sU ?_))
          refine SxLd.blk 9 rfl rfl ?_
          ((try refine sU ?_);repeat(refine sN fun _=>?_;try refine sU ?_))
          refine SxLdN.blk 1 rfl (vs := enC (mkEn s (p1, p2))) (enC_len _) (enC_whole _) ?_
          ((try refine sU ?_);repeat(refine sN fun _=>?_;try refine sU ?_))
          refine SxFill.one rfl (enC_len _) ?_
          ((try refine sU ?_);repeat(refine sN fun _=>?_;try refine sU ?_))
          refine SxApp.mk 11 rfl 0 (.inr (.inr (.inr ⟨by decide, _, rfl⟩))) (vs := enC (mkEn s (p1, p2))) (m := 1) (by rw [enC_len]) (enC_one _) (by unfold maxLen; omega) (by omega) (cs' := enE.fl (es ++ [mkEn s (p1, p2)])) (by rw [enE.fl_append, enE.fl_one]; rfl) fun eo1 ec1 => ?_
          ((try refine sU ?_);repeat(refine sN fun _=>?_;try refine sU ?_))
          refine SxSt.blk 10 rfl rfl rfl rfl ?_
          ((try refine sU ?_);repeat(refine sN fun _=>?_;try refine sU ?_))
          have hlen : (es ++ [mkEn s (p1, p2)]).length = es.length + 1 := by simp
          exact SxRound.mk ⟨bj2, bjo2, bjc2, es ++ [mkEn s (p1, p2)], eo1, ec1⟩ ([4, 5, 6, 7, 8, 9, 10, 11, 12, 13, 14, 15, 16] ++ tailIx 17 R.length) (by dsimp only; rw [hlen]; rfl) (by
            dsimp only
            rw [hlen]
            exact pickH_append (A := [_, _, _, _, _, _, _, _, _, _, _, _, _]) rfl (pickH_tail (L := R) 17 rfl rfl)) (nodup_tail 17 _ rfl rfl) ⟨by dsimp only; omega, by dsimp only; rw [hlen, hF1, hst, hb2], by dsimp only; omega, fun b hb => by dsimp only; have := hl3 b hb; omega, by dsimp only; rw [hlen, hsn, hl4]; omega⟩ (by dsimp only; omega)
        · ((try refine sU ?_);repeat(refine sN fun _=>?_;try refine sU ?_))
          refine SxStable.mk [3, 12] rfl rfl ?_
          ((try refine sU ?_);repeat(refine sN fun _=>?_;try refine sU ?_))
          refine SxCall.mk fun w1 hs1 => (hputS w1 _ (hs1.pick (ks := [3, 4, 5, 6, 7] ++ ([0, 1, 2, 8, 9, 10, 11, 12, 13, 14, 15] ++ tailIx 16 R.length)) (pickH_append rfl (pickH_append (A := [_, _, _, _, _, _, _, _, _, _, _]) rfl (pickH_tail (L := R) 16 rfl rfl))) (nodup_tail (ks := [3, 4, 5, 6, 7, 0, 1, 2, 8, 9, 10, 11, 12, 13, 14, 15]) 16 _ rfl rfl))).mono ?_
          rintro e w2 ⟨bj2, bjo2, bjc2, rfl, hb2, hs2⟩
          refine ⟨_, _, rfl, hs2.pick (ks := [5, 6, 7, 0, 1, 2, 3, 4, 8, 9, 10, 11, 12, 13, 14, 15] ++ tailIx 16 R.length) (pickH_append (A := [_, _, _, _, _, _, _, _, _, _, _, _, _, _, _, _]) rfl (pickH_tail (L := R) 16 rfl rfl)) (nodup_tail 16 _ rfl rfl), ?_⟩
          ((try refine sU ?_);repeat(refine sN fun _=>?_;try refine sU ?_))
          rename_i gp
          dsimp only at hb2 hst
          have hl2 : bj2.length ≤ bj.length + 1 := by
            have h := putP_len c box (bj.map Nb.bx) s
            rw [← hP] at h
            dsimp only at h
            rw [← hb2, List.length_map, List.length_map] at h
            exact h
          have hl3 : ∀ b ∈ bj2, b.2.l.length ≤ 20000 + es.length + 1 := fun b hb => by
            have h := putP_lens c box (bj.map Nb.bx) s (m := 20000 + es.length) (fun b' hb' => by
              obtain ⟨d', hd', rfl⟩ := List.mem_map.1 hb'
              exact hbjc d' hd')
            rw [← hP] at h
            dsimp only at h
            rw [← hb2] at h
            exact h b.bx (List.mem_map.2 ⟨b, hb, rfl⟩)
          have hl4 : freshX (bj2.map Nb.bx) = freshX (bj.map Nb.bx) + s.size := by
            have h := putP_fresh c box (bj.map Nb.bx) s
            rw [← hP] at h
            dsimp only at h
            rw [hb2]; exact h
          refine SxCode.draw rfl [.blk gp 109 [.int .u32 p1, .int .i64 p2]] [] [0] rfl rfl ?_
          ((try refine sU ?_);repeat(refine sN fun _=>?_;try refine sU ?_))
          refine SxSt.blk 1 rfl (by show Nat.ble (33 + 1) (enC (mkEn s (0, 0))).length = true; rw [enC_len]; rfl) rfl (cs' := enC (mkEn s (p1, 0))) (enC_bx s (0, 0) p1) ?_
          ((try refine sU ?_);repeat(refine sN fun _=>?_;try refine sU ?_))
          refine SxSt.blk 1 rfl (by show Nat.ble (34 + 1) (enC (mkEn s (p1, 0))).length = true; rw [enC_len]; rfl) rfl (cs' := enC (mkEn s (p1, p2))) (enC_sl s (p1, 0) p2) ?_
          ((try refine sU ?_);repeat(refine sN fun _=>?_;try refine sU ?_))
          refine SxLd.blk 9 rfl rfl ?_
          ((try refine sU ?_);repeat(refine sN fun _=>?_;try refine sU ?_))
          refine SxLdN.blk 1 rfl (vs := enC (mkEn s (p1, p2))) (enC_len _) (enC_whole _) ?_
          ((try refine sU ?_);repeat(refine sN fun _=>?_;try refine sU ?_))
          refine SxFill.one rfl (enC_len _) ?_
          ((try refine sU ?_);repeat(refine sN fun _=>?_;try refine sU ?_))
          refine SxApp.mk 11 rfl 0 (.inr (.inr (.inr ⟨by decide, _, rfl⟩))) (vs := enC (mkEn s (p1, p2))) (m := 1) (by rw [enC_len]) (enC_one _) (by unfold maxLen; omega) (by omega) (cs' := enE.fl (es ++ [mkEn s (p1, p2)])) (by rw [enE.fl_append, enE.fl_one]; rfl) fun eo1 ec1 => ?_
          ((try refine sU ?_);repeat(refine sN fun _=>?_;try refine sU ?_))
          refine SxSt.blk 10 rfl rfl rfl rfl ?_
          ((try refine sU ?_);repeat(refine sN fun _=>?_;try refine sU ?_))
          have hlen : (es ++ [mkEn s (p1, p2)]).length = es.length + 1 := by simp
          exact SxRound.mk ⟨bj2, bjo2, bjc2, es ++ [mkEn s (p1, p2)], eo1, ec1⟩ ([4, 5, 6, 7, 8, 9, 10, 11, 12, 13, 14, 15, 16] ++ tailIx 17 R.length) (by dsimp only; rw [hlen]; rfl) (by
            dsimp only
            rw [hlen]
            exact pickH_append (A := [_, _, _, _, _, _, _, _, _, _, _, _, _]) rfl (pickH_tail (L := R) 17 rfl rfl)) (nodup_tail 17 _ rfl rfl) ⟨by dsimp only; omega, by dsimp only; rw [hlen, hF1, hst, hb2], by dsimp only; omega, fun b hb => by dsimp only; have := hl3 b hb; omega, by dsimp only; rw [hlen, hsn, hl4]; omega⟩ (by dsimp only; omega)
  · have hje : es.length = k := by omega
    rw [hje, List.take_of_length_le (by rw [List.length_zip]; omega)] at hF
    ((try refine sU ?_);repeat(refine sN fun _=>?_;try refine sU ?_))
    refine SxCode.draw rfl [.blk g 101 (smC box man (.slice mo ms.length mc) (.slice bjo bj.length bjc) (lastX (bj.map Nb.bx) : Nat) (freshX (bj.map Nb.bx) : Nat) c L.kn L.bt left (.slice cn 0 (cc - k)) (.slice fn 0 (fc - k)) (.complex .f64 wa wb) n), .blk gm 67 [.int .u32 mid, .slice eo es.length ec]] [12] [0, 6] rfl rfl ?_
    ((try refine sU ?_);repeat(refine sN fun _=>?_;try refine sU ?_))
    refine SxStable.mk [1, 7] rfl rfl ?_
    ((try refine sU ?_);repeat(refine sN fun _=>?_;try refine sU ?_))
    refine SxApp.mk 2 rfl 0 (.inr (.inr (.inr ⟨by decide, _, rfl⟩))) (vs := mbC (mid, eo, es.length, ec)) (m := 1) rfl rfl (by unfold maxLen; omega) (by omega) (cs' := mbE.fl ((ms ++ [((mid, ⟨eo, ec, es⟩) : Mr)]).map Mr.mb)) (by rw [List.map_append, mbE.fl_append, List.map_cons, List.map_nil, mbE.fl_one]; rfl) fun mo1 mc1 => ?_
    ((try refine sU ?_);repeat(refine sN fun _=>?_;try refine sU ?_))
    refine SxStable.mk [1, 7] rfl rfl ?_
    ((try refine sU ?_);repeat(refine sN fun _=>?_;try refine sU ?_))
    have hlay : layP c box man L.G ⟨ms.map Mr.mn, bs.map Nb.bx⟩ ch = ⟨ms.map Mr.mn ++ [(mid, es)], bj.map Nb.bx⟩ := by
      have e1 : knL c L.G ⟨ms.map Mr.mn, bs.map Nb.bx⟩ ch = KN := by unfold knL; dsimp only; rw [← hdl, ← hHK, ← hK, hKN]
      have e2 : fsL c L.G ⟨ms.map Mr.mn, bs.map Nb.bx⟩ ch = fs := by unfold fsL; rw [e1, ← hk, hfs]
      unfold layP
      rw [e1, e2]
      dsimp only
      rw [hF, List.length_map, ← hmid]
    refine SxDone.mk fun w' hs => ⟨ms ++ [(mid, ⟨eo, ec, es⟩)], mo1, mc1, bj, bjo, bjc, cn, fn, rfl, ?_, ?_, ?_⟩
    · rw [hlay, List.map_append]; rfl
    · rw [hlay]
    · have h1 := Weak.merge (L' := maL (ms ++ [((mid, ⟨eo, ec, es⟩) : Mr)])) 8 12 (by decide) rfl rfl 71 35 (fun W2 M2 w2 hs2 => by
        unfold maL
        rw [List.map_append]
        exact (hs2.rds1 12 rfl).app ((RdAll.nil _).cons (hs2.rowRd 8 rfl (by rw [enE_len1]; unfold maxLen; dsimp only; omega)))) (fun g' hg' => by
        obtain ⟨x, hx, hu⟩ := hg'
        unfold maL at hx
        rw [List.map_append] at hx
        rcases List.mem_append.1 hx with h | h
        · exact .inl ⟨x, h, hu⟩
        · simp only [List.map_cons, List.map_nil, List.mem_singleton] at h
          subst h
          exact .inr hu.2) _ _ _ hs
      have h2 := Weak.offRest (ao' := cn) 10 rfl h3 _ _ _ h1
      have h4 := Weak.offRest (ao' := fn) 11 rfl h5 _ _ _ h2
      have h6 := h4.pick (ks := [1, 2, 3, 4, 5, 10, 11, 12, 13] ++ tailIx 14 R.length) (pickH_append (A := [_, _, _, _, _, _, _, _, _]) rfl (pickH_tail (L := R) 14 rfl rfl)) (nodup_tail 14 _ rfl rfl)
      have hml2 : (ms ++ [((mid, ⟨eo, ec, es⟩) : Mr)]).length = ms.length + 1 := by simp
      dsimp only [Sr.own, Sr.cells]
      rw [hml2]
      exact h6
end Go.Proofs.YtlmefcepdadfjaaGreat
