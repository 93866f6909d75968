/- Layer 23, the document: a segment is laid. -/
import Derived.Test.YtlmefcepdadfjaaGreatZSuC
import Derived.Test.YtlmefcepdadfjaaGreatZFlu
namespace Go.Proofs.YtlmefcepdadfjaaGreat
open Go.RowKit

def upR (G : List (List Rk)) (bs : List Bx) (l : List Rk) (i : Nat) : List Rk := (l.take i).map (fun r => rkOf G bs r.en) ++ l.drop i
theorem upR_len (G : List (List Rk)) (bs : List Bx) (l : List Rk) (i : Nat) : (upR G bs l i).length = l.length := by unfold upR; rw [List.length_append, List.length_map, ← List.length_append, List.take_append_drop]
theorem upR_at {G : List (List Rk)} {bs : List Bx} {l : List Rk} {i : Nat} {r : Rk} (h : l[i]? = some r) : (upR G bs l i)[i]? = some r := by
  have hl := (List.getElem?_eq_some_iff.1 h).1
  unfold upR
  rw [List.getElem?_append_right (by simp; omega), List.length_map, List.length_take, Nat.min_eq_left (by omega), Nat.sub_self, List.getElem?_drop]; exact h
theorem upR_succ {G : List (List Rk)} {bs : List Bx} {l : List Rk} {i : Nat} {r : Rk} (h : l[i]? = some r) : upR G bs l (i + 1) = (upR G bs l i).set i (rkOf G bs r.en) := by
  obtain ⟨hl, he⟩ := List.getElem?_eq_some_iff.1 h
  unfold upR
  rw [take_snocE h, List.map_append, List.set_append_right _ _ (by simp; omega), List.length_map, List.length_take, Nat.min_eq_left (by omega), Nat.sub_self, List.drop_eq_getElem_cons hl, List.set_cons_zero, List.append_assoc]; rfl
theorem upR_all (G : List (List Rk)) (bs : List Bx) (l : List Rk) : upR G bs l l.length = (knR l).map (rkOf G bs) := by unfold upR knR; rw [List.take_length, List.drop_length, List.append_nil, List.map_map]; rfl
theorem rkC_setS (r : Rk) (t : ByteArray) : splice 36 [.string t] (rkE.enc r) = rkE.enc ⟨r.en, r.has, t⟩ := by
  show splice (35 + 1) _ (enC r.en ++ _) = _
  rw [splice_app (enC_len r.en)]; rfl
theorem rkC_setH (r : Rk) (b : Bool) : splice 35 [.bool b] (rkE.enc r) = rkE.enc ⟨r.en, b, r.s⟩ := by
  show splice (35 + 0) _ (enC r.en ++ _) = _
  rw [splice_app (enC_len r.en)]; rfl
set_option maxHeartbeats 16000000 in
theorem RMlay_sat {W : World} {M : List Nat} {R : Hp} {w : World} (box man : Int) (c : Nat → Int) (go : Option Addr) (gc : Nat) (gs : List (Drow Rk)) (hgl : gs.length ≤ 1000) (hdl : ∀ d ∈ gs, d.l.length ≤ 1000) (hKl : ∀ hk, (knownG (gs.map (·.l)) hk).length ≤ 10000)
    (ms : List Mr) (mo : Option Addr) (mc : Nat) (bs : List Nb) (bo : Option Addr) (bc : Nat) (lv : Value) (g : Nat) (ch : List ByteArray) (so : Option Addr) (sc : Nat) (fo : Option Addr) (fc : Nat)
    (hchl : ch.length ≤ 10000) (hml : ms.length ≤ 20000) (hme : ∀ m ∈ ms, m.2.l.length ≤ 10000) (hbl : bs.length ≤ 20000) (hcl : ∀ b ∈ bs, b.2.l.length ≤ 20000) (hchs : ∀ s ∈ ch, s.size ≤ 900000) (hsz : szB ch ≤ 1000000) (hfx : freshX (bs.map Nb.bx) ≤ 1000000)
    (hs : Sat W M (dow g (.slice mo ms.length mc) bs bo bc lv ++ (.row mo ms.length mc 67 2 (mbE.fl (ms.map Mr.mb)) :: .gen (rdsG (maL ms)) :: .gen (rdsG (grL go gs)) :: .rd so (strE.fl ch) :: .rd fo (fqE.fl (ch.map bFq)) :: R)) w) :
    Calls Tryz.prog 56 #[.pointer (some ⟨g, 0, none⟩), confA c, .int .u32 box, .int .u32 man, .agg (lbC go gs.length gc).toArray, .slice so ch.length sc, .slice fo ch.length fc] w fun e w' => ∃ ms' mo' mc' bs' bo' bc', e = .returned (.tuple #[]) ∧ ms'.map Mr.mn = (layP c box man (gs.map (·.l)) ⟨ms.map Mr.mn, bs.map Nb.bx⟩ ch).ms ∧ bs'.map Nb.bx = (layP c box man (gs.map (·.l)) ⟨ms.map Mr.mn, bs.map Nb.bx⟩ ch).bs ∧
      Sat W M (dow g (.slice mo' ms'.length mc') bs' bo' bc' lv ++ (.row mo' ms'.length mc' 67 2 (mbE.fl (ms'.map Mr.mb)) :: .gen (rdsG (maL ms')) :: .gen (rdsG (grL go gs)) :: .rd so (strE.fl ch) :: .rd fo (fqE.fl (ch.map bFq)) :: R)) w' := by
  obtain ⟨k, hk⟩ : ∃ k, k = ch.length := ⟨_, rfl⟩
  have hs' : Sat W M (.blk g 58 [.slice mo ms.length mc, .slice bo bs.length bc, lv] :: .row bo bs.length bc 61 2 (mbE.fl (bs.map Nb.mb)) :: .gen (rdsG (bxL bs)) :: .row mo ms.length mc 67 2 (mbE.fl (ms.map Mr.mb)) :: .gen (rdsG (maL ms)) :: .gen (rdsG (grL go gs)) :: .rd so (strE.fl ch) :: .rd fo (fqE.fl (ch.map bFq)) :: R) w := hs
  rw [← hk]
  refine sx_fn (S := SX) (N := 165) Tryz.func56 rfl rfl rfl hs' ?_
  ((try refine sU ?_);repeat(refine sN fun _=>?_;try refine sU ?_))
  rename_i bf bl
  have hhl := hkS_len (ch.map bFq) (c 7)
  have hfl : (ch.map bFq).length = k := by rw [List.length_map, hk]
  obtain ⟨HK, hHK⟩ : ∃ HK, HK = hkS (ch.map bFq) (c 7) := ⟨_, rfl⟩
  obtain ⟨K, hK⟩ : ∃ K, K = knownG (gs.map (·.l)) HK := ⟨_, rfl⟩
  have hK1 : K.length ≤ 10000 := by rw [hK]; exact hKl _
  obtain ⟨A, hA⟩ : ∃ A, A = (aheadP (ms.map Mr.mn)).map (rkOf (gs.map (·.l)) (bs.map Nb.bx)) := ⟨_, rfl⟩
  have hAn : A.length = (aheadP (ms.map Mr.mn)).length := by rw [hA, List.length_map]
  have hAl : A.length ≤ 10000 := by
    obtain ⟨d, _, hdl, _, hdn⟩ := ahead_form ms
    rw [hAn, ← hdl]
    exact hdn 10000 hme
  rw [← hHK] at hhl
  have hKn := fun ho hc w1 h1 h2 => RKnown_any go gc gs hgl hdl HK ho hc w1 h1 h2
  rw [← hK] at hKn
  refine SxCode.draw rfl [.blk bl 36 (lbC go gs.length gc), .blk bf 23 (tab 13 (confV c))] [] [0, 1] rfl rfl ?_
  ((try refine sU ?_);repeat(refine sN fun _=>?_;try refine sU ?_))
  refine SxCall.newRd (n := HK.length) (v := fun ao cap => .slice ao HK.length cap) (cs := fpE.fl HK) (by rw [rowFp_len]; unfold maxLen; omega) (fun w1 hs1 => by
    have h := ROf_any (ch.map bFq) (by omega) fo fc (c 7) w1 (hs1.rd 9 rfl)
    rw [hfl, setR7_eq] at h
    rw [hHK]
    exact h) fun ho hc => ?_
  ((try refine sU ?_);repeat(refine sN fun _=>?_;try refine sU ?_))
  refine SxCall.newRow (v := fun ao cap => .slice ao K.length cap) (fun w1 hs1 => hKn ho hc w1 (hs1.rds1 8 rfl) (hs1.rd 0 rfl)) fun k1 kc1 => ?_
  ((try refine sU ?_);repeat(refine sN fun _=>?_;try refine sU ?_))
  refine SxCall.newRow (v := fun ao cap => .slice ao A.length cap) (fun w1 hs1 => by
    have h := RMahead_any go gc gs hgl hdl ms (by omega) hme bs (by omega) box g lv mo bo mc bc w1 (Rd.of_blk (hs1.blk 4 rfl) (by show (3 : Nat) ≤ maxLen; unfold maxLen; omega)) (hs1.rowRd 7 rfl (by rw [mbE_len, List.length_map]; unfold maxLen; omega)) (hs1.rds1 8 rfl) (hs1.rowRd 5 rfl (by rw [mbE_len, List.length_map]; unfold maxLen; omega)) (hs1.rds1 6 rfl) (hs1.rds1 9 rfl)
    rw [← hA, ← hAn] at h
    exact h) fun k2 kc2 => ?_
  ((try refine sU ?_);repeat(refine sN fun _=>?_;try refine sU ?_))
  refine SxStable.mk [3, 4] rfl rfl ?_
  ((try refine sU ?_);repeat(refine sN fun _=>?_;try refine sU ?_))
  obtain ⟨K0, hK0⟩ : ∃ K0, K0 = K ++ A := ⟨_, rfl⟩
  have hK0l : K.length + A.length = K0.length := by rw [hK0, List.length_append]
  have hK0b : K0.length ≤ 20000 := by omega
  obtain ⟨KN, hKN⟩ : ∃ KN, KN = knR K0 := ⟨_, rfl⟩
  have hKNl : KN.length = K0.length := by rw [hKN]; exact knR_lenS _
  have hKNe : KN = knL c (gs.map (·.l)) ⟨ms.map Mr.mn, bs.map Nb.bx⟩ ch := by
    rw [hKN, hK0, hA, hK, hHK]
    unfold knL knR
    rw [List.map_append, List.map_map]
    congr 1
    exact List.map_id _
  refine SxApp.mk 1 rfl 0 (.inr (.inr (.inr ⟨by decide, _, rfl⟩))) (vs := rkE.fl A) (m := A.length) (rkE_len _) (rkE.fl_allOne _) (by unfold maxLen; omega) (by omega) (cs' := rkE.fl K0) (by rw [hK0, rkE.fl_append]) fun k3 kc3 => ?_
  ((try refine sU ?_);repeat(refine sN fun _=>?_;try refine sU ?_))
  refine SxStable.mk [3, 4] rfl rfl ?_
  ((try refine sU ?_);repeat(refine sN fun _=>?_;try refine sU ?_))
  rw [hK0l]
  refine SxCode.loop (σ := Nat) [15] [33, 34, 35, 36, 40, 41, 42, 43, 44, 45, 46, 47, 48, 49, 50, 51, 39, 52, 53, 54, 55, 56, 57, 37, 38, 15] (fun i => [.int .i64 (i : Nat)]) (fun i => .row k3 K0.length kc3 94 37 (rkE.fl (upR (gs.map (·.l)) (bs.map Nb.bx) K0 i)) :: .blk bl 36 (lbC go gs.length gc) :: .blk bf 23 (tab 13 (confV c)) :: .blk g 58 [.slice mo ms.length mc, .slice bo bs.length bc, lv] :: .row bo bs.length bc 61 2 (mbE.fl (bs.map Nb.mb)) :: .gen (rdsG (bxL bs)) :: .row mo ms.length mc 67 2 (mbE.fl (ms.map Mr.mb)) :: .gen (rdsG (maL ms)) :: .gen (rdsG (grL go gs)) :: .rd so (strE.fl ch) :: .rd fo (fqE.fl (ch.map bFq)) :: R) (fun i => i ≤ K0.length) (fun i => K0.length - i) 0 ([1, 3, 4, 5, 6, 7, 8, 9, 10, 11, 12] ++ tailIx 13 R.length) rfl rfl (pickH_append (A := [_, _, _, _, _, _, _, _, _, _, _]) rfl (pickH_tail (L := R) 13 rfl rfl)) (nodup_tail 13 _ rfl rfl) (Nat.zero_le _) ?_
  rintro i hi
  by_cases hlt : i < K0.length
  · obtain ⟨r, hr⟩ : ∃ r, K0[i]? = some r := ⟨K0[i], by simp [hlt]⟩
    have hur := upR_at (G := gs.map (·.l)) (bs := bs.map Nb.bx) hr
    have hus := upR_succ (G := gs.map (·.l)) (bs := bs.map Nb.bx) hr
    have hul := upR_len (gs.map (·.l)) (bs.map Nb.bx) K0 i
    refine sx_base 0 rfl fun hro _ => ?_
    obtain ⟨gk, rfl⟩ := hro (by omega)
    ((try refine sU ?_);repeat(refine sN fun _=>?_;try refine sU ?_))
    refine SxCode.drawAll rfl [17, 20] ?_
    ((try refine sU ?_);repeat(refine sN fun _=>?_;try refine sU ?_))
    refine SxIA.row 0 _ _ _ rfl i rfl hlt fun g' hg' => ?_
    obtain rfl : gk = g' := by simpa using hg'
    ((try refine sU ?_);repeat(refine sN fun _=>?_;try refine sU ?_))
    refine SxLdN.row 0 rfl rfl (j := i * 37) (by omega) (vs := enC r.en) (enC_len _) (rk_en hur) ?_
    ((try refine sU ?_);repeat(refine sN fun _=>?_;try refine sU ?_))
    refine SxCall.quietS (fun w1 hs1 => RMBytes_any go gc gs hgl hdl bs (by omega) r.en g _ lv bo bc w1 (Rd.of_blk (hs1.blk 3 rfl) (by show (3 : Nat) ≤ maxLen; unfold maxLen; omega)) (hs1.rowRd 4 rfl (by rw [mbE_len, List.length_map]; unfold maxLen; omega)) (hs1.rds1 5 rfl) (hs1.rds1 8 rfl)) ?_
    obtain ⟨T, hT⟩ : ∃ T, T = toldP (gs.map (·.l)) (bs.map Nb.bx) r.en := ⟨_, rfl⟩
    have hrk : rkOf (gs.map (·.l)) (bs.map Nb.bx) r.en = ⟨r.en, T.2, T.1⟩ := by unfold rkOf; rw [hT]
    rw [← hT]
    ((try refine sU ?_);repeat(refine sN fun _=>?_;try refine sU ?_))
    refine SxIA.row 0 _ _ _ rfl i rfl hlt fun g' hg' => ?_
    obtain rfl : gk = g' := by simpa using hg'
    ((try refine sU ?_);repeat(refine sN fun _=>?_;try refine sU ?_))
    refine SxSt.row 0 rfl rfl (j := i * 37 + 36) (by omega) (by rw [rkE_len, hul]; show i * 37 + 36 + 1 ≤ _; omega) rfl (Enc.fl_splice rkE (x' := ⟨r.en, r.has, T.1⟩) hur (by show 36 + 1 ≤ 37; omega) (rkC_setS r T.1)) ?_
    ((try refine sU ?_);repeat(refine sN fun _=>?_;try refine sU ?_))
    refine SxIA.row 0 _ _ _ rfl i rfl hlt fun g' hg' => ?_
    obtain rfl : gk = g' := by simpa using hg'
    ((try refine sU ?_);repeat(refine sN fun _=>?_;try refine sU ?_))
    have hil : i < (upR (gs.map (·.l)) (bs.map Nb.bx) K0 i).length := by rw [hul]; exact hlt
    refine SxSt.row 0 rfl rfl (j := i * 37 + 35) (by omega) (by rw [rkE_len, List.length_set, hul]; show i * 37 + 35 + 1 ≤ _; omega) rfl (cs' := rkE.fl (upR (gs.map (·.l)) (bs.map Nb.bx) K0 (i + 1))) (by
      refine (Enc.fl_splice rkE (x := ⟨r.en, r.has, T.1⟩) (x' := ⟨r.en, T.2, T.1⟩) (by rw [List.getElem?_set_self hil]) (by show 35 + 1 ≤ 37; omega) (rkC_setH _ _)).trans ?_
      rw [List.set_set, hus, hrk]) ?_
    ((try refine sU ?_);repeat(refine sN fun _=>?_;try refine sU ?_))
    exact SxRound.mk (i + 1) ([0, 1, 2, 3, 4, 5, 6, 7, 8, 9, 10] ++ tailIx 11 R.length) rfl (pickH_append (A := [_, _, _, _, _, _, _, _, _, _, _]) rfl (pickH_tail (L := R) 11 rfl rfl)) (nodup_tail 11 _ rfl rfl) hlt (by omega)
  · obtain rfl : i = K0.length := by omega
    rw [upR_all, ← hKN]
    obtain ⟨tl, htl⟩ : ∃ tl, tl = tlL (gs.map (·.l)) KN (bs.map Nb.bx) := ⟨_, rfl⟩
    have hdoc : docF ch (KN.map (rkOf (gs.map (·.l)) (bs.map Nb.bx))) ch.length = (segG ch KN tl k).1 := by rw [docF_up, ← htl, ← hk]
    have hsl := segG_len ch KN tl k (by omega)
    obtain ⟨RKS, hRKS⟩ : ∃ RKS, RKS = KN.map (rkOf (gs.map (·.l)) (bs.map Nb.bx)) := ⟨_, rfl⟩
    have hRl : RKS.length = K0.length := by rw [hRKS, List.length_map, hKNl]
    rw [← hRKS] at hdoc ⊢
    have hRen : ∀ (j : Nat) (e : En), KN[j]? = some e → ∃ r, RKS[j]? = some r ∧ r.en = e := fun j e h => ⟨rkOf (gs.map (·.l)) (bs.map Nb.bx) e, by rw [hRKS, List.getElem?_map, h]; rfl, rfl⟩
    ((try refine sU ?_);repeat(refine sN fun _=>?_;try refine sU ?_))
    refine SxCall.newRd (n := k) (v := fun ao cap => .slice ao k cap) (cs := fdE.fl (segG ch KN tl k).1) (by rw [fdE_len, hsl]; unfold maxLen; omega) (fun w1 hs1 => by
      have h := RFind_any ch (by omega) RKS (by omega) so fo k3 sc fc kc3 w1 (hs1.rd 9 rfl) (hs1.rd 10 rfl) (hs1.rowRd 0 rfl (by rw [rkE_len]; unfold maxLen; omega))
      rw [hdoc, hRl, ← hk] at h
      exact h) fun fo1 fc1 => ?_
    ((try refine sU ?_);repeat(refine sN fun _=>?_;try refine sU ?_))
    obtain ⟨fs, hfs⟩ : ∃ fs, fs = (segG ch KN tl k).1 := ⟨_, rfl⟩
    have hfsl : fs.length = k := by rw [hfs]; exact hsl
    have hrng : ∀ (j : Nat) (f : Int × Int), fs[j]? = some f → f.1 < KN.length ∧ f.2 < j := fun j f h => segG_rng ch KN tl k (by omega) j f (by rw [← hfs]; exact h)
    rw [← hfs]
    obtain ⟨mid, hmid⟩ : ∃ mid, mid = (man + ((ms.length : Nat) : Int)) % 4294967296 := ⟨_, rfl⟩
    refine SxRng.u32 (by omega) (by omega) ?_
    ((try refine sU ?_);repeat(refine sN fun _=>?_;try refine sU ?_))
    refine SxRng.u32e hmid ?_
    ((try refine sU ?_);repeat(refine sN fun _=>?_;try refine sU ?_))
    rename_i gm
    refine SxCode.wk (Weak.nil 71 35) ?_
    refine SxCode.loop (σ := Lj) [18] [71, 72, 73, 74, 77, 78, 79, 80, 81, 82, 83, 84, 85, 86, 19, 87, 20, 88, 89, 90, 91, 92, 93, 94, 95, 96, 97, 98, 99, 100, 101, 102, 103, 104, 105, 106, 107, 108, 109, 110, 111, 112, 113, 114, 115, 116, 117, 118, 119, 120, 121, 122, 123, 124, 125, 126, 127, 128, 129, 21, 130, 131, 132, 133, 134, 135, 136, 137, 138, 139, 140, 141, 142, 143, 144, 145, 146, 147, 148, 149, 150, 151, 152, 153, 154, 75, 76, 18] (fun x => [.int .i64 (x.es.length : Nat)]) (fun x => dow g (.slice mo ms.length mc) x.bs x.bo x.bc lv ++ (.blk gm 67 [.int .u32 mid, .slice x.eo x.es.length x.ec] :: .row x.eo x.es.length x.ec 71 35 (enE.fl x.es) :: .rd fo1 (fdE.fl fs) :: .row k3 K0.length kc3 94 37 (rkE.fl RKS) :: .blk bf 23 (tab 13 (confV c)) :: .row mo ms.length mc 67 2 (mbE.fl (ms.map Mr.mb)) :: .gen (rdsG (maL ms)) :: .gen (rdsG (grL go gs)) :: .rd so (strE.fl ch) :: .rd fo (fqE.fl (ch.map bFq)) :: R))
      (fun x => x.es.length ≤ k ∧ ((ch.zip fs).take x.es.length).foldl (layStep c box KN) (bs.map Nb.bx, []) = (x.bs.map Nb.bx, x.es) ∧ x.bs.length ≤ bs.length + x.es.length ∧ (∀ b ∈ x.bs, b.2.l.length ≤ 20000 + x.es.length) ∧ freshX (x.bs.map Nb.bx) ≤ freshX (bs.map Nb.bx) + szB (ch.take x.es.length)) (fun x => k - x.es.length) ⟨bs, bo, bc, [], none, 0⟩ ([6, 7, 8, 1, 0, 2, 3, 5, 9, 10, 11, 12, 13] ++ tailIx 14 R.length) rfl rfl (pickH_append (A := [_, _, _, _, _, _, _, _, _, _, _, _, _]) rfl (pickH_tail (L := R) 14 rfl rfl)) (nodup_tail 14 _ rfl rfl) ⟨Nat.zero_le _, rfl, Nat.le_refl _, fun b hb => by have := hcl b hb; omega, Nat.le_add_right _ _⟩ ?_
    rintro ⟨bj, bjo, bjc, es, eo, ec⟩ ⟨hj, hF, hbj, hbjc, hfj⟩
    dsimp only at hj hF hbj hbjc hfj ⊢
    by_cases hlt : es.length < k
    · obtain ⟨s, hs1⟩ : ∃ s, ch[es.length]? = some s := ⟨ch[es.length]'(by omega), by simp [show es.length < ch.length by omega]⟩
      obtain ⟨f, hf1⟩ : ∃ f, fs[es.length]? = some f := ⟨fs[es.length]'(by omega), by simp [show es.length < fs.length by omega]⟩
      have hq1 : (ch.map bFq)[es.length]? = some (bFq s) := by rw [List.getElem?_map, hs1]; rfl
      have hz : (ch.zip fs)[es.length]? = some (s, f) := by rw [List.getElem?_zip_eq_some]; exact ⟨hs1, hf1⟩
      have hF1 : ((ch.zip fs).take (es.length + 1)).foldl (layStep c box KN) (bs.map Nb.bx, []) = layStep c box KN (bj.map Nb.bx, es) (s, f) := by rw [take_snocE hz, List.foldl_append, hF]; rfl
      have hss := hchs s (List.mem_of_getElem? hs1)
      have hsn : szB (ch.take (es.length + 1)) = szB (ch.take es.length) + s.size := by rw [take_snocE hs1, szB_snoc]
      obtain ⟨f1, f2⟩ := f
      obtain ⟨hr1, hr2⟩ := hrng _ _ hf1
      ((try refine sU ?_);repeat(refine sN fun _=>?_;try refine sU ?_))
      refine SxCode.draw rfl [.rd so (strE.fl ch), .rd fo (fqE.fl (ch.map bFq))] [] [11, 12] rfl rfl ?_
      ((try refine sU ?_);repeat(refine sN fun _=>?_;try refine sU ?_))
      refine SxIA.rd 1 _ rfl es.length rfl hlt (by rw [fqE_len]; omega) fun g2 off2 ha2 => ?_
      ((try refine sU ?_);repeat(refine sN fun _=>?_;try refine sU ?_))
      refine SxLdN.rd 1 rfl ha2 rfl (vs := fqC (bFq s)) (fqC_len _) (fqE_at hq1) ?_
      ((try refine sU ?_);repeat(refine sN fun _=>?_;try refine sU ?_))
      refine SxIA.rd 0 _ rfl es.length rfl hlt (by rw [strE_len]; omega) fun g3 off3 ha3 => ?_
      ((try refine sU ?_);repeat(refine sN fun _=>?_;try refine sU ?_))
      refine SxLd.rd 0 rfl ha3 rfl (j := es.length * 1) (strE_at hs1) ?_
      ((try refine sU ?_);repeat(refine sN fun _=>?_;try refine sU ?_))
      refine SxFill.first (n := 32) rfl (fqC_len _) rfl ?_
      refine SxFill.tail (fun i => match i with | 1 => some (0, 1) | _ => none) (fqC_len _) (by
        intro y hy
        simp only [List.mem_cons, List.not_mem_nil, or_false] at hy
        rcases hy with rfl; exact ⟨_, _, rfl, rfl⟩) ?_
      refine SxFill.ok rfl rfl ?_
      ((try refine sU ?_);repeat(refine sN fun _=>?_;try refine sU ?_))
      refine SxStable.mk [12, 13] rfl rfl ?_
      ((try refine sU ?_);repeat(refine sN fun _=>?_;try refine sU ?_))
      refine SxSt.elem enE (x := mkEn s (0, 0)) 0 rfl rfl ?_
      ((try refine sU ?_);repeat(refine sN fun _=>?_;try refine sU ?_))
      refine SxStable.mk [12, 13] rfl rfl ?_
      ((try refine sU ?_);repeat(refine sN fun _=>?_;try refine sU ?_))
      rename_i gp ge
      by_cases h0 : 0 ≤ f1
      · obtain ⟨i1, rfl⟩ : ∃ i1 : Nat, f1 = i1 := ⟨f1.toNat, by omega⟩
        obtain ⟨x, hx⟩ : ∃ x, KN[i1]? = some x := ⟨KN[i1]'(by omega), by simp [show i1 < KN.length by omega]⟩
        obtain ⟨r, hr, hre⟩ := hRen i1 x hx
        have hpl : plcOf KN es ((i1 : Int), f2) = some (x.bx, x.sl) := by unfold plcOf; rw [if_pos h0]; dsimp only; rw [Int.toNat_natCast, hx]; rfl
        have hst : layStep c box KN (bj.map Nb.bx, es) (s, ((i1 : Int), f2)) = (bj.map Nb.bx, es ++ [mkEn s (x.bx, x.sl)]) := by unfold layStep; dsimp only; rw [hpl]
        rw [← hre] at hst
        refine SxIA.rd 7 _ rfl es.length rfl hlt (by rw [fdE_len]; omega) fun g4 off4 ha4 => ?_
        ((try refine sU ?_);repeat(refine sN fun _=>?_;try refine sU ?_))
        refine SxLd.rd 7 rfl ha4 (by omega) (j := es.length * 2 + 0) (fdE.fl_cell (j := 0) hf1 rfl) ?_
        ((try refine sU ?_);repeat(refine sN fun _=>?_;try refine sU ?_))
        refine SxCode.drawAll rfl [21] ?_
        ((try refine sU ?_);repeat(refine sN fun _=>?_;try refine sU ?_))
        refine SxIA.rd 7 _ rfl es.length rfl hlt (by rw [fdE_len]; omega) fun g4 off4 ha4 => ?_
        ((try refine sU ?_);repeat(refine sN fun _=>?_;try refine sU ?_))
        refine SxLd.rd 7 rfl ha4 (by omega) (j := es.length * 2 + 0) (fdE.fl_cell (j := 0) hf1 rfl) ?_
        ((try refine sU ?_);repeat(refine sN fun _=>?_;try refine sU ?_))
        refine SxIA.any (rkE.fl RKS) (fun _ _ _ hs => hs.rowRd 8 rfl (by rw [rkE_len]; unfold maxLen; omega)) i1 rfl (by omega) (by rw [rkE_len]; omega) fun g5 off5 ha5 => ?_
        ((try refine sU ?_);repeat(refine sN fun _=>?_;try refine sU ?_))
        refine SxLd.from_ (fun _ _ _ hs => hs.rowRd 8 rfl (by rw [rkE_len]; unfold maxLen; omega)) ha5 (by omega) (j := i1 * 37 + 33) (v := .int .u32 r.en.bx) (rkE.fl_cell (j := 33) hr (rkC_head (enC_tail r.en 1 _ rfl))) ?_
        ((try refine sU ?_);repeat(refine sN fun _=>?_;try refine sU ?_))
        refine SxIA.rd 7 _ rfl es.length rfl hlt (by rw [fdE_len]; omega) fun g4 off4 ha4 => ?_
        ((try refine sU ?_);repeat(refine sN fun _=>?_;try refine sU ?_))
        refine SxLd.rd 7 rfl ha4 (by omega) (j := es.length * 2 + 0) (fdE.fl_cell (j := 0) hf1 rfl) ?_
        ((try refine sU ?_);repeat(refine sN fun _=>?_;try refine sU ?_))
        refine SxIA.any (rkE.fl RKS) (fun _ _ _ hs => hs.rowRd 8 rfl (by rw [rkE_len]; unfold maxLen; omega)) i1 rfl (by omega) (by rw [rkE_len]; omega) fun g5 off5 ha5 => ?_
        ((try refine sU ?_);repeat(refine sN fun _=>?_;try refine sU ?_))
        refine SxLd.from_ (fun _ _ _ hs => hs.rowRd 8 rfl (by rw [rkE_len]; unfold maxLen; omega)) ha5 (by omega) (j := i1 * 37 + 34) (v := .int .i64 r.en.sl) (rk_sl hr) ?_
        ((try refine sU ?_);repeat(refine sN fun _=>?_;try refine sU ?_))
        refine SxSt.blk 1 rfl (by show Nat.ble (33 + 1) (enC (mkEn s (0, 0))).length = true; rw [enC_len]; rfl) rfl (cs' := enC (mkEn s (r.en.bx, 0))) (enC_bx s (0, 0) r.en.bx) ?_
        ((try refine sU ?_);repeat(refine sN fun _=>?_;try refine sU ?_))
        refine SxSt.blk 1 rfl (by show Nat.ble (34 + 1) (enC (mkEn s (r.en.bx, 0))).length = true; rw [enC_len]; rfl) rfl (cs' := enC (mkEn s (r.en.bx, r.en.sl))) (enC_sl s (r.en.bx, 0) r.en.sl) ?_
        ((try refine sU ?_);repeat(refine sN fun _=>?_;try refine sU ?_))
        refine SxLdN.blk 1 rfl (vs := enC (mkEn s (r.en.bx, r.en.sl))) (enC_len _) (enC_whole _) ?_
        ((try refine sU ?_);repeat(refine sN fun _=>?_;try refine sU ?_))
        refine SxFill.one rfl (enC_len _) ?_
        ((try refine sU ?_);repeat(refine sN fun _=>?_;try refine sU ?_))
        refine SxApp.mk 7 rfl 0 (.inr (.inr (.inr ⟨by decide, _, rfl⟩))) (vs := enC (mkEn s (r.en.bx, r.en.sl))) (m := 1) (by rw [enC_len]) (enC_one _) (by unfold maxLen; omega) (by omega) (cs' := enE.fl (es ++ [mkEn s (r.en.bx, r.en.sl)])) (by rw [enE.fl_append, enE.fl_one]; rfl) fun eo1 ec1 => ?_
        ((try refine sU ?_);repeat(refine sN fun _=>?_;try refine sU ?_))
        refine SxSt.blk 6 rfl rfl rfl rfl ?_
        ((try refine sU ?_);repeat(refine sN fun _=>?_;try refine sU ?_))
        have hlen : (es ++ [mkEn s (r.en.bx, r.en.sl)]).length = es.length + 1 := by simp
        exact SxRound.mk ⟨bj, bjo, bjc, es ++ [mkEn s (r.en.bx, r.en.sl)], eo1, ec1⟩ ([3, 4, 5, 6, 7, 8, 9, 10, 11, 12, 13, 14, 15] ++ tailIx 16 R.length) (by dsimp only; rw [hlen]; rfl) (by
          dsimp only
          rw [hlen]
          exact pickH_append (A := [_, _, _, _, _, _, _, _, _, _, _, _, _]) rfl (pickH_tail (L := R) 16 rfl rfl)) (nodup_tail 16 _ rfl rfl) ⟨by dsimp only; omega, by dsimp only; rw [hlen, hF1, hst], by dsimp only; omega, fun b hb => by dsimp only; have := hbjc b hb; omega, by dsimp only; rw [hlen, hsn]; omega⟩ (by dsimp only; omega)
      · by_cases h2 : 0 ≤ f2
        · obtain ⟨i1, rfl⟩ : ∃ i1 : Nat, f2 = i1 := ⟨f2.toNat, by omega⟩
          obtain ⟨x, hx⟩ : ∃ x, es[i1]? = some x := ⟨es[i1]'(by omega), by simp [show i1 < es.length by omega]⟩
          have hpl : plcOf KN es (f1, (i1 : Int)) = some (x.bx, x.sl) := by unfold plcOf; rw [if_neg h0, if_pos h2]; dsimp only; rw [Int.toNat_natCast, hx]; rfl
          have hst : layStep c box KN (bj.map Nb.bx, es) (s, (f1, (i1 : Int))) = (bj.map Nb.bx, es ++ [mkEn s (x.bx, x.sl)]) := by unfold layStep; dsimp only; rw [hpl]
          refine SxIA.rd 7 _ rfl es.length rfl hlt (by rw [fdE_len]; omega) fun g4 off4 ha4 => ?_
          ((try refine sU ?_);repeat(refine sN fun _=>?_;try refine sU ?_))
          refine SxLd.rd 7 rfl ha4 (by omega) (j := es.length * 2 + 0) (fdE.fl_cell (j := 0) hf1 rfl) ?_
          ((try refine sU ?_);repeat(refine sN fun _=>?_;try refine sU ?_))
          refine SxIA.rd 7 _ rfl es.length rfl hlt (by rw [fdE_len]; omega) fun g4 off4 ha4 => ?_
          ((try refine sU ?_);repeat(refine sN fun _=>?_;try refine sU ?_))
          refine SxLd.rd 7 rfl ha4 (by omega) (j := es.length * 2 + 1) (fdE.fl_cell (j := 1) hf1 rfl) ?_
          ((try refine sU ?_);repeat(refine sN fun _=>?_;try refine sU ?_))
          refine SxCode.draw rfl [.row eo es.length ec 71 35 (enE.fl es), .rd fo1 (fdE.fl fs), .blk gm 67 [.int .u32 mid, .slice eo es.length ec]] [] [6, 7, 5] rfl rfl ?_
          ((try refine sU ?_);repeat(refine sN fun _=>?_;try refine sU ?_))
          refine SxIA.rd 1 _ rfl es.length rfl hlt (by rw [fdE_len]; omega) fun g4 off4 ha4 => ?_
          ((try refine sU ?_);repeat(refine sN fun _=>?_;try refine sU ?_))
          refine SxLd.rd 1 rfl ha4 (by omega) (j := es.length * 2 + 1) (fdE.fl_cell (j := 1) hf1 rfl) ?_
          ((try refine sU ?_);repeat(refine sN fun _=>?_;try refine sU ?_))
          refine SxIA.any (enE.fl es) (fun _ _ _ hs => hs.rowRd 0 rfl (by rw [enE_len1]; unfold maxLen; omega)) i1 rfl (by omega) (by rw [enE_len1]; omega) fun g5 off5 ha5 => ?_
          ((try refine sU ?_);repeat(refine sN fun _=>?_;try refine sU ?_))
          refine SxLdN.from_ (fun _ _ _ hs => hs.rowRd 0 rfl (by rw [enE_len1]; unfold maxLen; omega)) ha5 rfl (vs := enC x) (enC_len x) (enE_at1 hx) ?_
          ((try refine sU ?_);repeat(refine sN fun _=>?_;try refine sU ?_))
          refine SxStable.mk [7, 8, 6] rfl rfl ?_
          ((try refine sU ?_);repeat(refine sN fun _=>?_;try refine sU ?_))
          refine SxSt.elem enE (x := x) 0 rfl rfl ?_
          ((try refine sU ?_);repeat(refine sN fun _=>?_;try refine sU ?_))
          refine SxStable.mk [7, 8, 6] rfl rfl ?_
          ((try refine sU ?_);repeat(refine sN fun _=>?_;try refine sU ?_))
          refine SxLd.blk 0 rfl (v := .int .u32 x.bx) (enC_tail x 1 _ rfl) ?_
          ((try refine sU ?_);repeat(refine sN fun _=>?_;try refine sU ?_))
          refine SxLd.blk 0 rfl (v := .int .i64 x.sl) (enC_tail x 2 _ rfl) ?_
          ((try refine sU ?_);repeat(refine sN fun _=>?_;try refine sU ?_))
          refine SxSt.blk 2 rfl (by show Nat.ble (33 + 1) (enC (mkEn s (0, 0))).length = true; rw [enC_len]; rfl) rfl (cs' := enC (mkEn s (x.bx, 0))) (enC_bx s (0, 0) x.bx) ?_
          ((try refine sU ?_);repeat(refine sN fun _=>?_;try refine sU ?_))
          refine SxSt.blk 2 rfl (by show Nat.ble (34 + 1) (enC (mkEn s (x.bx, 0))).length = true; rw [enC_len]; rfl) rfl (cs' := enC (mkEn s (x.bx, x.sl))) (enC_sl s (x.bx, 0) x.sl) ?_
          ((try refine sU ?_);repeat(refine sN fun _=>?_;try refine sU ?_))
          refine SxLdN.blk 2 rfl (vs := enC (mkEn s (x.bx, x.sl))) (enC_len _) (enC_whole _) ?_
          ((try refine sU ?_);repeat(refine sN fun _=>?_;try refine sU ?_))
          refine SxFill.one rfl (enC_len _) ?_
          ((try refine sU ?_);repeat(refine sN fun _=>?_;try refine sU ?_))
          refine SxApp.mk 8 rfl 0 (.inr (.inr (.inr ⟨by decide, _, rfl⟩))) (vs := enC (mkEn s (x.bx, x.sl))) (m := 1) (by rw [enC_len]) (enC_one _) (by unfold maxLen; omega) (by omega) (cs' := enE.fl (es ++ [mkEn s (x.bx, x.sl)])) (by rw [enE.fl_append, enE.fl_one]; rfl) fun eo1 ec1 => ?_
          ((try refine sU ?_);repeat(refine sN fun _=>?_;try refine sU ?_))
          refine SxSt.blk 7 rfl rfl rfl rfl ?_
          ((try refine sU ?_);repeat(refine sN fun _=>?_;try refine sU ?_))
          have hlen : (es ++ [mkEn s (x.bx, x.sl)]).length = es.length + 1 := by simp
          exact SxRound.mk ⟨bj, bjo, bjc, es ++ [mkEn s (x.bx, x.sl)], eo1, ec1⟩ ([4, 5, 6, 7, 8, 9, 10, 11, 12, 13, 14, 15, 16] ++ tailIx 17 R.length) (by dsimp only; rw [hlen]; rfl) (by
            dsimp only
            rw [hlen]
            exact pickH_append (A := [_, _, _, _, _, _, _, _, _, _, _, _, _]) rfl (pickH_tail (L := R) 17 rfl rfl)) (nodup_tail 17 _ rfl rfl) ⟨by dsimp only; omega, by dsimp only; rw [hlen, hF1, hst], by dsimp only; omega, fun b hb => by dsimp only; have := hbjc b hb; omega, by dsimp only; rw [hlen, hsn]; omega⟩ (by dsimp only; omega)
        · have hpl : plcOf KN es (f1, f2) = none := by unfold plcOf; rw [if_neg h0, if_neg h2]
          have hst : layStep c box KN (bj.map Nb.bx, es) (s, (f1, f2)) = ((putP c box (bj.map Nb.bx) s).1, es ++ [mkEn s (putP c box (bj.map Nb.bx) s).2]) := by unfold layStep; dsimp only; rw [hpl]
          refine SxIA.rd 7 _ rfl es.length rfl hlt (by rw [fdE_len]; omega) fun g4 off4 ha4 => ?_
          ((try refine sU ?_);repeat(refine sN fun _=>?_;try refine sU ?_))
          refine SxLd.rd 7 rfl ha4 (by omega) (j := es.length * 2 + 0) (fdE.fl_cell (j := 0) hf1 rfl) ?_
          ((try refine sU ?_);repeat(refine sN fun _=>?_;try refine sU ?_))
          refine SxIA.rd 7 _ rfl es.length rfl hlt (by rw [fdE_len]; omega) fun g4 off4 ha4 => ?_
          ((try refine sU ?_);repeat(refine sN fun _=>?_;try refine sU ?_))
          refine SxLd.rd 7 rfl ha4 (by omega) (j := es.length * 2 + 1) (fdE.fl_cell (j := 1) hf1 rfl) ?_
          ((try refine sU ?_);repeat(refine sN fun _=>?_;try refine sU ?_))
          refine SxCode.draw rfl [.blk bf 23 (tab 13 (confV c)), .rd so (strE.fl ch)] [8] [9, 13] rfl rfl ?_
          ((try refine sU ?_);repeat(refine sN fun _=>?_;try refine sU ?_))
          refine SxIA.rd 1 _ rfl es.length rfl hlt (by rw [strE_len]; omega) fun g5 off5 ha5 => ?_
          ((try refine sU ?_);repeat(refine sN fun _=>?_;try refine sU ?_))
          refine SxLd.rd 1 rfl ha5 rfl (j := es.length * 1) (strE_at hs1) ?_
          ((try refine sU ?_);repeat(refine sN fun _=>?_;try refine sU ?_))
          have hszt := szB_take ch es.length
          obtain ⟨P, hP⟩ : ∃ P, P = putP c box (bj.map Nb.bx) s := ⟨_, rfl⟩
          have hputS := fun (w1 : World) (R1 : Hp) h1 => RMput_sat (M := M) (W := W) (R := R1) (w := w1) box (.slice mo ms.length mc) lv bj bjo bjc c (by omega) (fun b hb => by have := hbjc b hb; omega) (by omega) g s (by omega) h1
          have hl20 := putP_len c box (bj.map Nb.bx) s
          have hl30 := putP_lens c box (bj.map Nb.bx) s (m := 20000 + es.length) (fun b' hb' => by
              obtain ⟨d', hd', rfl⟩ := List.mem_map.1 hb'
              exact hbjc d' hd')
          have hl40 := putP_fresh c box (bj.map Nb.bx) s
          rw [← hP] at hst hputS hl20 hl30 hl40
          obtain ⟨P1, p1, p2⟩ := P
          dsimp only at hst hl20 hl30 hl40
          refine SxCall.mk fun w1 hs1 => (hputS w1 _ (hs1.pick (ks := [2, 3, 4] ++ ([0, 1, 5, 6, 7, 8, 9, 10, 11, 12, 13, 14] ++ tailIx 15 R.length)) (pickH_append rfl (pickH_append (A := [_, _, _, _, _, _, _, _, _, _, _, _]) rfl (pickH_tail (L := R) 15 rfl rfl))) (nodup_tail (ks := [2, 3, 4, 0, 1, 5, 6, 7, 8, 9, 10, 11, 12, 13, 14]) 15 _ rfl rfl))).mono ?_
          rintro e w2 ⟨bj2, bjo2, bjc2, rfl, hb2, hs2⟩
          refine ⟨_, _, rfl, hs2.pick (ks := [3, 4, 0, 1, 2, 5, 6, 7, 8, 9, 10, 11, 12, 13, 14] ++ tailIx 15 R.length) (pickH_append (A := [_, _, _, _, _, _, _, _, _, _, _, _, _, _, _]) rfl (pickH_tail (L := R) 15 rfl rfl)) (nodup_tail 15 _ rfl rfl), ?_⟩
          dsimp only at hb2
          rw [← hb2] at hl20 hl30 hl40
          rw [List.length_map, List.length_map] at hl20
          have hl3 : ∀ b ∈ bj2, b.2.l.length ≤ 20000 + es.length + 1 := fun b hb => hl30 b.bx (List.mem_map.2 ⟨b, hb, rfl⟩)
          ((try refine sU ?_);repeat(refine sN fun _=>?_;try refine sU ?_))
          refine SxStable.mk [9, 13] rfl rfl ?_
          ((try refine sU ?_);repeat(refine sN fun _=>?_;try refine sU ?_))
          refine SxSt.blk 1 rfl (by show Nat.ble (33 + 1) (enC (mkEn s (0, 0))).length = true; rw [enC_len]; rfl) rfl (cs' := enC (mkEn s (p1, 0))) (enC_bx s (0, 0) p1) ?_
          ((try refine sU ?_);repeat(refine sN fun _=>?_;try refine sU ?_))
          refine SxSt.blk 1 rfl (by show Nat.ble (34 + 1) (enC (mkEn s (p1, 0))).length = true; rw [enC_len]; rfl) rfl (cs' := enC (mkEn s (p1, p2))) (enC_sl s (p1, 0) p2) ?_
          ((try refine sU ?_);repeat(refine sN fun _=>?_;try refine sU ?_))
          refine SxLdN.blk 1 rfl (vs := enC (mkEn s (p1, p2))) (enC_len _) (enC_whole _) ?_
          ((try refine sU ?_);repeat(refine sN fun _=>?_;try refine sU ?_))
          refine SxFill.one rfl (enC_len _) ?_
          ((try refine sU ?_);repeat(refine sN fun _=>?_;try refine sU ?_))
          refine SxApp.mk 7 rfl 0 (.inr (.inr (.inr ⟨by decide, _, rfl⟩))) (vs := enC (mkEn s (p1, p2))) (m := 1) (by rw [enC_len]) (enC_one _) (by unfold maxLen; omega) (by omega) (cs' := enE.fl (es ++ [mkEn s (p1, p2)])) (by rw [enE.fl_append, enE.fl_one]; rfl) fun eo1 ec1 => ?_
          ((try refine sU ?_);repeat(refine sN fun _=>?_;try refine sU ?_))
          refine SxSt.blk 6 rfl rfl rfl rfl ?_
          ((try refine sU ?_);repeat(refine sN fun _=>?_;try refine sU ?_))
          have hlen : (es ++ [mkEn s (p1, p2)]).length = es.length + 1 := by simp
          exact SxRound.mk ⟨bj2, bjo2, bjc2, es ++ [mkEn s (p1, p2)], eo1, ec1⟩ ([3, 4, 5, 6, 7, 8, 9, 10, 11, 12, 13, 14, 15] ++ tailIx 16 R.length) (by dsimp only; rw [hlen]; rfl) (by
            dsimp only
            rw [hlen]
            exact pickH_append (A := [_, _, _, _, _, _, _, _, _, _, _, _, _]) rfl (pickH_tail (L := R) 16 rfl rfl)) (nodup_tail 16 _ rfl rfl) ⟨by dsimp only; omega, by dsimp only; rw [hlen, hF1, hst, hb2], by dsimp only; omega, fun b hb => by dsimp only; have := hl3 b hb; omega, by dsimp only; rw [hlen, hsn, hl40]; omega⟩ (by dsimp only; omega)
    · have hje : es.length = k := by omega
      rw [hje, List.take_of_length_le (by rw [List.length_zip]; omega)] at hF
      ((try refine sU ?_);repeat(refine sN fun _=>?_;try refine sU ?_))
      refine SxCode.draw rfl [.blk g 58 [.slice mo ms.length mc, .slice bjo bj.length bjc, lv], .blk gm 67 [.int .u32 mid, .slice eo es.length ec]] [10] [0, 3] rfl rfl ?_
      ((try refine sU ?_);repeat(refine sN fun _=>?_;try refine sU ?_))
      refine SxStable.mk [1, 4] rfl rfl ?_
      ((try refine sU ?_);repeat(refine sN fun _=>?_;try refine sU ?_))
      refine SxApp.mk 9 rfl 0 (.inr (.inr (.inr ⟨by decide, _, rfl⟩))) (vs := mbC (mid, eo, es.length, ec)) (m := 1) rfl rfl (by unfold maxLen; omega) (by omega) (cs' := mbE.fl ((ms ++ [((mid, ⟨eo, ec, es⟩) : Mr)]).map Mr.mb)) (by rw [List.map_append, mbE.fl_append, List.map_cons, List.map_nil, mbE.fl_one]; rfl) fun mo1 mc1 => ?_
      ((try refine sU ?_);repeat(refine sN fun _=>?_;try refine sU ?_))
      refine SxStable.mk [1, 4] rfl rfl ?_
      ((try refine sU ?_);repeat(refine sN fun _=>?_;try refine sU ?_))
      have hlay : layP c box man (gs.map (·.l)) ⟨ms.map Mr.mn, bs.map Nb.bx⟩ ch = ⟨ms.map Mr.mn ++ [(mid, es)], bj.map Nb.bx⟩ := by
        have e2 : fsL c (gs.map (·.l)) ⟨ms.map Mr.mn, bs.map Nb.bx⟩ ch = fs := by unfold fsL; rw [← hKNe, ← hk, hfs, htl]
        unfold layP
        rw [← hKNe, e2]
        dsimp only
        rw [hF, List.length_map, ← hmid]
      refine SxDone.mk fun w' hs => ⟨ms ++ [((mid, ⟨eo, ec, es⟩) : Mr)], mo1, mc1, bj, bjo, bjc, rfl, ?_, ?_, ?_⟩
      · rw [hlay, List.map_append]; rfl
      · rw [hlay]
      · have h1 := Weak.join (L' := maL (ms ++ [((mid, ⟨eo, ec, es⟩) : Mr)])) (by rw [enE_len1]; unfold maxLen; omega) 5 10 (by decide) rfl rfl (fun y hy => by
          unfold maL at hy ⊢
          rw [List.map_append] at hy
          rcases List.mem_append.1 hy with h | h
          · exact .inl h
          · exact .inr (List.mem_singleton.1 h)) _ _ _ hs
        have hml2 : (ms ++ [((mid, ⟨eo, ec, es⟩) : Mr)]).length = ms.length + 1 := by simp
        rw [hml2]
        exact h1.pick (ks := [1, 2, 3, 9, 10, 11, 12, 13] ++ tailIx 14 R.length) (pickH_append (A := [_, _, _, _, _, _, _, _]) rfl (pickH_tail (L := R) 14 rfl rfl)) (nodup_tail 14 _ rfl rfl)
end Go.Proofs.YtlmefcepdadfjaaGreat
