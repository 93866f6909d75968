/- Texts of this claim, one behind the other. -/
import Derived.Test.YtlmefcepdadfjaaGreatZStW
import Derived.Test.YtlmefcepdadfjaaGreatZStK
/- Layer 23: the page's example; StreamChecks. -/
namespace Go.Proofs.YtlmefcepdadfjaaGreat
open Go.RowKit

theorem map_one {α β : Type} {f : α → β} {l : List α} {y : β} (h : l.map f = [y]) : ∃ x, l = [x] ∧ f x = y := by
  match l, h with
  | [x], h => exact ⟨x, rfl, by simpa using h⟩
theorem e0ab : ((⟨#[]⟩ : ByteArray) ++ ⟨#[97, 98]⟩) = ⟨#[97, 98]⟩ := ba_extS (by rw [ba_appendS]; rfl)
theorem eabc : ((⟨#[97, 98]⟩ : ByteArray) ++ ⟨#[99]⟩) = abc := ba_extS (by rw [ba_appendS]; rfl)
theorem eabcd : (abc ++ ⟨#[100]⟩).size = 4 := by simp [abc, ByteArray.size]
set_option maxHeartbeats 16000000 in
theorem st_awake (w : World) : Calls Tryz.prog 11 #[] w fun e w' => e = .returned (.bool true) ∧ Below w.heap.size w w' := by
  refine sx_fn (S := SX) (M := []) (N := 111) (H0 := []) Tryz.func11 rfl rfl rfl (Sat.nil _ _) ?_
  ((try refine sU ?_);repeat(refine sN fun _=>?_;try refine sU ?_))
  refine SxCall.mk fun w1 hs1 => (new_sat hs1 cEx 7 9 cEx_con (by decide) (by decide)).mono ?_
  rintro e w2 ⟨g, rfl, hs2⟩
  refine ⟨_, _, rfl, hs2, ?_⟩
  ((try refine sU ?_);repeat(refine sN fun _=>?_;try refine sU ?_))
  refine SxRun.pEqNil Tryz.underlying44 ?_
  ((try refine sU ?_);repeat(refine sN fun _=>?_;try refine sU ?_))
  refine SxCall.mk fun w3 hs3 => (write_sat 7 9 (by omega) (by omega) (by omega) (by omega) cEx cEx_con .no good_no ⟨#[]⟩ ⟨#[97, 98]⟩ _ (sr0_held 7 9 cEx cEx_con .no) (by decide) g hs3).mono ?_
  rintro e w4 ⟨σ1, hh1, hr1⟩
  rw [e0ab] at hh1
  have hov := over_small cEx_con good_no hh1 (by decide) (by omega) (by omega)
  rcases hr1 with ⟨ho, _⟩ | ⟨_, rfl, hs4⟩
  · rw [hov] at ho; cases ho
  refine ⟨_, _, rfl, hs4, ?_⟩
  ((try refine sU ?_);repeat(refine sN fun _=>?_;try refine sU ?_))
  refine SxCall.mk fun w3 hs3 => (write_sat 7 9 (by omega) (by omega) (by omega) (by omega) cEx cEx_con .no good_no ⟨#[97, 98]⟩ ⟨#[99]⟩ _ hh1 (by decide) g hs3).mono ?_
  rintro e w4 ⟨σ2, hh2, hr2⟩
  rw [eabc] at hh2
  have hov2 := over_small cEx_con good_no hh2 (by decide) (by omega) (by omega)
  rcases hr2 with ⟨ho, _⟩ | ⟨_, rfl, hs4⟩
  · rw [hov2] at ho; cases ho
  refine ⟨_, _, rfl, hs4, ?_⟩
  ((try refine sU ?_);repeat(refine sN fun _=>?_;try refine sU ?_))
  refine SxCall.quietS (v := .int .i64 3) (fun w3 hs3 => len_held w3 g hh2 (hs3.blk 0 rfl)) ?_
  ((try refine sU ?_);repeat(refine sN fun _=>?_;try refine sU ?_))
  refine SxCall.mk fun w3 hs3 => (end_sat 7 9 (by omega) (by omega) (by omega) (by omega) cEx cEx_con .no good_no abc σ2 hh2 (by decide) g hs3).mono ?_
  rintro e w5 ⟨CS, hw, hr⟩
  obtain rfl := abc_whole hw
  have hmd : madeP cEx 7 9 Lb.no.G [abc] = ⟨[(9, [mkEn abc (7, 0)])], [(7, [abc])]⟩ := abc_made
  rw [hmd] at hr
  rcases hr with ⟨ho, _⟩ | ⟨_, ms, mo, mc, bs, bo, bc, rfl, hms, hbs, hs5⟩
  · exact absurd ho (by decide)
  obtain ⟨m, rfl, hm⟩ := map_one hms
  obtain ⟨b, rfl, hb⟩ := map_one hbs
  obtain ⟨mid, ⟨mao, mcap, ml⟩⟩ := m
  obtain ⟨bid, ⟨bao, bcap, bl⟩⟩ := b
  simp only [Mr.mn, Prod.mk.injEq] at hm
  simp only [Nb.bx, Prod.mk.injEq] at hb
  obtain ⟨rfl, rfl⟩ := hm
  obtain ⟨rfl, rfl⟩ := hb
  refine ⟨_, _, rfl, hs5, ?_⟩
  have ha3 : abc.size = 3 := rfl
  have hre : reA abc = -2 := by decide
  have him : imA abc = 98 := by decide
  obtain ⟨LL, hLL⟩ : ∃ LL, LL = mdL [((9, ⟨mao, mcap, [mkEn abc (7, 0)]⟩) : Mr)] mo [((7, ⟨bao, bcap, [abc]⟩) : Nb)] bo := ⟨_, rfl⟩
  have m0 : (mo, mbE.fl ([((9, ⟨mao, mcap, [mkEn abc (7, 0)]⟩) : Mr)].map Mr.mb)) ∈ LL := by rw [hLL]; simp [mdL]
  have m1 : (mao, enE.fl [mkEn abc (7, 0)]) ∈ LL := by rw [hLL]; simp [mdL, maL]
  have m2 : (bo, mbE.fl ([((7, ⟨bao, bcap, [abc]⟩) : Nb)].map Nb.mb)) ∈ LL := by rw [hLL]; simp [mdL]
  have hen := enE_cell1 (l := [mkEn abc (7, 0)]) (k := 0) rfl (enC_tail (mkEn abc (7, 0)) 0 _ rfl)
  rw [← hLL]
  ((try refine sU ?_);repeat(refine sN fun _=>?_;try refine sU ?_))
  refine SxIA.of 1 rfl m0 0 rfl (by show (0 : Nat) < 1; omega) (by show (0 : Nat) < 2; omega) fun g1 o1 a1 => ?_
  ((try refine sU ?_);repeat(refine sN fun _=>?_;try refine sU ?_))
  refine SxLd.of 1 rfl m0 a1 (by omega) (j := 0) (v := .int .u32 9) rfl ?_
  ((try refine sU ?_);repeat(refine sN fun _=>?_;try refine sU ?_))
  refine SxIA.of 1 rfl m0 0 rfl (by show (0 : Nat) < 1; omega) (by show (0 : Nat) < 2; omega) fun g1 o1 a1 => ?_
  ((try refine sU ?_);repeat(refine sN fun _=>?_;try refine sU ?_))
  refine SxLd.of 1 rfl m0 a1 (by omega) (j := 1) (v := .slice mao 1 mcap) rfl ?_
  ((try refine sU ?_);repeat(refine sN fun _=>?_;try refine sU ?_))
  refine SxIA.of 1 rfl m0 0 rfl (by show (0 : Nat) < 1; omega) (by show (0 : Nat) < 2; omega) fun g1 o1 a1 => ?_
  ((try refine sU ?_);repeat(refine sN fun _=>?_;try refine sU ?_))
  refine SxLd.of 1 rfl m0 a1 (by omega) (j := 1) (v := .slice mao 1 mcap) rfl ?_
  ((try refine sU ?_);repeat(refine sN fun _=>?_;try refine sU ?_))
  refine SxIA.of 1 rfl m1 0 rfl (by show (0 : Nat) < 1; omega) (by rw [enE_len1]; decide) fun g1 o1 a1 => ?_
  ((try refine sU ?_);repeat(refine sN fun _=>?_;try refine sU ?_))
  refine SxLd.of 1 rfl m1 a1 (by omega) (j := 0 * 35 + 32) hen ?_
  ((try refine sU ?_);repeat(refine sN fun _=>?_;try refine sU ?_))
  refine SxIA.of 1 rfl m2 0 rfl (by show (0 : Nat) < 1; omega) (by show (0 : Nat) < 2; omega) fun g1 o1 a1 => ?_
  ((try refine sU ?_);repeat(refine sN fun _=>?_;try refine sU ?_))
  refine SxLd.of 1 rfl m2 a1 (by omega) (j := 0) (v := .int .u32 7) rfl ?_
  ((try refine sU ?_);repeat(refine sN fun _=>?_;try refine sU ?_))
  refine SxCall.mk fun w3 hs3 => (write_sat 7 9 (by omega) (by omega) (by omega) (by omega) cEx cEx_con .no good_no abc ⟨#[100]⟩ _ hh2 (by decide) g (hs3.pick (ks := [2, 3, 4, 0, 1]) rfl rfl)).mono ?_
  rintro e w4 ⟨σ3, hh3, hr3⟩
  have hov3 := over_small cEx_con good_no hh3 (by rw [eabcd]; omega) (by omega) (by omega)
  rcases hr3 with ⟨ho, _⟩ | ⟨_, rfl, hs4⟩
  · rw [hov3] at ho; cases ho
  refine ⟨_, _, rfl, hs4, ?_⟩
  ((try refine sU ?_);repeat(refine sN fun _=>?_;try refine sU ?_))
  refine SxCall.quietS (v := .int .i64 4) (fun w3 hs3 => by
    have h := len_held w3 g hh3 (hs3.blk 0 rfl)
    rw [eabcd] at h
    exact h) ?_
  ((try refine sU ?_);repeat(refine sN fun _=>?_;try refine sU ?_))
  exact SxDone.mk fun w' hs => ⟨rfl, hs.touch.below⟩
end Go.Proofs.YtlmefcepdadfjaaGreat
/- Layer 23: a stream with a library; who is told. -/
namespace Go.Proofs.YtlmefcepdadfjaaGreat
open Go.RowKit

theorem Weak.lib {H : Hp} {gl : Nat} {go : Option Addr} {gc : Nat} {gs : List (Drow Rk)} (p q : Nat) (hpq : p ≠ q) (hp : H[p]? = some (.blk gl 36 (lbC go gs.length gc))) (hq : H[q]? = some (.gen (rdsG (grL go gs)))) : Weak H ((H.set p (.row none 0 0 36 4 [])).set q (.gen (rdsG (Lb.lib gl go gc gs).rds))) := by
  refine Weak.merge p q hpq hp hq _ _ (fun W M w hs x hx => ?_) fun g hg => ?_
  · rcases List.mem_cons.1 hx with rfl | h
    · exact Rd.of_blk (hs.blk p hp) (by show (4 : Nat) ≤ maxLen; unfold maxLen; omega)
    · exact hs.rds1 q hq x h
  · obtain ⟨x, hx, hu⟩ := hg
    rcases List.mem_cons.1 hx with rfl | h
    · right
      have h2 := hu.2
      simp only [Option.map_some, Option.some.injEq] at h2
      subst h2; rfl
    · exact .inl ⟨x, h, hu⟩
set_option maxHeartbeats 4000000 in
theorem toldFn_sat {W : World} {M : List Nat} {R : Hp} {w : World} (go : Option Addr) (gc : Nat) (gs : List (Drow Rk)) (hs : Sat W M (.gen (rdsG (grL go gs)) :: R) w) :
    Calls Tryz.prog 13 #[.agg (lbC go gs.length gc).toArray] w fun e w' => ∃ gl, e = .returned (.tuple #[(Lb.lib gl go gc gs).kn, (Lb.lib gl go gc gs).bt]) ∧ Sat W M (.gen (rdsG (Lb.lib gl go gc gs).rds) :: R) w' := by
  refine sx_fn (S := SX) (N := 6) Tryz.func13 rfl rfl rfl hs ?_
  ((try refine sU ?_);repeat(refine sN fun _=>?_;try refine sU ?_))
  refine SxDone.mk fun w' hs => ⟨_, rfl, ?_⟩
  have h1 := Weak.lib 0 1 (by decide) rfl rfl _ _ _ hs
  exact h1.pick (ks := [1] ++ tailIx 2 R.length) (pickH_append (A := [_]) rfl (pickH_tail (L := R) 2 rfl rfl)) (nodup_tail 2 _ rfl rfl)
set_option maxHeartbeats 4000000 in
theorem new_lib_sat {W : World} {M : List Nat} {H : Hp} {w : World} (hs : Sat W M H w) (c : Nat → Int) (box man : Int) (L : Lb) (hok : conC c = true) (hb : box ≠ 0) (hm : man ≠ 0) :
    Calls Tryz.prog 14 #[confA c, .int .u32 box, .int .u32 man, L.kn, L.bt] w fun e w' => ∃ g, e = .returned (.tuple #[.pointer (some ⟨g, 0, none⟩), .int .i64 0]) ∧ Sat W M (.blk g 101 (sr0 box man c L).cells :: .gen (rdsG (sr0 box man c L).rds) :: H) w' := by
  refine sx_fn (S := SX) (N := 35) Tryz.func14 rfl rfl rfl hs ?_
  ((try refine sU ?_);repeat(refine sN fun _=>?_;try refine sU ?_))
  refine SxCall.quiet (v := .int .i64 0) (fun w => by have := SCheck_any c w; rw [hok] at this; exact this) ?_
  ((try refine sU ?_);repeat(refine sN fun _=>?_;try refine sU ?_))
  refine SxRun.fEqNil Tryz.underlying39 ?_
  ((try refine sU ?_);repeat(refine sN fun _=>?_;try refine sU ?_))
  refine SxRun.fEqNil Tryz.underlying41 ?_
  ((try refine sU ?_);repeat(refine sN fun _=>?_;try refine sU ?_))
  refine SxDone.mk fun w' hs => ⟨_, rfl, ?_⟩
  have h2 := Weak.rdsNil _ (sr0_rds box man c L) _ _ _ hs.drop1
  exact h2.pick (ks := [1, 0] ++ tailIx 2 H.length) (pickH_append (A := [_, _]) rfl (pickH_tail (L := H) 2 rfl rfl)) (nodup_tail 2 _ rfl rfl)
end Go.Proofs.YtlmefcepdadfjaaGreat
/- Layer 23: a case as it came in; what document and program have made of one text is one. -/
namespace Go.Proofs.YtlmefcepdadfjaaGreat
open Go.RowKit

theorem open_case {w : World} {cs : List Value} (h : FitR Tryz.prog w 4 [.int .i64, .int .i64, .int .i64, .int .i64, .int .i64, .int .i64, .int .i64, .int .i64, .int .i64, .int .i64, .int .i64, .int .i64, .int .i64, .int .u32, .int .u32, .slice 88, .slice 9] cs) :
    ∃ (c : Nat → Int) (box man : Int) (go : Option Addr) (gn gc : Nat) (gs : List (Gw w)) (po : Option Addr) (pn pc : Nat) (ps : List ByteArray), cs = caC c box man (.slice go gn gc) (.slice po pn pc) ∧ (0 ≤ box ∧ box < 4294967296) ∧ (0 ≤ man ∧ man < 4294967296) ∧ gs.length = min gn 1000 ∧ ps.length = min pn 1000 ∧ Rd w go ((gwE w).fl gs) ∧ Rd w po (strE.fl ps) := by
  obtain ⟨hl, hf⟩ := h
  match cs, hl with
  | [c0, c1, c2, c3, c4, c5, c6, c7, c8, c9, c10, c11, c12, b, m, g, p], _ =>
    obtain ⟨c0, rfl, _⟩ := fitK_int (hf 0 _ _ rfl rfl)
    obtain ⟨c1, rfl, _⟩ := fitK_int (hf 1 _ _ rfl rfl)
    obtain ⟨c2, rfl, _⟩ := fitK_int (hf 2 _ _ rfl rfl)
    obtain ⟨c3, rfl, _⟩ := fitK_int (hf 3 _ _ rfl rfl)
    obtain ⟨c4, rfl, _⟩ := fitK_int (hf 4 _ _ rfl rfl)
    obtain ⟨c5, rfl, _⟩ := fitK_int (hf 5 _ _ rfl rfl)
    obtain ⟨c6, rfl, _⟩ := fitK_int (hf 6 _ _ rfl rfl)
    obtain ⟨c7, rfl, _⟩ := fitK_int (hf 7 _ _ rfl rfl)
    obtain ⟨c8, rfl, _⟩ := fitK_int (hf 8 _ _ rfl rfl)
    obtain ⟨c9, rfl, _⟩ := fitK_int (hf 9 _ _ rfl rfl)
    obtain ⟨c10, rfl, _⟩ := fitK_int (hf 10 _ _ rfl rfl)
    obtain ⟨c11, rfl, _⟩ := fitK_int (hf 11 _ _ rfl rfl)
    obtain ⟨c12, rfl, _⟩ := fitK_int (hf 12 _ _ rfl rfl)
    obtain ⟨b, rfl, hb⟩ := fitK_int (hf 13 _ _ rfl rfl)
    obtain ⟨m, rfl, hm⟩ := fitK_int (hf 14 _ _ rfl rfl)
    obtain ⟨go, gn, gc, rfl, _, gs, hg1, hg2⟩ := open_gws (hf 15 _ _ rfl rfl)
    obtain ⟨po, pn, pc, rfl, _, ps, hp1, hp2⟩ := open_strs (hf 16 _ _ rfl rfl)
    have hb2 := wf_bd hb
    have hm2 := wf_bd hm
    have k1 : IntKind.u32.min = 0 := rfl
    have k2 : IntKind.u32.max = 4294967295 := rfl
    exact ⟨fun i => ([c0, c1, c2, c3, c4, c5, c6, c7, c8, c9, c10, c11, c12] : List Int).getD i 0, b, m, go, gn, gc, gs, po, pn, pc, ps, rfl, ⟨by omega, by omega⟩, ⟨by omega, by omega⟩, hg1, hp1, hg2, hp2⟩
theorem gwL_rd {w : World} (gs : List (Gw w)) : RdAll w (gwL gs) := fun x hx => by
  obtain ⟨g, _, rfl⟩ := List.mem_map.1 hx
  exact g.l_spec.2
theorem held_doc {c : Nat → Int} {box man : Int} {L : Lb} {A : ByteArray} {σ : Sr} {ms : List Mr} {bs : List Nb} {cs : List ByteArray} {r : ByteArray} (hc : conC c = true) (hσ : σ.held box man c L A) (h1 : Cuts (cf c) A cs r) (h2 : cutN (cf c) r.data.toList = 0) (h3 : (⟨ms.map Mr.mn, bs.map Nb.bx⟩ : Ls) = (laidP c box man L.G cs).1) : ms.map Mr.mn = σ.ms.map Mr.mn ∧ bs.map Nb.bx = σ.bs.map Nb.bx ∧ ms.length = σ.ms.length ∧ bs.length = σ.bs.length := by
  obtain ⟨cs', h4, h5⟩ := hσ.hat
  have h6 := hσ.hcut
  rw [cutC_cf (conC_may hc).1] at h6
  obtain ⟨rfl, _⟩ := h1.det h2 h4 h6
  rw [← h5] at h3
  simp only [Ls.mk.injEq] at h3
  have e1 := congrArg List.length h3.1
  have e2 := congrArg List.length h3.2
  rw [List.length_map, List.length_map] at e1 e2
  exact ⟨h3.1, h3.2, e1, e2⟩
theorem held_same {c : Nat → Int} {box man : Int} {L : Lb} {A : ByteArray} {σ τ : Sr} (hc : conC c = true) (hσ : σ.held box man c L A) (hτ : τ.held box man c L A) : σ.ms.map Mr.mn = τ.ms.map Mr.mn ∧ σ.bs.map Nb.bx = τ.bs.map Nb.bx ∧ σ.ms.length = τ.ms.length ∧ σ.bs.length = τ.bs.length := by
  obtain ⟨cs, h1, h2⟩ := hσ.hat
  have h6 := hσ.hcut
  rw [cutC_cf (conC_may hc).1] at h6
  exact held_doc hc hτ h1 h6 (by rw [← h2])
theorem lib_good {w : World} {gn pn : Nat} {gs : List (Gw w)} {ps : List ByteArray} {ds : List (Drow Rk)} (hli : Light gn gs pn ps) (hgl : gs.length = min gn 1000) (hd : ds.map (·.l) = libP gs) (gl : Nat) (go : Option Addr) (gc : Nat) : Good (.lib gl go gc ds) ∧ ds.length ≤ 1000 ∧ (∀ d ∈ ds, d.l.length ≤ 1000) ∧ ∀ hk, (knownG (ds.map (·.l)) hk).length ≤ 10000 := by
  have h0 := hli.gn
  have e1 : ds.length = gs.length := by
    have := congrArg List.length hd
    rwa [List.length_map, libP, List.length_map] at this
  have e2 : ∀ g ∈ ds.map (·.l), g.length ≤ 10 := fun g hg => by
    rw [hd] at hg
    unfold libP at hg
    obtain ⟨x, hx, rfl⟩ := List.mem_map.1 hg
    rw [List.length_map, x.l_spec.1]
    have := (hli.g x hx).1
    omega
  have e3 : ∀ d ∈ ds, d.l.length ≤ 1000 := fun d hd' => by have := e2 d.l (List.mem_map.2 ⟨d, hd', rfl⟩); omega
  have e4 : ∀ hk, (knownG (ds.map (·.l)) hk).length ≤ 10000 := fun hk => by
    have := knownG_len hk (ds.map (·.l)) 10 e2
    rw [List.length_map] at this
    omega
  exact ⟨⟨⟨by omega, e3⟩, e4⟩, by omega, e3, e4⟩
end Go.Proofs.YtlmefcepdadfjaaGreat
