/- Layer 23: StreamMakes. -/
import Derived.Test.YtlmefcepdadfjaaGreatZSvE
namespace Go.Proofs.YtlmefcepdadfjaaGreat
open Go.RowKit

structure Sj where
  i : Nat
  σ : Sr
  all : ByteArray
set_option maxHeartbeats 32000000 in
theorem StreamMakes_law (w : World) (cs : List Value) (hcs : FitR Tryz.prog w 4 [.int .i64, .int .i64, .int .i64, .int .i64, .int .i64, .int .i64, .int .i64, .int .i64, .int .i64, .int .i64, .int .i64, .int .i64, .int .i64, .int .u32, .int .u32, .slice 88, .slice 9] cs) :
    Calls Tryz.prog 5 #[.agg cs.toArray] w fun e w' => e = .returned (.bool true) ∧ Below w.heap.size w w' := by
  obtain ⟨c, box, man, go, gn, gc, gs, po, pn, pc, ps, rfl, ⟨hb0, hb1⟩, ⟨hm0, hm1⟩, hgl, hpl, hg, hp⟩ := open_case hcs
  refine sx_fn (S := SX) (M := []) (N := 245) (H0 := [.rd go ((gwE w).fl gs), .gen (rdsG (gwL gs)), .rd po (strE.fl ps)]) Tryz.func5 rfl rfl rfl (Sat.rdsM w [] _ fun j e hj => by
    match j, hj with
    | 0, hj => cases hj; exact ⟨rfl, hg⟩
    | 1, hj => cases hj; exact ⟨rfl, gwL_rd gs⟩
    | 2, hj => cases hj; exact ⟨rfl, hp⟩) ?_
  ((try refine sU ?_);repeat(refine sN fun _=>?_;try refine sU ?_))
  rename_i bc
  refine SxCall.quietP (P := fun v => v = .bool false ∨ (v = .bool true ∧ Light gn gs pn ps)) (fun w1 hs1 => light_any c box man go gn gc gs po pn pc ps hgl hpl w1 (hs1.rd 1 rfl) (hs1.rds1 2 rfl) (hs1.rd 3 rfl)) ?_
  rintro v (rfl | ⟨rfl, hli⟩)
  · ((try refine sU ?_);repeat(refine sN fun _=>?_;try refine sU ?_))
    refine SxCall.quiet st_awake ?_
    ((try refine sU ?_);repeat(refine sN fun _=>?_;try refine sU ?_))
    exact SxDone.mk fun w' hs => ⟨rfl, hs.touch.below⟩
  cases hc : conC c with
  | false =>
    ((try refine sU ?_);repeat(refine sN fun _=>?_;try refine sU ?_))
    refine SxCall.quiet (v := .bool false) (fun w => by have := RStMay_any c w; rw [hc] at this; exact this) ?_
    ((try refine sU ?_);repeat(refine sN fun _=>?_;try refine sU ?_))
    refine SxCall.quiet st_awake ?_
    ((try refine sU ?_);repeat(refine sN fun _=>?_;try refine sU ?_))
    exact SxDone.mk fun w' hs => ⟨rfl, hs.touch.below⟩
  | true =>
    by_cases hman : man = 0
    · subst hman
      ((try refine sU ?_);repeat(refine sN fun _=>?_;try refine sU ?_))
      refine SxCall.quiet (v := .bool true) (fun w => by have := RStMay_any c w; rw [hc] at this; exact this) ?_
      ((try refine sU ?_);repeat(refine sN fun _=>?_;try refine sU ?_))
      refine SxCall.quiet st_awake ?_
      ((try refine sU ?_);repeat(refine sN fun _=>?_;try refine sU ?_))
      exact SxDone.mk fun w' hs => ⟨rfl, hs.touch.below⟩
    by_cases hap : ¬ box > 300
    · ((try refine sU ?_);repeat(refine sN fun _=>?_;try refine sU ?_))
      refine SxCall.quiet (v := .bool true) (fun w => by have := RStMay_any c w; rw [hc] at this; exact this) ?_
      ((try refine sU ?_);repeat(refine sN fun _=>?_;try refine sU ?_))
      refine SxCall.quiet (v := .bool false) (fun w1 => by have h := apart_any c box man (.slice go gn gc) (.slice po pn pc) w1; rw [decide_eq_false hap] at h; exact h) ?_
      ((try refine sU ?_);repeat(refine sN fun _=>?_;try refine sU ?_))
      refine SxCall.quiet st_awake ?_
      ((try refine sU ?_);repeat(refine sN fun _=>?_;try refine sU ?_))
      exact SxDone.mk fun w' hs => ⟨rfl, hs.touch.below⟩
    rw [Decidable.not_not] at hap
    ((try refine sU ?_);repeat(refine sN fun _=>?_;try refine sU ?_))
    refine SxCall.quiet (v := .bool true) (fun w => by have := RStMay_any c w; rw [hc] at this; exact this) ?_
    ((try refine sU ?_);repeat(refine sN fun _=>?_;try refine sU ?_))
    refine SxCall.quiet (v := .bool true) (fun w1 => by have h := apart_any c box man (.slice go gn gc) (.slice po pn pc) w1; rw [decide_eq_true hap] at h; exact h) ?_
    ((try refine sU ?_);repeat(refine sN fun _=>?_;try refine sU ?_))
    refine SxCall.mk fun w1 hs1 => (library_sat (R := [.blk bc 28 (caC c box man (.slice go gn gc) (.slice po pn pc)), .rd po (strE.fl ps)]) c box man go gn gc gs (.slice po pn pc) hgl pn ps hli (hs1.pick (ks := [1, 2, 0, 3]) rfl rfl)).mono ?_
    rintro e w2 ⟨lo, lc, ds, rfl, hds, hs2⟩
    refine ⟨_, _, rfl, hs2, ?_⟩
    ((try refine sU ?_);repeat(refine sN fun _=>?_;try refine sU ?_))
    rename_i b3
    refine SxCall.mk fun w1 hs1 => (toldFn_sat (R := [.blk b3 36 (lbC lo ds.length lc), .blk bc 28 (caC c box man (.slice go gn gc) (.slice po pn pc)), .rd po (strE.fl ps)]) lo lc ds (hs1.pick (ks := [1, 0, 4, 5]) rfl rfl)).mono ?_
    rintro e w2 ⟨gl, rfl, hs2⟩
    refine ⟨_, _, rfl, hs2, ?_⟩
    obtain ⟨L, hL⟩ : ∃ L, L = Lb.lib gl lo lc ds := ⟨_, rfl⟩
    obtain ⟨hgood, hdl, hdd, hKl⟩ := lib_good hli hgl hds gl lo lc
    have hG : ds.map (·.l) = L.G := by rw [hL]; rfl
    have hsub : ∀ x ∈ grL lo ds, x ∈ L.rds := fun x hx => by rw [hL]; exact List.mem_cons_of_mem _ hx
    rw [← hL] at hgood ⊢
    ((try refine sU ?_);repeat(refine sN fun _=>?_;try refine sU ?_))
    refine SxCall.mk fun w1 hs1 => (new_lib_sat (Weak.subRds 0 rfl hsub _ _ _ hs1) c box man L hc (by omega) hman).mono ?_
    rintro e w2 ⟨g, rfl, hs2⟩
    refine ⟨_, _, rfl, hs2, ?_⟩
    ((try refine sU ?_);repeat(refine sN fun _=>?_;try refine sU ?_))
    refine SxRun.pEqNil Tryz.underlying44 ?_
    ((try refine sU ?_);repeat(refine sN fun _=>?_;try refine sU ?_))
    have hh0 := sr0_held box man c hc L
    obtain ⟨σ0, hσ0⟩ : ∃ σ0, σ0 = sr0 box man c L := ⟨_, rfl⟩
    rw [← hσ0] at hh0 ⊢
    refine SxCode.loop (σ := Sj) [9, 8, 2] [64, 65, 66, 67, 68, 71, 72, 73, 74, 75, 76, 77, 78, 79, 80, 81, 82, 83, 84, 85, 10, 86, 87, 88, 89, 90, 91, 92, 11, 93, 94, 95, 96, 97, 98, 99, 100, 2, 101, 102, 103, 104, 105, 106, 107, 108, 109, 110, 111, 112, 113, 114, 115, 116, 117, 118, 8, 119, 120, 121, 122, 123, 124, 125, 126, 127, 128, 129, 130, 131, 132, 133, 134, 135, 136, 137, 138, 139, 140, 69, 70, 9] (fun x => [.int .i64 (x.i : Nat), .string x.all, .bool false]) (fun x => [.blk g 101 x.σ.cells, .gen (rdsG x.σ.rds), .gen (rdsG L.rds), .gen (rdsG (grL lo ds)), .blk b3 36 (lbC lo ds.length lc), .blk bc 28 (caC c box man (.slice go gn gc) (.slice po pn pc)), .rd po (strE.fl ps)]) (fun x => x.i ≤ pn ∧ x.σ.held box man c L x.all ∧ x.all.size ≤ szB (ps.take x.i) ∧ overC box man x.σ.ms.length x.σ.bs.length = false) (fun x => pn - x.i) ⟨0, σ0, ⟨#[]⟩⟩ [0, 1, 3, 2, 4, 5, 6] rfl rfl rfl rfl ⟨Nat.zero_le _, hh0, Nat.zero_le _, ?_⟩ ?_
    · rw [hσ0]
      show overC box man 0 0 = false
      unfold overC
      rw [decide_eq_false (by omega), decide_eq_false (by omega), decide_eq_false (by omega)]; rfl
    rintro ⟨i, σ, all⟩ ⟨hi, hh, hal, hov⟩
    dsimp only at hi hh hal hov ⊢
    have hpn := hli.pn
    have hpz := hli.p
    have htk := szB_take ps i
    by_cases hlt : i < pn
    · obtain ⟨b, hb⟩ : ∃ b, ps[i]? = some b := ⟨ps[i]'(by omega), by simp [show i < ps.length by omega]⟩
      have hsn : szB (ps.take (i + 1)) = szB (ps.take i) + b.size := by rw [take_snocE hb, szB_snoc]
      have htk1 := szB_take ps (i + 1)
      have hab : (all ++ b).size = all.size + b.size := by simp
      have hi1 : i * 1 < (strE.fl ps).length := by rw [strE_len]; omega
      ((try refine sU ?_);repeat(refine sN fun _=>?_;try refine sU ?_))
      refine SxCode.draw rfl [.blk b3 36 (lbC lo ds.length lc), .blk bc 28 (caC c box man (.slice go gn gc) (.slice po pn pc)), .rd po (strE.fl ps)] [] [4, 5, 6] rfl rfl ?_
      ((try refine sU ?_);repeat(refine sN fun _=>?_;try refine sU ?_))
      refine SxIA.rd 2 _ rfl i rfl hlt hi1 fun g1 off ha => ?_
      ((try refine sU ?_);repeat(refine sN fun _=>?_;try refine sU ?_))
      refine SxLd.rd 2 rfl ha rfl (j := i * 1) (strE_at hb) ?_
      ((try refine sU ?_);repeat(refine sN fun _=>?_;try refine sU ?_))
      refine SxLe.mk (by omega) ?_
      ((try refine sU ?_);repeat(refine sN fun _=>?_;try refine sU ?_))
      refine SxCall.mk fun w1 hs1 => (RMake_sat (R := [.blk g 101 σ.cells, .gen (rdsG σ.rds), .gen (rdsG L.rds), .blk b3 36 (lbC lo ds.length lc), .blk bc 28 (caC c box man (.slice go gn gc) (.slice po pn pc)), .rd po (strE.fl ps)]) box man c hc lo lc ds hdl hdd hKl (all ++ b) (by omega) false (hs1.pick (ks := [3, 0, 1, 2, 4, 5, 6]) rfl rfl)).mono ?_
      rintro e w2 ⟨gd, dm, dmo, dmc, db, dbo, dbc, lv, dcs, dr, rfl, hcu, hcz, hls, hs2⟩
      refine ⟨_, _, rfl, hs2, ?_⟩
      rw [hG] at hls
      replace hls : (⟨dm.map Mr.mn, db.map Nb.bx⟩ : Ls) = (laidP c box man L.G dcs).1 := hls
      ((try refine sU ?_);repeat(refine sN fun _=>?_;try refine sU ?_))
      refine SxStable.mk [5, 6, 7] rfl rfl ?_
      ((try refine sU ?_);repeat(refine sN fun _=>?_;try refine sU ?_))
      refine SxIA.rd 7 _ rfl i rfl hlt hi1 fun g1 off ha => ?_
      ((try refine sU ?_);repeat(refine sN fun _=>?_;try refine sU ?_))
      refine SxLd.rd 7 rfl ha rfl (j := i * 1) (strE_at hb) ?_
      ((try refine sU ?_);repeat(refine sN fun _=>?_;try refine sU ?_))
      refine SxCall.mk fun w1 hs1 => (write_sat box man hb0 hb1 hm0 hm1 c hc L hgood all b σ hh (by omega) g (hs1.pick (ks := [2, 3, 4, 0, 1, 5, 6, 7]) rfl rfl)).mono ?_
      rintro e w2 ⟨σ', hh', hr⟩
      obtain ⟨e1, e2, e3, e4⟩ := held_doc hc hh' hcu hcz hls
      have hd0 : (some ⟨gd, 0, none⟩, [.slice dmo dm.length dmc, .slice dbo db.length dbc, lv]) ∈ docL gd dm dmo dmc db dbo dbc lv := by unfold docL; simp
      rcases hr with ⟨ho, rfl, hs2⟩ | ⟨ho, rfl, hs2⟩
      case' inl =>
        refine ⟨_, _, rfl, hs2, ?_⟩
        ((try refine sU ?_);repeat(refine sN fun _=>?_;try refine sU ?_))
        refine SxCall.quietS (v := .bool true) (fun w1 hs1 => by
          have h := ROver_any gd box man dmo dbo dm.length dmc db.length dbc lv hb0 hb1 hm0 hm1 (by have := (hh'.hat.fine (conC_may hc).2 hgood (by omega)).ml; omega) (by have := (hh'.hat.fine (conC_may hc).2 hgood (by omega)).bl; omega) w1 (hs1.rdIn 3 rfl hd0)
          rw [e3, e4, ho] at h
          exact h) ?_
        ((try refine sU ?_);repeat(refine sN fun _=>?_;try refine sU ?_))
        refine SxLdN.blk 6 rfl (vs := tab 13 (confV c)) rfl rfl ?_
        ((try refine sU ?_);repeat(refine sN fun _=>?_;try refine sU ?_))
        refine SxCall.mk fun w1 hs1 => (RMake_sat (R := [.blk g 101 σ.cells, .gen (rdsG σ.rds), .gen (rdsG L.rds), .blk b3 36 (lbC lo ds.length lc), .blk bc 28 (caC c box man (.slice go gn gc) (.slice po pn pc)), .rd po (strE.fl ps)]) box man c hc lo lc ds hdl hdd hKl all (by omega) false (hs1.pick (ks := [4, 0, 1, 2, 5, 6, 7]) rfl rfl)).mono ?_
        rintro e w2 ⟨gd, dm, dmo, dmc, db, dbo, dbc, lv, dcs, dr, rfl, hcu, hcz, hls, hs2⟩
        refine ⟨_, _, rfl, hs2, ?_⟩
        rw [hG] at hls
        replace hls : (⟨dm.map Mr.mn, db.map Nb.bx⟩ : Ls) = (laidP c box man L.G dcs).1 := hls
        obtain ⟨e1, e2, e3, e4⟩ := held_doc hc hh hcu hcz hls
        have hd0 : (some ⟨gd, 0, none⟩, [.slice dmo dm.length dmc, .slice dbo db.length dbc, lv]) ∈ docL gd dm dmo dmc db dbo dbc lv := by unfold docL; simp
        obtain ⟨τ, hτ⟩ : ∃ τ, τ = σ := ⟨_, rfl⟩
        obtain ⟨B, hB⟩ : ∃ B, B = all := ⟨_, rfl⟩
        have hBz : B.size ≤ szB (ps.take (i + 1)) := by rw [hB, hsn]; omega
        rw [← hB, ← hτ] at hh ⊢
        rw [← hτ] at hov e1 e2 e3 e4
        have hov' := hov
        have hh' := hh
        ((try refine sU ?_);repeat(refine sN fun _=>?_;try refine sU ?_))
      case' inr =>
        refine ⟨_, _, rfl, hs2, ?_⟩
        ((try refine sU ?_);repeat(refine sN fun _=>?_;try refine sU ?_))
        refine SxCall.quietS (v := .bool false) (fun w1 hs1 => by
          have h := ROver_any gd box man dmo dbo dm.length dmc db.length dbc lv hb0 hb1 hm0 hm1 (by have := (hh'.hat.fine (conC_may hc).2 hgood (by omega)).ml; omega) (by have := (hh'.hat.fine (conC_may hc).2 hgood (by omega)).bl; omega) w1 (hs1.rdIn 3 rfl hd0)
          rw [e3, e4, ho] at h
          exact h) ?_
        ((try refine sU ?_);repeat(refine sN fun _=>?_;try refine sU ?_))
        refine SxIA.rd 7 _ rfl i rfl hlt hi1 fun g1 off ha => ?_
        ((try refine sU ?_);repeat(refine sN fun _=>?_;try refine sU ?_))
        refine SxLd.rd 7 rfl ha rfl (j := i * 1) (strE_at hb) ?_
        ((try refine sU ?_);repeat(refine sN fun _=>?_;try refine sU ?_))
        refine SxLe.mk (by omega) ?_
        ((try refine sU ?_);repeat(refine sN fun _=>?_;try refine sU ?_))
        obtain ⟨τ, hτ⟩ : ∃ τ, τ = σ' := ⟨_, rfl⟩
        obtain ⟨B, hB⟩ : ∃ B, B = all ++ b := ⟨_, rfl⟩
        have hBz : B.size ≤ szB (ps.take (i + 1)) := by rw [hB, hab, hsn]; omega
        rw [← hτ] at ho e1 e2 e3 e4 hh' ⊢
        rw [← hB] at hh' ⊢
        have hov' := ho
        refine SxCode.wk (Weak.pick (ks := [3, 4, 0, 1, 2, 5, 6, 7]) rfl rfl) ?_
      all_goals
        have hBz1 : B.size ≤ 500 := by omega
        have hf := hh'.hat.fine (conC_may hc).2 hgood (by omega)
        have hf1 := hf.ml
        have hf2 := hf.bl
        have hf3 := hf.fx
        have hcl : ∀ y ∈ db, y.2.l.length ≤ 100000 := fun y hy => by
          have h1 : y.bx ∈ τ.bs.map Nb.bx := by rw [← e2]; exact List.mem_map.2 ⟨y, hy, rfl⟩
          obtain ⟨z, hz, hze⟩ := List.mem_map.1 h1
          have h2 := hf.cl z hz
          have h3 : y.2.l = z.2.l := by
            have := congrArg Prod.snd hze
            exact this.symm
          rw [h3]; omega
        have hm1 : (dmo, mbE.fl (dm.map Mr.mb)) ∈ docL gd dm dmo dmc db dbo dbc lv := by unfold docL mdL; simp
        have hm2 : (dbo, mbE.fl (db.map Nb.mb)) ∈ docL gd dm dmo dmc db dbo dbc lv := by unfold docL mdL; simp
        have hm3 : ∀ y ∈ bxL db, y ∈ docL gd dm dmo dmc db dbo dbc lv := fun y hy => by unfold docL mdL; simp [hy]
        refine SxCode.drawAll rfl [] ?_
        ((try refine sU ?_);repeat(refine sN fun _=>?_;try refine sU ?_))
        refine SxCall.quietS (fun w3 hs3 => len_held w3 g hh' (hs3.blk 2 rfl)) ?_
        ((try refine sU ?_);repeat(refine sN fun _=>?_;try refine sU ?_))
        refine SxLd.of 0 rfl hd0 rfl rfl (j := 0) (v := .slice dmo dm.length dmc) rfl ?_
        ((try refine sU ?_);repeat(refine sN fun _=>?_;try refine sU ?_))
        refine SxCall.quietS (v := .int .i64 (τ.ms.length : Nat)) (fun w3 hs3 => mans_held (σ := τ) w3 g (hs3.blk 2 rfl)) ?_
        ((try refine sU ?_);repeat(refine sN fun _=>?_;try refine sU ?_))
        refine SxCall.quietS (fun w3 hs3 => fresh_held w3 g hh' (hs3.blk 2 rfl)) ?_
        ((try refine sU ?_);repeat(refine sN fun _=>?_;try refine sU ?_))
        refine SxCall.quietS (v := .int .i64 (freshX (τ.bs.map Nb.bx) : Nat)) (fun w3 hs3 => by
          have h := RFresh_any gd (.slice dmo dm.length dmc) lv db dbo dbc (by omega) hcl (by rw [e2]; omega) w3 (hs3.rdIn 0 rfl hd0) (hs3.rdIn 0 rfl hm2) ((hs3.rds1 0 rfl).sub hm3)
          rw [e2] at h
          exact h) ?_
        ((try refine sU ?_);repeat(refine sN fun _=>?_;try refine sU ?_))
        exact SxRound.mk ⟨i + 1, τ, B⟩ [2, 3, 4, 1, 5, 6, 7] rfl rfl rfl ⟨hlt, hh', hBz, hov'⟩ (by dsimp only; omega)
    · ((try refine sU ?_);repeat(refine sN fun _=>?_;try refine sU ?_))
      refine SxCall.mk fun w1 hs1 => (RMake_sat (R := [.blk g 101 σ.cells, .gen (rdsG σ.rds), .gen (rdsG L.rds), .blk b3 36 (lbC lo ds.length lc), .blk bc 28 (caC c box man (.slice go gn gc) (.slice po pn pc)), .rd po (strE.fl ps)]) box man c hc lo lc ds hdl hdd hKl all (by omega) true (hs1.pick (ks := [3, 0, 1, 2, 4, 5, 6]) rfl rfl)).mono ?_
      rintro e w2 ⟨gd, dm, dmo, dmc, db, dbo, dbc, lv, dcs, dr, rfl, hcu, hcz, hls, hs2⟩
      refine ⟨_, _, rfl, hs2, ?_⟩
      rw [hG] at hls
      replace hls : (⟨dm.map Mr.mn, db.map Nb.bx⟩ : Ls) = madeP c box man L.G (dcs ++ lastOf dr) := hls
      have hwh : Whole (cf c) all (dcs ++ lastOf dr) := ⟨dcs, dr, hcu, hcz, rfl⟩
      have hd0 : (some ⟨gd, 0, none⟩, [.slice dmo dm.length dmc, .slice dbo db.length dbc, lv]) ∈ docL gd dm dmo dmc db dbo dbc lv := by unfold docL; simp
      ((try refine sU ?_);repeat(refine sN fun _=>?_;try refine sU ?_))
      refine SxCall.mk fun w1 hs1 => (end_sat box man hb0 hb1 hm0 hm1 c hc L hgood all σ hh (by omega) g (hs1.pick (ks := [2, 3, 4, 0, 1, 5, 6, 7]) rfl rfl)).mono ?_
      rintro e w5 ⟨CS, hw, hr⟩
      obtain rfl := hw.det hwh
      obtain ⟨CS, hCS⟩ : ∃ CS, CS = dcs ++ lastOf dr := ⟨_, rfl⟩
      rw [← hCS] at hls hr hwh
      have hCl := hwh.len
      have hmuch := madeP_much (box := box) (man := man) (G := L.G) (conC_may hc).2 CS
      rw [← hls] at hmuch hr
      obtain ⟨a1, a2, a3, a4, a5⟩ := hmuch
      dsimp only at a1 a2 a3 a4 a5 hr
      rw [List.length_map] at a1 a3
      rw [List.length_map, List.length_map] at hr
      rcases hr with ⟨ho, rfl, hs5⟩ | ⟨ho, ms, mo, mc, bs, bo, bbc, rfl, hms, hbs, hs5⟩
      · refine ⟨_, _, rfl, hs5, ?_⟩
        ((try refine sU ?_);repeat(refine sN fun _=>?_;try refine sU ?_))
        refine SxLd.blk 7 rfl (v := .int .u32 box) rfl ?_
        ((try refine sU ?_);repeat(refine sN fun _=>?_;try refine sU ?_))
        refine SxLd.blk 7 rfl (v := .int .u32 man) rfl ?_
        ((try refine sU ?_);repeat(refine sN fun _=>?_;try refine sU ?_))
        refine SxCall.quietS (v := .bool true) (fun w1 hs1 => by
          have h := ROver_any gd box man dmo dbo dm.length dmc db.length dbc lv hb0 hb1 hm0 hm1 (by omega) (by omega) w1 (hs1.rdIn 4 rfl hd0)
          rw [ho] at h
          exact h) ?_
        ((try refine sU ?_);repeat(refine sN fun _=>?_;try refine sU ?_))
        refine SxCall.quietS (fun w3 hs3 => len_held w3 g hh (hs3.blk 1 rfl)) ?_
        ((try refine sU ?_);repeat(refine sN fun _=>?_;try refine sU ?_))
        refine SxCall.mk fun w1 hs1 => (write_sat box man hb0 hb1 hm0 hm1 c hc L hgood all ⟨#[]⟩ σ hh (by show all.size + 0 ≤ 9000; omega) g (hs1.pick (ks := [1, 2, 3, 0, 4, 5, 6, 7, 8]) rfl rfl)).mono ?_
        rintro e w2 ⟨σ', hh', hr⟩
        have e0 : all ++ (⟨#[]⟩ : ByteArray) = all := ba_extS (by rw [ba_appendS]; exact List.append_nil _)
        rw [e0] at hh'
        obtain ⟨_, _, e3, e4⟩ := held_same hc hh' hh
        rw [e3, e4, hov] at hr
        rcases hr with ⟨ho2, _⟩ | ⟨_, rfl, hs2⟩
        · cases ho2
        refine ⟨_, _, rfl, hs2, ?_⟩
        ((try refine sU ?_);repeat(refine sN fun _=>?_;try refine sU ?_))
        refine SxCall.quiet st_awake ?_
        ((try refine sU ?_);repeat(refine sN fun _=>?_;try refine sU ?_))
        exact SxDone.mk fun w' hs => ⟨rfl, hs.touch.below⟩
      · refine ⟨_, _, rfl, hs5, ?_⟩
        ((try refine sU ?_);repeat(refine sN fun _=>?_;try refine sU ?_))
        refine SxLd.blk 8 rfl (v := .int .u32 box) rfl ?_
        ((try refine sU ?_);repeat(refine sN fun _=>?_;try refine sU ?_))
        refine SxLd.blk 8 rfl (v := .int .u32 man) rfl ?_
        ((try refine sU ?_);repeat(refine sN fun _=>?_;try refine sU ?_))
        refine SxCall.quietS (v := .bool false) (fun w1 hs1 => by
          have h := ROver_any gd box man dmo dbo dm.length dmc db.length dbc lv hb0 hb1 hm0 hm1 (by omega) (by omega) w1 (hs1.rdIn 5 rfl hd0)
          rw [ho] at h
          exact h) ?_
        ((try refine sU ?_);repeat(refine sN fun _=>?_;try refine sU ?_))
        have hml : ∀ (ms : List Mr), ms.map Mr.mn = dm.map Mr.mn → ms.length ≤ 20000 ∧ ∀ m ∈ ms, m.2.l.length ≤ 20000 := fun ms hms => by
          have h1 := congrArg List.length hms
          rw [List.length_map, List.length_map] at h1
          refine ⟨by omega, fun m hm => ?_⟩
          have h2 := a2 m.mn (by rw [← hms]; exact List.mem_map.2 ⟨m, hm, rfl⟩)
          have e : m.mn.2.length = m.2.l.length := rfl
          omega
        have hbl : ∀ (bs : List Nb), bs.map Nb.bx = db.map Nb.bx → bs.length ≤ 20000 ∧ ∀ b ∈ bs, b.2.l.length ≤ 20000 := fun bs hbs => by
          have h1 := congrArg List.length hbs
          rw [List.length_map, List.length_map] at h1
          refine ⟨by omega, fun b hb => ?_⟩
          have h2 := a4 b.bx (by rw [← hbs]; exact List.mem_map.2 ⟨b, hb, rfl⟩)
          have e : b.bx.2.length = b.2.l.length := rfl
          omega
        refine SxCall.quiet (RWeight_any all (by omega)) ?_
        ((try refine sU ?_);repeat(refine sN fun _=>?_;try refine sU ?_))
        refine SxCall.quietS (v := .bool true) (fun w1 hs1 => same_any ms mo mc bs bo bbc (all.size : Nat) (reA all) (imA all) gd dm dmo dmc db dbo dbc lv hms hbs (hml ms hms).1 (hbl bs hbs).1 (hbl bs hbs).2 (hml ms hms).2 w1 (hs1.rds1 1 rfl) (hs1.rds1 5 rfl)) ?_
        ((try refine sU ?_);repeat(refine sN fun _=>?_;try refine sU ?_))
        refine SxCall.mk fun w1 hs1 => (end_sat box man hb0 hb1 hm0 hm1 c hc L hgood all σ hh (by omega) g (hs1.pick (ks := [2, 3, 4, 1, 5, 6, 7, 8, 9]) rfl rfl)).mono ?_
        rintro e w6 ⟨CS2, hw2, hr2⟩
        have hCS2 := hw2.det hwh
        rw [hCS2, ← hls] at hr2
        dsimp only at hr2
        rw [List.length_map, List.length_map, ho] at hr2
        rcases hr2 with ⟨ho2, _⟩ | ⟨_, ms2, mo2, mc2, bs2, bo2, bc2, rfl, hms2, hbs2, hs6⟩
        · cases ho2
        refine ⟨_, _, rfl, hs6, ?_⟩
        ((try refine sU ?_);repeat(refine sN fun _=>?_;try refine sU ?_))
        refine SxCall.quietS (v := .bool true) (fun w1 hs1 => same_any ms2 mo2 mc2 bs2 bo2 bc2 (all.size : Nat) (reA all) (imA all) gd dm dmo dmc db dbo dbc lv hms2 hbs2 (hml ms2 hms2).1 (hbl bs2 hbs2).1 (hbl bs2 hbs2).2 (hml ms2 hms2).2 w1 (hs1.rds1 1 rfl) (hs1.rds1 6 rfl)) ?_
        ((try refine sU ?_);repeat(refine sN fun _=>?_;try refine sU ?_))
        refine SxCall.quietS (fun w3 hs3 => len_held w3 g hh (hs3.blk 2 rfl)) ?_
        ((try refine sU ?_);repeat(refine sN fun _=>?_;try refine sU ?_))
        refine SxCall.quiet st_awake ?_
        ((try refine sU ?_);repeat(refine sN fun _=>?_;try refine sU ?_))
        exact SxDone.mk fun w' hs => ⟨rfl, hs.touch.below⟩
end Go.Proofs.YtlmefcepdadfjaaGreat
