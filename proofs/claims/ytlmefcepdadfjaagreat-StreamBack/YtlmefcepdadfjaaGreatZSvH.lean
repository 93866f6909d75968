/- Layer 23: StreamBack: each new chunk is named. -/
import Derived.Test.YtlmefcepdadfjaaGreatZPlR
import Derived.Test.YtlmefcepdadfjaaGreatZSvE
namespace Go.Proofs.YtlmefcepdadfjaaGreat
open Go.RowKit

set_option maxHeartbeats 8000000 in
set_option maxRecDepth 20000 in
theorem named_any (g : Nat) (mv lv : Value) (bs : List Nb) (bo : Option Addr) (bc : Nat) (hbl : bs.length ≤ 100000) (hcl : ∀ b ∈ bs, b.2.l.length ≤ 100000) (ps : List Pl) (hpl : ps.length ≤ 1000000) (po : Option Addr) (pc : Nat) (hn : ∀ b ∈ bs, ∀ k, k < b.2.l.length → ∃ p ∈ ps, p.bx = b.1 ∧ p.sl = (k : Nat)) (w : World)
    (hr : Rd w (some ⟨g, 0, none⟩) [mv, .slice bo bs.length bc, lv]) (hb : Rd w bo (mbE.fl (bs.map Nb.mb))) (hp : Rd w po (plE.fl ps)) :
    Calls Tryz.prog 21 #[.pointer (some ⟨g, 0, none⟩), .slice po ps.length pc] w fun e w' => e = .returned (.bool true) ∧ Below w.heap.size w w' := by
  refine sx_fn (S := SX) (M := []) (N := 65) (H0 := [.rd (some ⟨g, 0, none⟩) [mv, .slice bo bs.length bc, lv], .rd bo (mbE.fl (bs.map Nb.mb)), .rd po (plE.fl ps)]) Tryz.func21 rfl rfl rfl (Sat.rdsM w [] _ fun j e hj => by
    match j, hj with
    | 0, hj => cases hj; exact ⟨rfl, hr⟩
    | 1, hj => cases hj; exact ⟨rfl, hb⟩
    | 2, hj => cases hj; exact ⟨rfl, hp⟩) ?_
  ((try refine sU ?_);repeat(refine sN fun _=>?_;try refine sU ?_))
  refine SxCode.loop (σ := Nat) [5, 4] [9, 10, 11, 12, 13, 14, 15, 6, 18, 19, 20, 21, 22, 23, 24, 25, 26, 27, 28, 7, 8, 31, 32, 33, 34, 37, 38, 39, 40, 41, 42, 43, 44, 45, 46, 47, 48, 49, 50, 51, 52, 53, 54, 55, 56, 57, 58, 59, 60, 61, 62, 35, 36, 63, 64, 4, 29, 30, 16, 17, 5] (fun i => [.int .i64 (i : Nat), .bool false]) (fun _ => [.rd (some ⟨g, 0, none⟩) [mv, .slice bo bs.length bc, lv], .rd bo (mbE.fl (bs.map Nb.mb)), .rd po (plE.fl ps)]) (fun i => i ≤ bs.length) (fun i => bs.length - i) 0 [0, 1, 2] rfl rfl rfl rfl (Nat.zero_le _) ?_
  rintro i hi
  by_cases hlt : i < bs.length
  · obtain ⟨b, hb1⟩ : ∃ b, bs[i]? = some b := ⟨bs[i], by simp [hlt]⟩
    have hmem := List.mem_of_getElem? hb1
    have hbc := hcl b hmem
    have hnb := hn b hmem
    have e0 := mbE.fl_cell (j := 0) (v := .int .u32 b.1) (Nb.mb_at hb1) rfl
    have e1 := mbE.fl_cell (j := 1) (v := .slice b.2.ao b.2.l.length b.2.cap) (Nb.mb_at hb1) rfl
    have q1 : i * 2 < (mbE.fl (bs.map Nb.mb)).length := by rw [mbE_len, List.length_map]; omega
    ((try refine sU ?_);repeat(refine sN fun _=>?_;try refine sU ?_))
    refine SxLd.rd 0 rfl rfl (j := 1) (v := .slice bo bs.length bc) rfl rfl ?_
    ((try refine sU ?_);repeat(refine sN fun _=>?_;try refine sU ?_))
    refine SxCode.loop (σ := Nat) [6, 4] [18, 19, 20, 21, 22, 23, 24, 25, 26, 27, 28, 7, 8, 31, 32, 33, 34, 37, 38, 39, 40, 41, 42, 43, 44, 45, 46, 47, 48, 49, 50, 51, 52, 53, 54, 55, 56, 57, 58, 59, 60, 61, 62, 35, 36, 63, 64, 4, 29, 30, 6] (fun i => [.int .i64 (i : Nat), .bool false]) (fun _ => [.rd (some ⟨g, 0, none⟩) [mv, .slice bo bs.length bc, lv], .rd bo (mbE.fl (bs.map Nb.mb)), .rd po (plE.fl ps)]) (fun k => k ≤ b.2.l.length) (fun k => b.2.l.length - k) 0 [0, 1, 2] rfl rfl rfl rfl (Nat.zero_le _) ?_
    rintro k hk
    by_cases hkl : k < b.2.l.length
    · obtain ⟨p0, hp0, hpb, hps⟩ := hnb k hkl
      obtain ⟨j0, hj0⟩ := List.getElem?_of_mem hp0
      have hj0l := (List.getElem?_eq_some_iff.1 hj0).1
      ((try refine sU ?_);repeat(refine sN fun _=>?_;try refine sU ?_))
      refine SxLd.rd 0 rfl rfl (j := 1) (v := .slice bo bs.length bc) rfl rfl ?_
      ((try refine sU ?_);repeat(refine sN fun _=>?_;try refine sU ?_))
      refine SxIA.rd 1 _ rfl i rfl hlt q1 fun g1 off ha => ?_
      ((try refine sU ?_);repeat(refine sN fun _=>?_;try refine sU ?_))
      refine SxLd.rd 1 rfl ha (by omega) (j := i * 2 + 1) e1 ?_
      ((try refine sU ?_);repeat(refine sN fun _=>?_;try refine sU ?_))
      refine SxCode.loop (σ := Nat × Bool) [8, 7] [31, 32, 33, 34, 37, 38, 39, 40, 41, 42, 43, 44, 45, 46, 47, 48, 49, 50, 51, 52, 53, 54, 55, 56, 57, 58, 59, 60, 61, 62, 7, 35, 36, 8] (fun x => [.int .i64 (x.1 : Nat), .bool x.2]) (fun _ => [.rd (some ⟨g, 0, none⟩) [mv, .slice bo bs.length bc, lv], .rd bo (mbE.fl (bs.map Nb.mb)), .rd po (plE.fl ps)]) (fun x => x.1 ≤ ps.length ∧ (j0 < x.1 → x.2 = true)) (fun x => ps.length - x.1) (0, false) [0, 1, 2] rfl rfl rfl rfl ⟨Nat.zero_le _, fun h => absurd h (Nat.not_lt_zero _)⟩ ?_
      rintro ⟨j, has⟩ ⟨hj, hhas⟩
      dsimp only at hj hhas ⊢
      by_cases hjl : j < ps.length
      · obtain ⟨p, hp1⟩ : ∃ p, ps[j]? = some p := ⟨ps[j], by simp [hjl]⟩
        have c0 : (plE.fl ps)[j * 2 + 0]? = some (.int .u32 p.bx) := plE.fl_cell (j := 0) hp1 rfl
        have c1 : (plE.fl ps)[j * 2 + 1]? = some (.int .i64 p.sl) := plE.fl_cell (j := 1) hp1 rfl
        have hpp : j = j0 → p = p0 := fun h => by subst h; exact Option.some.inj (hp1.symm.trans hj0)
        have q2 : j * 2 < (plE.fl ps).length := by rw [plE.fl_len]; show j * 2 < ps.length * 2; omega
        cases has with
        | true =>
          ((try refine sU ?_);repeat(refine sN fun _=>?_;try refine sU ?_))
          refine SxCode.drawAll rfl [] ?_
          ((try refine sU ?_);repeat(refine sN fun _=>?_;try refine sU ?_))
          exact SxRound.mk (j + 1, true) [0, 1, 2] rfl rfl rfl ⟨hjl, fun _ => rfl⟩ (by dsimp only; omega)
        | false =>
          ((try refine sU ?_);repeat(refine sN fun _=>?_;try refine sU ?_))
          refine SxCode.drawAll rfl [] ?_
          ((try refine sU ?_);repeat(refine sN fun _=>?_;try refine sU ?_))
          refine SxIA.rd 2 _ rfl j rfl hjl q2 fun g1 off ha => ?_
          ((try refine sU ?_);repeat(refine sN fun _=>?_;try refine sU ?_))
          refine SxLd.rd 2 rfl ha (by omega) (j := j * 2 + 0) c0 ?_
          ((try refine sU ?_);repeat(refine sN fun _=>?_;try refine sU ?_))
          refine SxLd.rd 0 rfl rfl (j := 1) (v := .slice bo bs.length bc) rfl rfl ?_
          ((try refine sU ?_);repeat(refine sN fun _=>?_;try refine sU ?_))
          refine SxIA.rd 1 _ rfl i rfl hlt q1 fun g1 off ha => ?_
          ((try refine sU ?_);repeat(refine sN fun _=>?_;try refine sU ?_))
          refine SxLd.rd 1 rfl ha (by omega) (j := i * 2) e0 ?_
          ((try refine sU ?_);repeat(refine sN fun _=>?_;try refine sU ?_))
          refine SxIf.eq (fun h1 => ?_) (fun h1 => ?_)
          · ((try refine sU ?_);repeat(refine sN fun _=>?_;try refine sU ?_))
            refine SxIA.rd 2 _ rfl j rfl hjl q2 fun g1 off ha => ?_
            ((try refine sU ?_);repeat(refine sN fun _=>?_;try refine sU ?_))
            refine SxLd.rd 2 rfl ha (by omega) (j := j * 2 + 1) c1 ?_
            ((try refine sU ?_);repeat(refine sN fun _=>?_;try refine sU ?_))
            refine SxRound.mk (j + 1, p.sl == ((k : Nat) : Int)) [0, 1, 2] rfl rfl rfl ⟨hjl, fun h => ?_⟩ (by dsimp only; omega)
            dsimp only
            rcases Nat.lt_succ_iff_lt_or_eq.1 h with h2 | h2
            · exact absurd (hhas h2) (by simp)
            · rw [hpp h2.symm, hps]; simp
          · ((try refine sU ?_);repeat(refine sN fun _=>?_;try refine sU ?_))
            refine SxRound.mk (j + 1, false) [0, 1, 2] rfl rfl rfl ⟨hjl, fun h => ?_⟩ (by dsimp only; omega)
            exfalso
            rcases Nat.lt_succ_iff_lt_or_eq.1 h with h2 | h2
            · exact absurd (hhas h2) (by simp)
            · exact h1 (by rw [hpp h2.symm]; exact hpb)
      · have hht : has = true := hhas (by omega)
        subst hht
        ((try refine sU ?_);repeat(refine sN fun _=>?_;try refine sU ?_))
        exact SxRound.mk (k + 1) [0, 1, 2] rfl rfl rfl hkl (by omega)
    · ((try refine sU ?_);repeat(refine sN fun _=>?_;try refine sU ?_))
      refine SxLd.rd 0 rfl rfl (j := 1) (v := .slice bo bs.length bc) rfl rfl ?_
      ((try refine sU ?_);repeat(refine sN fun _=>?_;try refine sU ?_))
      refine SxIA.rd 1 _ rfl i rfl hlt q1 fun g1 off ha => ?_
      ((try refine sU ?_);repeat(refine sN fun _=>?_;try refine sU ?_))
      refine SxLd.rd 1 rfl ha (by omega) (j := i * 2 + 1) e1 ?_
      ((try refine sU ?_);repeat(refine sN fun _=>?_;try refine sU ?_))
      exact SxRound.mk (i + 1) [0, 1, 2] rfl rfl rfl hlt (by omega)
  · ((try refine sU ?_);repeat(refine sN fun _=>?_;try refine sU ?_))
    refine SxLd.rd 0 rfl rfl (j := 1) (v := .slice bo bs.length bc) rfl rfl ?_
    ((try refine sU ?_);repeat(refine sN fun _=>?_;try refine sU ?_))
    exact SxDone.mk fun w' hs => ⟨rfl, hs.touch.below⟩
structure Qj where
  i : Nat
  σ : Sr
  all : ByteArray
theorem ents_app (a b : List Mn) : ents (a ++ b) = ents a ++ ents b := by simp [ents]
theorem ents_at {ms : List Mn} {i k : Nat} {m : Mn} {e : En} (hm : ms[i]? = some m) (he : m.2[k]? = some e) : (ents ms)[(ents (ms.take i)).length + k]? = some e ∧ ents (ms.take (i + 1)) = ents (ms.take i) ++ m.2 := by
  have h1 : ents (ms.take (i + 1)) = ents (ms.take i) ++ m.2 := by rw [take_snocE hm, ents_snoc]
  refine ⟨?_, h1⟩
  have h2 : ents ms = ents (ms.take (i + 1)) ++ ents (ms.drop (i + 1)) := by rw [← ents_app, List.take_append_drop]
  have hk := (List.getElem?_eq_some_iff.1 he).1
  rw [h2, h1, List.append_assoc, List.getElem?_append_right (by omega), Nat.add_sub_cancel_left, List.getElem?_append_left hk]; exact he
theorem joinB_take {cs : List ByteArray} {k : Nat} {s : ByteArray} (h : cs[k]? = some s) : joinB (cs.take (k + 1)) = joinB (cs.take k) ++ s.data.toList := by rw [take_snocE h, joinB_snoc]
def plcs (ms : List Mn) : List Pl := ms.flatMap fun m => setRP (plsOf m.2)
theorem plcs_snoc (ms : List Mn) (m : Mn) : plcs (ms ++ [m]) = plcs ms ++ setRP (plsOf m.2) := by simp [plcs]
theorem plcs_len (ms : List Mn) : (plcs ms).length ≤ (ents ms).length := by
  refine snoc_ind (P := fun ms => (plcs ms).length ≤ (ents ms).length) (Nat.le_refl _) (fun l m ih => ?_) ms
  rw [plcs_snoc, ents_snoc, List.length_append, List.length_append]
  have h : (setRP (plsOf m.2)).length ≤ (plsOf m.2).length := setR_len ltbP (plsOf m.2)
  rw [plsOf_len] at h
  omega
theorem plcs_mem {ms : List Mn} {e : En} (h : e ∈ ents ms) : ∃ p ∈ plcs ms, p.bx = e.bx ∧ p.sl = e.sl := by
  unfold ents at h
  obtain ⟨m, hm, he⟩ := List.mem_flatMap.1 h
  exact ⟨e.pl, List.mem_flatMap.2 ⟨m, hm, mem_setRP.2 (List.mem_map.2 ⟨e, he, rfl⟩)⟩, rfl, rfl⟩
theorem lib_apart {w : World} {gs : List (Gw w)} {box : Int} (hb : box > 300) : Apart box (libP gs) := fun g hg r hr => by have := libP_in hg hr; omega
set_option maxHeartbeats 32000000 in
set_option maxRecDepth 20000 in
theorem StreamBack_law (w : World) (cs : List Value) (hcs : FitR Tryz.prog w 4 [.int .i64, .int .i64, .int .i64, .int .i64, .int .i64, .int .i64, .int .i64, .int .i64, .int .i64, .int .i64, .int .i64, .int .i64, .int .i64, .int .u32, .int .u32, .slice 88, .slice 9] cs) :
    Calls Tryz.prog 3 #[.agg cs.toArray] w fun e w' => e = .returned (.bool true) ∧ Below w.heap.size w w' := by
  obtain ⟨c, box, man, go, gn, gc, gs, po, pn, pc, ps, rfl, ⟨hb0, hb1⟩, ⟨hm0, hm1⟩, hgl, hpl, hg, hp⟩ := open_case hcs
  refine sx_fn (S := SX) (M := []) (N := 226) (H0 := [.rd go ((gwE w).fl gs), .gen (rdsG (gwL gs)), .rd po (strE.fl ps)]) Tryz.func3 rfl rfl rfl (Sat.rdsM w [] _ fun j e hj => by
    match j, hj with
    | 0, hj => cases hj; exact ⟨rfl, hg⟩
    | 1, hj => cases hj; exact ⟨rfl, gwL_rd gs⟩
    | 2, hj => cases hj; exact ⟨rfl, hp⟩) ?_
  ((try refine sU ?_);repeat(refine sN fun _=>?_;try refine sU ?_))
  rename_i bc
  refine SxCall.quietP (P := fun v => v = .bool false ∨ (v = .bool true ∧ Light gn gs pn ps)) (fun w1 hs1 => light_any c box man go gn gc gs po pn pc ps hgl hpl w1 (hs1.rd 1 rfl) (hs1.rds1 2 rfl) (hs1.rd 3 rfl)) ?_
  rintro v (rfl | ⟨rfl, hli⟩)
  · ((try refine sU ?_);repeat(refine sN fun _=>?_;try refine sU ?_))
    refine SxCall.quiet st_awake ?_
    ((try refine sU ?_);repeat(refine sN fun _=>?_;try refine sU ?_))
    exact SxDone.mk fun w' hs => ⟨rfl, hs.touch.below⟩
  cases hc : conC c with
  | false =>
    ((try refine sU ?_);repeat(refine sN fun _=>?_;try refine sU ?_))
    refine SxCall.quiet (v := .bool false) (fun w => by have := RStMay_any c w; rw [hc] at this; exact this) ?_
    ((try refine sU ?_);repeat(refine sN fun _=>?_;try refine sU ?_))
    refine SxCall.quiet st_awake ?_
    ((try refine sU ?_);repeat(refine sN fun _=>?_;try refine sU ?_))
    exact SxDone.mk fun w' hs => ⟨rfl, hs.touch.below⟩
  | true =>
    by_cases hman : man = 0
    · subst hman
      ((try refine sU ?_);repeat(refine sN fun _=>?_;try refine sU ?_))
      refine SxCall.quiet (v := .bool true) (fun w => by have := RStMay_any c w; rw [hc] at this; exact this) ?_
      ((try refine sU ?_);repeat(refine sN fun _=>?_;try refine sU ?_))
      refine SxCall.quiet st_awake ?_
      ((try refine sU ?_);repeat(refine sN fun _=>?_;try refine sU ?_))
      exact SxDone.mk fun w' hs => ⟨rfl, hs.touch.below⟩
    by_cases hap : ¬ box > 300
    · ((try refine sU ?_);repeat(refine sN fun _=>?_;try refine sU ?_))
      refine SxCall.quiet (v := .bool true) (fun w => by have := RStMay_any c w; rw [hc] at this; exact this) ?_
      ((try refine sU ?_);repeat(refine sN fun _=>?_;try refine sU ?_))
      refine SxCall.quiet (v := .bool false) (fun w1 => by have h := apart_any c box man (.slice go gn gc) (.slice po pn pc) w1; rw [decide_eq_false hap] at h; exact h) ?_
      ((try refine sU ?_);repeat(refine sN fun _=>?_;try refine sU ?_))
      refine SxCall.quiet st_awake ?_
      ((try refine sU ?_);repeat(refine sN fun _=>?_;try refine sU ?_))
      exact SxDone.mk fun w' hs => ⟨rfl, hs.touch.below⟩
    rw [Decidable.not_not] at hap
    ((try refine sU ?_);repeat(refine sN fun _=>?_;try refine sU ?_))
    refine SxCall.quiet (v := .bool true) (fun w => by have := RStMay_any c w; rw [hc] at this; exact this) ?_
    ((try refine sU ?_);repeat(refine sN fun _=>?_;try refine sU ?_))
    refine SxCall.quiet (v := .bool true) (fun w1 => by have h := apart_any c box man (.slice go gn gc) (.slice po pn pc) w1; rw [decide_eq_true hap] at h; exact h) ?_
    ((try refine sU ?_);repeat(refine sN fun _=>?_;try refine sU ?_))
    refine SxCall.mk fun w1 hs1 => (library_sat (R := [.blk bc 28 (caC c box man (.slice go gn gc) (.slice po pn pc)), .rd po (strE.fl ps)]) c box man go gn gc gs (.slice po pn pc) hgl pn ps hli (hs1.pick (ks := [1, 2, 0, 3]) rfl rfl)).mono ?_
    rintro e w2 ⟨lo, lc, ds, rfl, hds, hs2⟩
    refine ⟨_, _, rfl, hs2, ?_⟩
    ((try refine sU ?_);repeat(refine sN fun _=>?_;try refine sU ?_))
    rename_i b3
    refine SxCall.mk fun w1 hs1 => (toldFn_sat (R := [.blk b3 36 (lbC lo ds.length lc), .blk bc 28 (caC c box man (.slice go gn gc) (.slice po pn pc)), .rd po (strE.fl ps)]) lo lc ds (hs1.pick (ks := [1, 0, 4, 5]) rfl rfl)).mono ?_
    rintro e w2 ⟨gl, rfl, hs2⟩
    refine ⟨_, _, rfl, hs2, ?_⟩
    obtain ⟨L, hL⟩ : ∃ L, L = Lb.lib gl lo lc ds := ⟨_, rfl⟩
    obtain ⟨hgood, hdl, hdd, hKl⟩ := lib_good hli hgl hds gl lo lc
    have hG : ds.map (·.l) = L.G := by rw [hL]; rfl
    have hsub : ∀ x ∈ grL lo ds, x ∈ L.rds := fun x hx => by rw [hL]; exact List.mem_cons_of_mem _ hx
    rw [← hL] at hgood ⊢
    ((try refine sU ?_);repeat(refine sN fun _=>?_;try refine sU ?_))
    refine SxCall.mk fun w1 hs1 => (new_lib_sat (Weak.subRds 0 rfl hsub _ _ _ hs1) c box man L hc (by omega) hman).mono ?_
    rintro e w2 ⟨g, rfl, hs2⟩
    refine ⟨_, _, rfl, hs2, ?_⟩
    ((try refine sU ?_);repeat(refine sN fun _=>?_;try refine sU ?_))
    refine SxRun.pEqNil Tryz.underlying44 ?_
    ((try refine sU ?_);repeat(refine sN fun _=>?_;try refine sU ?_))
    have hh0 := sr0_held box man c hc L
    obtain ⟨σ0, hσ0⟩ : ∃ σ0, σ0 = sr0 box man c L := ⟨_, rfl⟩
    rw [← hσ0] at hh0 ⊢
    refine SxCode.loop (σ := Qj) [9, 8] [67, 68, 69, 70, 71, 74, 75, 76, 77, 78, 79, 80, 81, 82, 83, 84, 85, 86, 87, 88, 8, 72, 73, 9] (fun x => [.int .i64 (x.i : Nat), .string x.all]) (fun x => [.blk g 101 x.σ.cells, .gen (rdsG x.σ.rds), .gen (rdsG L.rds), .gen (rdsG (grL lo ds)), .blk b3 36 (lbC lo ds.length lc), .blk bc 28 (caC c box man (.slice go gn gc) (.slice po pn pc)), .rd po (strE.fl ps)]) (fun x => x.i ≤ pn ∧ x.σ.held box man c L x.all ∧ x.all.size ≤ szB (ps.take x.i)) (fun x => pn - x.i) ⟨0, σ0, ⟨#[]⟩⟩ [0, 1, 3, 2, 4, 5, 6] rfl rfl rfl rfl ⟨Nat.zero_le _, hh0, Nat.zero_le _⟩ ?_
    rintro ⟨i, σ, all⟩ ⟨hi, hh, hal⟩
    dsimp only at hi hh hal ⊢
    have hpn := hli.pn
    have hpz := hli.p
    have htk := szB_take ps i
    by_cases hlt : i < pn
    · obtain ⟨b, hb⟩ : ∃ b, ps[i]? = some b := ⟨ps[i]'(by omega), by simp [show i < ps.length by omega]⟩
      have hsn : szB (ps.take (i + 1)) = szB (ps.take i) + b.size := by rw [take_snocE hb, szB_snoc]
      have htk1 := szB_take ps (i + 1)
      have hab : (all ++ b).size = all.size + b.size := by simp
      have hi1 : i * 1 < (strE.fl ps).length := by rw [strE_len]; omega
      ((try refine sU ?_);repeat(refine sN fun _=>?_;try refine sU ?_))
      refine SxIA.rd 6 _ rfl i rfl hlt hi1 fun g1 off ha => ?_
      ((try refine sU ?_);repeat(refine sN fun _=>?_;try refine sU ?_))
      refine SxLd.rd 6 rfl ha rfl (j := i * 1) (strE_at hb) ?_
      ((try refine sU ?_);repeat(refine sN fun _=>?_;try refine sU ?_))
      refine SxCall.mk fun w1 hs1 => (write_sat box man hb0 hb1 hm0 hm1 c hc L hgood all b σ hh (by omega) g hs1).mono ?_
      rintro e w2 ⟨σ', hh', hr⟩
      rcases hr with ⟨ho, rfl, hs2⟩ | ⟨ho, rfl, hs2⟩
      · refine ⟨_, _, rfl, hs2, ?_⟩
        ((try refine sU ?_);repeat(refine sN fun _=>?_;try refine sU ?_))
        exact SxRound.mk ⟨i + 1, σ, all⟩ [0, 1, 2, 3, 4, 5, 6] rfl rfl rfl ⟨hlt, hh, by dsimp only; omega⟩ (by dsimp only; omega)
      · refine ⟨_, _, rfl, hs2, ?_⟩
        ((try refine sU ?_);repeat(refine sN fun _=>?_;try refine sU ?_))
        refine SxIA.rd 6 _ rfl i rfl hlt hi1 fun g1 off ha => ?_
        ((try refine sU ?_);repeat(refine sN fun _=>?_;try refine sU ?_))
        refine SxLd.rd 6 rfl ha rfl (j := i * 1) (strE_at hb) ?_
        ((try refine sU ?_);repeat(refine sN fun _=>?_;try refine sU ?_))
        refine SxLe.mk (by omega) ?_
        ((try refine sU ?_);repeat(refine sN fun _=>?_;try refine sU ?_))
        exact SxRound.mk ⟨i + 1, σ', all ++ b⟩ [0, 1, 2, 3, 4, 5, 6] rfl rfl rfl ⟨hlt, hh', by dsimp only; omega⟩ (by dsimp only; omega)
    · ((try refine sU ?_);repeat(refine sN fun _=>?_;try refine sU ?_))
      refine SxCall.mk fun w1 hs1 => (end_sat box man hb0 hb1 hm0 hm1 c hc L hgood all σ hh (by omega) g hs1).mono ?_
      rintro e w5 ⟨CS, hw, hr⟩
      rcases hr with ⟨ho, rfl, hs5⟩ | ⟨ho, ms, mo, mc, bs, bo, bbc, rfl, hms, hbs, hs5⟩
      · refine ⟨_, _, rfl, hs5, ?_⟩
        ((try refine sU ?_);repeat(refine sN fun _=>?_;try refine sU ?_))
        refine SxCall.quiet st_awake ?_
        ((try refine sU ?_);repeat(refine sN fun _=>?_;try refine sU ?_))
        exact SxDone.mk fun w' hs => ⟨rfl, hs.touch.below⟩
      refine ⟨_, _, rfl, hs5, ?_⟩
      have hsound := made_sound (man := man) hc hb0 (by rw [← hG, hds]; exact lib_apart hap) hw ho
      rw [← hms, ← hbs] at hsound
      have hjoin := hw.join
      have hCl := hw.len
      ((try refine sU ?_);repeat(refine sN fun _=>?_;try refine sU ?_))
      have hml : ms.length = (madeP c box man L.G CS).ms.length := by rw [← hms, List.length_map]
      have hbl : bs.length = (madeP c box man L.G CS).bs.length := by rw [← hbs, List.length_map]
      have hmuch := madeP_much (box := box) (man := man) (G := L.G) (conC_may hc).2 CS
      rw [← hms, ← hbs] at hmuch
      obtain ⟨m1, m2, m3, m4, m5⟩ := hmuch
      rw [List.length_map] at m1 m3
      have hsum : szB CS ≤ 500 := by
        have h := congrArg List.length hjoin
        rw [joinB_len, ba_lenS] at h
        omega
      have hcl : ∀ b ∈ bs, b.2.l.length ≤ 500 := fun b hb => by
        have h := m4 b.bx (List.mem_map.2 ⟨b, hb, rfl⟩)
        have e : b.bx.2.length = b.2.l.length := rfl
        omega
      have hel : ∀ m ∈ ms, m.2.l.length ≤ 500 := fun m hm => by
        have h := m2 m.mn (List.mem_map.2 ⟨m, hm, rfl⟩)
        have e : m.mn.2.length = m.2.l.length := rfl
        omega
      have hsb : ∀ b ∈ bs, szB b.2.l ≤ 100000 := fun b hb => by
        obtain ⟨j, hj⟩ := List.getElem?_of_mem hb
        have h1 := freshX_app ((bs.map Nb.bx).take (j + 1)) ((bs.map Nb.bx).drop (j + 1))
        rw [List.take_append_drop] at h1
        have h2 : freshX ((bs.map Nb.bx).take (j + 1)) = freshX ((bs.map Nb.bx).take j) + szB b.2.l := by rw [take_snocE (Nb.bx_at hj), freshX_snoc]; rfl
        omega
      have a1 : (mo, mbE.fl (ms.map Mr.mb)) ∈ mdL ms mo bs bo := by unfold mdL; simp
      have a2 : (bo, mbE.fl (bs.map Nb.mb)) ∈ mdL ms mo bs bo := by unfold mdL; simp
      have a3 : ∀ m ∈ ms, (m.2.ao, enE.fl m.2.l) ∈ mdL ms mo bs bo := fun m hm => by have := maL_mem hm; unfold mdL; simp [this]
      have a4 : ∀ b ∈ bs, (b.2.ao, strE.fl b.2.l) ∈ mdL ms mo bs bo := fun m hm => by have := bxL_mem hm; unfold mdL; simp [this]
      have a5 : ∀ y ∈ bxL bs, y ∈ mdL ms mo bs bo := fun y hy => by unfold mdL; simp [hy]
      have e11 : c (nat_lit 11) = c 11 := rfl
      have e12 : c (nat_lit 12) = c 12 := rfl
      rename_i bm gw
      obtain ⟨ML, hML⟩ : ∃ ML, ML = mdL ms mo bs bo := ⟨_, rfl⟩
      rw [← hML] at a1 a2 a3 a4 a5 ⊢
      refine SxCode.wk (Weak.nil 61 2) ?_
      refine SxCode.loop (σ := Nat × Option Addr × Nat) [13, 2] [103, 104, 105, 106, 107, 110, 111, 112, 113, 114, 115, 116, 117, 118, 119, 120, 121, 122, 14, 123, 124, 125, 126, 127, 128, 129, 130, 131, 132, 133, 134, 135, 136, 137, 138, 139, 140, 141, 142, 143, 2, 144, 145, 146, 147, 148, 149, 150, 151, 152, 153, 108, 109, 13] (fun x => [.int .i64 (x.1 : Nat), .bool false]) (fun x => [.row x.2.1 x.1 x.2.2 61 2 (mbE.fl ((bs.take x.1).map Nb.mb)), .blk gw 58 [nilS, .slice x.2.1 x.1 x.2.2, nilS], .blk bm 52 (mdC (.slice mo ms.length mc) (.slice bo bs.length bbc) (all.size : Nat) (reA all) (imA all)), .gen (rdsG ML), .gen (rdsG (grL lo ds)), .blk b3 36 (lbC lo ds.length lc), .blk bc 28 (caC c box man (.slice go gn gc) (.slice po pn pc))]) (fun x => x.1 ≤ bs.length) (fun x => bs.length - x.1) (0, none, 0) [0, 1, 2, 3, 7, 8, 9] rfl rfl rfl rfl (Nat.zero_le _) ?_
      rintro ⟨j, wo, wc⟩ hj
      dsimp only at hj ⊢
      by_cases hjl : j < bs.length
      · obtain ⟨b, hb⟩ : ∃ b, bs[j]? = some b := ⟨bs[j], by simp [hjl]⟩
        have hbm := List.mem_of_getElem? hb
        obtain ⟨w1, w2, w3⟩ := hsound.bounds b.bx (List.mem_map.2 ⟨b, hbm, rfl⟩)
        replace w1 : 1 ≤ b.2.l.length := w1
        replace w2 : (b.2.l.length : Int) ≤ c 11 := w2
        replace w3 : (szB b.2.l : Int) ≤ c 12 := w3
        have hb1 := hcl b hbm
        have hb2 := hsb b hbm
        have c0 := mbE.fl_cell (j := 0) (v := .int .u32 b.1) (Nb.mb_at hb) rfl
        have c1 := mbE.fl_cell (j := 1) (v := .slice b.2.ao b.2.l.length b.2.cap) (Nb.mb_at hb) rfl
        have q1 : j * 2 < (mbE.fl (bs.map Nb.mb)).length := by rw [mbE_len, List.length_map]; omega
        ((try refine sU ?_);repeat(refine sN fun _=>?_;try refine sU ?_))
        refine SxCode.draw rfl [.blk bm 52 (mdC (.slice mo ms.length mc) (.slice bo bs.length bbc) (all.size : Nat) (reA all) (imA all)), .gen (rdsG ML)] [] [2, 3] rfl rfl ?_
        ((try refine sU ?_);repeat(refine sN fun _=>?_;try refine sU ?_))
        refine SxIA.of 1 rfl a2 j rfl hjl q1 fun g9 off ha => ?_
        ((try refine sU ?_);repeat(refine sN fun _=>?_;try refine sU ?_))
        refine SxLd.of 1 rfl a2 ha (by omega) (j := j * 2) c0 ?_
        ((try refine sU ?_);repeat(refine sN fun _=>?_;try refine sU ?_))
        refine SxIA.of 1 rfl a2 j rfl hjl q1 fun g9 off ha => ?_
        ((try refine sU ?_);repeat(refine sN fun _=>?_;try refine sU ?_))
        refine SxLd.of 1 rfl a2 ha (by omega) (j := j * 2 + 1) c1 ?_
        ((try refine sU ?_);repeat(refine sN fun _=>?_;try refine sU ?_))
        refine SxStable.mk [3, 4] rfl rfl ?_
        ((try refine sU ?_);repeat(refine sN fun _=>?_;try refine sU ?_))
        refine SxStable.mk [3, 4] rfl rfl ?_
        ((try refine sU ?_);repeat(refine sN fun _=>?_;try refine sU ?_))
        rename_i bb
        refine SxCode.drawAll rfl [] ?_
        ((try refine sU ?_);repeat(refine sN fun _=>?_;try refine sU ?_))
        refine SxLd.blk 7 rfl (v := .int .i64 (c 11)) rfl ?_
        ((try refine sU ?_);repeat(refine sN fun _=>?_;try refine sU ?_))
        refine SxLd.blk 7 rfl (v := .int .i64 (c 12)) rfl ?_
        ((try refine sU ?_);repeat(refine sN fun _=>?_;try refine sU ?_))
        refine SxCall.quietS (v := .int .i64 (szB b.2.l : Nat)) (fun w1 hs1 => Size_any b.1 b.2.ao b.2.l b.2.cap (by omega) (by omega) w1 (hs1.rdIn 4 rfl (a4 b hbm))) ?_
        ((try refine sU ?_);repeat(refine sN fun _=>?_;try refine sU ?_))
        refine SxCode.draw rfl [.blk gw 58 [nilS, .slice wo j wc, nilS], .blk bb 61 (mbC b.mb)] [10] [2, 0] rfl rfl ?_
        ((try refine sU ?_);repeat(refine sN fun _=>?_;try refine sU ?_))
        refine SxStable.mk [3, 1] rfl rfl ?_
        ((try refine sU ?_);repeat(refine sN fun _=>?_;try refine sU ?_))
        refine SxApp.mk 2 rfl 0 (.inr (.inr (.inr ⟨by decide, _, rfl⟩))) (vs := mbC b.mb) (m := 1) rfl rfl (by unfold maxLen; omega) (by omega) (cs' := mbE.fl ((bs.take (j + 1)).map Nb.mb)) (by rw [take_snocE hb, List.map_append, mbE.fl_append, List.map_cons, List.map_nil, mbE.fl_one]; rfl) fun wo2 wc2 => ?_
        ((try refine sU ?_);repeat(refine sN fun _=>?_;try refine sU ?_))
        refine SxStable.mk [3, 1] rfl rfl ?_
        ((try refine sU ?_);repeat(refine sN fun _=>?_;try refine sU ?_))
        exact SxRound.mk (j + 1, wo2, wc2) [2, 3, 4, 5, 6, 7, 8] rfl rfl rfl hjl (by dsimp only; omega)
      · obtain rfl : j = bs.length := by omega
        rw [List.take_length]
        ((try refine sU ?_);repeat(refine sN fun _=>?_;try refine sU ?_))
        have hES : (ents (ms.map Mr.mn)).length = CS.length := hsound.back.1
        have hEle : ∀ i, (ents ((ms.map Mr.mn).take i)).length ≤ CS.length := fun i => by
          have h := congrArg List.length (ents_app ((ms.map Mr.mn).take i) ((ms.map Mr.mn).drop i))
          rw [List.take_append_drop, List.length_append, hES] at h
          omega
        refine SxCode.wk (Weak.nil 109 2) ?_
        refine SxCode.loop (σ := Nat × ByteArray × Option Addr × Nat) [17, 15, 16, 2] [154, 155, 156, 157, 158, 161, 162, 163, 164, 165, 166, 167, 168, 16, 18, 169, 170, 171, 172, 173, 174, 175, 176, 177, 180, 181, 182, 183, 184, 185, 186, 187, 188, 19, 190, 191, 192, 193, 189, 194, 195, 20, 21, 196, 197, 198, 199, 200, 201, 202, 203, 204, 205, 206, 207, 208, 209, 210, 211, 2, 212, 213, 214, 15, 178, 179, 159, 160, 17] (fun x => [.int .i64 (x.1 : Nat), .string x.2.1, .slice x.2.2.1 (plcs ((ms.map Mr.mn).take x.1)).length x.2.2.2, .bool false]) (fun x => [.row x.2.2.1 (plcs ((ms.map Mr.mn).take x.1)).length x.2.2.2 109 2 (plE.fl (plcs ((ms.map Mr.mn).take x.1))), .row wo bs.length wc 61 2 (mbE.fl (bs.map Nb.mb)), .blk gw 58 [nilS, .slice wo bs.length wc, nilS], .blk bm 52 (mdC (.slice mo ms.length mc) (.slice bo bs.length bbc) (all.size : Nat) (reA all) (imA all)), .gen (rdsG ML), .gen (rdsG (grL lo ds)), .blk b3 36 (lbC lo ds.length lc)]) (fun x => x.1 ≤ ms.length ∧ x.2.1.data.toList = joinB (CS.take (ents ((ms.map Mr.mn).take x.1)).length)) (fun x => ms.length - x.1) (0, ⟨#[]⟩, none, 0) [0, 1, 2, 3, 4, 5, 6] rfl rfl rfl rfl ⟨Nat.zero_le _, rfl⟩ ?_
        rintro ⟨j, back, ro, rc⟩ ⟨hj, hback⟩
        dsimp only at hj hback ⊢
        have hPl := plcs_len ((ms.map Mr.mn).take j)
        have hEj := hEle j
        by_cases hjl : j < ms.length
        · obtain ⟨m, hm⟩ : ∃ m, ms[j]? = some m := ⟨ms[j], by simp [hjl]⟩
          have hmm := List.mem_of_getElem? hm
          have hme := hel m hmm
          have hmn : (ms.map Mr.mn)[j]? = some m.mn := by rw [List.getElem?_map, hm]; rfl
          have hpn2 : plcs ((ms.map Mr.mn).take (j + 1)) = plcs ((ms.map Mr.mn).take j) ++ setRP (plsOf m.2.l) := by rw [take_snocE hmn, plcs_snoc]; rfl
          have c1 := mbE.fl_cell (j := 1) (v := .slice m.2.ao m.2.l.length m.2.cap) (Mr.mb_at hm) rfl
          have q1 : j * 2 < (mbE.fl (ms.map Mr.mb)).length := by rw [mbE_len, List.length_map]; omega
          have hsl : (setRP (plsOf m.2.l)).length ≤ m.2.l.length := by
            have h : (setRP (plsOf m.2.l)).length ≤ (plsOf m.2.l).length := setR_len ltbP (plsOf m.2.l)
            rwa [plsOf_len] at h
          ((try refine sU ?_);repeat(refine sN fun _=>?_;try refine sU ?_))
          refine SxIA.of 4 rfl a1 j rfl hjl q1 fun g9 off ha => ?_
          ((try refine sU ?_);repeat(refine sN fun _=>?_;try refine sU ?_))
          refine SxLdN.of 4 rfl a1 ha rfl (vs := [.int .u32 m.1, .slice m.2.ao m.2.l.length m.2.cap]) rfl (mbE.fl_at (Mr.mb_at hm)) ?_
          ((try refine sU ?_);repeat(refine sN fun _=>?_;try refine sU ?_))
          refine SxCall.newRow (v := fun ao cap => .slice ao (setRP (plsOf m.2.l)).length cap) (fun w1 hs1 => RMPlaces_any m.1 m.2.l (by omega) m.2.ao m.2.cap w1 (hs1.rdIn 4 rfl (a3 m hmm))) fun xo xc => ?_
          ((try refine sU ?_);repeat(refine sN fun _=>?_;try refine sU ?_))
          refine SxApp.mk 1 rfl 0 (.inr (.inr (.inr ⟨by decide, _, rfl⟩))) (vs := plE.fl (setRP (plsOf m.2.l))) (m := (setRP (plsOf m.2.l)).length) (plE.fl_len _) (plE.fl_allOne _) (by unfold maxLen; omega) (by omega) (cs' := plE.fl (plcs ((ms.map Mr.mn).take (j + 1)))) (by rw [hpn2, plE.fl_append]) fun ro2 rc2 => ?_
          have hpl2 : (plcs ((ms.map Mr.mn).take j)).length + (setRP (plsOf m.2.l)).length = (plcs ((ms.map Mr.mn).take (j + 1))).length := by rw [hpn2, List.length_append]
          rw [hpl2]
          ((try refine sU ?_);repeat(refine sN fun _=>?_;try refine sU ?_))
          refine SxCode.loop (σ := Nat × ByteArray) [18, 15, 2] [169, 170, 171, 172, 173, 174, 175, 176, 177, 180, 181, 182, 183, 184, 185, 186, 187, 188, 19, 190, 191, 192, 193, 189, 194, 195, 20, 21, 196, 197, 198, 199, 200, 201, 202, 203, 204, 205, 206, 207, 208, 209, 210, 211, 2, 212, 213, 214, 15, 178, 179, 18] (fun x => [.int .i64 (x.1 : Nat), .string x.2, .bool false]) (fun _ => [.row ro2 (plcs ((ms.map Mr.mn).take (j + 1))).length rc2 109 2 (plE.fl (plcs ((ms.map Mr.mn).take (j + 1)))), .row wo bs.length wc 61 2 (mbE.fl (bs.map Nb.mb)), .blk gw 58 [nilS, .slice wo bs.length wc, nilS], .blk bm 52 (mdC (.slice mo ms.length mc) (.slice bo bs.length bbc) (all.size : Nat) (reA all) (imA all)), .gen (rdsG ML), .gen (rdsG (grL lo ds)), .blk b3 36 (lbC lo ds.length lc)]) (fun x => x.1 ≤ m.2.l.length ∧ x.2.data.toList = joinB (CS.take ((ents ((ms.map Mr.mn).take j)).length + x.1))) (fun x => m.2.l.length - x.1) (0, back) [1, 2, 3, 4, 5, 6, 7] rfl rfl rfl rfl ⟨Nat.zero_le _, hback⟩ ?_
          rintro ⟨k, bk⟩ ⟨hk, hbk⟩
          dsimp only at hk hbk ⊢
          by_cases hkl : k < m.2.l.length
          · obtain ⟨e, he⟩ : ∃ e, m.2.l[k]? = some e := ⟨m.2.l[k], by simp [hkl]⟩
            have hat := (ents_at hmn he).1
            have hEl := (List.getElem?_eq_some_iff.1 hat).1
            obtain ⟨s, hs1⟩ : ∃ s, CS[(ents ((ms.map Mr.mn).take j)).length + k]? = some s := ⟨CS[(ents ((ms.map Mr.mn).take j)).length + k]'(by omega), by simp [show (ents ((ms.map Mr.mn).take j)).length + k < CS.length by omega]⟩
            obtain ⟨htold, pp, hepp⟩ := hsound.back.2 _ e s hat hs1
            have hss := mem_szB (List.mem_of_getElem? hs1)
            have hbsz : bk.size ≤ 500 := by
              have h := congrArg List.length hbk
              rw [ba_lenS, joinB_len] at h
              have h2 := szB_take CS ((ents ((ms.map Mr.mn).take j)).length + k)
              omega
            have hmE := a3 m hmm
            ((try refine sU ?_);repeat(refine sN fun _=>?_;try refine sU ?_))
            refine SxIA.of 4 rfl a1 j rfl hjl q1 fun g9 off ha => ?_
            ((try refine sU ?_);repeat(refine sN fun _=>?_;try refine sU ?_))
            refine SxLd.of 4 rfl a1 ha (by omega) (j := j * 2 + 1) c1 ?_
            ((try refine sU ?_);repeat(refine sN fun _=>?_;try refine sU ?_))
            refine SxIA.of 4 rfl a1 j rfl hjl q1 fun g9 off ha => ?_
            ((try refine sU ?_);repeat(refine sN fun _=>?_;try refine sU ?_))
            refine SxLd.of 4 rfl a1 ha (by omega) (j := j * 2 + 1) c1 ?_
            ((try refine sU ?_);repeat(refine sN fun _=>?_;try refine sU ?_))
            refine SxIA.of 4 rfl hmE k rfl hkl (by rw [enE_len1]; omega) fun g9 off ha => ?_
            ((try refine sU ?_);repeat(refine sN fun _=>?_;try refine sU ?_))
            refine SxLdN.of 4 rfl hmE ha rfl (vs := enC e) (enC_len e) (enE_at1 he) ?_
            ((try refine sU ?_);repeat(refine sN fun _=>?_;try refine sU ?_))
            refine SxSt.elem enE (x := e) 0 rfl rfl ?_
            ((try refine sU ?_);repeat(refine sN fun _=>?_;try refine sU ?_))
            refine SxLdN.blk 0 rfl (vs := enC e) (enC_len _) (enC_whole _) ?_
            ((try refine sU ?_);repeat(refine sN fun _=>?_;try refine sU ?_))
            refine SxLdN.blk 7 rfl (vs := lbC lo ds.length lc) rfl rfl ?_
            ((try refine sU ?_);repeat(refine sN fun _=>?_;try refine sU ?_))
            refine SxCall.quietS (v := .tuple #[.string s, .bool true]) (fun w1 hs1 => by
              have h := RMBytes_any lo lc ds hdl hdd bs (by omega) e gw nilS nilS wo wc w1 (Rd.of_blk (hs1.blk 3 rfl) (by show (3 : Nat) ≤ maxLen; unfold maxLen; omega)) (hs1.rowRd 2 rfl (by rw [mbE_len, List.length_map]; unfold maxLen; omega)) ((hs1.rds1 5 rfl).sub a5) (hs1.rds1 6 rfl)
              rw [hG, htold] at h
              exact h) ?_
            subst hepp
            have hfq : ((enC (mkEn s pp)).drop 0).take 32 = fqC (bFq s) := enC_fq (mkEn s pp)
            ((try refine sU ?_);repeat(refine sN fun _=>?_;try refine sU ?_))
            refine SxCode.drawAll rfl [] ?_
            ((try refine sU ?_);repeat(refine sN fun _=>?_;try refine sU ?_))
            refine SxLd.blk 0 rfl (v := .int .i64 (s.size : Nat)) (enC_tail (mkEn s pp) 0 _ rfl) ?_
            ((try refine sU ?_);repeat(refine sN fun _=>?_;try refine sU ?_))
            refine SxLdN.blk 0 rfl (vs := fqC (bFq s)) (fqC_len _) hfq ?_
            ((try refine sU ?_);repeat(refine sN fun _=>?_;try refine sU ?_))
            refine SxCall.rsumF s (by omega) ?_
            ((try refine sU ?_);repeat(refine sN fun _=>?_;try refine sU ?_))
            refine SxRun.neFq ?_
            rw [decide_eq_true (rfl : bFq s = bFq s)]
            ((try refine sU ?_);repeat(refine sN fun _=>?_;try refine sU ?_))
            refine SxLe.mk (by omega) ?_
            ((try refine sU ?_);repeat(refine sN fun _=>?_;try refine sU ?_))
            refine SxRound.mk (k + 1, bk ++ s) [1, 2, 3, 4, 5, 6, 7] rfl rfl rfl ⟨hkl, ?_⟩ (by dsimp only; omega)
            dsimp only
            rw [ba_appendS, hbk, ← Nat.add_assoc, joinB_take hs1]
          · obtain rfl : k = m.2.l.length := by omega
            ((try refine sU ?_);repeat(refine sN fun _=>?_;try refine sU ?_))
            refine SxIA.of 4 rfl a1 j rfl hjl q1 fun g9 off ha => ?_
            ((try refine sU ?_);repeat(refine sN fun _=>?_;try refine sU ?_))
            refine SxLd.of 4 rfl a1 ha (by omega) (j := j * 2 + 1) c1 ?_
            ((try refine sU ?_);repeat(refine sN fun _=>?_;try refine sU ?_))
            refine SxRound.mk (j + 1, bk, ro2, rc2) [0, 1, 2, 3, 4, 5, 6] rfl rfl rfl ⟨hjl, ?_⟩ (by dsimp only; omega)
            dsimp only
            have h9 : (ents ((ms.map Mr.mn).take (j + 1))).length = (ents ((ms.map Mr.mn).take j)).length + m.2.l.length := by rw [take_snocE hmn, ents_snoc, List.length_append]; rfl
            rw [h9]; exact hbk
        · obtain rfl : j = ms.length := by omega
          have htl : (ms.map Mr.mn).take ms.length = ms.map Mr.mn := List.take_of_length_le (by rw [List.length_map]; exact Nat.le_refl _)
          rw [htl] at hback hPl hEj ⊢
          rw [hES, List.take_length, hjoin] at hback
          obtain rfl := ba_extS hback
          ((try refine sU ?_);repeat(refine sN fun _=>?_;try refine sU ?_))
          refine SxIf.strT rfl ?_
          ((try refine sU ?_);repeat(refine sN fun _=>?_;try refine sU ?_))
          refine SxCall.quietS (v := .bool true) (fun w1 hs1 => named_any gw nilS nilS bs wo wc (by omega) (fun b hb => by have := hcl b hb; omega) (plcs (ms.map Mr.mn)) (by omega) ro rc (fun b hb k hk => by
            obtain ⟨e, he, h1, h2⟩ := hsound.named b.bx (List.mem_map.2 ⟨b, hb, rfl⟩) k hk
            obtain ⟨p, hp, h3, h4⟩ := plcs_mem he
            exact ⟨p, hp, h3.trans h1, h4.trans h2⟩) w1 (Rd.of_blk (hs1.blk 2 rfl) (by show (3 : Nat) ≤ maxLen; unfold maxLen; omega)) (hs1.rowRd 1 rfl (by rw [mbE_len, List.length_map]; unfold maxLen; omega)) (hs1.rowRd 0 rfl (by rw [plE.fl_len]; show _ * 2 ≤ maxLen; unfold maxLen; omega))) ?_
          ((try refine sU ?_);repeat(refine sN fun _=>?_;try refine sU ?_))
          refine SxCall.quiet st_awake ?_
          ((try refine sU ?_);repeat(refine sN fun _=>?_;try refine sU ?_))
          exact SxDone.mk fun w' hs => ⟨rfl, hs.touch.below⟩
end Go.Proofs.YtlmefcepdadfjaaGreat
