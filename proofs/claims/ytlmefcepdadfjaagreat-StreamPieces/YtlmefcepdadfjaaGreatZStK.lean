/- Texts of this claim, one behind the other. -/
import Derived.Test.YtlmefcepdadfjaaGreatZStH
import Derived.Test.YtlmefcepdadfjaaGreatZHkI
import Derived.Test.YtlmefcepdadfjaaGreatZGen
import Derived.Test.YtlmefcepdadfjaaGreatZStC
/- Layer 23: what the library tells of hooks. -/
namespace Go.Proofs.YtlmefcepdadfjaaGreat
open Go.RowKit

theorem knownG_take {gs : List (List Rk)} {i : Nat} {g : List Rk} (h : gs[i]? = some g) (hk : List Fq) : knownG (gs.take (i + 1)) hk = if hasK hk g then knownG (gs.take i) hk ++ g else knownG (gs.take i) hk := by
  unfold knownG
  rw [take_snocE h, List.filter_append, List.flatten_append]
  cases hp : hasK hk g with
  | true => simp [hp]
  | false => simp [hp]
theorem hasK_take {hk : List Fq} {g : List Rk} {j : Nat} {r : Rk} (h : g[j]? = some r) : hasK hk (g.take (j + 1)) = (hasK hk (g.take j) || decide (r.en.fq ∈ hk)) := by
  unfold hasK
  rw [take_snocE h, List.any_append]; simp
theorem knownG_len (hk : List Fq) : ∀ (gs : List (List Rk)) (m : Nat), (∀ g ∈ gs, g.length ≤ m) → (knownG gs hk).length ≤ gs.length * m
  | [], m, _ => by simp [knownG]
  | g :: gs, m, h => by
    have ih := knownG_len hk gs m fun x hx => h x (List.mem_cons_of_mem _ hx)
    have hg := h g (List.mem_cons_self ..)
    unfold knownG at ih ⊢
    rw [List.filter_cons]
    split
    · rw [List.flatten_cons, List.length_append, List.length_cons, Nat.succ_mul]; omega
    · rw [List.length_cons, Nat.succ_mul]; omega
set_option maxHeartbeats 4000000 in
theorem RKnown_any (go : Option Addr) (gc : Nat) (gs : List (Drow Rk)) (hgl : gs.length ≤ 1000) (hdl : ∀ d ∈ gs, d.l.length ≤ 1000) (hk : List Fp) (ho : Option Addr) (hc : Nat) (w : World) (hr : RdAll w (grL go gs)) (hh : Rd w ho (fpE.fl hk)) :
    Calls Tryz.prog 34 #[.agg (lbC go gs.length gc).toArray, .slice ho hk.length hc] w fun r w' => ∃ ao cap, r = .returned (.slice ao (knownG (gs.map (·.l)) hk).length cap) ∧ NewRow w w' ao (knownG (gs.map (·.l)) hk).length cap 94 37 (rkE.fl (knownG (gs.map (·.l)) hk)) := by
  refine sx_fn (S := SX) (M := []) (N := 56) (H0 := [.row none 0 0 94 37 [], .gen (rdsG (grL go gs)), .rd ho (fpE.fl hk)]) Tryz.func34 rfl rfl rfl (Sat.nilRow 94 37 (Sat.rdsM w [] _ fun j e hj => by
    match j, hj with
    | 0, hj => cases hj; exact ⟨rfl, hr⟩
    | 1, hj => cases hj; exact ⟨rfl, hh⟩)) ?_
  ((try refine sU ?_);repeat(refine sN fun _=>?_;try refine sU ?_))
  refine SxRun.pNeNil Tryz.underlying33 ?_
  ((try refine sU ?_);repeat(refine sN fun _=>?_;try refine sU ?_))
  rename_i bl
  have hml : (gs.map (·.l)).length = gs.length := List.length_map ..
  have hmx : ∀ g ∈ gs.map (·.l), g.length ≤ 1000 := fun g hg => by
    obtain ⟨d, hd, rfl⟩ := List.mem_map.1 hg
    exact hdl d hd
  have hkt : ∀ i, (knownG ((gs.map (·.l)).take i) hk).length ≤ 1000000 := fun i => by
    have h1 := knownG_len hk ((gs.map (·.l)).take i) 1000 fun g hg => hmx g (List.mem_of_mem_take hg)
    have h2 : ((gs.map (·.l)).take i).length * 1000 ≤ 1000 * 1000 := Nat.mul_le_mul_right _ (by rw [List.length_take]; omega)
    omega
  refine SxCode.loop (σ := Nat × Option Addr × Nat) [6, 5] [15, 16, 17, 18, 19, 7, 8, 22, 23, 24, 25, 26, 27, 28, 29, 32, 33, 34, 35, 36, 37, 38, 39, 40, 41, 42, 43, 44, 45, 46, 30, 31, 47, 48, 49, 50, 51, 52, 53, 54, 5, 20, 21, 6] (fun x => [.int .i64 (x.1 : Nat), .slice x.2.1 (knownG ((gs.map (·.l)).take x.1) hk).length x.2.2]) (fun x => [.blk bl 36 (lbC go gs.length gc), .row x.2.1 (knownG ((gs.map (·.l)).take x.1) hk).length x.2.2 94 37 (rkE.fl (knownG ((gs.map (·.l)).take x.1) hk)), .gen (rdsG (grL go gs)), .rd ho (fpE.fl hk)]) (fun x => x.1 ≤ gs.length) (fun x => gs.length - x.1) (0, none, 0) [0, 1, 2, 3] rfl rfl rfl rfl (Nat.zero_le _) ?_
  rintro ⟨i, oo, oc⟩ hi
  dsimp only at hi ⊢
  have hki := hkt i
  by_cases hlt : i < gs.length
  · obtain ⟨d, hd⟩ : ∃ d, gs[i]? = some d := ⟨gs[i], by simp [hlt]⟩
    have hdm := List.mem_of_getElem? hd
    have hdl1 := hdl d hdm
    have hgd : (gs.map (·.l))[i]? = some d.l := by rw [List.getElem?_map, hd]; rfl
    have hi1 : i * 1 < ((dvE (α := Rk)).fl gs).length := by rw [dvE_len]; omega
    have hnx := knownG_take hgd hk
    have hkn := hkt (i + 1)
    ((try refine sU ?_);repeat(refine sN fun _=>?_;try refine sU ?_))
    refine SxCode.loop (σ := Nat) [8, 7] [22, 23, 24, 25, 26, 27, 28, 29, 32, 33, 34, 35, 36, 37, 38, 39, 40, 41, 42, 43, 44, 45, 46, 7, 30, 31, 8] (fun j => [.int .i64 (j : Nat), .bool (hasK hk (d.l.take j))]) (fun _ => [.blk bl 36 (lbC go gs.length gc), .row oo (knownG ((gs.map (·.l)).take i) hk).length oc 94 37 (rkE.fl (knownG ((gs.map (·.l)).take i) hk)), .gen (rdsG (grL go gs)), .rd ho (fpE.fl hk)]) (fun j => j ≤ d.l.length) (fun j => d.l.length - j) 0 [0, 1, 2, 3] rfl rfl rfl rfl (Nat.zero_le _) ?_
    rintro j hj
    by_cases hjlt : j < d.l.length
    · obtain ⟨r, hr1⟩ : ∃ r, d.l[j]? = some r := ⟨d.l[j], by simp [hjlt]⟩
      have hst := hasK_take (hk := hk) hr1
      ((try refine sU ?_);repeat(refine sN fun _=>?_;try refine sU ?_))
      refine SxIA.of 2 rfl grL_head i rfl hlt hi1 fun g1 off ha => ?_
      ((try refine sU ?_);repeat(refine sN fun _=>?_;try refine sU ?_))
      refine SxLd.of 2 rfl grL_head ha rfl (j := i * 1) (dvE_at hd) ?_
      ((try refine sU ?_);repeat(refine sN fun _=>?_;try refine sU ?_))
      refine SxIf.mk (fun hb => ?_) (fun hb => ?_)
      · rw [hb, Bool.true_or] at hst
        ((try refine sU ?_);repeat(refine sN fun _=>?_;try refine sU ?_))
        exact SxRound.mk (j + 1) [0, 1, 2, 3] (by rw [hst]; rfl) rfl rfl hjlt (by omega)
      · rw [hb, Bool.false_or] at hst
        ((try refine sU ?_);repeat(refine sN fun _=>?_;try refine sU ?_))
        refine SxIA.of 2 rfl grL_head i rfl hlt hi1 fun g1 off ha => ?_
        ((try refine sU ?_);repeat(refine sN fun _=>?_;try refine sU ?_))
        refine SxLd.of 2 rfl grL_head ha rfl (j := i * 1) (dvE_at hd) ?_
        ((try refine sU ?_);repeat(refine sN fun _=>?_;try refine sU ?_))
        refine SxIA.of 2 rfl (grL_mem hdm) j rfl hjlt (by rw [rkE_len]; omega) fun g1 off ha => ?_
        ((try refine sU ?_);repeat(refine sN fun _=>?_;try refine sU ?_))
        refine SxLdN.of 2 rfl (grL_mem hdm) ha rfl (vs := fqC r.en.fq) (fqC_len _) (rk_fp hr1) ?_
        ((try refine sU ?_);repeat(refine sN fun _=>?_;try refine sU ?_))
        refine SxCall.quietS (fun w1 hs1 => RHas_any hk r.en.fq ho hc w1 (hs1.rd 3 rfl)) ?_
        ((try refine sU ?_);repeat(refine sN fun _=>?_;try refine sU ?_))
        exact SxRound.mk (j + 1) [0, 1, 2, 3] (by rw [hst]; rfl) rfl rfl hjlt (by omega)
    · obtain rfl : j = d.l.length := by omega
      rw [List.take_length]
      ((try refine sU ?_);repeat(refine sN fun _=>?_;try refine sU ?_))
      refine SxIA.of 2 rfl grL_head i rfl hlt hi1 fun g1 off ha => ?_
      ((try refine sU ?_);repeat(refine sN fun _=>?_;try refine sU ?_))
      refine SxLd.of 2 rfl grL_head ha rfl (j := i * 1) (dvE_at hd) ?_
      ((try refine sU ?_);repeat(refine sN fun _=>?_;try refine sU ?_))
      refine SxIf.mk (fun hb => ?_) (fun hb => ?_)
      · rw [if_pos hb] at hnx
        have hnl : (knownG ((gs.map (·.l)).take (i + 1)) hk).length = (knownG ((gs.map (·.l)).take i) hk).length + d.l.length := by rw [hnx, List.length_append]
        ((try refine sU ?_);repeat(refine sN fun _=>?_;try refine sU ?_))
        refine SxIA.of 2 rfl grL_head i rfl hlt hi1 fun g1 off ha => ?_
        ((try refine sU ?_);repeat(refine sN fun _=>?_;try refine sU ?_))
        refine SxLd.of 2 rfl grL_head ha rfl (j := i * 1) (dvE_at hd) ?_
        ((try refine sU ?_);repeat(refine sN fun _=>?_;try refine sU ?_))
        refine SxApp.from_ 1 rfl (vs := rkE.fl d.l) (fun _ _ _ hs => hs.rdIn 2 rfl (grL_mem hdm)) (rkE_len _) (rkE.fl_allOne _) (by unfold maxLen; omega) (by omega) (cs' := rkE.fl (knownG ((gs.map (·.l)).take (i + 1)) hk)) (by rw [hnx, rkE.fl_append]) fun ao' cap' => ?_
        ((try refine sU ?_);repeat(refine sN fun _=>?_;try refine sU ?_))
        exact SxRound.mk (i + 1, ao', cap') [0, 1, 2, 3] (by dsimp only; rw [hnl]; rfl) (by dsimp only; rw [hnl]; rfl) rfl hlt (by dsimp only; omega)
      · rw [if_neg (by rw [hb]; simp)] at hnx
        ((try refine sU ?_);repeat(refine sN fun _=>?_;try refine sU ?_))
        exact SxRound.mk (i + 1, oo, oc) [0, 1, 2, 3] (by dsimp only; rw [hnx]; rfl) (by dsimp only; rw [hnx]; rfl) rfl hlt (by dsimp only; omega)
  · obtain rfl : i = gs.length := by omega
    rw [List.take_of_length_le (by omega)]
    ((try refine sU ?_);repeat(refine sN fun _=>?_;try refine sU ?_))
    exact SxDone.mk fun w' hs => ⟨oo, oc, rfl, hs.newRow 1 rfl⟩
theorem knR_lenS (l : List Rk) : (knR l).length = l.length := List.length_map ..
theorem rk_en {l : List Rk} {k : Nat} {x : Rk} (h : l[k]? = some x) : ((rkE.fl l).drop (k * 37)).take 35 = enC x.en := by
  have h1 := rkE.fl_at h
  have h2 : rkE.k = 37 := rfl
  rw [h2] at h1
  have h3 : (((rkE.fl l).drop (k * 37)).take 37).take 35 = enC x.en := by
    rw [h1]; exact List.take_left' (enC_len x.en)
  rw [List.take_take] at h3
  exact h3
set_option maxHeartbeats 4000000 in
theorem told1_any (gl : Nat) (go : Option Addr) (gc : Nat) (gs : List (Drow Rk)) (hgl : gs.length ≤ 1000) (hdl : ∀ d ∈ gs, d.l.length ≤ 1000) (hk : List Fp) (ho : Option Addr) (hc : Nat) (w : World) (hr : RdAll w (Lb.lib gl go gc gs).rds) (hh : Rd w ho (fpE.fl hk)) :
    Calls Tryz.prog 33 #[.slice ho hk.length hc, .pointer (some ⟨gl, 0, none⟩)] w fun r w' => ∃ ao cap, r = .returned (.slice ao (knR (knownG (gs.map (·.l)) hk)).length cap) ∧ NewRow w w' ao (knR (knownG (gs.map (·.l)) hk)).length cap 71 35 (enE.fl (knR (knownG (gs.map (·.l)) hk))) := by
  obtain ⟨K, hK⟩ : ∃ K, K = knownG (gs.map (·.l)) hk := ⟨_, rfl⟩
  have hKl : K.length ≤ 1000000 := by
    have h1 := knownG_len hk (gs.map (·.l)) 1000 fun g hg => by
      obtain ⟨d, hd, rfl⟩ := List.mem_map.1 hg
      exact hdl d hd
    have h2 : (gs.map (·.l)).length * 1000 ≤ 1000 * 1000 := Nat.mul_le_mul_right _ (by rw [List.length_map]; omega)
    rw [hK]; omega
  have hkn := fun w1 hr1 hh1 => RKnown_any go gc gs hgl hdl hk ho hc w1 hr1 hh1
  rw [← hK] at hkn ⊢
  refine sx_fn (S := SX) (M := []) (N := 25) (H0 := [.row none 0 0 71 35 [], .rd (some ⟨gl, 0, none⟩) (lbC go gs.length gc), .gen (rdsG (grL go gs)), .rd ho (fpE.fl hk)]) Tryz.func33 rfl rfl rfl (Sat.nilRow 71 35 (Sat.rdsM w [] _ fun j e hj => by
    match j, hj with
    | 0, hj => cases hj; exact ⟨rfl, hr.head⟩
    | 1, hj => cases hj; exact ⟨rfl, hr.tail⟩
    | 2, hj => cases hj; exact ⟨rfl, hh⟩)) ?_
  ((try refine sU ?_);repeat(refine sN fun _=>?_;try refine sU ?_))
  refine SxLdN.rd 1 rfl rfl (j := 0) rfl (vs := lbC go gs.length gc) rfl rfl ?_
  ((try refine sU ?_);repeat(refine sN fun _=>?_;try refine sU ?_))
  refine SxCall.newRd (by rw [rkE_len]; unfold maxLen; omega) (fun w1 hs1 => hkn w1 (hs1.rds1 2 rfl) (hs1.rd 3 rfl)) fun ko kc => ?_
  ((try refine sU ?_);repeat(refine sN fun _=>?_;try refine sU ?_))
  refine SxCode.loop (σ := Nat × Option Addr × Nat) [6, 4] [10, 11, 12, 13, 16, 17, 18, 19, 20, 21, 22, 23, 4, 14, 15, 6] (fun x => [.int .i64 (x.1 : Nat), .slice x.2.1 x.1 x.2.2]) (fun x => [.row x.2.1 x.1 x.2.2 71 35 (enE.fl (knR (K.take x.1))), .rd ko (rkE.fl K)]) (fun x => x.1 ≤ K.length) (fun x => K.length - x.1) (0, none, 0) [1, 0] rfl rfl rfl rfl (Nat.zero_le _) ?_
  rintro ⟨i, oo, oc⟩ hi
  dsimp only at hi ⊢
  by_cases hlt : i < K.length
  · obtain ⟨r, hr1⟩ : ∃ r, K[i]? = some r := ⟨K[i], by simp [hlt]⟩
    have hnx : knR (K.take (i + 1)) = knR (K.take i) ++ [r.en] := by unfold knR; rw [take_snocE hr1, List.map_append]; rfl
    ((try refine sU ?_);repeat(refine sN fun _=>?_;try refine sU ?_))
    refine SxIA.rd 1 _ rfl i rfl hlt (by rw [rkE_len]; omega) fun g off ha => ?_
    ((try refine sU ?_);repeat(refine sN fun _=>?_;try refine sU ?_))
    refine SxLdN.rd 1 rfl ha rfl (vs := enC r.en) (enC_len _) (rk_en hr1) ?_
    ((try refine sU ?_);repeat(refine sN fun _=>?_;try refine sU ?_))
    refine SxFill.one rfl (enC_len _) ?_
    ((try refine sU ?_);repeat(refine sN fun _=>?_;try refine sU ?_))
    refine SxApp.mk 1 rfl 0 (.inr (.inr (.inr ⟨by decide, _, rfl⟩))) (m := 1) (by show (enE.enc r.en).length = 1 * 35; exact enE.len _) (enE.one _) (by unfold maxLen; omega) (by omega) (cs' := enE.fl (knR (K.take (i + 1)))) (by rw [hnx, enE.fl_append, enE.fl_one]; rfl) fun ao' cap' => ?_
    ((try refine sU ?_);repeat(refine sN fun _=>?_;try refine sU ?_))
    exact SxRound.mk (i + 1, ao', cap') [1, 2] rfl rfl rfl hlt (by dsimp only; omega)
  · obtain rfl : i = K.length := by omega
    rw [List.take_length]
    ((try refine sU ?_);repeat(refine sN fun _=>?_;try refine sU ?_))
    rw [knR_lenS]
    exact SxDone.mk fun w' hs => ⟨oo, oc, rfl, hs.newRow 0 rfl⟩
end Go.Proofs.YtlmefcepdadfjaaGreat
/- Package slices at api.Manifest. -/
namespace Go.Proofs.YtlmefcepdadfjaaGreat
open Go.RowKit

theorem rowMf_len (l : List Mb) : (mbE.fl l).length = l.length * 2 := mbE.fl_len l
theorem CloneMf_any (l : List Mb) (ao : Option Addr) (cap : Nat) (hl : l.length ≤ 1000000) (w : World) (hr : Rd w ao (mbE.fl l)) :
    Calls Tryz.prog 88 #[.slice ao l.length cap] w fun e w' => ∃ ao' cap', e = .returned (.slice ao' l.length cap') ∧ NewRow w w' ao' l.length cap' 67 2 (mbE.fl l) := by
  refine sx_fn (S := SX) (M := []) (N := 8) (H0 := [.row none 0 0 67 2 [], .rd ao (mbE.fl l)]) Tryz.func88 rfl rfl rfl ((Sat.oneRd _ hr).nilRow 67 2) ?_
  ((try refine sU ?_);repeat(refine sN fun _=>?_;try refine sU ?_))
  refine SxRun.sEqNil Tryz.underlying49 ?_
  cases ao with
  | none =>
    have h0 : l = [] := by
      cases l with
      | nil => rfl
      | cons x l => obtain ⟨g, off, h, _⟩ := hr.2 (mbE.fl_ne (by simp)); cases h
    subst h0
    ((try refine sU ?_);repeat(refine sN fun _=>?_;try refine sU ?_))
    exact SxDone.mk fun w' hs => ⟨none, 0, rfl, hs.newRow 0 rfl⟩
  | some a =>
    ((try refine sU ?_);repeat(refine sN fun _=>?_;try refine sU ?_))
    refine SxApp.mk 0 rfl 2 (.inr (.inl rfl)) (rowMf_len l) (mbE.fl_allOne l) (by unfold maxLen; omega) (by omega) rfl fun ao' cap' => ?_
    ((try refine sU ?_);repeat(refine sN fun _=>?_;try refine sU ?_))
    exact SxDone.mk fun w' hs => ⟨ao', cap', by rw [Nat.zero_add]; rfl, by have := hs.newRow 0 rfl; rw [Nat.zero_add] at this; exact this⟩
end Go.Proofs.YtlmefcepdadfjaaGreat
/- Package slices at stream.NewBox. -/
namespace Go.Proofs.YtlmefcepdadfjaaGreat
open Go.RowKit

theorem rowNb_len (l : List Mb) : (mbE.fl l).length = l.length * 2 := mbE.fl_len l
theorem CloneNb_any (l : List Mb) (ao : Option Addr) (cap : Nat) (hl : l.length ≤ 1000000) (w : World) (hr : Rd w ao (mbE.fl l)) :
    Calls Tryz.prog 89 #[.slice ao l.length cap] w fun e w' => ∃ ao' cap', e = .returned (.slice ao' l.length cap') ∧ NewRow w w' ao' l.length cap' 60 2 (mbE.fl l) := by
  refine sx_fn (S := SX) (M := []) (N := 8) (H0 := [.row none 0 0 60 2 [], .rd ao (mbE.fl l)]) Tryz.func89 rfl rfl rfl ((Sat.oneRd _ hr).nilRow 60 2) ?_
  ((try refine sU ?_);repeat(refine sN fun _=>?_;try refine sU ?_))
  refine SxRun.sEqNil Tryz.underlying50 ?_
  cases ao with
  | none =>
    have h0 : l = [] := by
      cases l with
      | nil => rfl
      | cons x l => obtain ⟨g, off, h, _⟩ := hr.2 (mbE.fl_ne (by simp)); cases h
    subst h0
    ((try refine sU ?_);repeat(refine sN fun _=>?_;try refine sU ?_))
    exact SxDone.mk fun w' hs => ⟨none, 0, rfl, hs.newRow 0 rfl⟩
  | some a =>
    ((try refine sU ?_);repeat(refine sN fun _=>?_;try refine sU ?_))
    refine SxApp.mk 0 rfl 2 (.inr (.inl rfl)) (rowNb_len l) (mbE.fl_allOne l) (by unfold maxLen; omega) (by omega) rfl fun ao' cap' => ?_
    ((try refine sU ?_);repeat(refine sN fun _=>?_;try refine sU ?_))
    exact SxDone.mk fun w' hs => ⟨ao', cap', by rw [Nat.zero_add]; rfl, by have := hs.newRow 0 rfl; rw [Nat.zero_add] at this; exact this⟩
end Go.Proofs.YtlmefcepdadfjaaGreat
/- Layer 23: a stream in memory; ahead; a stream of its own (copied). -/
namespace Go.Proofs.YtlmefcepdadfjaaGreat
open Go.RowKit

abbrev Mr := Int × Drow En
def Mr.mb (m : Mr) : Mb := (m.1, m.2.ao, m.2.l.length, m.2.cap)
def Mr.mn (m : Mr) : Mn := (m.1, m.2.l)
def maL (ms : List Mr) : RdL := ms.map fun m => (m.2.ao, enE.fl m.2.l)
theorem maL_mem {ms : List Mr} {m : Mr} (h : m ∈ ms) : (m.2.ao, enE.fl m.2.l) ∈ maL ms := List.mem_map.2 ⟨m, h, rfl⟩
theorem Mr.mb_at {ms : List Mr} {k : Nat} {x : Mr} (h : ms[k]? = some x) : (ms.map Mr.mb)[k]? = some x.mb := by rw [List.getElem?_map, h]; rfl
structure Sr where
  box : Int
  man : Int
  ms : List Mr
  mo : Option Addr
  mc : Nat
  bs : List Nb
  bo : Option Addr
  bc : Nat
  last : Int
  fresh : Int
  c : Nat → Int
  L : Lb
  left : ByteArray
  ch : List ByteArray
  co : Option Addr
  cc : Nat
  fo : Option Addr
  fc : Nat
  wa : Nat
  wb : Nat
  n : Int
def Sr.cells (σ : Sr) : List Value := smC σ.box σ.man (.slice σ.mo σ.ms.length σ.mc) (.slice σ.bo σ.bs.length σ.bc) σ.last σ.fresh σ.c σ.L.kn σ.L.bt σ.left (.slice σ.co σ.ch.length σ.cc) (.slice σ.fo σ.ch.length σ.fc) (.complex .f64 σ.wa σ.wb) σ.n
def Sr.rds (σ : Sr) : RdL := (σ.mo, mbE.fl (σ.ms.map Mr.mb)) :: (σ.bo, mbE.fl (σ.bs.map Nb.mb)) :: (σ.co, strE.fl σ.ch) :: (σ.fo, fqE.fl (σ.ch.map bFq)) :: (maL σ.ms ++ bxL σ.bs)
theorem Sr.rds_ms (σ : Sr) : (σ.mo, mbE.fl (σ.ms.map Mr.mb)) ∈ σ.rds := by simp [Sr.rds]
theorem Sr.rds_bs (σ : Sr) : (σ.bo, mbE.fl (σ.bs.map Nb.mb)) ∈ σ.rds := by simp [Sr.rds]
theorem Sr.rds_ch (σ : Sr) : (σ.co, strE.fl σ.ch) ∈ σ.rds := by simp [Sr.rds]
theorem Sr.rds_fp (σ : Sr) : (σ.fo, fqE.fl (σ.ch.map bFq)) ∈ σ.rds := by simp [Sr.rds]
theorem Sr.rds_m {σ : Sr} {m : Mr} (h : m ∈ σ.ms) : (m.2.ao, enE.fl m.2.l) ∈ σ.rds := by
  have := maL_mem h
  simp [Sr.rds, this]
theorem Sr.rds_b {σ : Sr} {b : Nb} (h : b ∈ σ.bs) : (b.2.ao, strE.fl b.2.l) ∈ σ.rds := by
  have := bxL_mem h
  simp [Sr.rds, this]
theorem Weak.merge {H : Hp} {L L' : RdL} {a : Ent} (p q : Nat) (_hpq : p ≠ q) (hp : H[p]? = some a) (hq : H[q]? = some (.gen (rdsG L))) (e k : Nat) (hh : ∀ W M w, Sat W M H w → RdAll w L') (hu : ∀ g, (rdsG L').uses g → (rdsG L).uses g ∨ a.uses g) : Weak H ((H.set p (.row none 0 0 e k [])).set q (.gen (rdsG L'))) := fun W M w hs => by
  have hpl := (List.getElem?_eq_some_iff.1 hp).1
  have hql := (List.getElem?_eq_some_iff.1 hq).1
  have get : ∀ i x, ((H.set p (.row none 0 0 e k [])).set q (.gen (rdsG L')))[i]? = some x → (i = q ∧ x = .gen (rdsG L')) ∨ (i = p ∧ x = .row none 0 0 e k []) ∨ (i ≠ p ∧ i ≠ q ∧ H[i]? = some x) := by
    intro i x hi
    rw [List.getElem?_set] at hi
    by_cases h : q = i
    · subst h
      rw [if_pos rfl, if_pos (by simpa using hql)] at hi
      exact .inl ⟨rfl, (Option.some.inj hi).symm⟩
    · rw [if_neg h, List.getElem?_set] at hi
      by_cases h2 : p = i
      · subst h2
        rw [if_pos rfl, if_pos hpl] at hi
        exact .inr (.inl ⟨rfl, (Option.some.inj hi).symm⟩)
      · rw [if_neg h2] at hi
        exact .inr (.inr ⟨fun e => h2 e.symm, fun e => h e.symm, hi⟩)
  refine ⟨hs.touch, fun i x hi => ?_, fun i x hi g hg => ?_, fun i j x y hij hi hj g hg hy => ?_⟩
  · rcases get i x hi with ⟨_, rfl⟩ | ⟨_, rfl⟩ | ⟨_, _, h⟩
    · exact hh W M w hs
    · exact World.ownsRow_nil w 0 e k
    · exact hs.holds i x h
  · rcases get i x hi with ⟨_, rfl⟩ | ⟨_, rfl⟩ | ⟨_, _, h⟩
    · cases hg
    · cases hg
    · exact hs.own i x h g hg
  · rcases get i x hi with ⟨_, rfl⟩ | ⟨_, rfl⟩ | ⟨hip, hiq, h⟩
    · cases hg
    · cases hg
    · rcases get j y hj with ⟨_, rfl⟩ | ⟨_, rfl⟩ | ⟨_, _, h2⟩
      · rcases hu g hy with h3 | h3
        · exact hs.sep i q x _ hiq h hq g hg h3
        · exact hs.sep i p x _ hip h hp g hg h3
      · simp [Ent.uses] at hy
      · exact hs.sep i j x y hij h h2 g hg hy
def topRow (bs : List Nb) : Ent := match bs.getLast? with
  | some b => .row b.2.ao b.2.l.length b.2.cap 9 1 (strE.fl b.2.l)
  | none => .row none 0 0 9 1 []
theorem topRow_snoc (bs : List Nb) (b : Nb) : topRow (bs ++ [b]) = .row b.2.ao b.2.l.length b.2.cap 9 1 (strE.fl b.2.l) := by unfold topRow; rw [List.getLast?_concat]
theorem Sat.boxes {W : World} {M : List Nat} {H : Hp} {w : World} (hs : Sat W M H w) {bs : List Nb} (hm : ∀ b ∈ bs, b.2.l.length ≤ 1000000) (p q : Nat) (hp : H[p]? = some (topRow bs)) (hq : H[q]? = some (.gen (rdsG (bxL bs.dropLast)))) : RdAll w (bxL bs) := by
  rcases List.eq_nil_or_concat bs with h0 | ⟨bs', b, h0⟩
  · subst h0; exact RdAll.nil w
  · rw [List.concat_eq_append] at h0
    subst h0
    rw [topRow_snoc] at hp
    have h1 := hs.rowRd p hp (by rw [rowSr_len]; have := hm b (by simp); unfold maxLen; omega)
    have h2 := hs.rds1 q hq
    rw [List.dropLast_concat] at h2
    unfold bxL at h2 ⊢
    rw [List.map_append]
    exact h2.app ((RdAll.nil w).cons h1)
theorem Weak.boxes {H : Hp} {bs : List Nb} (hm : ∀ b ∈ bs, b.2.l.length ≤ 1000000) (p q : Nat) (hpq : p ≠ q) (hp : H[p]? = some (topRow bs)) (hq : H[q]? = some (.gen (rdsG (bxL bs.dropLast)))) : Weak H ((H.set p (.row none 0 0 9 1 [])).set q (.gen (rdsG (bxL bs)))) := by
  refine Weak.merge p q hpq hp hq _ _ (fun W M w hs => hs.boxes hm p q hp hq) fun g hg => ?_
  obtain ⟨x, hx, hu⟩ := hg
  unfold bxL at hx
  obtain ⟨b, hb, rfl⟩ := List.mem_map.1 hx
  rcases List.eq_nil_or_concat bs with h0 | ⟨bs', d, h0⟩
  · subst h0; cases hb
  · rw [List.concat_eq_append] at h0
    subst h0
    rw [topRow_snoc, List.dropLast_concat]
    rcases List.mem_append.1 hb with h1 | h1
    · exact .inl ⟨_, List.mem_map.2 ⟨b, h1, rfl⟩, hu⟩
    · obtain rfl := List.mem_singleton.1 h1
      exact .inr hu.2
set_option maxHeartbeats 4000000 in
theorem ahead_any (ms : List Mr) (hml : ms.length ≤ 1000000) (g : Nat) (mo : Option Addr) (mc : Nat) (bx mn : Value) (rest : List Value) (w : World) (hr : Rd w (some ⟨g, 0, none⟩) (bx :: mn :: .slice mo ms.length mc :: rest)) (hm : Rd w mo (mbE.fl (ms.map Mr.mb))) :
    Calls Tryz.prog 69 #[.pointer (some ⟨g, 0, none⟩)] w fun r w' => r = .returned ((ms.getLast?.map fun m => m.2.v).getD nilS) ∧ Below w.heap.size w w' := by
  refine sx_fn (S := SX) (M := []) (N := 20) (H0 := [.rd (some ⟨g, 0, none⟩) (bx :: mn :: .slice mo ms.length mc :: rest), .rd mo (mbE.fl (ms.map Mr.mb))]) Tryz.func69 rfl rfl rfl (Sat.twoRd _ hr hm) ?_
  rcases List.eq_nil_or_concat ms with h0 | ⟨ms', m, h0⟩
  · subst h0
    ((try refine sU ?_);repeat(refine sN fun _=>?_;try refine sU ?_))
    refine SxLd.rd 0 rfl rfl (j := 2) (v := .slice mo 0 mc) rfl rfl ?_
    ((try refine sU ?_);repeat(refine sN fun _=>?_;try refine sU ?_))
    exact SxDone.mk fun w' hs => ⟨rfl, hs.touch.below⟩
  · rw [List.concat_eq_append] at h0
    subst h0
    have hl : (ms' ++ [m]).length = ms'.length + 1 := by simp
    have hat : ((ms' ++ [m]).map Mr.mb)[ms'.length]? = some m.mb := Mr.mb_at (by simp)
    have hlt : ms'.length * 2 < (mbE.fl ((ms' ++ [m]).map Mr.mb)).length := by rw [mbE_len, List.length_map, hl]; omega
    have hml' : ms'.length + 1 ≤ 1000000 := by omega
    rw [hl]
    ((try refine sU ?_);repeat(refine sN fun _=>?_;try refine sU ?_))
    refine SxLd.rd 0 rfl rfl (j := 2) (v := .slice mo (ms'.length + 1) mc) rfl rfl ?_
    ((try refine sU ?_);repeat(refine sN fun _=>?_;try refine sU ?_))
    refine SxLd.rd 0 rfl rfl (j := 2) (v := .slice mo (ms'.length + 1) mc) rfl rfl ?_
    ((try refine sU ?_);repeat(refine sN fun _=>?_;try refine sU ?_))
    refine SxIA.rd 1 _ rfl ms'.length (by first | omega | (dsimp only; omega)) (by omega) hlt fun g1 off ha => ?_
    ((try refine sU ?_);repeat(refine sN fun _=>?_;try refine sU ?_))
    refine SxLd.rd 1 rfl ha (by omega) (j := ms'.length * 2 + 1) (v := m.2.v) (mbE.fl_cell hat rfl) ?_
    ((try refine sU ?_);repeat(refine sN fun _=>?_;try refine sU ?_))
    refine SxDone.mk fun w' hs => ⟨?_, hs.touch.below⟩
    rw [List.getLast?_concat]; rfl
end Go.Proofs.YtlmefcepdadfjaaGreat
/- A row joins what is only read. -/
namespace Go.Proofs.YtlmefcepdadfjaaGreat
open Go.RowKit

theorem Weak.join {H : Hp} {L : RdL} {ao : Option Addr} {n cap e k : Nat} {cs : List Value} (hm : cs.length ≤ maxLen) (p q : Nat) (hpq : p ≠ q) (hp : H[p]? = some (.row ao n cap e k cs)) (hq : H[q]? = some (.gen (rdsG L))) {L' : RdL} (hL : ∀ x ∈ L', x ∈ L ∨ x = (ao, cs)) : Weak H ((H.set p (.row none 0 0 e k [])).set q (.gen (rdsG L'))) := by
  refine Weak.merge p q hpq hp hq _ _ (fun W M w hs x hx => ?_) fun g hg => ?_
  · rcases hL x hx with h | rfl
    · exact hs.rds1 q hq x h
    · exact hs.rowRd p hp hm
  · obtain ⟨x, hx, hu⟩ := hg
    rcases hL x hx with h | rfl
    · exact .inl ⟨x, h, hu⟩
    · exact .inr hu.2
end Go.Proofs.YtlmefcepdadfjaaGreat
/- Layer 23: the law's own: the document's library of a case. -/
namespace Go.Proofs.YtlmefcepdadfjaaGreat
open Go.RowKit

def bangB : ByteArray := ⟨#[33]⟩
def Tw.rk (t : Tw) : Rk := ⟨⟨(bFq t.s).1, (t.s.size : Nat), (t.bx : Int) + 1, (t.sl : Nat), (bFq t.s).2⟩, !t.none_, if t.other then t.s ++ bangB else t.s⟩
def Tw.en (t : Tw) : En := ⟨(bFq t.s).1, (t.s.size : Nat), (t.bx : Int) + 1, (t.sl : Nat), (bFq t.s).2⟩
noncomputable def libP {w : World} (gs : List (Gw w)) : List (List Rk) := gs.map fun g => g.l.map Tw.rk
theorem libP_snoc {w : World} {gs : List (Gw w)} {i : Nat} {g : Gw w} (h : gs[i]? = some g) : libP (gs.take (i + 1)) = libP (gs.take i) ++ [g.l.map Tw.rk] := by unfold libP; rw [take_snocE h, List.map_append]; rfl
theorem rkC_whole (r : Rk) : ((rkC r).drop 0).take 37 = rkC r := by rw [List.drop_zero, List.take_of_length_le (by rw [rkC_len]; exact Nat.le_refl _)]
structure Lj2 where
  i : Nat
  oo : Option Addr
  oc : Nat
  ds : List (Drow Rk)
set_option maxHeartbeats 16000000 in
theorem library_sat {w0 : World} {W : World} {M : List Nat} {R : Hp} {w : World} (c : Nat → Int) (box man : Int) (go : Option Addr) (gn gc : Nat) (gs : List (Gw w0)) (pv : Value) (hgl : gs.length = min gn 1000) (pn : Nat) (ps : List ByteArray) (hli : Light gn gs pn ps)
    (hs : Sat W M (.rd go ((gwE w0).fl gs) :: .gen (rdsG (gwL gs)) :: R) w) :
    Calls Tryz.prog 12 #[.agg (caC c box man (.slice go gn gc) pv).toArray] w fun e w' => ∃ lo lc ds, e = .returned (.agg (lbC lo ds.length lc).toArray) ∧ ds.map (·.l) = libP gs ∧ Sat W M (.gen (rdsG (grL lo ds)) :: .rd go ((gwE w0).fl gs) :: .gen (rdsG (gwL gs)) :: R) w' := by
  have hgn := hli.gn
  refine sx_fn (S := SX) (N := 73) Tryz.func12 rfl rfl rfl hs ?_
  ((try refine sU ?_);repeat(refine sN fun _=>?_;try refine sU ?_))
  refine SxCode.wk (Weak.nil 92 1) ?_
  refine SxCode.wk (Weak.rds0 _) ?_
  rename_i b1 b2 b3
  refine SxCode.loop (σ := Lj2) [4] [10, 11, 12, 13, 14, 5, 6, 17, 18, 19, 20, 21, 22, 23, 24, 27, 28, 29, 30, 31, 32, 33, 34, 7, 35, 36, 37, 38, 39, 40, 41, 42, 43, 44, 45, 46, 47, 48, 8, 49, 50, 51, 52, 53, 54, 55, 9, 56, 57, 58, 59, 60, 61, 62, 63, 64, 65, 25, 26, 66, 67, 68, 69, 70, 71, 15, 16, 4] (fun x => [.int .i64 (x.i : Nat)]) (fun x => .gen (rdsG (x.ds.map fun d => (d.ao, rkE.fl d.l))) :: .row x.oo x.i x.oc 92 1 ((dvE (α := Rk)).fl x.ds) :: .blk b3 36 (lbC x.oo x.i x.oc) :: .blk b2 36 (lbC none 0 0) :: .blk b1 28 (caC c box man (.slice go gn gc) pv) :: .rd go ((gwE w0).fl gs) :: .gen (rdsG (gwL gs)) :: R)
    (fun x => x.i ≤ gn ∧ x.ds.length = x.i ∧ x.ds.map (·.l) = libP (gs.take x.i)) (fun x => gn - x.i) ⟨0, none, 0, []⟩ ([0, 1, 2, 3, 4, 5, 6] ++ tailIx 7 R.length) rfl rfl (pickH_append (A := [_, _, _, _, _, _, _]) rfl (pickH_tail (L := R) 7 rfl rfl)) (nodup_tail 7 _ rfl rfl) ⟨Nat.zero_le _, rfl, rfl⟩ ?_
  rintro ⟨i, oo, oc, ds⟩ ⟨hi, hdl, hdm⟩
  dsimp only at hi hdl hdm ⊢
  by_cases hlt : i < gn
  · obtain ⟨G, hG⟩ : ∃ G, gs[i]? = some G := ⟨gs[i]'(by omega), by simp [show i < gs.length by omega]⟩
    have hGm := List.mem_of_getElem? hG
    have hGl := G.l_spec.1
    obtain ⟨hG1, hG2⟩ := hli.g G hGm
    have hi1 : i * 1 < ((gwE w0).fl gs).length := by rw [gwE_len]; omega
    have hlib := libP_snoc hG
    ((try refine sU ?_);repeat(refine sN fun _=>?_;try refine sU ?_))
    refine SxCode.wk (Weak.nil 94 37) ?_
    refine SxCode.loop (σ := Nat × Option Addr × Nat) [6, 5] [17, 18, 19, 20, 21, 22, 23, 24, 27, 28, 29, 30, 31, 32, 33, 34, 7, 35, 36, 37, 38, 39, 40, 41, 42, 43, 44, 45, 46, 47, 48, 8, 49, 50, 51, 52, 53, 54, 55, 9, 56, 57, 58, 59, 60, 61, 62, 63, 64, 65, 5, 25, 26, 6] (fun x => [.int .i64 (x.1 : Nat), .slice x.2.1 x.1 x.2.2]) (fun x => .row x.2.1 x.1 x.2.2 94 37 (rkE.fl ((G.l.take x.1).map Tw.rk)) :: .gen (rdsG (ds.map fun d => (d.ao, rkE.fl d.l))) :: .row oo i oc 92 1 ((dvE (α := Rk)).fl ds) :: .blk b3 36 (lbC oo i oc) :: .blk b2 36 (lbC none 0 0) :: .blk b1 28 (caC c box man (.slice go gn gc) pv) :: .rd go ((gwE w0).fl gs) :: .gen (rdsG (gwL gs)) :: R)
      (fun x => x.1 ≤ G.1.n) (fun x => G.1.n - x.1) (0, none, 0) ([0, 1, 2, 3, 4, 5, 6, 7] ++ tailIx 8 R.length) rfl rfl (pickH_append (A := [_, _, _, _, _, _, _, _]) rfl (pickH_tail (L := R) 8 rfl rfl)) (nodup_tail 8 _ rfl rfl) (Nat.zero_le _) ?_
    rintro ⟨k, xo, xc⟩ hk
    dsimp only at hk ⊢
    by_cases hkl : k < G.1.n
    · obtain ⟨t, ht⟩ : ∃ t, G.l[k]? = some t := ⟨G.l[k]'(by omega), by simp [show k < G.l.length by omega]⟩
      have hts := hG2 t (List.mem_of_getElem? ht)
      have hsn : (G.l.take (k + 1)).map Tw.rk = (G.l.take k).map Tw.rk ++ [t.rk] := by rw [take_snocE ht, List.map_append]; rfl
      have hb := t.h1
      have hsl := t.h2
      have htw : ((twE.fl G.l).drop (k * 5)).take 5 = twC t := twE.fl_at ht
      ((try refine sU ?_);repeat(refine sN fun _=>?_;try refine sU ?_))
      refine SxIA.rd 6 _ rfl i rfl hlt hi1 fun g off ha => ?_
      ((try refine sU ?_);repeat(refine sN fun _=>?_;try refine sU ?_))
      refine SxLd.rd 6 rfl ha rfl (j := i * 1) (gwE_at hG) ?_
      ((try refine sU ?_);repeat(refine sN fun _=>?_;try refine sU ?_))
      refine SxIA.rd 6 _ rfl i rfl hlt hi1 fun g off ha => ?_
      ((try refine sU ?_);repeat(refine sN fun _=>?_;try refine sU ?_))
      refine SxLd.rd 6 rfl ha rfl (j := i * 1) (gwE_at hG) ?_
      ((try refine sU ?_);repeat(refine sN fun _=>?_;try refine sU ?_))
      refine SxIA.of 7 rfl (gwL_mem hGm) k rfl hkl (by rw [twE_len]; omega) fun g off ha => ?_
      ((try refine sU ?_);repeat(refine sN fun _=>?_;try refine sU ?_))
      refine SxLdN.of 7 rfl (gwL_mem hGm) ha rfl (vs := twC t) rfl htw ?_
      ((try refine sU ?_);repeat(refine sN fun _=>?_;try refine sU ?_))
      rename_i bt
      refine SxCode.draw rfl [.blk bt 90 (twC t)] [] [0] rfl rfl ?_
      ((try refine sU ?_);repeat(refine sN fun _=>?_;try refine sU ?_))
      refine SxRng.u32 (by omega) (by omega) ?_
      ((try refine sU ?_);repeat(refine sN fun _=>?_;try refine sU ?_))
      refine SxRng.u32 (by omega) (by omega) ?_
      ((try refine sU ?_);repeat(refine sN fun _=>?_;try refine sU ?_))
      refine any_two rfl rfl rfl rfl rfl rfl rfl ?_ ?_
      case' refine_1 =>
        refine SxCall.rsumF t.s (by omega) ?_
        ((try refine sU ?_);repeat(refine sN fun _=>?_;try refine sU ?_))
      case' refine_2 =>
        ((try refine sU ?_);repeat(refine sN fun _=>?_;try refine sU ?_))
        refine SxCall.rsumF t.s (by omega) ?_
        ((try refine sU ?_);repeat(refine sN fun _=>?_;try refine sU ?_))
      all_goals
        refine SxFill.first rfl (fqC_len _) rfl ?_
        refine SxFill.tail (fun i => match i with | 1 => some (0, 1) | 2 => some (1, 1) | 3 => some (2, 1) | _ => none) (fqC_len _) (by
          intro y hy
          simp only [List.mem_cons, List.not_mem_nil, or_false] at hy
          rcases hy with rfl | rfl | rfl <;> exact ⟨_, _, rfl, rfl⟩) ?_
        refine SxFill.ok rfl rfl ?_
        ((try refine sU ?_);repeat(refine sN fun _=>?_;try refine sU ?_))
        refine SxSt.elem enE (x := t.en) 0 rfl rfl ?_
        ((try refine sU ?_);repeat(refine sN fun _=>?_;try refine sU ?_))
        rename_i be
        refine SxLdN.blk 0 rfl (vs := enC t.en) (enC_len _) (enC_whole _) ?_
        ((try refine sU ?_);repeat(refine sN fun _=>?_;try refine sU ?_))
        refine SxFill.first rfl (enC_len _) rfl ?_
        refine SxFill.tail (fun i => match i with | 1 => some (0, 1) | 2 => some (1, 1) | _ => none) (enC_len _) (by
          intro y hy
          simp only [List.mem_cons, List.not_mem_nil, or_false] at hy
          rcases hy with rfl | rfl <;> exact ⟨_, _, rfl, rfl⟩) ?_
        refine SxFill.ok rfl rfl ?_
        ((try refine sU ?_);repeat(refine sN fun _=>?_;try refine sU ?_))
        refine SxSt.elem rkE (x := ⟨t.en, !t.none_, t.s⟩) 0 rfl rfl ?_
        ((try refine sU ?_);repeat(refine sN fun _=>?_;try refine sU ?_))
        rename_i br
        refine SxIf.mk (fun ho => ?_) (fun ho => ?_)
        case' refine_1 =>
          have hrk : (⟨t.en, !t.none_, t.s ++ bangB⟩ : Rk) = t.rk := by unfold Tw.rk; rw [if_pos ho]; rfl
          ((try refine sU ?_);repeat(refine sN fun _=>?_;try refine sU ?_))
          refine SxLe.mk (by have h1 : (⟨#[33]⟩ : ByteArray).size = 1 := rfl; omega) ?_
          ((try refine sU ?_);repeat(refine sN fun _=>?_;try refine sU ?_))
          refine SxSt.blk 0 rfl (by show Nat.ble (36 + 1) (rkC _).length = true; rw [rkC_len]; rfl) rfl (cs' := rkC ⟨t.en, !t.none_, t.s ++ bangB⟩) (by show splice (35 + 1) _ (enC _ ++ _) = _; rw [splice_app (enC_len _)]; rfl) ?_
          rw [hrk]
        case' refine_2 =>
          have hrk : (⟨t.en, !t.none_, t.s⟩ : Rk) = t.rk := by unfold Tw.rk; rw [if_neg (by rw [ho]; simp)]; rfl
          rw [hrk]
        all_goals
          ((try refine sU ?_);repeat(refine sN fun _=>?_;try refine sU ?_))
          refine SxLdN.blk 0 rfl (vs := rkC t.rk) (rkC_len _) (rkC_whole _) ?_
          ((try refine sU ?_);repeat(refine sN fun _=>?_;try refine sU ?_))
          refine SxFill.one rfl (rkC_len _) ?_
          ((try refine sU ?_);repeat(refine sN fun _=>?_;try refine sU ?_))
          refine SxApp.mk 4 rfl 0 (.inr (.inr (.inr ⟨by decide, _, rfl⟩))) (vs := rkC t.rk) (m := 1) (by rw [rkC_len]) (rkC_one _) (by unfold maxLen; omega) (by omega) (cs' := rkE.fl ((G.l.take (k + 1)).map Tw.rk)) (by rw [hsn, rkE.fl_append, rkE.fl_one]; rfl) fun xo' xc' => ?_
          ((try refine sU ?_);repeat(refine sN fun _=>?_;try refine sU ?_))
          exact SxRound.mk (k + 1, xo', xc') ([4, 5, 6, 7, 8, 9, 10, 11] ++ tailIx 12 R.length) rfl (pickH_append (A := [_, _, _, _, _, _, _, _]) rfl (pickH_tail (L := R) 12 rfl rfl)) (nodup_tail 12 _ rfl rfl) hkl (by dsimp only; omega)
    · obtain rfl : k = G.1.n := by omega
      ((try refine sU ?_);repeat(refine sN fun _=>?_;try refine sU ?_))
      refine SxIA.rd 6 _ rfl i rfl hlt hi1 fun g off ha => ?_
      ((try refine sU ?_);repeat(refine sN fun _=>?_;try refine sU ?_))
      refine SxLd.rd 6 rfl ha rfl (j := i * 1) (gwE_at hG) ?_
      rw [List.take_of_length_le (by omega)]
      ((try refine sU ?_);repeat(refine sN fun _=>?_;try refine sU ?_))
      rename_i bs1
      refine SxApp.mk 3 rfl 0 (.inr (.inr (.inr ⟨by decide, _, rfl⟩))) (vs := [.slice xo G.1.n xc]) (m := 1) rfl rfl (by unfold maxLen; omega) (by omega) (cs' := (dvE (α := Rk)).fl (ds ++ [⟨xo, xc, G.l.map Tw.rk⟩])) (by rw [(dvE (α := Rk)).fl_append]; show _ = _ ++ [Value.slice xo (G.l.map Tw.rk).length xc]; rw [List.length_map, hGl, Nat.min_eq_left (by omega)]) fun oo' oc' => ?_
      ((try refine sU ?_);repeat(refine sN fun _=>?_;try refine sU ?_))
      refine SxRound.via ⟨i + 1, oo', oc', ds ++ [⟨xo, xc, G.l.map Tw.rk⟩]⟩ rfl (Weak.trans (Weak.join (L' := (ds ++ [(⟨xo, xc, G.l.map Tw.rk⟩ : Drow Rk)]).map fun d => (d.ao, rkE.fl d.l)) (by rw [rkE_len, List.length_map]; unfold maxLen; omega) 1 2 (by decide) rfl rfl (fun y hy => by
        rw [List.map_append] at hy
        rcases List.mem_append.1 hy with h | h
        · exact .inl h
        · exact .inr (List.mem_singleton.1 h))) (Weak.pick (ks := [2, 3, 4, 5, 6, 7, 8] ++ tailIx 9 R.length) (pickH_append (A := [_, _, _, _, _, _, _]) rfl (pickH_tail (L := R) 9 rfl rfl)) (nodup_tail 9 _ rfl rfl))) ⟨hlt, by dsimp only; rw [List.length_append, hdl]; rfl, by dsimp only; rw [List.map_append, hdm, hlib]; rfl⟩ (by dsimp only; omega)
  · obtain rfl : i = gn := by omega
    rw [List.take_of_length_le (by omega)] at hdm
    ((try refine sU ?_);repeat(refine sN fun _=>?_;try refine sU ?_))
    refine SxDone.mk fun w' hs => ⟨oo, oc, ds, ?_, hdm, ?_⟩
    · rw [hdl]; rfl
    · have h1 := Weak.join (L' := grL oo ds) (by rw [dvE_len]; unfold maxLen; omega) 1 0 (by decide) rfl rfl (fun x hx => by
        rcases List.mem_cons.1 hx with h | h
        · exact .inr h
        · exact .inl h) _ _ _ hs
      exact h1.pick (ks := [0, 5, 6] ++ tailIx 7 R.length) (pickH_append (A := [_, _, _]) rfl (pickH_tail (L := R) 7 rfl rfl)) (nodup_tail 7 _ rfl rfl)
end Go.Proofs.YtlmefcepdadfjaaGreat
/- Layer 23: what was laid, as one's own. -/
namespace Go.Proofs.YtlmefcepdadfjaaGreat
open Go.RowKit

theorem mb_set1 {l : List Mb} {k : Nat} {x : Mb} (h : l[k]? = some x) (a : Option Addr) (n c : Nat) : splice (k * 2 + 1) [.slice a n c] (mbE.fl l) = mbE.fl (l.set k (x.1, a, n, c)) := by
  obtain ⟨hl, he⟩ := List.getElem?_eq_some_iff.1 h
  have hs : l = l.take k ++ x :: l.drop (k + 1) := by rw [← he, List.getElem_cons_drop, List.take_append_drop]
  have hk : (l.take k).length = k := by rw [List.length_take]; omega
  have e : mbE.fl l = mbE.fl (l.take k) ++ (mbE.enc x ++ mbE.fl (l.drop (k + 1))) := by rw [← Enc.fl_cons, ← Enc.fl_append, ← hs]
  rw [e, splice_app (by rw [mbE_len, hk]), List.set_eq_take_append_cons_drop, if_pos hl, Enc.fl_append, Enc.fl_cons]
  rfl
set_option maxHeartbeats 8000000 in
theorem lcopied_sat {W : World} {M : List Nat} {R : Hp} {w : World} (σ : Sr) (hml : σ.ms.length ≤ 1000000) (hbl : σ.bs.length ≤ 1000000) (hcl : ∀ b ∈ σ.bs, b.2.l.length ≤ 1000000) (g : Nat) (hs : Sat W M (.blk g 101 σ.cells :: .gen (rdsG σ.rds) :: R) w) :
    Calls Tryz.prog 59 #[.pointer (some ⟨g, 0, none⟩)] w fun e w' => ∃ mo mc bo bc ds, e = .returned (.agg (ldC σ.box σ.man (.slice mo σ.ms.length mc) (.slice bo σ.bs.length bc) σ.last σ.fresh).toArray) ∧ ds.map Nb.bx = σ.bs.map Nb.bx ∧
      Sat W M (.row bo σ.bs.length bc 60 2 (mbE.fl (ds.map Nb.mb)) :: topRow ds :: .gen (rdsG (bxL ds.dropLast)) :: .row mo σ.ms.length mc 67 2 (mbE.fl (σ.ms.map Mr.mb)) :: .blk g 101 σ.cells :: .gen (rdsG σ.rds) :: R) w' := by
  have hmm : (σ.ms.map Mr.mb).length = σ.ms.length := List.length_map ..
  have hbm : (σ.bs.map Nb.mb).length = σ.bs.length := List.length_map ..
  refine sx_fn (S := SX) (N := 40) Tryz.func59 rfl rfl rfl hs ?_
  ((try refine sU ?_);repeat(refine sN fun _=>?_;try refine sU ?_))
  refine SxCall.newRow (v := fun ao cap => .slice ao σ.ms.length cap) (fun w1 hs1 => by
    have h := CloneMf_any (σ.ms.map Mr.mb) σ.mo σ.mc (by omega) w1 (hs1.rdIn 3 rfl σ.rds_ms)
    rw [hmm] at h
    exact h) fun mo mc => ?_
  ((try refine sU ?_);repeat(refine sN fun _=>?_;try refine sU ?_))
  refine SxCall.newRow (v := fun ao cap => .slice ao σ.bs.length cap) (fun w1 hs1 => by
    have h := CloneNb_any (σ.bs.map Nb.mb) σ.bo σ.bc (by omega) w1 (hs1.rdIn 4 rfl σ.rds_bs)
    rw [hbm] at h
    exact h) fun bo bc => ?_
  ((try refine sU ?_);repeat(refine sN fun _=>?_;try refine sU ?_))
  rename_i b2 b3
  refine SxCode.wk (Weak.trans (Weak.nil 9 1) (Weak.rds0 _)) ?_
  refine SxCode.loop (σ := List Nb) [23] [24, 25, 4, 26, 27, 28, 29, 30, 31, 32, 33, 34, 35, 36, 37, 38, 23] (fun ds => [.int .i64 (ds.length : Nat)]) (fun ds => .row bo σ.bs.length bc 60 2 (mbE.fl (ds.map Nb.mb ++ (σ.bs.drop ds.length).map Nb.mb)) :: topRow ds :: .gen (rdsG (bxL ds.dropLast)) :: .row mo σ.ms.length mc 67 2 (mbE.fl (σ.ms.map Mr.mb)) :: .blk b3 98 (ldC σ.box σ.man (.slice mo σ.ms.length mc) (.slice bo σ.bs.length bc) σ.last σ.fresh) :: .blk b2 98 (ldC 0 0 nilS nilS 0 0) :: .blk g 101 σ.cells :: .gen (rdsG σ.rds) :: R)
    (fun ds => ds.map Nb.bx = (σ.bs.take ds.length).map Nb.bx ∧ ds.length ≤ σ.bs.length) (fun ds => σ.bs.length - ds.length) [] ([2, 1, 0, 3, 4, 5, 6, 7] ++ tailIx 8 R.length) rfl rfl (pickH_append (A := [_, _, _, _, _, _, _, _]) rfl (pickH_tail 8 rfl rfl)) (nodup_tail 8 _ rfl rfl) ⟨rfl, Nat.zero_le _⟩ ?_
  rintro ds ⟨hds, hdl⟩
  have hdm : ∀ b ∈ ds, b.2.l.length ≤ 1000000 := fun b hb => by
    have h1 : b.bx ∈ (σ.bs.take ds.length).map Nb.bx := by rw [← hds]; exact List.mem_map.2 ⟨b, hb, rfl⟩
    obtain ⟨b', hb', he⟩ := List.mem_map.1 h1
    have h2 := hcl b' (List.mem_of_mem_take hb')
    have h3 : b'.2.l = b.2.l := congrArg Prod.snd he
    rw [← h3]; exact h2
  by_cases hlt : ds.length < σ.bs.length
  · obtain ⟨b, hb⟩ : ∃ b, σ.bs[ds.length]? = some b := ⟨σ.bs[ds.length], by simp [hlt]⟩
    have hbm := List.mem_of_getElem? hb
    have hbl1 := hcl b hbm
    have hdrop : σ.bs.drop ds.length = b :: σ.bs.drop (ds.length + 1) := by
      obtain ⟨hl, he⟩ := List.getElem?_eq_some_iff.1 hb
      rw [List.drop_eq_getElem_cons hl, he]
    have hat : (ds.map Nb.mb ++ (σ.bs.drop ds.length).map Nb.mb)[ds.length]? = some b.mb := by
      rw [List.getElem?_append_right (by rw [List.length_map]; exact Nat.le_refl _), List.length_map, Nat.sub_self, hdrop]; rfl
    refine sx_weaken (Weak.boxes hdm 1 2 (by decide) rfl rfl) ?_
    refine sx_base 0 rfl fun hbo _ => ?_
    obtain ⟨gb, rfl⟩ := hbo (by omega)
    ((try refine sU ?_);repeat(refine sN fun _=>?_;try refine sU ?_))
    refine SxCode.draw rfl [.blk b3 98 (ldC σ.box σ.man (.slice mo σ.ms.length mc) (.slice (some ⟨gb, 0, none⟩) σ.bs.length bc) σ.last σ.fresh), .row (some ⟨gb, 0, none⟩) σ.bs.length bc 60 2 (mbE.fl (ds.map Nb.mb ++ (σ.bs.drop ds.length).map Nb.mb))] [12] [4, 0] rfl rfl ?_
    ((try refine sU ?_);repeat(refine sN fun _=>?_;try refine sU ?_))
    refine SxIA.row 1 _ _ _ rfl ds.length rfl hlt fun g' hg' => ?_
    obtain rfl : gb = g' := by simpa using hg'
    ((try refine sU ?_);repeat(refine sN fun _=>?_;try refine sU ?_))
    refine SxLd.row 1 rfl rfl (j := ds.length * 2 + 1) (by omega) (v := .slice b.2.ao b.2.l.length b.2.cap) (mbE.fl_cell hat rfl) ?_
    ((try refine sU ?_);repeat(refine sN fun _=>?_;try refine sU ?_))
    refine SxCall.newRow (v := fun ao cap => .slice ao b.2.l.length cap) (fun w1 hs1 => CloneSr_any b.2.l b.2.ao b.2.cap hbl1 w1 (hs1.rdIn 7 rfl (σ.rds_b hbm))) fun ao cap => ?_
    ((try refine sU ?_);repeat(refine sN fun _=>?_;try refine sU ?_))
    refine SxStable.mk [5, 1] rfl rfl ?_
    ((try refine sU ?_);repeat(refine sN fun _=>?_;try refine sU ?_))
    refine SxIA.row 1 _ _ _ rfl ds.length rfl hlt fun g' hg' => ?_
    obtain rfl : gb = g' := by simpa using hg'
    ((try refine sU ?_);repeat(refine sN fun _=>?_;try refine sU ?_))
    have hset : splice (ds.length * 2 + 1) [.slice ao b.2.l.length cap] (mbE.fl (ds.map Nb.mb ++ (σ.bs.drop ds.length).map Nb.mb)) = mbE.fl ((ds ++ [((b.1, ⟨ao, cap, b.2.l⟩) : Nb)]).map Nb.mb ++ (σ.bs.drop (ds.length + 1)).map Nb.mb) := by
      rw [mb_set1 hat, hdrop, List.map_cons, List.set_append_right _ _ (by rw [List.length_map]; exact Nat.le_refl _), List.length_map, Nat.sub_self, List.map_append, List.append_assoc]; rfl
    refine SxStable.mk [5, 1] rfl rfl ?_
    ((try refine sU ?_);repeat(refine sN fun _=>?_;try refine sU ?_))
    refine SxSt.row 1 rfl rfl (j := ds.length * 2 + 1) (by omega) (by rw [mbE_len, List.length_append, List.length_map, List.length_map, List.length_drop]; show ds.length * 2 + 1 + 1 ≤ _; omega) rfl hset ?_
    ((try refine sU ?_);repeat(refine sN fun _=>?_;try refine sU ?_))
    have hlen : (ds ++ [((b.1, ⟨ao, cap, b.2.l⟩) : Nb)]).length = ds.length + 1 := by simp
    refine SxRound.mk (ds ++ [(b.1, ⟨ao, cap, b.2.l⟩)]) ([1, 0, 3, 4, 5, 6, 7, 8] ++ tailIx 9 R.length) (by rw [hlen]; rfl) (by
      rw [hlen, topRow_snoc, List.dropLast_concat]
      exact pickH_append (A := [_, _, _, _, _, _, _, _]) rfl (pickH_tail 9 rfl rfl)) (nodup_tail 9 _ rfl rfl) ⟨?_, by omega⟩ (by omega)
    rw [hlen, List.map_append, hds, take_snocE hb, List.map_append]; rfl
  · have hl : ds.length = σ.bs.length := by omega
    rw [hl, List.take_length] at hds
    rw [hl, List.drop_of_length_le (Nat.le_refl _), List.map_nil, List.append_nil]
    ((try refine sU ?_);repeat(refine sN fun _=>?_;try refine sU ?_))
    exact SxDone.mk fun w' hs => ⟨mo, mc, bo, bc, ds, rfl, hds, hs.pick (ks := [0, 1, 2, 3, 6, 7] ++ tailIx 8 R.length) (pickH_append (A := [_, _, _, _, _, _]) rfl (pickH_tail 8 rfl rfl)) (nodup_tail 8 _ rfl rfl)⟩
end Go.Proofs.YtlmefcepdadfjaaGreat
