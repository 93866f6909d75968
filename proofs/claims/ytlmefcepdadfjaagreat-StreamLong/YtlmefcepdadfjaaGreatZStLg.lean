/- Texts of this claim, one behind the other. -/
import Derived.Test.YtlmefcepdadfjaaGreatZStV
import Derived.Test.YtlmefcepdadfjaaGreatZDraw
/- Layer 23: a stream of nothing; how long it is; the page's example. -/
namespace Go.Proofs.YtlmefcepdadfjaaGreat
open Go.RowKit

theorem Weak.rdsNil {H : Hp} (L : RdL) (h : ∀ x ∈ L, x.2 = []) : Weak H (.gen (rdsG L) :: H) := fun _ _ w hs =>
  hs.cons ⟨rfl, rfl, rfl, Nat.le_refl _, fun _ _ _ => rfl⟩ (e := .gen (rdsG L)) (fun x hx => by rw [h x hx]; exact Rd_nil _ _) (fun g hg => by
    obtain ⟨x, hx, hu⟩ := hg
    rw [h x hx] at hu
    exact absurd rfl hu.1)
/-- A stream of nothing. -/
def sr0 (box man : Int) (c : Nat → Int) (L : Lb) : Sr := ⟨box, man, [], none, 0, [], none, 0, 0, 0, c, L, ⟨#[]⟩, [], none, 0, none, 0, 0, 0, 0⟩
theorem sr0_rds (box man : Int) (c : Nat → Int) (L : Lb) : ∀ x ∈ (sr0 box man c L).rds, x.2 = [] := by
  intro x hx
  simp only [sr0, Sr.rds, maL, bxL, List.map_nil, List.append_nil, List.mem_cons, List.not_mem_nil, or_false] at hx
  rcases hx with rfl | rfl | rfl | rfl <;> rfl
theorem good_no : Good .no := ⟨trivial, fun _ => by show 0 ≤ 10000; omega⟩
theorem sr0_held (box man : Int) (c : Nat → Int) (hc : conC c = true) (L : Lb) : (sr0 box man c L).held box man c L ⟨#[]⟩ := by
  have hmay := (conC_may hc).1
  refine ⟨rfl, rfl, rfl, rfl, ⟨[], .nil, rfl⟩, ?_, ?_, ?_, rfl, rfl, rfl⟩
  · show cutC c ⟨#[]⟩ = 0
    rw [cutC_cf hmay]
    exact cutN_nil (cf c) (conf4_of hmay).1
  · exact W_0
  · exact W_0
theorem new_sat {W : World} {M : List Nat} {H : Hp} {w : World} (hs : Sat W M H w) (c : Nat → Int) (box man : Int) (hok : conC c = true) (hb : box ≠ 0) (hm : man ≠ 0) :
    Calls Tryz.prog 14 #[confA c, .int .u32 box, .int .u32 man, .nilFunc, .nilFunc] w fun e w' => ∃ g, e = .returned (.tuple #[.pointer (some ⟨g, 0, none⟩), .int .i64 0]) ∧ Sat W M (.blk g 101 (sr0 box man c .no).cells :: .gen (rdsG (sr0 box man c .no).rds) :: .gen (rdsG Lb.no.rds) :: H) w' := by
  refine (SNew_nil_sat hs c box man hok hb hm).mono ?_
  rintro e w' ⟨g, rfl, hs'⟩
  refine ⟨g, rfl, ?_⟩
  have h1 := Weak.rds0 _ _ _ _ hs'
  have h2 := Weak.rdsNil _ (sr0_rds box man c .no) _ _ _ h1
  exact h2.pick (ks := [2, 0, 1] ++ tailIx 3 H.length) (pickH_append (A := [_, _, _]) rfl (pickH_tail (L := H) 3 rfl rfl)) (nodup_tail 3 _ rfl rfl)
section
variable {box man : Int} {c : Nat → Int} {L : Lb} {A : ByteArray} {σ : Sr} (w : World) (g : Nat)
theorem len_held (hσ : σ.held box man c L A) (hb : Blk w g 101 σ.cells) : Calls Tryz.prog 23 #[.pointer (some ⟨g, 0, none⟩)] w fun e w' => e = .returned (.int .i64 (A.size : Nat)) ∧ Below w.heap.size w w' := by
  have h := SLen_any g σ.box σ.man σ.last σ.fresh σ.n σ.mo σ.bo σ.ms.length σ.mc σ.bs.length σ.bc σ.c σ.L.kn σ.L.bt (.slice σ.co σ.ch.length σ.cc) (.slice σ.fo σ.ch.length σ.fc) (.complex .f64 σ.wa σ.wb) σ.left w hb
  rw [hσ.hn] at h
  exact h
theorem mans_held (hb : Blk w g 101 σ.cells) : Calls Tryz.prog 24 #[.pointer (some ⟨g, 0, none⟩)] w fun e w' => e = .returned (.int .i64 (σ.ms.length : Nat)) ∧ Below w.heap.size w w' :=
  SMans_any g σ.box σ.man σ.last σ.fresh σ.n σ.mo σ.bo σ.ms.length σ.mc σ.bs.length σ.bc σ.c σ.L.kn σ.L.bt (.slice σ.co σ.ch.length σ.cc) (.slice σ.fo σ.ch.length σ.fc) (.complex .f64 σ.wa σ.wb) σ.left w hb
theorem fresh_held (hσ : σ.held box man c L A) (hb : Blk w g 101 σ.cells) : Calls Tryz.prog 25 #[.pointer (some ⟨g, 0, none⟩)] w fun e w' => e = .returned (.int .i64 (freshX (σ.bs.map Nb.bx) : Nat)) ∧ Below w.heap.size w w' := by
  have h := SFresh_any g σ.box σ.man σ.last σ.fresh σ.n σ.mo σ.bo σ.ms.length σ.mc σ.bs.length σ.bc σ.c σ.L.kn σ.L.bt (.slice σ.co σ.ch.length σ.cc) (.slice σ.fo σ.ch.length σ.fc) (.complex .f64 σ.wa σ.wb) σ.left w hb
  rw [hσ.hfresh] at h
  exact h
end
theorem over_small {box man : Int} {c : Nat → Int} {L : Lb} {A : ByteArray} {σ : Sr} (hc : conC c = true) (hg : Good L) (hσ : σ.held box man c L A) (hA : A.size ≤ 1000) (hb : box ≤ 4294960000) (hm : man ≤ 4294960000) : overC box man σ.ms.length σ.bs.length = false := by
  obtain ⟨cs, h1, h2⟩ := hσ.hat
  obtain ⟨a1, _, a3, _⟩ := laidP_much (box := box) (man := man) (G := L.G) (conC_may hc).2 cs
  rw [← h2] at a1 a3
  dsimp only at a1 a3
  rw [List.length_map] at a1 a3
  have h3 := h1.len
  unfold overC
  rw [decide_eq_false (by omega), decide_eq_false (by omega), decide_eq_false (by omega)]; rfl
/-- The example's settings. -/
def cEx (i : Nat) : Int := ([4, 8, 2, 1, 1, 2, 1, 0, 0, 0, 0, 3, 20] : List Int).getD i 0
theorem cEx_con : conC cEx = true := by decide
def abc : ByteArray := ⟨#[97, 98, 99]⟩
theorem abc_whole {CS : List ByteArray} (h : Whole (cf cEx) abc CS) : CS = [abc] := by
  have h0 : cutN (cf cEx) abc.data.toList = 0 := by decide +kernel
  exact h.det ⟨[], abc, .nil, h0, rfl⟩
theorem abc_made : madeP cEx 7 9 [] [abc] = ⟨[(9, [mkEn abc (7, 0)])], [(7, [abc])]⟩ := by
  have h1 : segN cEx [bFq abc] = 1 := by
    unfold segN
    rw [if_pos (conC_may cEx_con).2]
    refine firstN_some (by simp) ?_ (fun i hi => absurd hi (Nat.not_lt_zero _))
    unfold endC
    rw [decide_eq_true_iff]
    exact .inr ⟨by decide, by show _ % (1 : Int) = 0; omega⟩
  have h2 : laidP cEx 7 9 [] [abc] = (layP cEx 7 9 [] ⟨[], []⟩ [abc], []) := by
    show feedP cEx 7 9 [] ls0 abc = _
    unfold feedP ls0
    rw [List.nil_append, show [abc].map bFq = [bFq abc] from rfl, h1]; rfl
  unfold madeP lastP
  rw [h2, if_pos rfl]
  rfl
end Go.Proofs.YtlmefcepdadfjaaGreat
/- Layer 23: the page's example; StreamChecks. -/
namespace Go.Proofs.YtlmefcepdadfjaaGreat
open Go.RowKit

theorem map_one {α β : Type} {f : α → β} {l : List α} {y : β} (h : l.map f = [y]) : ∃ x, l = [x] ∧ f x = y := by
  match l, h with
  | [x], h => exact ⟨x, rfl, by simpa using h⟩
theorem e0ab : ((⟨#[]⟩ : ByteArray) ++ ⟨#[97, 98]⟩) = ⟨#[97, 98]⟩ := ba_extS (by rw [ba_appendS]; rfl)
theorem eabc : ((⟨#[97, 98]⟩ : ByteArray) ++ ⟨#[99]⟩) = abc := ba_extS (by rw [ba_appendS]; rfl)
theorem eabcd : (abc ++ ⟨#[100]⟩).size = 4 := by simp [abc, ByteArray.size]
set_option maxHeartbeats 16000000 in
theorem st_awake (w : World) : Calls Tryz.prog 11 #[] w fun e w' => e = .returned (.bool true) ∧ Below w.heap.size w w' := by
  refine sx_fn (S := SX) (M := []) (N := 111) (H0 := []) Tryz.func11 rfl rfl rfl (Sat.nil _ _) ?_
  ((try refine sx_use ?_); (repeat (refine SxNew.mk fun _ => ?_; (try refine sx_use ?_))))
  refine SxCall.mk fun w1 hs1 => (new_sat hs1 cEx 7 9 cEx_con (by decide) (by decide)).mono ?_
  rintro e w2 ⟨g, rfl, hs2⟩
  refine ⟨_, _, rfl, hs2, ?_⟩
  ((try refine sx_use ?_); (repeat (refine SxNew.mk fun _ => ?_; (try refine sx_use ?_))))
  refine SxRun.pEqNil Tryz.underlying44 ?_
  ((try refine sx_use ?_); (repeat (refine SxNew.mk fun _ => ?_; (try refine sx_use ?_))))
  refine SxCall.mk fun w3 hs3 => (write_sat 7 9 (by omega) (by omega) (by omega) (by omega) cEx cEx_con .no good_no ⟨#[]⟩ ⟨#[97, 98]⟩ _ (sr0_held 7 9 cEx cEx_con .no) (by decide) g hs3).mono ?_
  rintro e w4 ⟨σ1, hh1, hr1⟩
  rw [e0ab] at hh1
  have hov := over_small cEx_con good_no hh1 (by decide) (by omega) (by omega)
  rcases hr1 with ⟨ho, _⟩ | ⟨_, rfl, hs4⟩
  · rw [hov] at ho; cases ho
  refine ⟨_, _, rfl, hs4, ?_⟩
  ((try refine sx_use ?_); (repeat (refine SxNew.mk fun _ => ?_; (try refine sx_use ?_))))
  refine SxCall.mk fun w3 hs3 => (write_sat 7 9 (by omega) (by omega) (by omega) (by omega) cEx cEx_con .no good_no ⟨#[97, 98]⟩ ⟨#[99]⟩ _ hh1 (by decide) g hs3).mono ?_
  rintro e w4 ⟨σ2, hh2, hr2⟩
  rw [eabc] at hh2
  have hov2 := over_small cEx_con good_no hh2 (by decide) (by omega) (by omega)
  rcases hr2 with ⟨ho, _⟩ | ⟨_, rfl, hs4⟩
  · rw [hov2] at ho; cases ho
  refine ⟨_, _, rfl, hs4, ?_⟩
  ((try refine sx_use ?_); (repeat (refine SxNew.mk fun _ => ?_; (try refine sx_use ?_))))
  refine SxCall.quietS (v := .int .i64 3) (fun w3 hs3 => len_held w3 g hh2 (hs3.blk 0 rfl)) ?_
  ((try refine sx_use ?_); (repeat (refine SxNew.mk fun _ => ?_; (try refine sx_use ?_))))
  refine SxCall.mk fun w3 hs3 => (end_sat 7 9 (by omega) (by omega) (by omega) (by omega) cEx cEx_con .no good_no abc σ2 hh2 (by decide) g hs3).mono ?_
  rintro e w5 ⟨CS, hw, hr⟩
  obtain rfl := abc_whole hw
  have hmd : madeP cEx 7 9 Lb.no.G [abc] = ⟨[(9, [mkEn abc (7, 0)])], [(7, [abc])]⟩ := abc_made
  rw [hmd] at hr
  rcases hr with ⟨ho, _⟩ | ⟨_, ms, mo, mc, bs, bo, bc, rfl, hms, hbs, hs5⟩
  · exact absurd ho (by decide)
  obtain ⟨m, rfl, hm⟩ := map_one hms
  obtain ⟨b, rfl, hb⟩ := map_one hbs
  obtain ⟨mid, ⟨mao, mcap, ml⟩⟩ := m
  obtain ⟨bid, ⟨bao, bcap, bl⟩⟩ := b
  simp only [Mr.mn, Prod.mk.injEq] at hm
  simp only [Nb.bx, Prod.mk.injEq] at hb
  obtain ⟨rfl, rfl⟩ := hm
  obtain ⟨rfl, rfl⟩ := hb
  refine ⟨_, _, rfl, hs5, ?_⟩
  have ha3 : abc.size = 3 := rfl
  have hre : reA abc = -2 := by decide
  have him : imA abc = 98 := by decide
  obtain ⟨LL, hLL⟩ : ∃ LL, LL = mdL [((9, ⟨mao, mcap, [mkEn abc (7, 0)]⟩) : Mr)] mo [((7, ⟨bao, bcap, [abc]⟩) : Nb)] bo := ⟨_, rfl⟩
  have m0 : (mo, mbE.fl ([((9, ⟨mao, mcap, [mkEn abc (7, 0)]⟩) : Mr)].map Mr.mb)) ∈ LL := by rw [hLL]; simp [mdL]
  have m1 : (mao, enE.fl [mkEn abc (7, 0)]) ∈ LL := by rw [hLL]; simp [mdL, maL]
  have m2 : (bo, mbE.fl ([((7, ⟨bao, bcap, [abc]⟩) : Nb)].map Nb.mb)) ∈ LL := by rw [hLL]; simp [mdL]
  have hen := enE_cell1 (l := [mkEn abc (7, 0)]) (k := 0) rfl (enC_tail (mkEn abc (7, 0)) 0 _ rfl)
  rw [← hLL]
  ((try refine sx_use ?_); (repeat (refine SxNew.mk fun _ => ?_; (try refine sx_use ?_))))
  refine SxIA.of 1 rfl m0 0 rfl (by show (0 : Nat) < 1; omega) (by show (0 : Nat) < 2; omega) fun g1 o1 a1 => ?_
  ((try refine sx_use ?_); (repeat (refine SxNew.mk fun _ => ?_; (try refine sx_use ?_))))
  refine SxLd.of 1 rfl m0 a1 (by omega) (j := 0) (v := .int .u32 9) rfl ?_
  ((try refine sx_use ?_); (repeat (refine SxNew.mk fun _ => ?_; (try refine sx_use ?_))))
  refine SxIA.of 1 rfl m0 0 rfl (by show (0 : Nat) < 1; omega) (by show (0 : Nat) < 2; omega) fun g1 o1 a1 => ?_
  ((try refine sx_use ?_); (repeat (refine SxNew.mk fun _ => ?_; (try refine sx_use ?_))))
  refine SxLd.of 1 rfl m0 a1 (by omega) (j := 1) (v := .slice mao 1 mcap) rfl ?_
  ((try refine sx_use ?_); (repeat (refine SxNew.mk fun _ => ?_; (try refine sx_use ?_))))
  refine SxIA.of 1 rfl m0 0 rfl (by show (0 : Nat) < 1; omega) (by show (0 : Nat) < 2; omega) fun g1 o1 a1 => ?_
  ((try refine sx_use ?_); (repeat (refine SxNew.mk fun _ => ?_; (try refine sx_use ?_))))
  refine SxLd.of 1 rfl m0 a1 (by omega) (j := 1) (v := .slice mao 1 mcap) rfl ?_
  ((try refine sx_use ?_); (repeat (refine SxNew.mk fun _ => ?_; (try refine sx_use ?_))))
  refine SxIA.of 1 rfl m1 0 rfl (by show (0 : Nat) < 1; omega) (by rw [enE_len1]; decide) fun g1 o1 a1 => ?_
  ((try refine sx_use ?_); (repeat (refine SxNew.mk fun _ => ?_; (try refine sx_use ?_))))
  refine SxLd.of 1 rfl m1 a1 (by omega) (j := 0 * 35 + 32) hen ?_
  ((try refine sx_use ?_); (repeat (refine SxNew.mk fun _ => ?_; (try refine sx_use ?_))))
  refine SxIA.of 1 rfl m2 0 rfl (by show (0 : Nat) < 1; omega) (by show (0 : Nat) < 2; omega) fun g1 o1 a1 => ?_
  ((try refine sx_use ?_); (repeat (refine SxNew.mk fun _ => ?_; (try refine sx_use ?_))))
  refine SxLd.of 1 rfl m2 a1 (by omega) (j := 0) (v := .int .u32 7) rfl ?_
  ((try refine sx_use ?_); (repeat (refine SxNew.mk fun _ => ?_; (try refine sx_use ?_))))
  refine SxCall.mk fun w3 hs3 => (write_sat 7 9 (by omega) (by omega) (by omega) (by omega) cEx cEx_con .no good_no abc ⟨#[100]⟩ _ hh2 (by decide) g (hs3.pick (ks := [2, 3, 4, 0, 1]) rfl rfl)).mono ?_
  rintro e w4 ⟨σ3, hh3, hr3⟩
  have hov3 := over_small cEx_con good_no hh3 (by rw [eabcd]; omega) (by omega) (by omega)
  rcases hr3 with ⟨ho, _⟩ | ⟨_, rfl, hs4⟩
  · rw [hov3] at ho; cases ho
  refine ⟨_, _, rfl, hs4, ?_⟩
  ((try refine sx_use ?_); (repeat (refine SxNew.mk fun _ => ?_; (try refine sx_use ?_))))
  refine SxCall.quietS (v := .int .i64 4) (fun w3 hs3 => by
    have h := len_held w3 g hh3 (hs3.blk 0 rfl)
    rw [eabcd] at h
    exact h) ?_
  ((try refine sx_use ?_); (repeat (refine SxNew.mk fun _ => ?_; (try refine sx_use ?_))))
  exact SxDone.mk fun w' hs => ⟨rfl, hs.touch.below⟩
end Go.Proofs.YtlmefcepdadfjaaGreat
/- Layer 23: more than may be; nobody's stream; StreamLong. -/
namespace Go.Proofs.YtlmefcepdadfjaaGreat
open Go.RowKit

set_option maxHeartbeats 8000000 in
theorem write_long {W : World} {M : List Nat} {R : Hp} {w : World} (box man : Int) (c : Nat → Int) (L : Lb) (A b : ByteArray) (σ : Sr) (hσ : σ.held box man c L A) (hA : A.size ≤ 9000) (hb : b.size ≤ maxLen) (hbig : 1048576 < A.size + b.size) (g : Nat)
    (hs : Sat W M (.blk g 101 σ.cells :: .gen (rdsG σ.rds) :: .gen (rdsG L.rds) :: R) w) :
    Calls Tryz.prog 15 #[.pointer (some ⟨g, 0, none⟩), .string b] w fun e w' => e = .returned (.int .i64 240) ∧ Sat W M (.blk g 101 σ.cells :: .gen (rdsG σ.rds) :: .gen (rdsG L.rds) :: R) w' := by
  unfold maxLen at hb
  obtain ⟨rfl, rfl, rfl, rfl, hat, hcut, hwa, hwb, hn, hlast, hfresh⟩ := hσ
  refine sx_fn (S := SX) (N := 39) Tryz.func15 rfl rfl rfl hs ?_
  ((try refine sx_use ?_); (repeat (refine SxNew.mk fun _ => ?_; (try refine sx_use ?_))))
  refine SxRun.pEqNil Tryz.underlying44 ?_
  ((try refine sx_use ?_); (repeat (refine SxNew.mk fun _ => ?_; (try refine sx_use ?_))))
  refine SxRun.fEqNil Tryz.underlying39 ?_
  ((try refine sx_use ?_); (repeat (refine SxNew.mk fun _ => ?_; (try refine sx_use ?_))))
  exact SxDone.mk fun w' hs => ⟨rfl, hs⟩
theorem write_nil (b : ByteArray) (w : World) : Calls Tryz.prog 15 #[.pointer none, .string b] w fun e w' => e = .returned (.int .i64 4) ∧ Below w.heap.size w w' := by
  refine sx_fn (S := SX) (M := []) (N := 39) (H0 := []) Tryz.func15 rfl rfl rfl (Sat.nil _ _) ?_
  ((try refine sx_use ?_); (repeat (refine SxNew.mk fun _ => ?_; (try refine sx_use ?_))))
  refine SxRun.pEqNil Tryz.underlying44 ?_
  ((try refine sx_use ?_); (repeat (refine SxNew.mk fun _ => ?_; (try refine sx_use ?_))))
  exact SxDone.mk fun w' hs => ⟨rfl, hs.touch.below⟩
theorem end_nil (w : World) : Calls Tryz.prog 16 #[.pointer none] w fun e w' => e = .returned (.tuple #[.agg (mdC nilS nilS 0 0 0).toArray, .int .i64 4]) ∧ Below w.heap.size w w' := by
  refine sx_fn (S := SX) (M := []) (N := 105) (H0 := []) Tryz.func16 rfl rfl rfl (Sat.nil _ _) ?_
  ((try refine sx_use ?_); (repeat (refine SxNew.mk fun _ => ?_; (try refine sx_use ?_))))
  refine SxRun.pEqNil Tryz.underlying44 ?_
  ((try refine sx_use ?_); (repeat (refine SxNew.mk fun _ => ?_; (try refine sx_use ?_))))
  exact SxDone.mk fun w' hs => ⟨rfl, hs.touch.below⟩
theorem mans_nil (w : World) : Calls Tryz.prog 24 #[.pointer none] w fun e w' => e = .returned (.int .i64 0) ∧ Below w.heap.size w w' := by
  refine sx_fn (S := SX) (M := []) (N := 11) (H0 := []) Tryz.func24 rfl rfl rfl (Sat.nil _ _) ?_
  ((try refine sx_use ?_); (repeat (refine SxNew.mk fun _ => ?_; (try refine sx_use ?_))))
  refine SxRun.pEqNil Tryz.underlying44 ?_
  ((try refine sx_use ?_); (repeat (refine SxNew.mk fun _ => ?_; (try refine sx_use ?_))))
  exact SxDone.mk fun w' hs => ⟨rfl, hs.touch.below⟩
theorem fresh_nil (w : World) : Calls Tryz.prog 25 #[.pointer none] w fun e w' => e = .returned (.int .i64 0) ∧ Below w.heap.size w w' := by
  refine sx_fn (S := SX) (M := []) (N := 10) (H0 := []) Tryz.func25 rfl rfl rfl (Sat.nil _ _) ?_
  ((try refine sx_use ?_); (repeat (refine SxNew.mk fun _ => ?_; (try refine sx_use ?_))))
  refine SxRun.pEqNil Tryz.underlying44 ?_
  ((try refine sx_use ?_); (repeat (refine SxNew.mk fun _ => ?_; (try refine sx_use ?_))))
  exact SxDone.mk fun w' hs => ⟨rfl, hs.touch.below⟩
theorem zerosL_rep (v : Value) : ∀ n, zerosL [v] n = List.replicate n v
  | 0 => rfl
  | n + 1 => by show [v] ++ zerosL [v] n = _; rw [zerosL_rep v n]; rfl
theorem e0cat (a : ByteArray) : ((⟨#[]⟩ : ByteArray) ++ a) = a := ba_extS (by rw [ba_appendS]; rfl)
set_option maxHeartbeats 16000000 in
theorem StreamLong_law (w : World) (a : ByteArray) (ha : a.size ≤ maxLen) (x : Nat) (hx : x < 2 ^ 8) :
    Calls Tryz.prog 7 #[.string a, .int .u8 (x : Nat)] w fun e w' => e = .returned (.bool true) ∧ Below w.heap.size w w' := by
  unfold maxLen at ha
  by_cases h1 : a.size < 1
  · refine sx_fn (S := SX) (M := []) (N := 120) (H0 := []) Tryz.func7 rfl rfl rfl (Sat.nil _ _) ?_
    ((try refine sx_use ?_); (repeat (refine SxNew.mk fun _ => ?_; (try refine sx_use ?_))))
    refine SxCall.quiet st_awake ?_
    ((try refine sx_use ?_); (repeat (refine SxNew.mk fun _ => ?_; (try refine sx_use ?_))))
    exact SxDone.mk fun w' hs => ⟨rfl, hs.touch.below⟩
  by_cases h2 : 100 < a.size
  · refine sx_fn (S := SX) (M := []) (N := 120) (H0 := []) Tryz.func7 rfl rfl rfl (Sat.nil _ _) ?_
    ((try refine sx_use ?_); (repeat (refine SxNew.mk fun _ => ?_; (try refine sx_use ?_))))
    refine SxCall.quiet st_awake ?_
    ((try refine sx_use ?_); (repeat (refine SxNew.mk fun _ => ?_; (try refine sx_use ?_))))
    exact SxDone.mk fun w' hs => ⟨rfl, hs.touch.below⟩
  refine sx_fn (S := SX) (M := []) (N := 120) (H0 := []) Tryz.func7 rfl rfl rfl (Sat.nil _ _) ?_
  ((try refine sx_use ?_); (repeat (refine SxNew.mk fun _ => ?_; (try refine sx_use ?_))))
  refine SxCall.mk fun w1 hs1 => (new_sat hs1 cEx 1 1 cEx_con (by decide) (by decide)).mono ?_
  rintro e w2 ⟨g, rfl, hs2⟩
  refine ⟨_, _, rfl, hs2, ?_⟩
  ((try refine sx_use ?_); (repeat (refine SxNew.mk fun _ => ?_; (try refine sx_use ?_))))
  refine SxRun.pEqNil Tryz.underlying44 ?_
  ((try refine sx_use ?_); (repeat (refine SxNew.mk fun _ => ?_; (try refine sx_use ?_))))
  refine SxCall.mk fun w3 hs3 => (write_sat 1 1 (by omega) (by omega) (by omega) (by omega) cEx cEx_con .no good_no ⟨#[]⟩ a _ (sr0_held 1 1 cEx cEx_con .no) (by show 0 + a.size ≤ 9000; omega) g hs3).mono ?_
  rintro e w4 ⟨σ, hh, hr⟩
  rw [e0cat] at hh
  have hov := over_small cEx_con good_no hh (by omega) (by omega) (by omega)
  rcases hr with ⟨ho, _⟩ | ⟨_, rfl, hs4⟩
  · rw [hov] at ho; cases ho
  refine ⟨_, _, rfl, hs4, ?_⟩
  ((try refine sx_use ?_); (repeat (refine SxNew.mk fun _ => ?_; (try refine sx_use ?_))))
  refine SxCall.quietS (fun w3 hs3 => mans_held w3 g (hs3.blk 0 rfl)) ?_
  ((try refine sx_use ?_); (repeat (refine SxNew.mk fun _ => ?_; (try refine sx_use ?_))))
  refine SxCall.quietS (fun w3 hs3 => fresh_held w3 g hh (hs3.blk 0 rfl)) ?_
  ((try refine sx_use ?_); (repeat (refine SxNew.mk fun _ => ?_; (try refine sx_use ?_))))
  obtain ⟨K, hK⟩ : ∃ K : Nat, (K : Int) = 1048576 - (a.size : Nat) + 1 + (x : Nat) := ⟨1048576 - a.size + 1 + x, by omega⟩
  refine SxBnd.mk K K (by omega) (by omega) (Nat.le_refl _) (by unfold maxLen; omega) ?_
  refine SxP.mk ⟨by omega, rfl, by decide⟩ ?_
  ((try refine sx_use ?_); (repeat (refine SxNew.mk fun _ => ?_; (try refine sx_use ?_))))
  refine SxStr.row 0 rfl (List.replicate K 0) (by simp) (by
    rw [show (Value.int .u8 0).cells.toList = [Value.int .u8 0] from rfl, zerosL_rep, List.take_of_length_le (by simp), List.map_replicate]; rfl) ?_
  ((try refine sx_use ?_); (repeat (refine SxNew.mk fun _ => ?_; (try refine sx_use ?_))))
  have hKs : (⟨(List.replicate K (0 : UInt8)).toArray⟩ : ByteArray).size = K := by simp [ByteArray.size]
  refine SxCall.mk fun w3 hs3 => (write_long 1 1 cEx .no a ⟨(List.replicate K 0).toArray⟩ σ hh (by omega) (by rw [hKs]; unfold maxLen; omega) (by rw [hKs]; omega) g (hs3.pick (ks := [1, 2, 3, 0]) rfl rfl)).mono ?_
  rintro e w4 ⟨rfl, hs4⟩
  refine ⟨_, _, rfl, hs4, ?_⟩
  ((try refine sx_use ?_); (repeat (refine SxNew.mk fun _ => ?_; (try refine sx_use ?_))))
  refine SxCall.quietS (fun w3 hs3 => len_held w3 g hh (hs3.blk 0 rfl)) ?_
  ((try refine sx_use ?_); (repeat (refine SxNew.mk fun _ => ?_; (try refine sx_use ?_))))
  refine SxCall.quietS (fun w3 hs3 => mans_held w3 g (hs3.blk 0 rfl)) ?_
  ((try refine sx_use ?_); (repeat (refine SxNew.mk fun _ => ?_; (try refine sx_use ?_))))
  refine SxCall.quietS (fun w3 hs3 => fresh_held w3 g hh (hs3.blk 0 rfl)) ?_
  ((try refine sx_use ?_); (repeat (refine SxNew.mk fun _ => ?_; (try refine sx_use ?_))))
  refine SxCall.mk fun w3 hs3 => (end_sat 1 1 (by omega) (by omega) (by omega) (by omega) cEx cEx_con .no good_no a σ hh (by omega) g hs3).mono ?_
  rintro e w5 ⟨CS, hw, hr⟩
  have hcl := hw.len
  have hmuch := madeP_much (box := 1) (man := 1) (G := Lb.no.G) (conC_may cEx_con).2 CS
  have hov2 : overC 1 1 (madeP cEx 1 1 Lb.no.G CS).ms.length (madeP cEx 1 1 Lb.no.G CS).bs.length = false := by
    unfold overC
    rw [decide_eq_false (by omega), decide_eq_false (by omega), decide_eq_false (by omega)]; rfl
  rcases hr with ⟨ho, _⟩ | ⟨_, ms, mo, mc, bs, bo, bc, rfl, hms, hbs, hs5⟩
  · rw [hov2] at ho; cases ho
  refine ⟨_, _, rfl, hs5, ?_⟩
  ((try refine sx_use ?_); (repeat (refine SxNew.mk fun _ => ?_; (try refine sx_use ?_))))
  refine SxCall.quiet end_nil ?_
  ((try refine sx_use ?_); (repeat (refine SxNew.mk fun _ => ?_; (try refine sx_use ?_))))
  refine SxCall.quiet (write_nil a) ?_
  ((try refine sx_use ?_); (repeat (refine SxNew.mk fun _ => ?_; (try refine sx_use ?_))))
  refine SxCall.quiet SLen_nil ?_
  ((try refine sx_use ?_); (repeat (refine SxNew.mk fun _ => ?_; (try refine sx_use ?_))))
  refine SxCall.quiet mans_nil ?_
  ((try refine sx_use ?_); (repeat (refine SxNew.mk fun _ => ?_; (try refine sx_use ?_))))
  refine SxCall.quiet fresh_nil ?_
  ((try refine sx_use ?_); (repeat (refine SxNew.mk fun _ => ?_; (try refine sx_use ?_))))
  refine SxCall.quiet st_awake ?_
  ((try refine sx_use ?_); (repeat (refine SxNew.mk fun _ => ?_; (try refine sx_use ?_))))
  exact SxDone.mk fun w' hs => ⟨rfl, hs.touch.below⟩
end Go.Proofs.YtlmefcepdadfjaaGreat
