/- Texts of this claim, one behind the other. -/
import Derived.Test.YtlmefcepdadfjaaGreatZStU
import Derived.Test.YtlmefcepdadfjaaGreatZSuC
import Derived.Test.YtlmefcepdadfjaaGreatZSvE
/- Layer 23: what the places of what is made hold: the stream's bytes; each new chunk is named; boxes keep their bounds; plain. -/
namespace Go.Proofs.YtlmefcepdadfjaaGreat
open Go.RowKit

section
variable {c : Nat → Int} {box man : Int} {G : List (List Rk)}
theorem layStep_mono (kn : List En) (st : List Bx × List En) (x : ByteArray × (Int × Int)) : st.1.length ≤ (layStep c box kn st x).1.length := by
  rcases layStep_bs (c := c) (box := box) kn st x with e | e <;> rw [e]
  · exact Nat.le_refl _
  · rcases putP_cases c box st.1 x.1 with ⟨bs0, b, h, _, e⟩ | ⟨_, e⟩ <;> rw [e]
    · rw [h]; simp
    · simp
theorem layFold_mono (kn : List En) : ∀ (l : List (ByteArray × (Int × Int))) (st : List Bx × List En), st.1.length ≤ (l.foldl (layStep c box kn) st).1.length
  | [], _ => Nat.le_refl _
  | x :: l, st => by rw [List.foldl_cons]; exact Nat.le_trans (layStep_mono kn st x) (layFold_mono kn l _)
theorem layP_mono (σ : Ls) (cs : List ByteArray) : σ.bs.length ≤ (layP c box man G σ cs).bs.length ∧ σ.ms.length ≤ (layP c box man G σ cs).ms.length := by
  unfold layP
  dsimp only
  refine ⟨?_, by simp⟩
  exact layFold_mono (knL c G σ cs) (cs.zip (fsL c G σ cs)) (σ.bs, [])
theorem feedP_mono (σ : Ls × List ByteArray) (x : ByteArray) : σ.1.bs.length ≤ (feedP c box man G σ x).1.bs.length ∧ σ.1.ms.length ≤ (feedP c box man G σ x).1.ms.length := by
  unfold feedP
  split
  · exact ⟨Nat.le_refl _, Nat.le_refl _⟩
  · exact layP_mono _ _
theorem laidP_mono (cs ds : List ByteArray) : (laidP c box man G cs).1.bs.length ≤ (laidP c box man G (cs ++ ds)).1.bs.length ∧ (laidP c box man G cs).1.ms.length ≤ (laidP c box man G (cs ++ ds)).1.ms.length := by
  refine snoc_ind (P := fun ds => (laidP c box man G cs).1.bs.length ≤ (laidP c box man G (cs ++ ds)).1.bs.length ∧ (laidP c box man G cs).1.ms.length ≤ (laidP c box man G (cs ++ ds)).1.ms.length) ?_ (fun l x ih => ?_) ds
  · rw [List.append_nil]; exact ⟨Nat.le_refl _, Nat.le_refl _⟩
  · rw [← List.append_assoc, laidP_snoc]
    have := feedP_mono (c := c) (box := box) (man := man) (G := G) (laidP c box man G (cs ++ l)) x
    omega
end
end Go.Proofs.YtlmefcepdadfjaaGreat
/- Layer 23: StreamPieces. -/
namespace Go.Proofs.YtlmefcepdadfjaaGreat
open Go.RowKit

def b8E : Enc UInt8 := ⟨fun b => [.int .u8 (b.toNat : Nat)], 1, by decide, fun _ => rfl, fun _ => rfl⟩
theorem b8E_len (l : List UInt8) : (b8E.fl l).length = l.length * 1 := b8E.fl_len l
theorem b8E_at {l : List UInt8} {k : Nat} {x : UInt8} (h : l[k]? = some x) : (b8E.fl l)[k * 1]? = some (.int .u8 (x.toNat : Nat)) := b8E.fl_cell (j := 0) h rfl
theorem open_b8s {w : World} {d : Nat} {v : Value} (hv : FitK Tryz.prog w (d + 1) (.slice 5) v) : ∃ (ao : Option Addr) (n cap : Nat), v = .slice ao n cap ∧ n ≤ maxLen ∧ ∃ l : List UInt8, l.length = min n 1000 ∧ Rd w ao (b8E.fl l) :=
  open_rows b8E (by decide) [.int .u8] hv (by kernel_rfl) (by kernel_rfl) rfl fun cs h => by
    obtain ⟨hl, hf⟩ := h
    match cs, hl with
    | [x], _ =>
      obtain ⟨b, rfl, hb⟩ := fitK_int (hf 0 _ _ rfl rfl)
      obtain ⟨b, hb8, rfl⟩ := nat_u8 hb
      exact ⟨UInt8.ofNat b, by
        show [Value.int .u8 (b : Nat)] = [Value.int .u8 ((UInt8.ofNat b).toNat : Nat)]
        rw [show (UInt8.ofNat b).toNat = b by simp [UInt8.toNat_ofNat']; omega]⟩
theorem cuts_ext (k : Conf4) (s : ByteArray) : ∀ (n : Nat) (cs : List ByteArray) (r : ByteArray), r.size ≤ n → Cuts k s cs r → ∃ es q, Cuts k s (cs ++ es) q ∧ cutN k q.data.toList = 0
  | 0, cs, r, hr, h => by
    refine ⟨[], r, by rw [List.append_nil]; exact h, ?_⟩
    have := cutN_le k r.data.toList
    rw [ba_lenS] at this
    omega
  | n + 1, cs, r, hr, h => by
    rcases Nat.eq_zero_or_pos (cutN k r.data.toList) with h0 | h0
    · exact ⟨[], r, by rw [List.append_nil]; exact h, h0⟩
    · have hl := cutN_le k r.data.toList
      rw [ba_lenS] at hl
      obtain ⟨es, q, h1, h2⟩ := cuts_ext k s n _ _ (by simp; omega) (h.snoc h0)
      exact ⟨_ :: es, q, by rw [List.append_assoc] at h1; exact h1, h2⟩
theorem over_mono {box man : Int} {a b m n : Nat} (h1 : a ≤ m) (h2 : b ≤ n) (h : overC box man m n = false) : overC box man a b = false := by
  unfold overC at h ⊢
  simp only [Bool.or_eq_false_iff, decide_eq_false_iff_not] at h ⊢
  omega
theorem held_less {c : Nat → Int} {box man : Int} {L : Lb} {A B : ByteArray} {σ τ : Sr} (hc : conC c = true) (hσ : σ.held box man c L A) (hτ : τ.held box man c L (A ++ B)) : σ.ms.length ≤ τ.ms.length ∧ σ.bs.length ≤ τ.bs.length := by
  obtain ⟨cs, h1, h2⟩ := hσ.hat
  obtain ⟨ds, h3, h4⟩ := hτ.hat
  have hz := hτ.hcut
  rw [cutC_cf (conC_may hc).1] at hz
  have h5 := h1.moreS B
  obtain ⟨es, r, h6, h7⟩ := cuts_ext (cf c) (A ++ B) _ cs _ (Nat.le_refl _) h5
  obtain ⟨rfl, _⟩ := h6.det h7 h3 hz
  have h8 := laidP_mono (c := c) (box := box) (man := man) (G := L.G) cs es
  rw [← h2, ← h4] at h8
  dsimp only at h8
  rw [List.length_map, List.length_map, List.length_map, List.length_map] at h8
  exact ⟨h8.2, h8.1⟩
structure Pj where
  k : Nat
  τ : Sr
  B : ByteArray
  rest : ByteArray
set_option maxHeartbeats 32000000 in
theorem StreamPieces_law (w : World) (cs : List Value) (hcs : FitR Tryz.prog w 4 [.int .i64, .int .i64, .int .i64, .int .i64, .int .i64, .int .i64, .int .i64, .int .i64, .int .i64, .int .i64, .int .i64, .int .i64, .int .i64, .int .u32, .int .u32, .slice 88, .slice 9] cs) (v : Value) (hv : FitK Tryz.prog w 4 (.slice 5) v) :
    Calls Tryz.prog 6 #[.agg cs.toArray, v] w fun e w' => e = .returned (.bool true) ∧ Below w.heap.size w w' := by
  obtain ⟨c, box, man, go, gn, gc, gs, po, pn, pc, ps, rfl, ⟨hb0, hb1⟩, ⟨hm0, hm1⟩, hgl, hpl, hg, hp⟩ := open_case hcs
  obtain ⟨uo, un, uc, rfl, _, us, hul, hu⟩ := open_b8s hv
  refine sx_fn (S := SX) (M := []) (N := 232) (H0 := [.rd go ((gwE w).fl gs), .gen (rdsG (gwL gs)), .rd po (strE.fl ps), .rd uo (b8E.fl us)]) Tryz.func6 rfl rfl rfl (Sat.rdsM w [] _ fun j e hj => by
    match j, hj with
    | 0, hj => cases hj; exact ⟨rfl, hg⟩
    | 1, hj => cases hj; exact ⟨rfl, gwL_rd gs⟩
    | 2, hj => cases hj; exact ⟨rfl, hp⟩
    | 3, hj => cases hj; exact ⟨rfl, hu⟩) ?_
  ((try refine sU ?_);repeat(refine sN fun _=>?_;try refine sU ?_))
  rename_i bc
  refine SxCall.quietP (P := fun v => v = .bool false ∨ (v = .bool true ∧ Light gn gs pn ps)) (fun w1 hs1 => light_any c box man go gn gc gs po pn pc ps hgl hpl w1 (hs1.rd 1 rfl) (hs1.rds1 2 rfl) (hs1.rd 3 rfl)) ?_
  rintro v (rfl | ⟨rfl, hli⟩)
  · ((try refine sU ?_);repeat(refine sN fun _=>?_;try refine sU ?_))
    refine SxCall.quiet st_awake ?_
    ((try refine sU ?_);repeat(refine sN fun _=>?_;try refine sU ?_))
    exact SxDone.mk fun w' hs => ⟨rfl, hs.touch.below⟩
  cases hc : conC c with
  | false =>
    ((try refine sU ?_);repeat(refine sN fun _=>?_;try refine sU ?_))
    refine SxCall.quiet (v := .bool false) (fun w => by have := RStMay_any c w; rw [hc] at this; exact this) ?_
    ((try refine sU ?_);repeat(refine sN fun _=>?_;try refine sU ?_))
    refine SxCall.quiet st_awake ?_
    ((try refine sU ?_);repeat(refine sN fun _=>?_;try refine sU ?_))
    exact SxDone.mk fun w' hs => ⟨rfl, hs.touch.below⟩
  | true =>
    by_cases hman : man = 0
    · subst hman
      ((try refine sU ?_);repeat(refine sN fun _=>?_;try refine sU ?_))
      refine SxCall.quiet (v := .bool true) (fun w => by have := RStMay_any c w; rw [hc] at this; exact this) ?_
      ((try refine sU ?_);repeat(refine sN fun _=>?_;try refine sU ?_))
      refine SxCall.quiet st_awake ?_
      ((try refine sU ?_);repeat(refine sN fun _=>?_;try refine sU ?_))
      exact SxDone.mk fun w' hs => ⟨rfl, hs.touch.below⟩
    by_cases hap : ¬ box > 300
    · ((try refine sU ?_);repeat(refine sN fun _=>?_;try refine sU ?_))
      refine SxCall.quiet (v := .bool true) (fun w => by have := RStMay_any c w; rw [hc] at this; exact this) ?_
      ((try refine sU ?_);repeat(refine sN fun _=>?_;try refine sU ?_))
      refine SxCall.quiet (v := .bool false) (fun w1 => by have h := apart_any c box man (.slice go gn gc) (.slice po pn pc) w1; rw [decide_eq_false hap] at h; exact h) ?_
      ((try refine sU ?_);repeat(refine sN fun _=>?_;try refine sU ?_))
      refine SxCall.quiet st_awake ?_
      ((try refine sU ?_);repeat(refine sN fun _=>?_;try refine sU ?_))
      exact SxDone.mk fun w' hs => ⟨rfl, hs.touch.below⟩
    rw [Decidable.not_not] at hap
    ((try refine sU ?_);repeat(refine sN fun _=>?_;try refine sU ?_))
    refine SxCall.quiet (v := .bool true) (fun w => by have := RStMay_any c w; rw [hc] at this; exact this) ?_
    ((try refine sU ?_);repeat(refine sN fun _=>?_;try refine sU ?_))
    refine SxCall.quiet (v := .bool true) (fun w1 => by have h := apart_any c box man (.slice go gn gc) (.slice po pn pc) w1; rw [decide_eq_true hap] at h; exact h) ?_
    by_cases hun : ¬ un ≤ 50
    · ((try refine sU ?_);repeat(refine sN fun _=>?_;try refine sU ?_))
      refine SxCall.quiet st_awake ?_
      ((try refine sU ?_);repeat(refine sN fun _=>?_;try refine sU ?_))
      exact SxDone.mk fun w' hs => ⟨rfl, hs.touch.below⟩
    rw [Decidable.not_not] at hun
    ((try refine sU ?_);repeat(refine sN fun _=>?_;try refine sU ?_))
    refine SxCall.mk fun w1 hs1 => (library_sat (R := [.blk bc 28 (caC c box man (.slice go gn gc) (.slice po pn pc)), .rd po (strE.fl ps), .rd uo (b8E.fl us)]) c box man go gn gc gs (.slice po pn pc) hgl pn ps hli (hs1.pick (ks := [1, 2, 0, 3, 4]) rfl rfl)).mono ?_
    rintro e w2 ⟨lo, lc, ds, rfl, hds, hs2⟩
    refine ⟨_, _, rfl, hs2, ?_⟩
    ((try refine sU ?_);repeat(refine sN fun _=>?_;try refine sU ?_))
    rename_i b3
    refine SxCall.mk fun w1 hs1 => (toldFn_sat (R := [.blk bc 28 (caC c box man (.slice go gn gc) (.slice po pn pc)), .rd po (strE.fl ps), .rd uo (b8E.fl us)]) lo lc ds (hs1.pick (ks := [1, 4, 5, 6]) rfl rfl)).mono ?_
    rintro e w2 ⟨gl, rfl, hs2⟩
    refine ⟨_, _, rfl, hs2, ?_⟩
    obtain ⟨L, hL⟩ : ∃ L, L = Lb.lib gl lo lc ds := ⟨_, rfl⟩
    obtain ⟨hgood, hdl, hdd, hKl⟩ := lib_good hli hgl hds gl lo lc
    rw [← hL] at hgood ⊢
    ((try refine sU ?_);repeat(refine sN fun _=>?_;try refine sU ?_))
    refine SxCall.mk fun w1 hs1 => (new_lib_sat hs1 c box man L hc (by omega) hman).mono ?_
    rintro e w2 ⟨g1, rfl, hs2⟩
    refine ⟨_, _, rfl, hs2, ?_⟩
    ((try refine sU ?_);repeat(refine sN fun _=>?_;try refine sU ?_))
    refine SxCall.mk fun w1 hs1 => (new_lib_sat hs1 c box man L hc (by omega) hman).mono ?_
    rintro e w2 ⟨g2, rfl, hs2⟩
    refine ⟨_, _, rfl, hs2, ?_⟩
    have hh0 := sr0_held box man c hc L
    obtain ⟨σ0, hσ0⟩ : ∃ σ0, σ0 = sr0 box man c L := ⟨_, rfl⟩
    rw [← hσ0] at hh0 ⊢
    ((try refine sU ?_);repeat(refine sN fun _=>?_;try refine sU ?_))
    refine SxRun.pEqNil Tryz.underlying44 ?_
    ((try refine sU ?_);repeat(refine sN fun _=>?_;try refine sU ?_))
    refine SxRun.pEqNil Tryz.underlying44 ?_
    ((try refine sU ?_);repeat(refine sN fun _=>?_;try refine sU ?_))
    have hpn := hli.pn
    have hpz := hli.p
    refine SxCode.loop (σ := Nat × ByteArray) [13, 12] [92, 93, 94, 95, 96, 99, 100, 101, 102, 103, 104, 105, 12, 97, 98, 13] (fun x => [.int .i64 (x.1 : Nat), .string x.2]) (fun _ => [.blk g2 101 σ0.cells, .gen (rdsG σ0.rds), .blk g1 101 σ0.cells, .gen (rdsG σ0.rds), .gen (rdsG L.rds), .blk bc 28 (caC c box man (.slice go gn gc) (.slice po pn pc)), .rd po (strE.fl ps), .rd uo (b8E.fl us)]) (fun x => x.1 ≤ pn ∧ x.2.size ≤ szB (ps.take x.1)) (fun x => pn - x.1) (0, ⟨#[]⟩) [0, 1, 2, 3, 4, 5, 6, 7] rfl rfl rfl rfl ⟨Nat.zero_le _, Nat.zero_le _⟩ ?_
    rintro ⟨i, all⟩ ⟨hi, hal⟩
    dsimp only at hi hal ⊢
    have htk := szB_take ps i
    by_cases hlt : i < pn
    · obtain ⟨b, hb⟩ : ∃ b, ps[i]? = some b := ⟨ps[i]'(by omega), by simp [show i < ps.length by omega]⟩
      have hsn : szB (ps.take (i + 1)) = szB (ps.take i) + b.size := by rw [take_snocE hb, szB_snoc]
      have htk1 := szB_take ps (i + 1)
      have hab : (all ++ b).size = all.size + b.size := by simp
      have hi1 : i * 1 < (strE.fl ps).length := by rw [strE_len]; omega
      ((try refine sU ?_);repeat(refine sN fun _=>?_;try refine sU ?_))
      refine SxIA.rd 6 _ rfl i rfl hlt hi1 fun g9 off ha => ?_
      ((try refine sU ?_);repeat(refine sN fun _=>?_;try refine sU ?_))
      refine SxLd.rd 6 rfl ha rfl (j := i * 1) (strE_at hb) ?_
      ((try refine sU ?_);repeat(refine sN fun _=>?_;try refine sU ?_))
      refine SxLe.mk (by omega) ?_
      ((try refine sU ?_);repeat(refine sN fun _=>?_;try refine sU ?_))
      exact SxRound.mk (i + 1, all ++ b) [0, 1, 2, 3, 4, 5, 6, 7] rfl rfl rfl ⟨hlt, by dsimp only; omega⟩ (by dsimp only; omega)
    · ((try refine sU ?_);repeat(refine sN fun _=>?_;try refine sU ?_))
      refine SxCall.mk fun w1 hs1 => (write_sat box man hb0 hb1 hm0 hm1 c hc L hgood ⟨#[]⟩ all σ0 hh0 (by show 0 + all.size ≤ 9000; omega) g1 (hs1.pick (ks := [2, 3, 4, 0, 1, 5, 6, 7]) rfl rfl)).mono ?_
      rintro e w2 ⟨σ1, hh1, hr⟩
      have e0 : (⟨#[]⟩ : ByteArray) ++ all = all := ba_extS (by rw [ba_appendS]; rfl)
      rw [e0] at hh1
      rcases hr with ⟨ho, rfl, hs2⟩ | ⟨ho, rfl, hs2⟩
      · refine ⟨_, _, rfl, hs2, ?_⟩
        ((try refine sU ?_);repeat(refine sN fun _=>?_;try refine sU ?_))
        refine SxCall.quiet st_awake ?_
        ((try refine sU ?_);repeat(refine sN fun _=>?_;try refine sU ?_))
        exact SxDone.mk fun w' hs => ⟨rfl, hs.touch.below⟩
      refine ⟨_, _, rfl, hs2, ?_⟩
      ((try refine sU ?_);repeat(refine sN fun _=>?_;try refine sU ?_))
      refine SxCode.loop (σ := Pj) [15, 14, 4] [112, 113, 114, 115, 118, 119, 120, 121, 122, 123, 124, 125, 16, 126, 127, 128, 129, 130, 131, 4, 132, 133, 134, 14, 116, 117, 15] (fun x => [.int .i64 (x.k : Nat), .string x.rest, .bool false]) (fun x => [.blk g1 101 σ1.cells, .gen (rdsG σ1.rds), .gen (rdsG L.rds), .blk g2 101 x.τ.cells, .gen (rdsG x.τ.rds), .blk bc 28 (caC c box man (.slice go gn gc) (.slice po pn pc)), .rd po (strE.fl ps), .rd uo (b8E.fl us)]) (fun x => x.k ≤ un ∧ x.τ.held box man c L x.B ∧ x.B ++ x.rest = all) (fun x => un - x.k) ⟨0, σ0, ⟨#[]⟩, all⟩ [0, 1, 2, 3, 4, 5, 6, 7] rfl rfl rfl rfl ⟨Nat.zero_le _, hh0, e0⟩ ?_
      rintro ⟨k, τ, B, rest⟩ ⟨hk, hht, hBr⟩
      dsimp only at hk hht hBr ⊢
      have hbs : B.size + rest.size = all.size := by rw [← hBr]; simp
      by_cases hkl : k < un
      · obtain ⟨u, hu1⟩ : ∃ u, us[k]? = some u := ⟨us[k]'(by omega), by simp [show k < us.length by omega]⟩
        have hu8 := u.toNat_lt
        ((try refine sU ?_);repeat(refine sN fun _=>?_;try refine sU ?_))
        refine SxIA.rd 7 _ rfl k rfl hkl (by rw [b8E_len]; omega) fun g9 off ha => ?_
        ((try refine sU ?_);repeat(refine sN fun _=>?_;try refine sU ?_))
        refine SxLd.rd 7 rfl ha rfl (j := k * 1) (b8E_at hu1) ?_
        ((try refine sU ?_);repeat(refine sN fun _=>?_;try refine sU ?_))
        obtain ⟨n, hn, hnl⟩ : ∃ n : Nat, (if ((rest.size : Nat) : Int) < (u.toNat : Nat) then ((rest.size : Nat) : Int) else (u.toNat : Nat)) = (n : Nat) ∧ n ≤ rest.size := by
          by_cases h : ((rest.size : Nat) : Int) < (u.toNat : Nat)
          · exact ⟨rest.size, by rw [if_pos h], Nat.le_refl _⟩
          · exact ⟨u.toNat, by rw [if_neg h], by omega⟩
        have hsplit : rest.extract 0 n ++ rest.extract n rest.size = rest := ba_extS (by
          rw [ba_appendS, ba_extractS, ba_extractS, List.drop_zero, Nat.sub_zero, List.take_of_length_le (l := rest.data.toList.drop n) (by rw [List.length_drop, ba_lenS]; exact Nat.le_refl _), List.take_append_drop])
        have hex : (rest.extract 0 n).size = n := by simp; omega
        have hall2 : B ++ rest.extract 0 n ++ rest.extract n rest.size = all := by rw [ByteArray.append_assoc, hsplit]; exact hBr
        refine SxBnd.mk 0 n rfl hn (Nat.zero_le _) hnl ?_
        ((try refine sU ?_);repeat(refine sN fun _=>?_;try refine sU ?_))
        refine SxCall.mk fun w1 hs1 => (write_sat box man hb0 hb1 hm0 hm1 c hc L hgood B (rest.extract 0 n) τ hht (by omega) g2 (hs1.pick (ks := [3, 4, 2, 0, 1, 5, 6, 7]) rfl rfl)).mono ?_
        rintro e w2 ⟨τ', hh', hr⟩
        have hle := held_less hc hh' (B := rest.extract n rest.size) (by rw [hall2]; exact hh1)
        rw [over_mono hle.1 hle.2 ho] at hr
        rcases hr with ⟨ho2, _⟩ | ⟨_, rfl, hs2⟩
        · cases ho2
        refine ⟨_, _, rfl, hs2, ?_⟩
        ((try refine sU ?_);repeat(refine sN fun _=>?_;try refine sU ?_))
        refine SxBnd.mk n rest.size hn rfl hnl (Nat.le_refl _) ?_
        ((try refine sU ?_);repeat(refine sN fun _=>?_;try refine sU ?_))
        exact SxRound.mk ⟨k + 1, τ', B ++ rest.extract 0 n, rest.extract n rest.size⟩ [3, 4, 2, 0, 1, 5, 6, 7] rfl rfl rfl ⟨hkl, hh', hall2⟩ (by dsimp only; omega)
      · ((try refine sU ?_);repeat(refine sN fun _=>?_;try refine sU ?_))
        refine SxCall.mk fun w1 hs1 => (write_sat box man hb0 hb1 hm0 hm1 c hc L hgood B rest τ hht (by omega) g2 (hs1.pick (ks := [3, 4, 2, 0, 1, 5, 6, 7]) rfl rfl)).mono ?_
        rintro e w2 ⟨τ2, hh2, hr⟩
        rw [hBr] at hh2
        obtain ⟨q1, q2, q3, q4⟩ := held_same hc hh2 hh1
        rw [q3, q4, ho] at hr
        rcases hr with ⟨ho2, _⟩ | ⟨_, rfl, hs2⟩
        · cases ho2
        refine ⟨_, _, rfl, hs2, ?_⟩
        ((try refine sU ?_);repeat(refine sN fun _=>?_;try refine sU ?_))
        refine SxCall.quietS (fun w3 hs3 => len_held w3 g1 hh1 (hs3.blk 3 rfl)) ?_
        ((try refine sU ?_);repeat(refine sN fun _=>?_;try refine sU ?_))
        refine SxCall.quietS (fun w3 hs3 => len_held w3 g2 hh2 (hs3.blk 0 rfl)) ?_
        ((try refine sU ?_);repeat(refine sN fun _=>?_;try refine sU ?_))
        refine SxCall.quietS (v := .int .i64 (σ1.ms.length : Nat)) (fun w3 hs3 => mans_held (σ := σ1) w3 g1 (hs3.blk 3 rfl)) ?_
        ((try refine sU ?_);repeat(refine sN fun _=>?_;try refine sU ?_))
        refine SxCall.quietS (v := .int .i64 (σ1.ms.length : Nat)) (fun w3 hs3 => by
          have h := mans_held (σ := τ2) w3 g2 (hs3.blk 0 rfl)
          rw [q3] at h
          exact h) ?_
        ((try refine sU ?_);repeat(refine sN fun _=>?_;try refine sU ?_))
        refine SxCall.quietS (fun w3 hs3 => fresh_held w3 g1 hh1 (hs3.blk 3 rfl)) ?_
        ((try refine sU ?_);repeat(refine sN fun _=>?_;try refine sU ?_))
        refine SxCall.quietS (v := .int .i64 (freshX (σ1.bs.map Nb.bx) : Nat)) (fun w3 hs3 => by
          have h := fresh_held w3 g2 hh2 (hs3.blk 0 rfl)
          rw [q2] at h
          exact h) ?_
        ((try refine sU ?_);repeat(refine sN fun _=>?_;try refine sU ?_))
        refine SxCall.mk fun w1 hs1 => (end_sat box man hb0 hb1 hm0 hm1 c hc L hgood all σ1 hh1 (by omega) g1 (hs1.pick (ks := [3, 4, 2, 0, 1, 5, 6, 7]) rfl rfl)).mono ?_
        rintro e w5 ⟨CS, hw, hr⟩
        have hCl := hw.len
        have hmuch := madeP_much (box := box) (man := man) (G := L.G) (conC_may hc).2 CS
        obtain ⟨a1, a2, a3, a4, a5⟩ := hmuch
        rcases hr with ⟨ho, rfl, hs5⟩ | ⟨ho, ms, mo, mc, bs, bo, bbc, rfl, hms, hbs, hs5⟩
        · refine ⟨_, _, rfl, hs5, ?_⟩
          ((try refine sU ?_);repeat(refine sN fun _=>?_;try refine sU ?_))
          refine SxCall.mk fun w1 hs1 => (end_sat box man hb0 hb1 hm0 hm1 c hc L hgood all τ2 hh2 (by omega) g2 (hs1.pick (ks := [4, 5, 3, 0, 1, 2, 6, 7, 8]) rfl rfl)).mono ?_
          rintro e w6 ⟨CS2, hw2, hr2⟩
          rw [hw2.det hw, ho] at hr2
          rcases hr2 with ⟨_, rfl, hs6⟩ | ⟨ho2, _⟩
          case' inr => cases ho2
          refine ⟨_, _, rfl, hs6, ?_⟩
          ((try refine sU ?_);repeat(refine sN fun _=>?_;try refine sU ?_))
          rename_i bm _ bn
          refine SxCode.loop (σ := Nat) [21, 4] [212, 213, 214, 215, 216, 219, 220, 221, 222, 223, 224, 225, 226, 227, 228, 229, 230, 4, 217, 218, 21] (fun i => [.int .i64 (i : Nat), .bool false]) (fun _ => [.blk bm 52 (mdC nilS nilS 0 0 0)]) (fun i => i = 0) (fun _ => 0) 0 [4] rfl rfl rfl rfl rfl ?_
          rintro j rfl
          ((try refine sU ?_);repeat(refine sN fun _=>?_;try refine sU ?_))
          refine SxCall.quiet st_awake ?_
          ((try refine sU ?_);repeat(refine sN fun _=>?_;try refine sU ?_))
          exact SxDone.mk fun w' hs => ⟨rfl, hs.touch.below⟩
        · refine ⟨_, _, rfl, hs5, ?_⟩
          ((try refine sU ?_);repeat(refine sN fun _=>?_;try refine sU ?_))
          refine SxCall.mk fun w1 hs1 => (end_sat box man hb0 hb1 hm0 hm1 c hc L hgood all τ2 hh2 (by omega) g2 (hs1.pick (ks := [5, 6, 4, 0, 1, 2, 3, 7, 8, 9]) rfl rfl)).mono ?_
          rintro e w6 ⟨CS2, hw2, hr2⟩
          rw [hw2.det hw, ho] at hr2
          rcases hr2 with ⟨ho2, _⟩ | ⟨_, ms2, mo2, mc2, bs2, bo2, bc2, rfl, hms2, hbs2, hs6⟩
          · cases ho2
          refine ⟨_, _, rfl, hs6, ?_⟩
          have l1 : ms2.length = ms.length := by have := congrArg List.length (hms2.trans hms.symm); rwa [List.length_map, List.length_map] at this
          have l2 : bs2.length = bs.length := by have := congrArg List.length (hbs2.trans hbs.symm); rwa [List.length_map, List.length_map] at this
          have l3 : ms.length ≤ 500 := by have := congrArg List.length hms; rw [List.length_map] at this; omega
          ((try refine sU ?_);repeat(refine sN fun _=>?_;try refine sU ?_))
          rename_i bm _ bn
          have b1 : (mo, mbE.fl (ms.map Mr.mb)) ∈ mdL ms mo bs bo := by unfold mdL; simp
          have b2 : (mo2, mbE.fl (ms2.map Mr.mb)) ∈ mdL ms2 mo2 bs2 bo2 := by unfold mdL; simp
          have b3 : ∀ m ∈ ms, (m.2.ao, enE.fl m.2.l) ∈ mdL ms mo bs bo := fun m hm => by have := maL_mem hm; unfold mdL; simp [this]
          have b4 : ∀ m ∈ ms2, (m.2.ao, enE.fl m.2.l) ∈ mdL ms2 mo2 bs2 bo2 := fun m hm => by have := maL_mem hm; unfold mdL; simp [this]
          refine SxCode.loop (σ := Nat) [21, 4] [212, 213, 214, 215, 216, 219, 220, 221, 222, 223, 224, 225, 226, 227, 228, 229, 230, 4, 217, 218, 21] (fun i => [.int .i64 (i : Nat), .bool false]) (fun _ => [.blk bm 52 (mdC (.slice mo ms.length mc) (.slice bo bs.length bbc) (all.size : Nat) (reA all) (imA all)), .blk bn 52 (mdC (.slice mo2 ms2.length mc2) (.slice bo2 bs2.length bc2) (all.size : Nat) (reA all) (imA all)), .gen (rdsG (mdL ms mo bs bo)), .gen (rdsG (mdL ms2 mo2 bs2 bo2))]) (fun i => i ≤ ms.length) (fun i => ms.length - i) 0 [5, 0, 6, 1] rfl rfl rfl rfl (Nat.zero_le _) ?_
          rintro i hi
          by_cases hlt : i < ms.length
          · obtain ⟨⟨i1, ⟨o1, c1, y1⟩⟩, hx1⟩ : ∃ x, ms[i]? = some x := ⟨ms[i], by simp [hlt]⟩
            obtain ⟨⟨i2, ⟨o2, c2, y2⟩⟩, hx2⟩ : ∃ x, ms2[i]? = some x := ⟨ms2[i]'(by omega), by simp [show i < ms2.length by omega]⟩
            have heq : ((i1, y1) : Mn) = (i2, y2) := by
              have h := congrArg (fun l : List Mn => l[i]?) (hms.trans hms2.symm)
              simp only [List.getElem?_map, hx1, hx2, Option.map_some, Mr.mn, Option.some.injEq] at h
              exact h
            simp only [Prod.mk.injEq] at heq
            obtain ⟨rfl, rfl⟩ := heq
            have hm1 := b3 _ (List.mem_of_getElem? hx1)
            have hm2 := b4 _ (List.mem_of_getElem? hx2)
            dsimp only at hm1 hm2
            ((try refine sU ?_);repeat(refine sN fun _=>?_;try refine sU ?_))
            refine SxCode.drawAll rfl [] ?_
            ((try refine sU ?_);repeat(refine sN fun _=>?_;try refine sU ?_))
            refine SxIA.of 2 rfl b1 i rfl hlt (by rw [mbE_len, List.length_map]; omega) fun g9 off ha => ?_
            ((try refine sU ?_);repeat(refine sN fun _=>?_;try refine sU ?_))
            refine SxLdN.of 2 rfl b1 ha rfl (vs := [.int .u32 i1, .slice o1 y1.length c1]) rfl (mbE.fl_at (Mr.mb_at hx1)) ?_
            ((try refine sU ?_);repeat(refine sN fun _=>?_;try refine sU ?_))
            refine SxIA.of 3 rfl b2 i rfl (by omega) (by rw [mbE_len, List.length_map]; omega) fun g9 off ha => ?_
            ((try refine sU ?_);repeat(refine sN fun _=>?_;try refine sU ?_))
            refine SxLdN.of 3 rfl b2 ha rfl (vs := [.int .u32 i1, .slice o2 y1.length c2]) rfl (mbE.fl_at (Mr.mb_at hx2)) ?_
            ((try refine sU ?_);repeat(refine sN fun _=>?_;try refine sU ?_))
            refine SxCall.quietS (v := .bool true) (fun w1 hs1 => by
              have h := RMSame_any i1 i1 y1 y1 o1 o2 c1 c2 w1 (hs1.rdIn 2 rfl hm1) (hs1.rdIn 3 rfl hm2)
              rw [decide_eq_true ⟨rfl, rfl⟩] at h
              exact h) ?_
            ((try refine sU ?_);repeat(refine sN fun _=>?_;try refine sU ?_))
            exact SxRound.mk (i + 1) [0, 1, 2, 3] rfl rfl rfl hlt (by omega)
          · ((try refine sU ?_);repeat(refine sN fun _=>?_;try refine sU ?_))
            refine SxCall.quiet st_awake ?_
            ((try refine sU ?_);repeat(refine sN fun _=>?_;try refine sU ?_))
            exact SxDone.mk fun w' hs => ⟨rfl, hs.touch.below⟩
end Go.Proofs.YtlmefcepdadfjaaGreat
