/- The laws of layer 7: HookTexts, HookParses, HookZeros. -/
import Derived.Test.YtffkjbcelbfejaaZHkJ
import Derived.Test.YtffkjbcelbfejaaZOpen
namespace Go.Proofs.Ytffkjbcelbfejaa
open Go.RowKit

theorem hexL_get : ∀ (f : List UInt8) (j : Nat), j < f.length → (hexL f).getD (2 * j) 0 = digs.getD ((f.getD j 0).toNat / 16) 0 ∧ (hexL f).getD (2 * j + 1) 0 = digs.getD ((f.getD j 0).toNat % 16) 0
  | [], j, h => by simp at h
  | b :: f, 0, _ => ⟨rfl, rfl⟩
  | b :: f, j + 1, h => by
    have ih := hexL_get f j (by simpa using h)
    rw [show 2 * (j + 1) = 2 * j + 2 by omega]
    exact ih
theorem hex_ok {f : List UInt8} (hf : f.length = 32) : pOk (hexL f) := by
  refine ⟨by rw [hexL_len, hf], fun i hi => ?_⟩
  obtain ⟨h1, h2⟩ := hexL_get f (i / 2) (by omega)
  have hb := getD_lt f (i / 2)
  by_cases h : i = 2 * (i / 2)
  · rw [← h] at h1
    rw [h1, dI_digs _ (by omega)]; omega
  · rw [show 2 * (i / 2) + 1 = i by omega] at h2
    rw [h2, dI_digs _ (by omega)]; omega
theorem hex_back {f : List UInt8} (hf : f.length = 32) : stP (hexL f) 64 = f := by
  refine eq_of_getD (stP_len _ _) hf fun j hj => ?_
  obtain ⟨h1, h2⟩ := hexL_get f j (by omega)
  have hb := getD_lt f j
  rw [List.getD_eq_getElem?_getD, stP_at _ _ _ hj, Option.getD_some, if_pos (by omega), h1, h2, dI_digs _ (by omega), dI_digs _ (by omega)]
  apply UInt8.toNat_inj.1
  rw [ofNat_toNat (by omega)]
  omega
theorem hex_text {s : List UInt8} (h : pOk s) : hexL (stP s 64) = s := by
  apply List.ext_getElem
  · rw [hexL_len, stP_len, h.1]
  · intro i h1 h2
    rw [h.1] at h2
    obtain ⟨e1, e2⟩ := hexL_get (stP s 64) (i / 2) (by rw [stP_len]; omega)
    have hst : (stP s 64).getD (i / 2) 0 = UInt8.ofNat ((dI (s.getD (2 * (i / 2)) 0)).toNat * 16 + (dI (s.getD (2 * (i / 2) + 1) 0)).toNat) := by
      rw [List.getD_eq_getElem?_getD, stP_at _ _ _ (by omega), Option.getD_some, if_pos (by omega)]
    rw [hst] at e1 e2
    have c1 := dI_cases (s.getD (2 * (i / 2)) 0)
    have c2 := dI_cases (s.getD (2 * (i / 2) + 1) 0)
    have p1 := h.2 (2 * (i / 2)) (by omega)
    have p2 := h.2 (2 * (i / 2) + 1) (by omega)
    have c1 := c1.resolve_left (by omega)
    have c2 := c2.resolve_left (by omega)
    rw [ofNat_toNat (by omega)] at e1 e2
    rw [show ((dI (s.getD (2 * (i / 2)) 0)).toNat * 16 + (dI (s.getD (2 * (i / 2) + 1) 0)).toNat) / 16 = (dI (s.getD (2 * (i / 2)) 0)).toNat by omega, c1.2.2] at e1
    rw [show ((dI (s.getD (2 * (i / 2)) 0)).toNat * 16 + (dI (s.getD (2 * (i / 2) + 1) 0)).toNat) % 16 = (dI (s.getD (2 * (i / 2) + 1) 0)).toNat by omega, c2.2.2] at e2
    have g : ∀ (l : List UInt8) (hl : i < l.length), l.getD i 0 = l[i] := fun l hl => by rw [List.getD_eq_getElem?_getD, List.getElem?_eq_getElem hl]; rfl
    rw [← g _ h1, ← g s (by rw [h.1]; omega)]
    by_cases hi : i = 2 * (i / 2)
    · rw [← hi] at e1; exact e1
    · rw [show 2 * (i / 2) + 1 = i by omega] at e2; exact e2
def f0 : List UInt8 := [0, 32, 0, 0, 0, 0, 0, 0, 0, 0, 0, 0, 0, 0, 0, 0, 0, 0, 0, 0, 0, 0, 0, 0, 0, 0, 0, 0, 0, 0, 0, 0]
def f1 : List UInt8 := [0, 0, 1, 2, 0, 0, 0, 0, 0, 0, 0, 0, 0, 0, 0, 0, 0, 0, 0, 0, 0, 0, 0, 0, 0, 0, 0, 0, 0, 0, 0, 0]
def fp0 : Fp := ⟨f0, rfl⟩
def zFp : Fp := ⟨zF, rfl⟩
theorem set_two (x : Fp) : setF7 [x, x] = [x] := setS_ext ltF_ord cfF_iff (List.pairwise_singleton ..) fun z => by simp
theorem HParse_hex (f : List UInt8) (hf : f.length = 32) (w : World) : Calls Try.prog 9 #[txH (hexL f)] w fun e w' => e = .returned (.tuple #[fpV f, .int .i64 0]) ∧ Below w.heap.size w w' :=
  (HParse_any (hexL f) (by rw [hexL_len, hf]; decide) w).mono fun e w' h => ⟨by have := h.1.1 (hex_ok hf); rw [hex_back hf] at this; exact this, h.2⟩
theorem cells_f0 : fpC f0 = [.int .u8 0, .int .u8 32, .int .u8 0, .int .u8 0, .int .u8 0, .int .u8 0, .int .u8 0, .int .u8 0, .int .u8 0, .int .u8 0, .int .u8 0, .int .u8 0, .int .u8 0, .int .u8 0, .int .u8 0, .int .u8 0, .int .u8 0, .int .u8 0, .int .u8 0, .int .u8 0, .int .u8 0, .int .u8 0, .int .u8 0, .int .u8 0, .int .u8 0, .int .u8 0, .int .u8 0, .int .u8 0, .int .u8 0, .int .u8 0, .int .u8 0, .int .u8 0] := rfl
theorem hk_awake (w : World) : Calls Try.prog 13 #[] w fun e w' => e = .returned (.bool true) ∧ Below w.heap.size w w' := by
  have hT := HText_any f0 rfl
  have hP := HParse_hex f0 rfl
  have hZ := Zeros_any f0 rfl
  have hI := Is_any f0 rfl 10
  have hJ := Is_any f0 rfl 11
  have hN := Num_any f1 rfl
  have hL := HLess_any zF f0 rfl rfl
  have hS := fun (w : World) (ao : Option Addr) (cap : Nat) (hr : Rd w ao (fpE.fl [fp0, fp0])) => HSet_any [fp0, fp0] (by decide) ao cap w hr
  rw [show zr f0 = 10 from by decide] at hZ
  rw [show isF f0 10 = true from by decide] at hI
  rw [show isF f0 11 = false from by decide] at hJ
  rw [show beV (f1.take 4) = 258 from by decide] at hN
  rw [show lessF zF f0 = true from by decide] at hL
  rw [set_two] at hS
  refine sx_fn (S := SX) (M := []) (N := 50) (H0 := []) Try.func13 rfl rfl rfl (Sat.nil _ _) ?_
  ((try refine sx_use ?_); (repeat (refine SxNew.mk fun _ => ?_; (try refine sx_use ?_))))
  refine SxCall.quiet hT ?_
  ((try refine sx_use ?_); (repeat (refine SxNew.mk fun _ => ?_; (try refine sx_use ?_))))
  refine SxCall.quiet hP ?_
  ((try refine sx_use ?_); (repeat (refine SxNew.mk fun _ => ?_; (try refine sx_use ?_))))
  refine SxCall.quiet hZ ?_
  ((try refine sx_use ?_); (repeat (refine SxNew.mk fun _ => ?_; (try refine sx_use ?_))))
  refine SxCall.quiet hI ?_
  ((try refine sx_use ?_); (repeat (refine SxNew.mk fun _ => ?_; (try refine sx_use ?_))))
  refine SxCall.quiet hJ ?_
  ((try refine sx_use ?_); (repeat (refine SxNew.mk fun _ => ?_; (try refine sx_use ?_))))
  refine SxCall.quiet hN ?_
  ((try refine sx_use ?_); (repeat (refine SxNew.mk fun _ => ?_; (try refine sx_use ?_))))
  refine SxRun.fpEq (f := f0) (g := f0) rfl rfl ?_
  rw [show decide (f0 = f0) = true from decide_eq_true rfl]
  ((try refine sx_use ?_); (repeat (refine SxNew.mk fun _ => ?_; (try refine sx_use ?_))))
  refine SxCall.quiet hL ?_
  ((try refine sx_use ?_); (repeat (refine SxNew.mk fun _ => ?_; (try refine sx_use ?_))))
  refine SxCall.newRow (fun w hs => hS w _ _ (hs.rowRd 0 rfl (by decide))) fun ao cap => ?_
  ((try refine sx_use ?_); (repeat (refine SxNew.mk fun _ => ?_; (try refine sx_use ?_))))
  exact SxDone.mk fun w' hs => ⟨rfl, hs.touch.below⟩
theorem open_fp {w : World} {d : Nat} {cs : List Value} (h : FitR Try.prog w (d + 1) (List.replicate 32 (.int .u8)) cs) : ∃ f : Fp, cs = fpC f.1 := by
  obtain ⟨hl, hk⟩ := h
  rw [List.length_replicate] at hl
  have each : ∀ i, i < 32 → ∃ b : UInt8, cs[i]? = some (bV b) := by
    intro i hi
    have hc : cs[i]? = some (cs[i]'(by omega)) := List.getElem?_eq_getElem (by omega)
    obtain ⟨s, hs, hw⟩ := fitK_int (hk i (.int .u8) _ (by rw [List.getElem?_replicate, if_pos hi]) hc)
    have hb : 0 ≤ s ∧ s ≤ 255 := by simpa [Lit.wf, IntKind.min, IntKind.max, IntKind.signed, IntKind.bits] using hw
    refine ⟨UInt8.ofNat s.toNat, ?_⟩
    rw [hc, hs]
    unfold bV
    rw [ofNat_toNat (by omega)]
    congr 2
    omega
  let g : Nat → UInt8 := fun i => if h : i < 32 then Classical.choose (each i h) else 0
  have hg : ∀ i, i < 32 → cs[i]? = some (bV (g i)) := by
    intro i hi
    simp only [g, dif_pos hi]
    exact Classical.choose_spec (each i hi)
  refine ⟨⟨(List.range 32).map g, by simp⟩, ?_⟩
  apply List.ext_getElem?
  intro i
  by_cases hi : i < 32
  · rw [hg i hi]; simp [fpC, hi]
  · rw [List.getElem?_eq_none (by omega), List.getElem?_eq_none (by simp [fpC]; omega)]
theorem HookTexts_law (w : World) (cs : List Value) (h : FitR Try.prog w 4 (List.replicate 32 (.int .u8)) cs) :
    Calls Try.prog 3 #[.agg cs.toArray] w fun e w' => e = .returned (.bool true) ∧ Below w.heap.size w w' := by
  obtain ⟨x, rfl⟩ := open_fp h
  clear h
  have hb := beV_lt 4 x.1
  refine sx_fn (S := SX) (M := []) (N := 36) (H0 := []) Try.func3 rfl rfl rfl (Sat.nil _ _) ?_
  ((try refine sx_use ?_); (repeat (refine SxNew.mk fun _ => ?_; (try refine sx_use ?_))))
  refine SxLdN.blk 0 rfl (vs := fpE.enc x) (fpE.len x) (rowFp_all x) ?_
  ((try refine sx_use ?_); (repeat (refine SxNew.mk fun _ => ?_; (try refine sx_use ?_))))
  refine SxCall.quiet (HText_any x.1 x.2) ?_
  ((try refine sx_use ?_); (repeat (refine SxNew.mk fun _ => ?_; (try refine sx_use ?_))))
  refine SxCall.quiet (HParse_hex x.1 x.2) ?_
  ((try refine sx_use ?_); (repeat (refine SxNew.mk fun _ => ?_; (try refine sx_use ?_))))
  refine SxSt.elem fpE (x := x) 0 rfl rfl ?_
  ((try refine sx_use ?_); (repeat (refine SxNew.mk fun _ => ?_; (try refine sx_use ?_))))
  refine SxCode.drawAll rfl [] ?_
  ((try refine sx_use ?_); (repeat (refine SxNew.mk fun _ => ?_; (try refine sx_use ?_))))
  refine SxLdN.blk 1 rfl (vs := fpE.enc x) (fpE.len x) (rowFp_all x) ?_
  ((try refine sx_use ?_); (repeat (refine SxNew.mk fun _ => ?_; (try refine sx_use ?_))))
  refine SxLdN.blk 1 rfl (vs := fpE.enc x) (fpE.len x) (rowFp_all x) ?_
  ((try refine sx_use ?_); (repeat (refine SxNew.mk fun _ => ?_; (try refine sx_use ?_))))
  refine SxCall.quiet (Num_any x.1 x.2) ?_
  ((try refine sx_use ?_); (repeat (refine SxNew.mk fun _ => ?_; (try refine sx_use ?_))))
  refine SxCall.quiet (RNum_any x.1 x.2) ?_
  ((try refine sx_use ?_); (repeat (refine SxNew.mk fun _ => ?_; (try refine sx_use ?_))))
  refine SxLdN.blk 1 rfl (vs := fpE.enc x) (fpE.len x) (rowFp_all x) ?_
  ((try refine sx_use ?_); (repeat (refine SxNew.mk fun _ => ?_; (try refine sx_use ?_))))
  refine SxCall.quiet (RHText_any x.1 x.2) ?_
  ((try refine sx_use ?_); (repeat (refine SxNew.mk fun _ => ?_; (try refine sx_use ?_))))
  refine SxIf.strT rfl ?_
  ((try refine sx_use ?_); (repeat (refine SxNew.mk fun _ => ?_; (try refine sx_use ?_))))
  refine SxLdN.blk 0 rfl (vs := fpE.enc x) (fpE.len x) (rowFp_all x) ?_
  ((try refine sx_use ?_); (repeat (refine SxNew.mk fun _ => ?_; (try refine sx_use ?_))))
  refine SxLdN.blk 1 rfl (vs := fpE.enc x) (fpE.len x) (rowFp_all x) ?_
  ((try refine sx_use ?_); (repeat (refine SxNew.mk fun _ => ?_; (try refine sx_use ?_))))
  refine SxRun.eqFp (x := x) (y := x) ?_
  rw [show decide (x = x) = true from decide_eq_true rfl]
  ((try refine sx_use ?_); (repeat (refine SxNew.mk fun _ => ?_; (try refine sx_use ?_))))
  refine SxCall.quiet hk_awake ?_
  ((try refine sx_use ?_); (repeat (refine SxNew.mk fun _ => ?_; (try refine sx_use ?_))))
  exact SxDone.mk fun w' hs => ⟨rfl, hs.touch.below⟩
theorem dI_char (c : UInt8) : ((48 ≤ c.toNat ∧ c.toNat ≤ 57) ∨ (97 ≤ c.toNat ∧ c.toNat ≤ 102)) → 0 ≤ dI c := by
  refine all_bytes (P := fun c => ((48 ≤ c.toNat ∧ c.toNat ≤ 57) ∨ (97 ≤ c.toNat ∧ c.toNat ≤ 102)) → 0 ≤ dI c) ?_ c
  decide +kernel
set_option maxHeartbeats 2000000 in
theorem HookParses_law (w : World) (s : ByteArray) (hs : s.size ≤ maxLen) :
    Calls Try.prog 4 #[.string s] w fun e w' => e = .returned (.bool true) ∧ Below w.heap.size w w' := by
  obtain ⟨l, rfl⟩ : ∃ l : List UInt8, s = ⟨l.toArray⟩ := ⟨s.data.toList, rfl⟩
  rw [mkh_size] at hs
  have hsz : (⟨l.toArray⟩ : ByteArray).size = l.length := mkh_size l
  by_cases hok : pOk l
  · refine sx_fn (S := SX) (M := []) (N := 71) (H0 := []) Try.func4 rfl rfl rfl (Sat.nil _ _) ?_
    ((try refine sx_use ?_); (repeat (refine SxNew.mk fun _ => ?_; (try refine sx_use ?_))))
    refine SxCall.quiet (fun w => (HParse_any l hs w).mono fun e w' h => ⟨h.1.1 hok, h.2⟩) ?_
    ((try refine sx_use ?_); (repeat (refine SxNew.mk fun _ => ?_; (try refine sx_use ?_))))
    refine SxCall.quiet (RHText_any (stP l 64) (stP_len l 64)) ?_
    rw [hex_text hok]
    ((try refine sx_use ?_); (repeat (refine SxNew.mk fun _ => ?_; (try refine sx_use ?_))))
    refine SxIf.strT rfl ?_
    ((try refine sx_use ?_); (repeat (refine SxNew.mk fun _ => ?_; (try refine sx_use ?_))))
    refine SxCall.quiet hk_awake ?_
    ((try refine sx_use ?_); (repeat (refine SxNew.mk fun _ => ?_; (try refine sx_use ?_))))
    exact SxDone.mk fun w' hs => ⟨rfl, hs.touch.below⟩
  · refine sx_fn (S := SX) (M := []) (N := 71) (H0 := []) Try.func4 rfl rfl rfl (Sat.nil _ _) ?_
    ((try refine sx_use ?_); (repeat (refine SxNew.mk fun _ => ?_; (try refine sx_use ?_))))
    refine SxCall.quiet (fun w => (HParse_any l hs w).mono fun e w' h => ⟨h.1.2 hok, h.2⟩) ?_
    ((try refine sx_use ?_); (repeat (refine SxNew.mk fun _ => ?_; (try refine sx_use ?_))))
    rename_i g
    refine SxCode.loop (σ := Nat × Bool) [6, 5] [17, 18, 19, 20, 21, 22, 23, 24, 27, 28, 29, 30, 31, 32, 33, 34, 35, 36, 37, 38, 39, 40, 41, 42, 43, 44, 45, 46, 47, 48, 49, 5, 25, 26, 6] (fun s => [.int .i64 (s.1 : Nat), .bool s.2]) (fun _ => [.blk g 23 (fpE.enc zFp)]) (fun s => s.1 ≤ l.length ∧ s.1 ≤ 64 ∧ (s.2 = true → l.length = 64 ∧ ∀ i, i < s.1 → 0 ≤ dI (l.getD i 0))) (fun s => 64 - s.1) (0, decide (l.length = 64)) [0] rfl (by rw [hsz, show (((l.length : Nat) : Int) == 64) = decide (l.length = 64) by rw [Bool.eq_iff_iff]; simp; omega]; rfl) rfl rfl
      ⟨Nat.zero_le _, Nat.zero_le _, fun h => ⟨of_decide_eq_true h, fun i hi => absurd hi (Nat.not_lt_zero _)⟩⟩ ?_
    rintro ⟨k, b⟩ ⟨hk, hk2, hb⟩
    dsimp only at hk hk2 hb ⊢
    have hfalse : b = true → l.length ≤ k → False := fun h1 h2 => by
      obtain ⟨h3, h4⟩ := hb h1
      exact hok ⟨h3, fun i hi => h4 i (by omega)⟩
    ((try refine sx_use ?_); (repeat (refine SxNew.mk fun _ => ?_; (try refine sx_use ?_))))
    refine SxIf.dec (fun h => ?_) (fun h => ?_)
    · rw [hsz] at h
      ((try refine sx_use ?_); (repeat (refine SxNew.mk fun _ => ?_; (try refine sx_use ?_))))
      refine SxIf.dec (fun h1 => ?_) (fun h1 => ?_)
      · ((try refine sx_use ?_); (repeat (refine SxNew.mk fun _ => ?_; (try refine sx_use ?_))))
        have hc := getD_lt l k
        have good : ((48 ≤ (l.getD k 0).toNat ∧ (l.getD k 0).toNat ≤ 57) ∨ (97 ≤ (l.getD k 0).toNat ∧ (l.getD k 0).toNat ≤ 102)) → b = true → l.length = 64 ∧ ∀ i, i < k + 1 → 0 ≤ dI (l.getD i 0) := fun h2 h3 => by
          refine ⟨(hb h3).1, fun i hi => ?_⟩
          rcases Nat.lt_succ_iff_lt_or_eq.1 hi with h4 | h4
          · exact (hb h3).2 i h4
          · subst h4; exact dI_char _ h2
        refine SxIdx.mk k rfl (by rw [hsz]; omega) ?_
        ((try refine sx_use ?_); (repeat (refine SxNew.mk fun _ => ?_; (try refine sx_use ?_))))
        refine SxIf.dec (fun h2 => ?_) (fun h2 => ?_)
        · ((try refine sx_use ?_); (repeat (refine SxNew.mk fun _ => ?_; (try refine sx_use ?_))))
          refine SxIdx.mk k rfl (by rw [hsz]; omega) ?_
          ((try refine sx_use ?_); (repeat (refine SxNew.mk fun _ => ?_; (try refine sx_use ?_))))
          refine SxIf.dec (fun h3 => ?_) (fun h3 => ?_)
          · ((try refine sx_use ?_); (repeat (refine SxNew.mk fun _ => ?_; (try refine sx_use ?_))))
            exact SxRound.mk (k + 1, b) [0] rfl rfl rfl ⟨by dsimp only; omega, by dsimp only; omega, good (.inl ⟨by change ((l.getD k 0).toNat : Int) ≥ 48 at h2; omega, by change ((l.getD k 0).toNat : Int) ≤ 57 at h3; omega⟩)⟩ (by dsimp only; omega)
          · ((try refine sx_use ?_); (repeat (refine SxNew.mk fun _ => ?_; (try refine sx_use ?_))))
            refine SxIdx.mk k rfl (by rw [hsz]; omega) ?_
            ((try refine sx_use ?_); (repeat (refine SxNew.mk fun _ => ?_; (try refine sx_use ?_))))
            refine SxIf.dec (fun h4 => ?_) (fun h4 => ?_)
            · ((try refine sx_use ?_); (repeat (refine SxNew.mk fun _ => ?_; (try refine sx_use ?_))))
              refine SxIdx.mk k rfl (by rw [hsz]; omega) ?_
              ((try refine sx_use ?_); (repeat (refine SxNew.mk fun _ => ?_; (try refine sx_use ?_))))
              refine SxIf.nt (SxIf.dec (fun h5 => ?_) (fun h5 => ?_))
              · ((try refine sx_use ?_); (repeat (refine SxNew.mk fun _ => ?_; (try refine sx_use ?_))))
                exact SxRound.mk (k + 1, b) [0] rfl rfl rfl ⟨by dsimp only; omega, by dsimp only; omega, good (.inr ⟨by change ((l.getD k 0).toNat : Int) ≥ 97 at h4; omega, by change ((l.getD k 0).toNat : Int) ≤ 102 at h5; omega⟩)⟩ (by dsimp only; omega)
              · ((try refine sx_use ?_); (repeat (refine SxNew.mk fun _ => ?_; (try refine sx_use ?_))))
                exact SxRound.mk (k + 1, false) [0] rfl rfl rfl ⟨by dsimp only; omega, by dsimp only; omega, fun h => (by cases h)⟩ (by dsimp only; omega)
            · ((try refine sx_use ?_); (repeat (refine SxNew.mk fun _ => ?_; (try refine sx_use ?_))))
              exact SxRound.mk (k + 1, false) [0] rfl rfl rfl ⟨by dsimp only; omega, by dsimp only; omega, fun h => (by cases h)⟩ (by dsimp only; omega)
        · ((try refine sx_use ?_); (repeat (refine SxNew.mk fun _ => ?_; (try refine sx_use ?_))))
          refine SxIdx.mk k rfl (by rw [hsz]; omega) ?_
          ((try refine sx_use ?_); (repeat (refine SxNew.mk fun _ => ?_; (try refine sx_use ?_))))
          exact SxRound.mk (k + 1, false) [0] rfl rfl rfl ⟨by dsimp only; omega, by dsimp only; omega, fun h => (by cases h)⟩ (by dsimp only; omega)
      · have hbf : b = false := by
          cases b with
          | false => rfl
          | true => obtain ⟨h3, h4⟩ := hb rfl; exact (hok ⟨h3, fun i hi => h4 i (by omega)⟩).elim
        subst hbf
        ((try refine sx_use ?_); (repeat (refine SxNew.mk fun _ => ?_; (try refine sx_use ?_))))
        refine SxRun.eqFp (x := zFp) (y := zFp) ?_
        rw [show decide (zFp = zFp) = true from decide_eq_true rfl]
        ((try refine sx_use ?_); (repeat (refine SxNew.mk fun _ => ?_; (try refine sx_use ?_))))
        refine SxCall.quiet hk_awake ?_
        ((try refine sx_use ?_); (repeat (refine SxNew.mk fun _ => ?_; (try refine sx_use ?_))))
        exact SxDone.mk fun w' hs => ⟨rfl, hs.touch.below⟩
    · rw [hsz] at h
      have hbf : b = false := by
        cases b with
        | false => rfl
        | true => exact (hfalse rfl (by omega)).elim
      subst hbf
      ((try refine sx_use ?_); (repeat (refine SxNew.mk fun _ => ?_; (try refine sx_use ?_))))
      refine SxRun.eqFp (x := zFp) (y := zFp) ?_
      rw [show decide (zFp = zFp) = true from decide_eq_true rfl]
      ((try refine sx_use ?_); (repeat (refine SxNew.mk fun _ => ?_; (try refine sx_use ?_))))
      refine SxCall.quiet hk_awake ?_
      ((try refine sx_use ?_); (repeat (refine SxNew.mk fun _ => ?_; (try refine sx_use ?_))))
      exact SxDone.mk fun w' hs => ⟨rfl, hs.touch.below⟩
theorem isF_less (f : List UInt8) (n : Int) (h : isF f n = true) : isF f (n - 1) = true := by
  unfold isF clampN at *
  rw [decide_eq_true_iff] at *
  by_cases h1 : n < 0
  · rw [if_pos h1] at h
    rw [if_pos (show n - 1 < 0 by omega)]
    omega
  · rw [if_neg h1] at h
    by_cases h2 : n - 1 < 0
    · rw [if_pos h2]
      split <;> omega
    · rw [if_neg h2]
      split at h <;> split <;> omega
theorem isF_zero (f : List UInt8) : isF f 0 = true := by
  unfold isF clampN
  rw [decide_eq_true_iff]
  simp
theorem SxRun.bNe {P : Program} {A : Value → Prop} {t : Nat} {x y : Operand} {a b : Bool} (h : P.underlying t = some .bool) (hA : A (.bool (a != b))) : SxRun P (do eqGuard .neq t x y (.bool a) (.bool b); binOp .neq t (.bool a) (.bool b)) A :=
  ⟨_, fun w => by have : (Op.equal t (.bool a) (.bool b)).run P w = .ok (a == b) w := run_equalIn_bool' (P := P) w 9999 t a b h; simp [eqGuard, binOp, this, bne], hA⟩
theorem SxRun.bEq {P : Program} {A : Value → Prop} {t : Nat} {x y : Operand} {a b : Bool} (h : P.underlying t = some .bool) (hA : A (.bool (a == b))) : SxRun P (do eqGuard .eql t x y (.bool a) (.bool b); binOp .eql t (.bool a) (.bool b)) A :=
  ⟨_, fun w => by have : (Op.equal t (.bool a) (.bool b)).run P w = .ok (a == b) w := run_equalIn_bool' (P := P) w 9999 t a b h; simp [eqGuard, binOp, this], hA⟩
set_option maxHeartbeats 2000000 in
theorem HookZeros_law (w : World) (cs : List Value) (h : FitR Try.prog w 4 (List.replicate 32 (.int .u8)) cs) (ds : List Value) (h2 : FitR Try.prog w 4 (List.replicate 32 (.int .u8)) ds) (n : Int) (hn : IntKind.i64.min ≤ n ∧ n ≤ IntKind.i64.max) :
    Calls Try.prog 5 #[.agg cs.toArray, .agg ds.toArray, .int .i64 n] w fun e w' => e = .returned (.bool true) ∧ Below w.heap.size w w' := by
  obtain ⟨x, rfl⟩ := open_fp h
  obtain ⟨y, rfl⟩ := open_fp h2
  clear h h2
  have hn2 : -9223372036854775808 ≤ n ∧ n ≤ 9223372036854775807 := by simpa [IntKind.min, IntKind.max, IntKind.signed, IntKind.bits] using hn
  have hIs0 := Is_any x.1 x.2 0
  rw [isF_zero] at hIs0
  refine sx_fn (S := SX) (M := []) (N := 49) (H0 := []) Try.func5 rfl rfl rfl (Sat.nil _ _) ?_
  ((try refine sx_use ?_); (repeat (refine SxNew.mk fun _ => ?_; (try refine sx_use ?_))))
  refine SxCode.drawAll rfl [] ?_
  ((try refine sx_use ?_); (repeat (refine SxNew.mk fun _ => ?_; (try refine sx_use ?_))))
  (repeat ((first | refine SxLdN.blk 1 rfl (vs := fpE.enc x) (fpE.len x) (rowFp_all x) ?_ | refine SxLdN.blk 0 rfl (vs := fpE.enc y) (fpE.len y) (rowFp_all y) ?_); ((try refine sx_use ?_); (repeat (refine SxNew.mk fun _ => ?_; (try refine sx_use ?_))))))
  refine SxCall.quiet (Zeros_any x.1 x.2) ?_
  ((try refine sx_use ?_); (repeat (refine SxNew.mk fun _ => ?_; (try refine sx_use ?_))))
  refine SxCall.quiet (RZeros_any x.1 x.2) ?_
  ((try refine sx_use ?_); (repeat (refine SxNew.mk fun _ => ?_; (try refine sx_use ?_))))
  (repeat ((first | refine SxLdN.blk 1 rfl (vs := fpE.enc x) (fpE.len x) (rowFp_all x) ?_ | refine SxLdN.blk 0 rfl (vs := fpE.enc y) (fpE.len y) (rowFp_all y) ?_); ((try refine sx_use ?_); (repeat (refine SxNew.mk fun _ => ?_; (try refine sx_use ?_))))))
  refine SxCall.quiet (Is_any x.1 x.2 n) ?_
  ((try refine sx_use ?_); (repeat (refine SxNew.mk fun _ => ?_; (try refine sx_use ?_))))
  refine SxCall.quiet (RIs_any x.1 x.2 n) ?_
  ((try refine sx_use ?_); (repeat (refine SxNew.mk fun _ => ?_; (try refine sx_use ?_))))
  refine SxRun.bNe Try.underlying4 ?_
  rw [show (isF x.1 n != isF x.1 n) = false from bne_self_eq_false _]
  ((try refine sx_use ?_); (repeat (refine SxNew.mk fun _ => ?_; (try refine sx_use ?_))))
  (repeat ((first | refine SxLdN.blk 1 rfl (vs := fpE.enc x) (fpE.len x) (rowFp_all x) ?_ | refine SxLdN.blk 0 rfl (vs := fpE.enc y) (fpE.len y) (rowFp_all y) ?_); ((try refine sx_use ?_); (repeat (refine SxNew.mk fun _ => ?_; (try refine sx_use ?_))))))
  refine SxCall.quiet (HLess_any x.1 y.1 x.2 y.2) ?_
  ((try refine sx_use ?_); (repeat (refine SxNew.mk fun _ => ?_; (try refine sx_use ?_))))
  refine SxCall.quiet (RLess_any x.1 y.1 x.2 y.2) ?_
  ((try refine sx_use ?_); (repeat (refine SxNew.mk fun _ => ?_; (try refine sx_use ?_))))
  refine SxRun.bNe Try.underlying4 ?_
  rw [show (lessF x.1 y.1 != lessF x.1 y.1) = false from bne_self_eq_false _]
  ((try refine sx_use ?_); (repeat (refine SxNew.mk fun _ => ?_; (try refine sx_use ?_))))
  refine SxIf.dec (fun h1 => ?_) (fun h1 => ?_)
  · ((try refine sx_use ?_); (repeat (refine SxNew.mk fun _ => ?_; (try refine sx_use ?_))))
    refine SxLdN.blk 1 rfl (vs := fpE.enc x) (fpE.len x) (rowFp_all x) ?_
    ((try refine sx_use ?_); (repeat (refine SxNew.mk fun _ => ?_; (try refine sx_use ?_))))
    refine SxCall.quiet (Is_any x.1 x.2 n) ?_
    ((try refine sx_use ?_); (repeat (refine SxNew.mk fun _ => ?_; (try refine sx_use ?_))))
    refine ⟨fun hg => ?_, fun hg => ?_⟩
    · have hJ := Is_any x.1 x.2 (n - 1)
      rw [isF_less x.1 n hg] at hJ
      ((try refine sx_use ?_); (repeat (refine SxNew.mk fun _ => ?_; (try refine sx_use ?_))))
      refine SxLdN.blk 1 rfl (vs := fpE.enc x) (fpE.len x) (rowFp_all x) ?_
      ((try refine sx_use ?_); (repeat (refine SxNew.mk fun _ => ?_; (try refine sx_use ?_))))
      refine SxCall.quiet hJ ?_
      ((try refine sx_use ?_); (repeat (refine SxNew.mk fun _ => ?_; (try refine sx_use ?_))))
      refine SxLdN.blk 1 rfl (vs := fpE.enc x) (fpE.len x) (rowFp_all x) ?_
      ((try refine sx_use ?_); (repeat (refine SxNew.mk fun _ => ?_; (try refine sx_use ?_))))
      refine SxCall.quiet hIs0 ?_
      ((try refine sx_use ?_); (repeat (refine SxNew.mk fun _ => ?_; (try refine sx_use ?_))))
      refine SxCall.quiet hk_awake ?_
      ((try refine sx_use ?_); (repeat (refine SxNew.mk fun _ => ?_; (try refine sx_use ?_))))
      exact SxDone.mk fun w' hs => ⟨rfl, hs.touch.below⟩
    · ((try refine sx_use ?_); (repeat (refine SxNew.mk fun _ => ?_; (try refine sx_use ?_))))
      refine SxLdN.blk 1 rfl (vs := fpE.enc x) (fpE.len x) (rowFp_all x) ?_
      ((try refine sx_use ?_); (repeat (refine SxNew.mk fun _ => ?_; (try refine sx_use ?_))))
      refine SxCall.quiet hIs0 ?_
      ((try refine sx_use ?_); (repeat (refine SxNew.mk fun _ => ?_; (try refine sx_use ?_))))
      refine SxCall.quiet hk_awake ?_
      ((try refine sx_use ?_); (repeat (refine SxNew.mk fun _ => ?_; (try refine sx_use ?_))))
      exact SxDone.mk fun w' hs => ⟨rfl, hs.touch.below⟩
  · ((try refine sx_use ?_); (repeat (refine SxNew.mk fun _ => ?_; (try refine sx_use ?_))))
    refine SxLdN.blk 1 rfl (vs := fpE.enc x) (fpE.len x) (rowFp_all x) ?_
    ((try refine sx_use ?_); (repeat (refine SxNew.mk fun _ => ?_; (try refine sx_use ?_))))
    refine SxCall.quiet hIs0 ?_
    ((try refine sx_use ?_); (repeat (refine SxNew.mk fun _ => ?_; (try refine sx_use ?_))))
    refine SxCall.quiet hk_awake ?_
    ((try refine sx_use ?_); (repeat (refine SxNew.mk fun _ => ?_; (try refine sx_use ?_))))
    exact SxDone.mk fun w' hs => ⟨rfl, hs.touch.below⟩
end Go.Proofs.Ytffkjbcelbfejaa
