/- The laws of layer 7: HookSets, HookPairs. -/
import Derived.Test.YtffkjbcelbfejaaZHkK
namespace Go.Proofs.Ytffkjbcelbfejaa
open Go.RowKit

theorem open_fp0 {w : World} {d : Nat} {cs : List Value} (h : FitR Try.prog w d (List.replicate 32 (.int .u8)) cs) : ∃ f : Fp, cs = fpC f.1 := by
  refine open_fp (w := w) (d := d) ⟨h.1, fun i k v hk hv => ?_⟩
  have h2 := h.2 i k v hk hv
  rw [List.getElem?_replicate] at hk
  split at hk
  · simp only [Option.some.injEq] at hk
    subst hk
    obtain ⟨s, h3⟩ := fitK_int h2
    exact ⟨s, h3⟩
  · cases hk
/-- A slice of fingerprints. -/
theorem open_fps {w : World} {d : Nat} {v : Value} (hv : FitK Try.prog w (d + 1) (.slice 23) v) : ∃ (ao : Option Addr) (n cap : Nat), v = .slice ao n cap ∧ (n ≤ 1000 → ∃ l : List Fp, n = l.length ∧ Rd w ao (fpE.fl l)) := by
  obtain ⟨ao, n, cap, rfl, h1, h2, h3⟩ := hv
  obtain ⟨xs, hl, hrd, hx⟩ := h3 (List.replicate 32 (.int .u8)) (by kernel_rfl) (by kernel_rfl)
  replace hl : xs.length = n * 32 := hl
  replace hx : ∀ i j k x, i < n → (List.replicate 32 (CK.int .u8))[j]? = some k → xs[i * 32 + j]? = some x → FitK Try.prog w d k x := hx
  have each : ∀ i, i < n → ∃ x : Fp, (xs.drop (i * 32)).take 32 = fpE.enc x := by
    intro i hi
    have hfr : FitR Try.prog w d (List.replicate 32 (.int .u8)) ((xs.drop (i * 32)).take 32) := by
      refine ⟨by rw [List.length_take, List.length_drop, List.length_replicate]; omega, fun j k v hk hj => ?_⟩
      rw [List.getElem?_take] at hj
      split at hj
      · rw [List.getElem?_drop] at hj
        exact hx i j k v hi hk hj
      · cases hj
    exact open_fp0 hfr
  let f : Nat → Fp := fun i => if h : i < n then Classical.choose (each i h) else default
  have hf : ∀ i, i < n → (xs.drop (i * 32)).take 32 = fpE.enc (f i) := by
    intro i hi
    simp only [f, dif_pos hi]
    exact Classical.choose_spec (each i hi)
  have hrow : ∀ m, m ≤ n → fpE.fl ((List.range m).map f) = xs.take (m * 32) := by
    intro m
    induction m with
    | zero => intro _; simp [Enc.fl]
    | succ m ih =>
      intro hm
      rw [List.range_succ, List.map_append, fpE.fl_append, ih (by omega), show (m + 1) * 32 = m * 32 + 32 by omega, List.take_add, hf m (by omega)]
      simp [Enc.fl]
  refine ⟨ao, n, cap, rfl, fun hn => ⟨(List.range n).map f, by simp, ?_⟩⟩
  rw [hrow n (Nat.le_refl _), List.take_of_length_le (by omega)]
  exact ⟨by unfold maxLen; omega, fun hp => hrd (by omega)⟩
theorem few7_any (ao bo : Option Addr) (n m c d : Nat) (w : World) : Calls Try.prog 20 #[.slice ao n c, .slice bo m d] w fun e w' => e = .returned (.bool (decide (n ≤ 40) && decide (m ≤ 40))) ∧ Below w.heap.size w w' := by
  refine sx_fn (S := SX) (M := []) (N := 13) (H0 := []) Try.func20 rfl rfl rfl (Sat.nil _ _) ?_
  ((try refine sx_use ?_); (repeat (refine SxNew.mk fun _ => ?_; (try refine sx_use ?_))))
  refine SxIf.dec (fun h => ?_) (fun h => ?_)
  · ((try refine sx_use ?_); (repeat (refine SxNew.mk fun _ => ?_; (try refine sx_use ?_))))
    refine SxDone.mk fun w' hs => ⟨?_, hs.touch.below⟩
    rw [decide_eq_true (show n ≤ 40 by omega), Bool.true_and]
    show Ending.returned (.bool (decide ((m : Int) ≤ 40))) = _
    congr 2
    rw [decide_eq_decide]; omega
  · ((try refine sx_use ?_); (repeat (refine SxNew.mk fun _ => ?_; (try refine sx_use ?_))))
    exact SxDone.mk fun w' hs => ⟨by rw [decide_eq_false (show ¬ n ≤ 40 by omega)]; rfl, hs.touch.below⟩
set_option maxHeartbeats 4000000 in
theorem HookSets_law (w : World) (v : Value) (hv : FitK Try.prog w 4 (.slice 23) v) (cs : List Value) (h : FitR Try.prog w 4 (List.replicate 32 (.int .u8)) cs) (n : Int) (_hn : IntKind.i64.min ≤ n ∧ n ≤ IntKind.i64.max) :
    Calls Try.prog 6 #[v, .agg cs.toArray, .int .i64 n] w fun e w' => e = .returned (.bool true) ∧ Below w.heap.size w w' := by
  obtain ⟨ao, m, cap, rfl, hl⟩ := open_fps hv
  obtain ⟨x, rfl⟩ := open_fp h
  clear h hv
  have hL := fun (l : List Fp) => setF7_len l
  have hR := fun (l : List Fp) => (setR_len ltbF l : (setR7 l).length ≤ l.length)
  have hf := few7_any ao none m 0 cap 0
  by_cases hm : m ≤ 40
  · obtain ⟨l, rfl, hr⟩ := hl (by omega)
    have hL1 := hL l
    have hR1 : (setR7 l).length ≤ l.length := hR l
    rw [show (decide (l.length ≤ 40) && decide (0 ≤ 40)) = true by rw [decide_eq_true hm]; rfl] at hf
    refine sx_fn (S := SX) (M := []) (N := 37) (H0 := [.rd ao (fpE.fl l)]) Try.func6 rfl rfl rfl (Sat.oneRd _ hr) ?_
    ((try refine sx_use ?_); (repeat (refine SxNew.mk fun _ => ?_; (try refine sx_use ?_))))
    refine SxCall.quiet hf ?_
    ((try refine sx_use ?_); (repeat (refine SxNew.mk fun _ => ?_; (try refine sx_use ?_))))
    refine SxCode.drawAll rfl [] ?_
    ((try refine sx_use ?_); (repeat (refine SxNew.mk fun _ => ?_; (try refine sx_use ?_))))
    refine SxCall.newRow (fun w hs => HSet_any l (by omega) ao cap w (hs.rd 1 rfl)) fun a1 c1 => ?_
    ((try refine sx_use ?_); (repeat (refine SxNew.mk fun _ => ?_; (try refine sx_use ?_))))
    refine SxCall.newRow (fun w hs => RSet_any l (by omega) ao cap w (hs.rd 2 rfl)) fun a2 c2 => ?_
    ((try refine sx_use ?_); (repeat (refine SxNew.mk fun _ => ?_; (try refine sx_use ?_))))
    refine SxCall.quietS (fun w hs => RSame_any (setF7 l) (setR7 l) a1 a2 c1 c2 w (hs.rowRd 1 rfl (by rw [rowFp_len]; unfold maxLen; omega)) (hs.rowRd 0 rfl (by rw [rowFp_len]; unfold maxLen; omega))) ?_
    rw [show decide (setF7 l = setR7 l) = true from decide_eq_true (setR7_eq l).symm]
    ((try refine sx_use ?_); (repeat (refine SxNew.mk fun _ => ?_; (try refine sx_use ?_))))
    refine SxLdN.blk 0 rfl (vs := fpE.enc x) (fpE.len x) (rowFp_all x) ?_
    ((try refine sx_use ?_); (repeat (refine SxNew.mk fun _ => ?_; (try refine sx_use ?_))))
    refine SxLdN.blk 0 rfl (vs := fpE.enc x) (fpE.len x) (rowFp_all x) ?_
    ((try refine sx_use ?_); (repeat (refine SxNew.mk fun _ => ?_; (try refine sx_use ?_))))
    refine SxCall.quietS (fun w hs => hHas_any l x ao cap w (hs.rd 3 rfl)) ?_
    ((try refine sx_use ?_); (repeat (refine SxNew.mk fun _ => ?_; (try refine sx_use ?_))))
    refine SxCall.quietS (fun w hs => RHas_any l x ao cap w (hs.rd 3 rfl)) ?_
    ((try refine sx_use ?_); (repeat (refine SxNew.mk fun _ => ?_; (try refine sx_use ?_))))
    refine SxRun.bEq Try.underlying4 ?_
    rw [show (decide (x ∈ l) == decide (x ∈ l)) = true from beq_self_eq_true _]
    ((try refine sx_use ?_); (repeat (refine SxNew.mk fun _ => ?_; (try refine sx_use ?_))))
    refine SxCall.newRow (fun w hs => hOf_any l (by omega) ao cap n w (hs.rd 3 rfl)) fun a3 c3 => ?_
    ((try refine sx_use ?_); (repeat (refine SxNew.mk fun _ => ?_; (try refine sx_use ?_))))
    refine SxStable.mk [3, 4] rfl rfl ?_
    ((try refine sx_use ?_); (repeat (refine SxNew.mk fun _ => ?_; (try refine sx_use ?_))))
    refine SxCall.newRow (fun w hs => ROf_any l (by omega) ao cap n w (hs.rd 4 rfl)) fun a4 c4 => ?_
    ((try refine sx_use ?_); (repeat (refine SxNew.mk fun _ => ?_; (try refine sx_use ?_))))
    refine SxStable.mk [4, 5] rfl rfl ?_
    have hO1 := hL (l.filter fun x => isF x.1 n)
    have hO2 : (setR7 (l.filter fun x => isF x.1 n)).length ≤ _ := hR (l.filter fun x => isF x.1 n)
    have hO3 := List.length_filter_le (fun x : Fp => isF x.1 n) l
    ((try refine sx_use ?_); (repeat (refine SxNew.mk fun _ => ?_; (try refine sx_use ?_))))
    refine SxCall.quietS (fun w hs => RSame_any (setF7 (l.filter fun x => isF x.1 n)) (setR7 (l.filter fun x => isF x.1 n)) a3 a4 c3 c4 w (hs.rowRd 1 rfl (by rw [rowFp_len]; unfold maxLen; omega)) (hs.rowRd 0 rfl (by rw [rowFp_len]; unfold maxLen; omega))) ?_
    rw [show decide (setF7 (l.filter fun x => isF x.1 n) = setR7 (l.filter fun x => isF x.1 n)) = true from decide_eq_true (setR7_eq _).symm]
    ((try refine sx_use ?_); (repeat (refine SxNew.mk fun _ => ?_; (try refine sx_use ?_))))
    refine SxStable.mk [4, 5] rfl rfl ?_
    ((try refine sx_use ?_); (repeat (refine SxNew.mk fun _ => ?_; (try refine sx_use ?_))))
    refine SxCall.quiet hk_awake ?_
    ((try refine sx_use ?_); (repeat (refine SxNew.mk fun _ => ?_; (try refine sx_use ?_))))
    refine SxStable.mk [4, 5] rfl rfl ?_
    ((try refine sx_use ?_); (repeat (refine SxNew.mk fun _ => ?_; (try refine sx_use ?_))))
    exact SxDone.mk fun w' hs => ⟨rfl, hs.touch.below⟩
  · rw [show (decide (m ≤ 40) && decide (0 ≤ 40)) = false by rw [decide_eq_false hm]; rfl] at hf
    refine sx_fn (S := SX) (M := []) (N := 37) (H0 := []) Try.func6 rfl rfl rfl (Sat.nil _ _) ?_
    ((try refine sx_use ?_); (repeat (refine SxNew.mk fun _ => ?_; (try refine sx_use ?_))))
    refine SxCall.quiet hf ?_
    ((try refine sx_use ?_); (repeat (refine SxNew.mk fun _ => ?_; (try refine sx_use ?_))))
    refine SxCall.quiet hk_awake ?_
    ((try refine sx_use ?_); (repeat (refine SxNew.mk fun _ => ?_; (try refine sx_use ?_))))
    exact SxDone.mk fun w' hs => ⟨rfl, hs.touch.below⟩
theorem minus_eq (a b : List Fp) : (setF7 a).filter (fun x => !inB (setF7 b) x) = setR7 (a.filter fun x => !decide (x ∈ b)) := by
  have h := setR_ok ltF_ord ltbF_iff (a.filter fun x => !decide (x ∈ b))
  refine strict_ext ltF_ord ((setF7_strict a).filter _) h.1 fun x => ?_
  rw [h.2, List.mem_filter, List.mem_filter, setS_mem]
  unfold inB
  rw [show decide (x ∈ setF7 b) = decide (x ∈ b) by rw [decide_eq_decide]; exact setS_mem cfF b x]
theorem both_swap (a b : List Fp) : ((setF7 a).filter (inB (setF7 b))).length = ((setF7 b).filter (inB (setF7 a))).length := by
  rw [strict_ext ltF_ord ((setF7_strict a).filter (inB (setF7 b))) ((setF7_strict b).filter (inB (setF7 a))) fun x => by
    rw [List.mem_filter, List.mem_filter]
    unfold inB
    rw [decide_eq_true_iff, decide_eq_true_iff, and_comm]]
theorem both_sum (a b : List Fp) : ((setF7 a).filter (inB (setF7 b))).length + ((setF7 a).filter (fun x => !inB (setF7 b) x)).length = (setF7 a).length := by
  have h : ∀ l : List Fp, (l.filter (inB (setF7 b))).length + (l.filter (fun x => !inB (setF7 b) x)).length = l.length := by
    intro l
    induction l with
    | nil => rfl
    | cons x l ih =>
      cases hx : inB (setF7 b) x with
      | true => rw [List.filter_cons_of_pos hx, List.filter_cons_of_neg (by simp [hx]), List.length_cons, List.length_cons]; omega
      | false => rw [List.filter_cons_of_neg (by simp [hx]), List.filter_cons_of_pos (by simp [hx]), List.length_cons, List.length_cons]; omega
  exact h _
set_option maxHeartbeats 4000000 in
theorem HookPairs_law (w : World) (v : Value) (hv : FitK Try.prog w 4 (.slice 23) v) (u : Value) (hu : FitK Try.prog w 4 (.slice 23) u) :
    Calls Try.prog 7 #[v, u] w fun e w' => e = .returned (.bool true) ∧ Below w.heap.size w w' := by
  obtain ⟨ao, m, cap, rfl, hl⟩ := open_fps hv
  obtain ⟨bo, k, bc, rfl, hk⟩ := open_fps hu
  clear hv hu
  have hf := few7_any ao bo m k cap bc
  by_cases hm : m ≤ 40 ∧ k ≤ 40
  · obtain ⟨l, rfl, hr⟩ := hl (by omega)
    obtain ⟨r, rfl, hr2⟩ := hk (by omega)
    rw [show (decide (l.length ≤ 40) && decide (r.length ≤ 40)) = true by rw [decide_eq_true hm.1, decide_eq_true hm.2]; rfl] at hf
    have hA := setF7_len l
    have hM1 := List.length_filter_le (fun x => !inB (setF7 r) x) (setF7 l)
    have hM2 := minus_eq l r
    have hM3 := both_swap l r
    have hM4 := both_sum l r
    have hS : (setR7 l).length = (setF7 l).length := by rw [setR7_eq]
    obtain ⟨nb, hnb⟩ : ∃ nb, nb = ((setF7 l).filter (inB (setF7 r))).length := ⟨_, rfl⟩
    obtain ⟨R, hRe⟩ : ∃ R, R = (setF7 l).filter fun x => !inB (setF7 r) x := ⟨_, rfl⟩
    have hC := fun (w : World) (h1 : Rd w ao (fpE.fl l)) (h2 : Rd w bo (fpE.fl r)) => Common_any l r (by omega) (by omega) ao bo cap bc w h1 h2
    have hD := fun (w : World) (h1 : Rd w bo (fpE.fl r)) (h2 : Rd w ao (fpE.fl l)) => Common_any r l (by omega) (by omega) bo ao bc cap w h1 h2
    have hN := fun (w : World) (h1 : Rd w ao (fpE.fl l)) (h2 : Rd w bo (fpE.fl r)) => Minus_any l r (by omega) (by omega) ao bo cap bc w h1 h2
    have hRC := fun (w : World) (h1 : Rd w ao (fpE.fl l)) (h2 : Rd w bo (fpE.fl r)) => RCommon_any l r (by omega) ao bo cap bc w h1 h2
    have hRM := fun (w : World) (h1 : Rd w ao (fpE.fl l)) (h2 : Rd w bo (fpE.fl r)) => RMinus_any l (by omega) ao cap r bo bc w h1 h2
    simp only [← hM3, ← hnb, ← hM2, ← hRe, hS] at hC hD hN hRC hRM hM1 hM4
    refine sx_fn (S := SX) (M := []) (N := 50) (H0 := [.rd ao (fpE.fl l), .rd bo (fpE.fl r)]) Try.func7 rfl rfl rfl (Sat.twoRd _ hr hr2) ?_
    ((try refine sx_use ?_); (repeat (refine SxNew.mk fun _ => ?_; (try refine sx_use ?_))))
    refine SxCall.quiet hf ?_
    ((try refine sx_use ?_); (repeat (refine SxNew.mk fun _ => ?_; (try refine sx_use ?_))))
    refine SxCall.quietS (fun w hs => hC w (hs.rd 0 rfl) (hs.rd 1 rfl)) ?_
    ((try refine sx_use ?_); (repeat (refine SxNew.mk fun _ => ?_; (try refine sx_use ?_))))
    refine SxCall.newRow (fun w hs => hN w (hs.rd 0 rfl) (hs.rd 1 rfl)) fun a1 c1 => ?_
    ((try refine sx_use ?_); (repeat (refine SxNew.mk fun _ => ?_; (try refine sx_use ?_))))
    refine SxCall.quietS (fun w hs => hRC w (hs.rd 1 rfl) (hs.rd 2 rfl)) ?_
    ((try refine sx_use ?_); (repeat (refine SxNew.mk fun _ => ?_; (try refine sx_use ?_))))
    refine SxCall.quietS (fun w hs => hD w (hs.rd 2 rfl) (hs.rd 1 rfl)) ?_
    ((try refine sx_use ?_); (repeat (refine SxNew.mk fun _ => ?_; (try refine sx_use ?_))))
    refine SxCall.newRow (fun w hs => hRM w (hs.rd 1 rfl) (hs.rd 2 rfl)) fun a2 c2 => ?_
    ((try refine sx_use ?_); (repeat (refine SxNew.mk fun _ => ?_; (try refine sx_use ?_))))
    refine SxCall.quietS (fun w hs => RSame_any R R a1 a2 c1 c2 w (hs.rowRd 1 rfl (by rw [rowFp_len]; unfold maxLen; omega)) (hs.rowRd 0 rfl (by rw [rowFp_len]; unfold maxLen; omega))) ?_
    rw [show decide (R = R) = true from decide_eq_true rfl]
    ((try refine sx_use ?_); (repeat (refine SxNew.mk fun _ => ?_; (try refine sx_use ?_))))
    refine SxCall.newRow (fun w hs => HSet_any l (by omega) ao cap w (hs.rd 2 rfl)) fun a3 c3 => ?_
    ((try refine sx_use ?_); (repeat (refine SxNew.mk fun _ => ?_; (try refine sx_use ?_))))
    refine SxCall.quiet hk_awake ?_
    ((try refine sx_use ?_); (repeat (refine SxNew.mk fun _ => ?_; (try refine sx_use ?_))))
    exact SxDone.mk fun w' hs => ⟨rfl, hs.touch.below⟩
  · rw [show (decide (m ≤ 40) && decide (k ≤ 40)) = false by
      cases h1 : decide (m ≤ 40) with
      | false => rfl
      | true => rw [Bool.true_and, decide_eq_false_iff_not]; exact fun h2 => hm ⟨of_decide_eq_true h1, h2⟩] at hf
    refine sx_fn (S := SX) (M := []) (N := 50) (H0 := []) Try.func7 rfl rfl rfl (Sat.nil _ _) ?_
    ((try refine sx_use ?_); (repeat (refine SxNew.mk fun _ => ?_; (try refine sx_use ?_))))
    refine SxCall.quiet hf ?_
    ((try refine sx_use ?_); (repeat (refine SxNew.mk fun _ => ?_; (try refine sx_use ?_))))
    refine SxCall.quiet hk_awake ?_
    ((try refine sx_use ?_); (repeat (refine SxNew.mk fun _ => ?_; (try refine sx_use ?_))))
    exact SxDone.mk fun w' hs => ⟨rfl, hs.touch.below⟩
end Go.Proofs.Ytffkjbcelbfejaa
