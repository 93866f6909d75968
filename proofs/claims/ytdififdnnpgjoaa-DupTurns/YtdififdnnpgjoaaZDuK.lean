/- Layer 26: the law's own. -/
import Derived.Test.YtdififdnnpgjoaaZDuJ
import Derived.Test.YtdififdnnpgjoaaZFrame
namespace Go.Proofs.Ytdififdnnpgjoaa
open Go.RowKit

theorem chunk_any (b : Int) (s : Int) (t : ByteArray) (w : World) : Calls Try.prog 32 #[.int .u32 b, .int .i64 s, .string t] w fun e w' => e = .returned (.agg (ckC ⟨⟨b, s⟩, ⟨List.replicate 32 0, rfl⟩, t⟩).toArray) ∧ Below w.heap.size w w' := by
  refine sx_fn (S := SX) (M := []) (N := 12) (H0 := []) Try.func32 rfl rfl rfl (Sat.nil _ _) ?_
  ((try refine sx_use ?_); (repeat (refine SxNew.mk fun _ => ?_; (try refine sx_use ?_))))
  exact SxDone.mk fun w' hs => ⟨rfl, hs.touch.below⟩
theorem SxFill.firstI {place : Nat → Option (Nat × Nat)} {cs vs : List Value} {i n : Nat} {r : List (Nat × List Value)} {A : List Value → Prop} (hp : place i = some (0, n)) (hv : vs.length = n) (hn : Nat.ble n cs.length = true) (h : SxFill place (vs ++ cs.drop n) r A) : SxFill place cs ((i, vs) :: r) A := by
  have e : splice 0 vs cs = vs ++ cs.drop n := by unfold splice; subst hv; simp
  cases h with | mk h1 hc h2 => 
    refine ⟨?_, ?_, h2⟩
    · unfold fillP
      rw [hp]
      dsimp only
      rw [e]
      exact ⟨⟨hv, by have := Nat.le_of_ble_eq_true hn; omega⟩, h1⟩
    · unfold fillC
      rw [hp]
      dsimp only
      rw [e]
      exact hc
theorem ckC_set (c : Ck) (t : ByteArray) : splice 34 [Value.string t] (ckC c) = ckC ⟨c.pl, c.fq, t⟩ := by
  have h := splice_app (vs := plC c.pl ++ fqC c.fq) (ws := [Value.string c.s]) (us := [Value.string t]) (n := 34) (o := 0) (by rw [List.length_append, fqC_len]; rfl)
  unfold ckC
  rw [← List.append_assoc, ← List.append_assoc]
  exact h
def ck3 : List Ck := [⟨⟨1, 0⟩, ⟨List.replicate 32 0, rfl⟩, ⟨#[120]⟩⟩, ⟨⟨1, 1⟩, ⟨List.replicate 32 0, rfl⟩, ⟨#[121]⟩⟩, ⟨⟨2, 0⟩, ⟨List.replicate 32 0, rfl⟩, ⟨#[120]⟩⟩]
theorem ck3_cnt : cnt ck3 = ck3 := by decide
theorem ck3_pls : plsS ck3 = [⟨1, 0⟩, ⟨1, 1⟩, ⟨2, 0⟩] := by
  unfold plsS
  rw [← setRP_eq]
  decide
theorem ck3_mov : movD (cnt ck3) = [⟨2, 0⟩] := by
  rw [ck3_cnt, movD_eq, ck3_pls]
  decide
theorem ck3_movF : movF (cnt ck3) ⟨2, 0⟩ = ⟨1, 0⟩ := by
  rw [ck3_cnt]
  decide
theorem ck3_wst : wstD (cnt ck3) = 1 := by
  unfold wstD
  rw [ck3_mov, ck3_cnt]
  decide
set_option maxHeartbeats 8000000 in
theorem du_awake (w : World) : Calls Try.prog 12 #[] w fun e w' => e = .returned (.bool true) ∧ Below w.heap.size w w' := by
  refine sx_fn (S := SX) (M := []) (N := 54) (H0 := []) Try.func12 rfl rfl rfl (Sat.nil _ _) ?_
  ((try refine sx_use ?_); (repeat (refine SxNew.mk fun _ => ?_; (try refine sx_use ?_))))
  refine SxCall.quiet (chunk_any 1 0 ⟨#[120]⟩) ?_
  ((try refine sx_use ?_); (repeat (refine SxNew.mk fun _ => ?_; (try refine sx_use ?_))))
  refine SxCall.quiet (chunk_any 1 1 ⟨#[121]⟩) ?_
  ((try refine sx_use ?_); (repeat (refine SxNew.mk fun _ => ?_; (try refine sx_use ?_))))
  refine SxCall.quiet (chunk_any 2 0 ⟨#[120]⟩) ?_
  ((try refine sx_use ?_); (repeat (refine SxNew.mk fun _ => ?_; (try refine sx_use ?_))))
  refine SxCall.weaken (Weak.read (p := 0) (cs := ckE.fl ck3) rfl (by rw [ckE_len]; decide)) ?_
  refine SxCall.newRow (v := fun a c => .slice a 1 c) (n := 1) (e := 54) (k := 4) (cs := (mfEn fun _ => ⟨1, 0⟩).fl [⟨2, 0⟩]) (fun w1 hs => by
    have h := Moves_any ck3 (by decide) _ 3 w1 (hs.rd 0 rfl)
    rw [ck3_mov] at h
    have e : (mfEn (movF (cnt ck3))).fl [⟨2, 0⟩] = (mfEn fun _ => ⟨1, 0⟩).fl [⟨2, 0⟩] := by
      rw [Enc.fl_one, Enc.fl_one]
      show plC _ ++ plC (movF (cnt ck3) ⟨2, 0⟩) = _
      rw [ck3_movF]; rfl
    rw [e] at h
    exact h) fun mo mc => ?_
  ((try refine sx_use ?_); (repeat (refine SxNew.mk fun _ => ?_; (try refine sx_use ?_))))
  refine SxCall.quietS (v := .tuple #[.int .i64 1, .int .i64 1]) (fun w1 hs => by
    have h := Waste_any ck3 (by decide) (by decide) _ 3 w1 (hs.rd 1 rfl)
    rw [ck3_mov, ck3_wst] at h
    exact h) ?_
  ((try refine sx_use ?_); (repeat (refine SxNew.mk fun _ => ?_; (try refine sx_use ?_))))
  refine SxCode.base 0 rfl fun hmo _ => ?_
  obtain ⟨gm, rfl⟩ := hmo (by decide)
  refine SxCode.drawAll rfl [] ?_
  ((try refine sx_use ?_); (repeat (refine SxNew.mk fun _ => ?_; (try refine sx_use ?_))))
  refine SxIA.row 0 _ _ _ rfl 0 rfl (by decide) fun g' hg' => ?_
  obtain rfl : gm = g' := by simpa using hg'
  ((try refine sx_use ?_); (repeat (refine SxNew.mk fun _ => ?_; (try refine sx_use ?_))))
  refine SxLdN.row 0 rfl rfl (j := 0 * 4) rfl (vs := plC ⟨2, 0⟩) rfl rfl ?_
  ((try refine sx_use ?_); (repeat (refine SxNew.mk fun _ => ?_; (try refine sx_use ?_))))
  refine SxIA.rd 1 _ rfl 2 rfl (by decide) (by rw [ckE_len]; decide) fun g off ha => ?_
  ((try refine sx_use ?_); (repeat (refine SxNew.mk fun _ => ?_; (try refine sx_use ?_))))
  refine SxLdN.rd 1 rfl ha rfl (j := 2 * 35) (vs := plC ⟨2, 0⟩) rfl (ckE_pl (l := ck3) (k := 2) rfl) ?_
  ((try refine sx_use ?_); (repeat (refine SxNew.mk fun _ => ?_; (try refine sx_use ?_))))
  refine SxRun.eqPl ?_
  rw [decide_eq_true rfl]
  ((try refine sx_use ?_); (repeat (refine SxNew.mk fun _ => ?_; (try refine sx_use ?_))))
  refine SxIA.row 0 _ _ _ rfl 0 rfl (by decide) fun g' hg' => ?_
  obtain rfl : gm = g' := by simpa using hg'
  ((try refine sx_use ?_); (repeat (refine SxNew.mk fun _ => ?_; (try refine sx_use ?_))))
  refine SxLdN.row 0 rfl rfl (j := 0 * 4 + 2) rfl (vs := plC ⟨1, 0⟩) rfl rfl ?_
  ((try refine sx_use ?_); (repeat (refine SxNew.mk fun _ => ?_; (try refine sx_use ?_))))
  refine SxIA.rd 1 _ rfl 0 rfl (by decide) (by rw [ckE_len]; decide) fun g off ha => ?_
  ((try refine sx_use ?_); (repeat (refine SxNew.mk fun _ => ?_; (try refine sx_use ?_))))
  refine SxLdN.rd 1 rfl ha rfl (j := 0 * 35) (vs := plC ⟨1, 0⟩) rfl (ckE_pl (l := ck3) (k := 0) rfl) ?_
  ((try refine sx_use ?_); (repeat (refine SxNew.mk fun _ => ?_; (try refine sx_use ?_))))
  refine SxRun.eqPl ?_
  rw [decide_eq_true rfl]
  ((try refine sx_use ?_); (repeat (refine SxNew.mk fun _ => ?_; (try refine sx_use ?_))))
  refine SxCall.quietS (v := .bool false) (fun w1 hs => by
    have h := Unique_any ck3 (by decide) (by decide) _ 3 w1 (hs.rd 1 rfl)
    rw [ck3_mov] at h
    exact h) ?_
  ((try refine sx_use ?_); (repeat (refine SxNew.mk fun _ => ?_; (try refine sx_use ?_))))
  exact SxDone.mk fun w' hs => ⟨rfl, hs.touch.below⟩
/-- Chunks of which not more is looked at. -/
def cutC (c : Ck) : Ck := ⟨c.pl, c.fq, if 60 < c.s.size then c.s.extract 0 60 else c.s⟩
theorem cutC_size (c : Ck) : (cutC c).s.size ≤ 60 := by
  unfold cutC
  dsimp only
  split
  · rw [ByteArray.size_extract]; omega
  · omega
def oursL (l : List Ck) : List Ck := (l.take 40).map cutC
theorem oursL_len (l : List Ck) : (oursL l).length ≤ 40 := by unfold oursL; rw [List.length_map, List.length_take]; omega
theorem oursL_size (l : List Ck) : ∀ c ∈ oursL l, c.s.size ≤ 1000000 := fun c hc => by
  obtain ⟨d, _, rfl⟩ := List.mem_map.1 hc
  have := cutC_size d
  omega
set_option maxHeartbeats 8000000 in
theorem ours_any (l : List Ck) (n : Nat) (hn : l.length = min n 1000) (ao : Option Addr) (ac : Nat) (w : World) (hr : Rd w ao (ckE.fl l)) :
    Calls Try.prog 8 #[.slice ao n ac] w fun e w' => ∃ a1 c1 a2 c2, e = .returned (.tuple #[.slice a1 (oursL l).length c1, .slice a2 (oursL l).length c2]) ∧ NewRow w w' a1 (oursL l).length c1 33 35 (ckE.fl (oursL l)) ∧ NewRow w w' a2 (oursL l).length c2 34 35 (ckE.fl (oursL l)) := by
  refine sx_fn (S := SX) (M := []) (N := 46) (H0 := [.row none 0 0 33 35 [], .row none 0 0 34 35 [], .rd ao (ckE.fl l)]) Try.func8 rfl rfl rfl (((Sat.oneRd _ hr).nilRow 34 35).nilRow 33 35) ?_
  ((try refine sx_use ?_); (repeat (refine SxNew.mk fun _ => ?_; (try refine sx_use ?_))))
  obtain ⟨N, hN⟩ : ∃ N, N = min n 40 := ⟨_, rfl⟩
  have hNl : N ≤ l.length := by omega
  have hNo : (oursL l).length = N := by unfold oursL; rw [List.length_map, List.length_take]; omega
  have hNe : oursL l = (l.take N).map cutC := by unfold oursL; rw [show l.take 40 = l.take N by
    by_cases h : n ≤ 40
    · rw [List.take_of_length_le (by omega), List.take_of_length_le (by omega)]
    · rw [show N = 40 by omega]]
  rw [hNo, hNe]
  refine SxCode.loop (σ := Nat × (Option Addr × Nat) × (Option Addr × Nat)) [6, 4, 5] [8, 9, 10, 11, 12, 13, 14, 15, 18, 19, 20, 21, 7, 22, 23, 24, 25, 26, 27, 28, 29, 30, 31, 32, 33, 34, 35, 36, 37, 38, 39, 4, 40, 41, 42, 43, 5, 16, 17, 6] (fun x => [.int .i64 (x.1 : Nat), .slice x.2.1.1 x.1 x.2.1.2, .slice x.2.2.1 x.1 x.2.2.2]) (fun x => [.row x.2.1.1 x.1 x.2.1.2 33 35 (ckE.fl ((l.take x.1).map cutC)), .row x.2.2.1 x.1 x.2.2.2 34 35 (ckE.fl ((l.take x.1).map cutC)), .rd ao (ckE.fl l)]) (fun x => x.1 ≤ N) (fun x => N - x.1) (0, (none, 0), (none, 0)) [0, 1, 2] rfl rfl rfl rfl (Nat.zero_le _) ?_
  rintro ⟨k, ⟨a1, c1⟩, ⟨a2, c2⟩⟩ hk
  dsimp only at hk ⊢
  by_cases hlt : k < N
  · obtain ⟨c, hc⟩ : ∃ c, l[k]? = some c := ⟨l[k]'(by omega), by simp [show k < l.length by omega]⟩
    have hsn : (l.take (k + 1)).map cutC = (l.take k).map cutC ++ [cutC c] := by rw [take_snocE hc, List.map_append]; rfl
    ((try refine sx_use ?_); (repeat (refine SxNew.mk fun _ => ?_; (try refine sx_use ?_))))
    refine SxIA.rd 2 _ rfl k rfl (by omega) (by rw [ckE_len]; omega) fun g off ha => ?_
    ((try refine sx_use ?_); (repeat (refine SxNew.mk fun _ => ?_; (try refine sx_use ?_))))
    refine SxLdN.rd 2 rfl ha rfl (vs := ckC c) (ckC_len c) (ckE_at hc) ?_
    ((try refine sx_use ?_); (repeat (refine SxNew.mk fun _ => ?_; (try refine sx_use ?_))))
    rename_i bc
    refine SxSt.elem ckE (x := c) 0 rfl rfl ?_
    ((try refine sx_use ?_); (repeat (refine SxNew.mk fun _ => ?_; (try refine sx_use ?_))))
    refine SxLd.blk 0 rfl (ckC_s c) ?_
    ((try refine sx_use ?_); (repeat (refine SxNew.mk fun _ => ?_; (try refine sx_use ?_))))
    refine SxIf.dec (fun h => ?_) (fun h => ?_)
    case' refine_1 =>
      have hcut : (⟨c.pl, c.fq, c.s.extract 0 60⟩ : Ck) = cutC c := by unfold cutC; rw [if_pos (by omega)]
      ((try refine sx_use ?_); (repeat (refine SxNew.mk fun _ => ?_; (try refine sx_use ?_))))
      refine SxLd.blk 0 rfl (ckC_s c) ?_
      ((try refine sx_use ?_); (repeat (refine SxNew.mk fun _ => ?_; (try refine sx_use ?_))))
      refine SxBnd.mk 0 60 rfl rfl (by omega) (by omega) ?_
      ((try refine sx_use ?_); (repeat (refine SxNew.mk fun _ => ?_; (try refine sx_use ?_))))
      refine SxSt.blk 0 rfl (by show Nat.ble 35 (ckC c).length = true; rw [ckC_len]; rfl) rfl ((ckC_set c (c.s.extract 0 60)).trans (by rw [hcut])) ?_
    case' refine_2 =>
      have hcut : c = cutC c := by unfold cutC; rw [if_neg (by omega)]
      rw [show ckE.enc c = ckE.enc (cutC c) by rw [← hcut]]
    all_goals
      ((try refine sx_use ?_); (repeat (refine SxNew.mk fun _ => ?_; (try refine sx_use ?_))))
      refine SxLdN.blk 0 rfl (vs := fqC (cutC c).fq) (fqC_len _) (ckC_fq (cutC c)) ?_
      ((try refine sx_use ?_); (repeat (refine SxNew.mk fun _ => ?_; (try refine sx_use ?_))))
      refine SxLd.blk 0 rfl (ckC_s (cutC c)) ?_
      ((try refine sx_use ?_); (repeat (refine SxNew.mk fun _ => ?_; (try refine sx_use ?_))))
      refine SxFill.first (n := 2) rfl rfl rfl ?_
      refine SxFill.tail (fun i => match i with | 1 => some (0, 32) | 2 => some (32, 1) | _ => none) rfl (by
        intro y hy
        simp only [List.mem_cons, List.not_mem_nil, or_false] at hy
        rcases hy with rfl | rfl <;> exact ⟨_, _, rfl, rfl⟩) ?_
      refine SxFill.firstI (n := 32) rfl (fqC_len _) rfl ?_
      refine SxFill.tail (fun i => match i with | 2 => some (0, 1) | _ => none) (fqC_len _) (by
        intro y hy
        simp only [List.mem_cons, List.not_mem_nil, or_false] at hy
        rcases hy with rfl; exact ⟨_, _, rfl, rfl⟩) ?_
      refine SxFill.ok rfl rfl ?_
      ((try refine sx_use ?_); (repeat (refine SxNew.mk fun _ => ?_; (try refine sx_use ?_))))
      refine SxFill.one rfl (ckC_len (cutC c)) ?_
      ((try refine sx_use ?_); (repeat (refine SxNew.mk fun _ => ?_; (try refine sx_use ?_))))
      refine SxApp.mk 2 rfl 0 (.inr (.inr (.inr ⟨by decide, _, rfl⟩))) (vs := ckC (cutC c)) (m := 1) (by rw [ckC_len]) (ckC_one (cutC c)) (by unfold maxLen; omega) (by omega) (cs' := ckE.fl ((l.take (k + 1)).map cutC)) (by rw [hsn, ckE.fl_append, ckE.fl_one]; rfl) fun a1' c1' => ?_
      ((try refine sx_use ?_); (repeat (refine SxNew.mk fun _ => ?_; (try refine sx_use ?_))))
      refine SxLdN.blk 1 rfl (vs := ckC (cutC c)) (ckC_len _) (ckC_all _) ?_
      ((try refine sx_use ?_); (repeat (refine SxNew.mk fun _ => ?_; (try refine sx_use ?_))))
      refine SxFill.one rfl (ckC_len (cutC c)) ?_
      ((try refine sx_use ?_); (repeat (refine SxNew.mk fun _ => ?_; (try refine sx_use ?_))))
      refine SxApp.mk 4 rfl 0 (.inr (.inr (.inr ⟨by decide, _, rfl⟩))) (vs := ckC (cutC c)) (m := 1) (by rw [ckC_len]) (ckC_one (cutC c)) (by unfold maxLen; omega) (by omega) (cs' := ckE.fl ((l.take (k + 1)).map cutC)) (by rw [hsn, ckE.fl_append, ckE.fl_one]; rfl) fun a2' c2' => ?_
      ((try refine sx_use ?_); (repeat (refine SxNew.mk fun _ => ?_; (try refine sx_use ?_))))
      exact SxRound.mk (k + 1, (a1', c1'), (a2', c2')) [3, 4, 5] rfl rfl rfl hlt (by first | omega | (dsimp only; omega))
  · obtain rfl : k = N := by omega
    by_cases h40 : n ≤ 40
    case' pos => ((try refine sx_use ?_); (repeat (refine SxNew.mk fun _ => ?_; (try refine sx_use ?_))))
    case' neg => ((try refine sx_use ?_); (repeat (refine SxNew.mk fun _ => ?_; (try refine sx_use ?_))))
    all_goals
      exact SxDone.mk fun w' hs => ⟨a1, c1, a2, c2, rfl, hs.newRow 0 rfl, hs.newRow 1 rfl⟩
theorem RSamePlD_any (a b : List Pl) (ao bo : Option Addr) (ac bc : Nat) (w : World) (ha : Rd w ao (plE.fl a)) (hb : Rd w bo (plE.fl b)) :
    Calls Try.prog 15 #[.slice ao a.length ac, .slice bo b.length bc] w fun e w' => e = .returned (.bool (decide (a = b))) ∧ Below w.heap.size w w' := by
  have hal : a.length * 2 ≤ maxLen := by have := ha.1; rw [rowPl_len] at this; exact this
  unfold maxLen at hal
  refine sx_fn (S := SX) (M := []) (N := 26) (H0 := [.rd ao (plE.fl a), .rd bo (plE.fl b)]) Try.func15 rfl rfl rfl (Sat.twoRd _ ha hb) ?_
  ((try refine sx_use ?_); (repeat (refine SxNew.mk fun _ => ?_; (try refine sx_use ?_))))
  refine SxIf.ne (fun h => ?_) (fun h => ?_)
  · ((try refine sx_use ?_); (repeat (refine SxNew.mk fun _ => ?_; (try refine sx_use ?_))))
    exact SxDone.mk fun w' hs => ⟨by rw [decide_eq_false fun he => h (by rw [he])]; rfl, hs.touch.below⟩
  have hl : a.length = b.length := by omega
  ((try refine sx_use ?_); (repeat (refine SxNew.mk fun _ => ?_; (try refine sx_use ?_))))
  refine SxCode.loop (σ := Nat) [5, 4] [11, 12, 13, 14, 17, 18, 19, 20, 21, 22, 23, 24, 25, 4, 15, 16, 5] (fun k => [.int .i64 (k : Nat), .bool false]) (fun _ => [.rd ao (plE.fl a), .rd bo (plE.fl b)]) (fun k => k ≤ a.length ∧ a.take k = b.take k) (fun k => a.length - k) 0 [0, 1] rfl rfl rfl rfl ⟨Nat.zero_le _, rfl⟩ ?_
  rintro k ⟨hk, he⟩
  ((try refine sx_use ?_); (repeat (refine SxNew.mk fun _ => ?_; (try refine sx_use ?_))))
  refine SxIf.dec (fun h => ?_) (fun h => ?_)
  · have hlt : k < a.length := by omega
    obtain ⟨x, hx⟩ : ∃ x, a[k]? = some x := ⟨a[k], by simp [hlt]⟩
    obtain ⟨y, hy⟩ : ∃ y, b[k]? = some y := ⟨b[k]'(by omega), by simp [show k < b.length by omega]⟩
    ((try refine sx_use ?_); (repeat (refine SxNew.mk fun _ => ?_; (try refine sx_use ?_))))
    (try refine SxCode.drawAll rfl [] ?_)
    (try ((try refine sx_use ?_); (repeat (refine SxNew.mk fun _ => ?_; (try refine sx_use ?_)))))
    refine SxIA.rd 0 _ rfl k rfl hlt (by rw [rowPl_len]; omega) fun g off ha => ?_
    ((try refine sx_use ?_); (repeat (refine SxNew.mk fun _ => ?_; (try refine sx_use ?_))))
    refine SxLdN.rd 0 rfl ha rfl (vs := plC x) rfl (rowPl_at hx) ?_
    ((try refine sx_use ?_); (repeat (refine SxNew.mk fun _ => ?_; (try refine sx_use ?_))))
    refine SxIA.rd 1 _ rfl k rfl (by omega) (by rw [rowPl_len]; omega) fun g off ha => ?_
    ((try refine sx_use ?_); (repeat (refine SxNew.mk fun _ => ?_; (try refine sx_use ?_))))
    refine SxLdN.rd 1 rfl ha rfl (vs := plC y) rfl (rowPl_at hy) ?_
    ((try refine sx_use ?_); (repeat (refine SxNew.mk fun _ => ?_; (try refine sx_use ?_))))
    refine SxRun.nePl (x := x) (y := y) ?_
    ((try refine sx_use ?_); (repeat (refine SxNew.mk fun _ => ?_; (try refine sx_use ?_))))
    refine SxIf.nt (SxIf.dec (fun h2 => ?_) (fun h2 => ?_))
    · ((try refine sx_use ?_); (repeat (refine SxNew.mk fun _ => ?_; (try refine sx_use ?_))))
      exact SxRound.mk (k + 1) [0, 1] rfl rfl rfl ⟨hlt, by rw [take_snocE hx, take_snocE hy, he, h2]⟩ (by omega)
    · have h3 : a ≠ b := fun e => h2 (by subst e; exact Option.some.inj (hx.symm.trans hy))
      ((try refine sx_use ?_); (repeat (refine SxNew.mk fun _ => ?_; (try refine sx_use ?_))))
      exact SxDone.mk fun w' hs => ⟨by rw [decide_eq_false h3]; rfl, hs.touch.below⟩
  · obtain rfl : k = a.length := by omega
    rw [List.take_length, hl, List.take_length] at he
    ((try refine sx_use ?_); (repeat (refine SxNew.mk fun _ => ?_; (try refine sx_use ?_))))
    exact SxDone.mk fun w' hs => ⟨by rw [decide_eq_true he]; rfl, hs.touch.below⟩

set_option maxHeartbeats 8000000 in
theorem sameM_any (F : Pl → Pl) (l : List Pl) (hl : l.length ≤ 100000) (mo fo to : Option Addr) (mc fc tc : Nat) (w : World) (hm : Rd w mo ((mfEn F).fl l)) (hf : Rd w fo (plE.fl l)) (ht : Rd w to (plE.fl (l.map F))) :
    Calls Try.prog 21 #[.slice mo l.length mc, .slice fo l.length fc, .slice to l.length tc] w fun e w' => e = .returned (.bool true) ∧ Below w.heap.size w w' := by
  refine sx_fn (S := SX) (M := []) (N := 41) (H0 := [.rd mo ((mfEn F).fl l), .rd fo (plE.fl l), .rd to (plE.fl (l.map F))]) Try.func21 rfl rfl rfl (Sat.rdsM w [] _ fun j e hj => by
    match j, hj with
    | 0, hj => cases hj; exact ⟨rfl, hm⟩
    | 1, hj => cases hj; exact ⟨rfl, hf⟩
    | 2, hj => cases hj; exact ⟨rfl, ht⟩) ?_
  ((try refine sx_use ?_); (repeat (refine SxNew.mk fun _ => ?_; (try refine sx_use ?_))))
  refine SxCode.loop (σ := Nat) [7, 6] [13, 14, 15, 16, 19, 20, 21, 22, 23, 24, 25, 26, 27, 28, 29, 30, 31, 32, 33, 34, 35, 36, 37, 38, 39, 40, 6, 17, 18, 7] (fun k => [.int .i64 (k : Nat), .bool false]) (fun _ => [.rd mo ((mfEn F).fl l), .rd fo (plE.fl l), .rd to (plE.fl (l.map F))]) (fun k => k ≤ l.length) (fun k => l.length - k) 0 [0, 1, 2] rfl rfl rfl rfl (Nat.zero_le _) ?_
  rintro k hk
  by_cases hlt : k < l.length
  · obtain ⟨p, hp⟩ : ∃ p, l[k]? = some p := ⟨l[k], by simp [hlt]⟩
    have hFp : (l.map F)[k]? = some (F p) := by rw [List.getElem?_map, hp]; rfl
    have h1 : (((mfEn F).fl l).drop (k * 4)).take 2 = plC p := by
      have h2 := mf_at (F := F) hp
      have h3 : (((mfEn F).fl l).drop (k * 4)).take 2 = ((((mfEn F).fl l).drop (k * 4)).take 4).take 2 := by rw [List.take_take]; rfl
      rw [h3, h2]; rfl
    have h2 : (((mfEn F).fl l).drop (k * 4 + 2)).take 2 = plC (F p) := by
      have h2 := mf_at (F := F) hp
      have h3 : (((mfEn F).fl l).drop (k * 4 + 2)).take 2 = (((((mfEn F).fl l).drop (k * 4)).take 4).drop 2).take 2 := by
        rw [List.drop_take, List.take_take, List.drop_drop]; rfl
      rw [h3, h2]; rfl
    ((try refine sx_use ?_); (repeat (refine SxNew.mk fun _ => ?_; (try refine sx_use ?_))))
    refine SxCode.drawAll rfl [] ?_
    ((try refine sx_use ?_); (repeat (refine SxNew.mk fun _ => ?_; (try refine sx_use ?_))))
    refine SxIA.rd 0 _ rfl k rfl hlt (by rw [mf_len]; omega) fun g off ha => ?_
    ((try refine sx_use ?_); (repeat (refine SxNew.mk fun _ => ?_; (try refine sx_use ?_))))
    refine SxLdN.rd 0 rfl ha (by omega) (j := k * 4) (vs := plC p) rfl h1 ?_
    ((try refine sx_use ?_); (repeat (refine SxNew.mk fun _ => ?_; (try refine sx_use ?_))))
    refine SxIA.rd 1 _ rfl k rfl hlt (by rw [rowPl_len]; omega) fun g off ha => ?_
    ((try refine sx_use ?_); (repeat (refine SxNew.mk fun _ => ?_; (try refine sx_use ?_))))
    refine SxLdN.rd 1 rfl ha rfl (vs := plC p) rfl (rowPl_at hp) ?_
    ((try refine sx_use ?_); (repeat (refine SxNew.mk fun _ => ?_; (try refine sx_use ?_))))
    refine SxRun.nePl ?_
    rw [decide_eq_true rfl]
    ((try refine sx_use ?_); (repeat (refine SxNew.mk fun _ => ?_; (try refine sx_use ?_))))
    refine SxIA.rd 0 _ rfl k rfl hlt (by rw [mf_len]; omega) fun g off ha => ?_
    ((try refine sx_use ?_); (repeat (refine SxNew.mk fun _ => ?_; (try refine sx_use ?_))))
    refine SxLdN.rd 0 rfl ha (by omega) (j := k * 4 + 2) (vs := plC (F p)) rfl h2 ?_
    ((try refine sx_use ?_); (repeat (refine SxNew.mk fun _ => ?_; (try refine sx_use ?_))))
    refine SxIA.rd 2 _ rfl k rfl hlt (by rw [rowPl_len, List.length_map]; omega) fun g off ha => ?_
    ((try refine sx_use ?_); (repeat (refine SxNew.mk fun _ => ?_; (try refine sx_use ?_))))
    refine SxLdN.rd 2 rfl ha rfl (vs := plC (F p)) rfl (rowPl_at hFp) ?_
    ((try refine sx_use ?_); (repeat (refine SxNew.mk fun _ => ?_; (try refine sx_use ?_))))
    refine SxRun.nePl ?_
    rw [decide_eq_true rfl]
    ((try refine sx_use ?_); (repeat (refine SxNew.mk fun _ => ?_; (try refine sx_use ?_))))
    exact SxRound.mk (k + 1) [0, 1, 2] rfl rfl rfl hlt (by first | omega | (dsimp only; omega))
  · obtain rfl : k = l.length := by omega
    ((try refine sx_use ?_); (repeat (refine SxNew.mk fun _ => ?_; (try refine sx_use ?_))))
    exact SxDone.mk fun w' hs => ⟨rfl, hs.touch.below⟩
end Go.Proofs.Ytdififdnnpgjoaa
