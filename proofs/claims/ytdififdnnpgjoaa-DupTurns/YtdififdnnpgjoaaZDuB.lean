/- Layer 26: chunks that count, in order. -/
import Derived.Test.YtdififdnnpgjoaaZDuP
import Derived.Test.YtdififdnnpgjoaaZOr
import Derived.Test.YtdififdnnpgjoaaZLyCk
import Derived.Test.YtdififdnnpgjoaaZShelf
namespace Go.Proofs.Ytdififdnnpgjoaa
open Go.RowKit

theorem NaNuD_any (x : Int) (w : World) : Calls Try.prog 70 #[.int .u32 x] w fun e w' => e = .returned (.bool false) ∧ Below w.heap.size w w' := by
  refine sx_fn (S := SX) (M := []) (N := 6) (H0 := []) Try.func70 rfl rfl rfl (Sat.nil _ _) ?_
  ((try refine sx_use ?_); (repeat (refine SxNew.mk fun _ => ?_; (try refine sx_use ?_))))
  refine SxDone.mk fun w' hs => ⟨?_, hs.touch.below⟩
  show Ending.returned (.bool (x != x)) = _
  rw [bne_self_eq_false]
theorem CmpUD_any (x y : Int) (w : World) : Calls Try.prog 46 #[.int .u32 x, .int .u32 y] w fun e w' => e = .returned (.int .i64 (cI x y)) ∧ Below w.heap.size w w' := by
  have h1 := NaNuD_any x
  have h2 := NaNuD_any y
  refine sx_fn (S := SX) (M := []) (N := 20) (H0 := []) Try.func46 rfl rfl rfl (Sat.nil _ _) ?_
  ((try refine sx_use ?_); (repeat (refine SxNew.mk fun _ => ?_; (try refine sx_use ?_))))
  refine SxCall.quiet h1 ?_
  ((try refine sx_use ?_); (repeat (refine SxNew.mk fun _ => ?_; (try refine sx_use ?_))))
  refine SxCall.quiet h2 ?_
  ((try refine sx_use ?_); (repeat (refine SxNew.mk fun _ => ?_; (try refine sx_use ?_))))
  refine SxIf.dec (fun h => ?_) (fun h => ?_)
  · ((try refine sx_use ?_); (repeat (refine SxNew.mk fun _ => ?_; (try refine sx_use ?_))))
    exact SxDone.mk fun w' hs => ⟨by unfold cI Go.Lib.compareInt; rw [if_pos h]; rfl, hs.touch.below⟩
  · ((try refine sx_use ?_); (repeat (refine SxNew.mk fun _ => ?_; (try refine sx_use ?_))))
    refine SxIf.dec (fun h3 => ?_) (fun h3 => ?_)
    · ((try refine sx_use ?_); (repeat (refine SxNew.mk fun _ => ?_; (try refine sx_use ?_))))
      exact SxDone.mk fun w' hs => ⟨by unfold cI Go.Lib.compareInt; rw [if_neg h, if_pos h3]; rfl, hs.touch.below⟩
    · ((try refine sx_use ?_); (repeat (refine SxNew.mk fun _ => ?_; (try refine sx_use ?_))))
      exact SxDone.mk fun w' hs => ⟨by unfold cI Go.Lib.compareInt; rw [if_neg h, if_neg h3]; rfl, hs.touch.below⟩
def plVD (p : Pl) : Value := .agg (plC p).toArray
theorem places_any (a b : Pl) (w : World) : Calls Try.prog 30 #[plVD a, plVD b] w fun e w' => e = .returned (.int .i64 (cfP a b)) ∧ Below w.heap.size w w' := by
  refine sx_fn (S := SX) (M := []) (N := 17) (H0 := []) Try.func30 rfl rfl rfl (Sat.nil _ _) ?_
  ((try refine sx_use ?_); (repeat (refine SxNew.mk fun _ => ?_; (try refine sx_use ?_))))
  refine SxCode.drawAll rfl [] ?_
  ((try refine sx_use ?_); (repeat (refine SxNew.mk fun _ => ?_; (try refine sx_use ?_))))
  refine SxCall.quiet (CmpUD_any a.bx b.bx) ?_
  ((try refine sx_use ?_); (repeat (refine SxNew.mk fun _ => ?_; (try refine sx_use ?_))))
  refine SxCall.pure (fun w => (Try.cmp_Compare_int a.sl b.sl w).mono fun e w' h => ⟨h.1, h.2.symm⟩) ?_
  ((try refine sx_use ?_); (repeat (refine SxNew.mk fun _ => ?_; (try refine sx_use ?_))))
  refine SxCall.quietS (fun w hs => Or2_any (cI a.bx b.bx) (cI a.sl b.sl) _ _ w (hs.rowRd 0 rfl (by show (2 : Nat) ≤ maxLen; decide))) ?_
  ((try refine sx_use ?_); (repeat (refine SxNew.mk fun _ => ?_; (try refine sx_use ?_))))
  exact SxDone.mk fun w' hs => ⟨rfl, hs.touch.below⟩
def ckV (c : Ck) : Value := .agg (ckC c).toArray
theorem twins_any (a b : Ck) (w : World) : Calls Try.prog 29 #[ckV a, ckV b] w fun e w' => e = .returned (.int .i64 (cfT a b)) ∧ Below w.heap.size w w' := by
  refine sx_fn (S := SX) (M := []) (N := 17) (H0 := []) Try.func29 rfl rfl rfl (Sat.nil _ _) ?_
  ((try refine sx_use ?_); (repeat (refine SxNew.mk fun _ => ?_; (try refine sx_use ?_))))
  refine SxCode.drawAll rfl [] ?_
  ((try refine sx_use ?_); (repeat (refine SxNew.mk fun _ => ?_; (try refine sx_use ?_))))
  refine SxBnd.mk 0 32 rfl rfl (by decide) (by decide) fun o1 h1 => ?_
  obtain rfl : o1 = 2 := by have := h1 (by decide); omega
  clear h1
  ((try refine sx_use ?_); (repeat (refine SxNew.mk fun _ => ?_; (try refine sx_use ?_))))
  refine SxBnd.mk 0 32 rfl rfl (by decide) (by decide) fun o2 h2 => ?_
  obtain rfl : o2 = 2 := by have := h2 (by decide); omega
  clear h2
  ((try refine sx_use ?_); (repeat (refine SxNew.mk fun _ => ?_; (try refine sx_use ?_))))
  refine SxLd.blk 1 rfl (ckC_s a) ?_
  ((try refine sx_use ?_); (repeat (refine SxNew.mk fun _ => ?_; (try refine sx_use ?_))))
  refine SxLd.blk 0 rfl (ckC_s b) ?_
  ((try refine sx_use ?_); (repeat (refine SxNew.mk fun _ => ?_; (try refine sx_use ?_))))
  refine SxCall.quietS (v := .int .i64 (cB a.fq.1 b.fq.1)) (fun w hs => by
    have r1 := (Rd.of_blk (hs.blk 1 rfl) (by show (ckC a).length ≤ maxLen; rw [ckC_len]; decide)).sub (ao' := some ⟨_, 2, none⟩) 2 32 (fun _ => rfl)
    have r2 := (Rd.of_blk (hs.blk 0 rfl) (by show (ckC b).length ≤ maxLen; rw [ckC_len]; decide)).sub (ao' := some ⟨_, 2, none⟩) 2 32 (fun _ => rfl)
    rw [show ((ckV a).cells.toList.drop 2).take 32 = fqC a.fq from ckC_fq a] at r1
    rw [show ((ckV b).cells.toList.drop 2).take 32 = fqC b.fq from ckC_fq b] at r2
    exact CmpBs_any a.fq b.fq _ _ _ _ w r1 r2) ?_
  ((try refine sx_use ?_); (repeat (refine SxNew.mk fun _ => ?_; (try refine sx_use ?_))))
  refine SxCall.pure (fun w => (Try.strings_Compare a.s b.s w).mono fun e w' h => ⟨h.1, h.2.symm⟩) ?_
  ((try refine sx_use ?_); (repeat (refine SxNew.mk fun _ => ?_; (try refine sx_use ?_))))
  refine SxCall.quietS (fun w hs => Or2_any (cB a.fq.1 b.fq.1) (cB a.s.data.toList b.s.data.toList) _ _ w (hs.rowRd 0 rfl (by show (2 : Nat) ≤ maxLen; decide))) ?_
  ((try refine sx_use ?_); (repeat (refine SxNew.mk fun _ => ?_; (try refine sx_use ?_))))
  exact SxDone.mk fun w' hs => ⟨rfl, hs.touch.below⟩
theorem Sort1_any (a b : Ck) (w : World) : Calls Try.prog 27 #[ckV a, ckV b] w fun e w' => e = .returned (.int .i64 (cfC a b)) ∧ Below w.heap.size w w' := by
  refine sx_fn (S := SX) (M := []) (N := 15) (H0 := []) Try.func27 rfl rfl rfl (Sat.nil _ _) ?_
  ((try refine sx_use ?_); (repeat (refine SxNew.mk fun _ => ?_; (try refine sx_use ?_))))
  refine SxCode.drawAll rfl [] ?_
  ((try refine sx_use ?_); (repeat (refine SxNew.mk fun _ => ?_; (try refine sx_use ?_))))
  refine SxLdN.blk 1 rfl (vs := ckC a) (ckC_len a) (ckC_all a) ?_
  ((try refine sx_use ?_); (repeat (refine SxNew.mk fun _ => ?_; (try refine sx_use ?_))))
  refine SxLdN.blk 0 rfl (vs := ckC b) (ckC_len b) (ckC_all b) ?_
  ((try refine sx_use ?_); (repeat (refine SxNew.mk fun _ => ?_; (try refine sx_use ?_))))
  refine SxCall.quiet (twins_any a b) ?_
  ((try refine sx_use ?_); (repeat (refine SxNew.mk fun _ => ?_; (try refine sx_use ?_))))
  refine SxCall.quiet (places_any a.pl b.pl) ?_
  ((try refine sx_use ?_); (repeat (refine SxNew.mk fun _ => ?_; (try refine sx_use ?_))))
  refine SxCall.quietS (fun w hs => Or2_any (cfT a b) (cfP a.pl b.pl) _ _ w (hs.rowRd 0 rfl (by show (2 : Nat) ≤ maxLen; decide))) ?_
  ((try refine sx_use ?_); (repeat (refine SxNew.mk fun _ => ?_; (try refine sx_use ?_))))
  exact SxDone.mk fun w' hs => ⟨rfl, hs.touch.below⟩
def plKeyD : KeyT SX 29 := ⟨2, plK, _, rfl, rfl, rfl⟩
theorem plKeyD_ok (p : Pl) : plKeyD.ok (plVD p) := ⟨rfl, rfl⟩
theorem plVD_inj {p q : Pl} (h : plVD p = plVD q) : p = q := by
  unfold plVD at h
  simp only [Value.agg.injEq] at h
  exact plC_inj (by simpa using congrArg Array.toList h)
def kvS (l : List Ck) : List (Value × Value) := l.map fun c => (plVD c.pl, .int .i64 1)
theorem kvS_at {l : List Ck} {p : Pl} (h : p ∈ l.map (·.pl)) : ∃ j : Nat, (kvS l)[j]? = some (plVD p, Value.int .i64 1) := by
  obtain ⟨c, hc, rfl⟩ := List.mem_map.1 h
  obtain ⟨j, hj⟩ := List.getElem?_of_mem hc
  exact ⟨j, by unfold kvS; rw [List.getElem?_map, hj]; rfl⟩
theorem kvS_no {l : List Ck} {p : Pl} (h : p ∉ l.map (·.pl)) : ∀ x ∈ kvS l, x.1 ≠ plVD p := by
  intro x hx he
  obtain ⟨c, hc, rfl⟩ := List.mem_map.1 hx
  exact h (List.mem_map.2 ⟨c, hc, plVD_inj he⟩)
set_option maxHeartbeats 4000000 in
theorem Sort_any (l : List Ck) (hl : l.length ≤ 100000) (ao : Option Addr) (ac : Nat) (w : World) (hr : Rd w ao (ckE.fl l)) :
    Calls Try.prog 9 #[.slice ao l.length ac] w fun e w' => ∃ ao' cap', e = .returned (.slice ao' (srt l).length cap') ∧ NewRow w w' ao' (srt l).length cap' 33 35 (ckE.fl (srt l)) := by
  refine sx_fn (S := SX) (M := []) (N := 30) (H0 := [.row none 0 0 33 35 [], .rd ao (ckE.fl l)]) Try.func9 rfl rfl rfl ((Sat.oneRd _ hr).nilRow 33 35) ?_
  ((try refine sx_use ?_); (repeat (refine SxNew.mk fun _ => ?_; (try refine sx_use ?_))))
  refine SxSem.make plKeyD rfl fun gm => ?_
  ((try refine sx_use ?_); (repeat (refine SxNew.mk fun _ => ?_; (try refine sx_use ?_))))
  refine SxCode.loop (σ := Nat × Option Addr × Nat) [10, 4] [11, 12, 13, 6, 14, 15, 16, 17, 18, 19, 20, 21, 22, 23, 24, 25, 4, 26, 10] (fun x => [.int .i64 (x.1 : Nat), .slice x.2.1 (cnt (l.take x.1)).length x.2.2]) (fun x => [.row x.2.1 (cnt (l.take x.1)).length x.2.2 33 35 (ckE.fl (cnt (l.take x.1))), mapE plKeyD gm (kvS (cnt (l.take x.1))), .rd ao (ckE.fl l)]) (fun x => x.1 ≤ l.length) (fun x => l.length - x.1) (0, none, 0) [1, 0, 2] rfl rfl rfl rfl (Nat.zero_le _) ?_
  rintro ⟨k, ro, rc⟩ hk
  dsimp only at hk ⊢
  have hcl := cnt_len (l.take k)
  rw [List.length_take] at hcl
  by_cases hlt : k < l.length
  · obtain ⟨c, hc⟩ : ∃ c, l[k]? = some c := ⟨l[k], by simp [hlt]⟩
    have hsn := cnt_snoc (l.take k) c
    rw [← take_snocE hc] at hsn
    ((try refine sx_use ?_); (repeat (refine SxNew.mk fun _ => ?_; (try refine sx_use ?_))))
    refine SxIA.rd 2 _ rfl k rfl hlt (by rw [ckE_len]; omega) fun g off ha => ?_
    ((try refine sx_use ?_); (repeat (refine SxNew.mk fun _ => ?_; (try refine sx_use ?_))))
    refine SxLdN.rd 2 rfl ha rfl (vs := ckC c) (ckC_len c) (ckE_at hc) ?_
    ((try refine sx_use ?_); (repeat (refine SxNew.mk fun _ => ?_; (try refine sx_use ?_))))
    refine SxSt.elem ckE (x := c) 0 rfl rfl ?_
    ((try refine sx_use ?_); (repeat (refine SxNew.mk fun _ => ?_; (try refine sx_use ?_))))
    by_cases hm : c.pl ∈ (cnt (l.take k)).map (·.pl)
    · rw [if_pos hm] at hsn
      obtain ⟨j, hj⟩ := kvS_at hm
      refine SxSem.look plKeyD 2 rfl Try.underlying64 rfl rfl rfl (plKeyD_ok c.pl) (.inl ⟨j, _, hj, ?_⟩)
      ((try refine sx_use ?_); (repeat (refine SxNew.mk fun _ => ?_; (try refine sx_use ?_))))
      exact SxRound.mk (k + 1, ro, rc) [1, 2, 3] (by dsimp only; rw [hsn]; rfl) (by dsimp only; rw [hsn]; rfl) rfl hlt (by first | omega | (dsimp only; omega))
    · rw [if_neg hm] at hsn
      refine SxSem.look plKeyD 2 rfl Try.underlying64 rfl rfl rfl (plKeyD_ok c.pl) (.inr ⟨kvS_no hm, _, rfl, ?_⟩)
      ((try refine sx_use ?_); (repeat (refine SxNew.mk fun _ => ?_; (try refine sx_use ?_))))
      refine SxSem.upd (K := plKeyD) 2 (.inl rfl) Try.underlying64 rfl rfl rfl rfl (plKeyD_ok c.pl) (.inr ⟨kvS_no hm, ?_⟩)
      ((try refine sx_use ?_); (repeat (refine SxNew.mk fun _ => ?_; (try refine sx_use ?_))))
      refine SxLdN.blk 0 rfl (vs := ckC c) (ckC_len c) (ckC_all c) ?_
      ((try refine sx_use ?_); (repeat (refine SxNew.mk fun _ => ?_; (try refine sx_use ?_))))
      refine SxFill.one rfl (ckC_len c) ?_
      ((try refine sx_use ?_); (repeat (refine SxNew.mk fun _ => ?_; (try refine sx_use ?_))))
      have hl1 : (cnt (l.take (k + 1))).length = (cnt (l.take k)).length + 1 := by rw [hsn, List.length_append]; rfl
      refine SxApp.mk 2 rfl 0 (.inr (.inr (.inr ⟨by decide, _, rfl⟩))) (vs := ckC c) (m := 1) (by rw [ckC_len]) (ckC_one c) (by unfold maxLen; omega) (by omega) (cs' := ckE.fl (cnt (l.take (k + 1)))) (by rw [hsn, ckE.fl_append, ckE.fl_one]; rfl) fun ao' cap' => ?_
      ((try refine sx_use ?_); (repeat (refine SxNew.mk fun _ => ?_; (try refine sx_use ?_))))
      exact SxRound.mk (k + 1, ao', cap') [2, 3, 4] (by dsimp only; rw [hl1]; rfl) (by dsimp only; rw [hl1, hsn]; unfold kvS; rw [List.map_append]; rfl) rfl hlt (by first | omega | (dsimp only; omega))
  · obtain rfl : k = l.length := by omega
    rw [List.take_length]
    have hsl := srt_len l
    ((try refine sx_use ?_); (repeat (refine SxNew.mk fun _ => ?_; (try refine sx_use ?_))))
    refine SxCall.sort (S := SX) (cf := cfC) (g := 27) (cb := #[]) (l := cnt l) (n := (cnt l).length) Try.layCk ckE Try.isAgg33 Try.sizeOf33 (cmpOk_of ltC_ord cfC_iff) (enters_of Try.func27 (by kernel_rfl) rfl) 0 rfl (by have := cnt_len l; omega) (fun x y w w' _ _ => Sort1_any x y w') ?_
    ((try refine sx_use ?_); (repeat (refine SxNew.mk fun _ => ?_; (try refine sx_use ?_))))
    exact SxDone.mk fun w' hs => ⟨ro, rc, by rw [hsl]; rfl, by rw [hsl]; exact hs.newRow 0 rfl⟩
end Go.Proofs.Ytdififdnnpgjoaa
