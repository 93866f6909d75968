/- Layer 26: the document's: which count, their order, twins, places. -/
import Derived.Test.YtdififdnnpgjoaaZDuP
import Derived.Test.YtdififdnnpgjoaaZGen
namespace Go.Proofs.Ytdififdnnpgjoaa
open Go.RowKit

def ltbC (a b : Ck) : Bool := decide (cfC a b < 0)
theorem RLessC_any (a b : Ck) (w : World) : Calls Try.prog 31 #[.agg (ckC a).toArray, .agg (ckC b).toArray] w fun e w' => e = .returned (.bool (ltbC a b)) ∧ Below w.heap.size w w' := by
  have hv : ltbC a b = if a.fq = b.fq then (if a.s = b.s then ltbP a.pl b.pl else decide (cB a.s.data.toList b.s.data.toList < 0)) else decide (cB a.fq.1 b.fq.1 < 0) := by
    unfold ltbC cfC cfT cT orZ tkey
    dsimp only
    by_cases h1 : a.fq = b.fq
    · rw [if_pos h1, h1, cB_self]
      by_cases h2 : a.s = b.s
      · rw [if_pos h2, h2, cB_self]
        simp only [ne_eq, not_true_eq_false, if_false]
        rw [Bool.eq_iff_iff, decide_eq_true_iff, cfP_iff, ltbP_iff]
      · rw [if_neg h2]
        have : cB a.s.data.toList b.s.data.toList ≠ 0 := fun e => h2 (ByteArray.ext (Array.toList_inj.1 (cB_zero e)))
        simp only [ne_eq, not_true_eq_false, if_false]
        rw [if_pos this]
    · rw [if_neg h1]
      have : cB a.fq.1 b.fq.1 ≠ 0 := fun e => h1 (Subtype.ext (cB_zero e))
      rw [if_pos this, if_pos this]
  rw [hv]
  refine sx_fn (S := SX) (M := []) (N := 30) (H0 := []) Try.func31 rfl rfl rfl (Sat.nil _ _) ?_
  ((try refine sx_use ?_); (repeat (refine SxNew.mk fun _ => ?_; (try refine sx_use ?_))))
  refine SxLdN.blk 1 rfl (vs := fqC a.fq) (fqC_len _) (ckC_fq a) ?_
  ((try refine sx_use ?_); (repeat (refine SxNew.mk fun _ => ?_; (try refine sx_use ?_))))
  refine SxLdN.blk 0 rfl (vs := fqC b.fq) (fqC_len _) (ckC_fq b) ?_
  ((try refine sx_use ?_); (repeat (refine SxNew.mk fun _ => ?_; (try refine sx_use ?_))))
  refine SxRun.neFq ?_
  ((try refine sx_use ?_); (repeat (refine SxNew.mk fun _ => ?_; (try refine sx_use ?_))))
  refine SxIf.nt (SxIf.dec (fun h1 => ?_) (fun h1 => ?_))
  · rw [if_pos h1]
    ((try refine sx_use ?_); (repeat (refine SxNew.mk fun _ => ?_; (try refine sx_use ?_))))
    refine SxLd.blk 1 rfl (ckC_s a) ?_
    ((try refine sx_use ?_); (repeat (refine SxNew.mk fun _ => ?_; (try refine sx_use ?_))))
    refine SxLd.blk 0 rfl (ckC_s b) ?_
    ((try refine sx_use ?_); (repeat (refine SxNew.mk fun _ => ?_; (try refine sx_use ?_))))
    refine SxIf.nt (SxIf.str (fun h2 => ?_) (fun h2 => ?_))
    · rw [if_pos h2]
      ((try refine sx_use ?_); (repeat (refine SxNew.mk fun _ => ?_; (try refine sx_use ?_))))
      refine SxCall.quiet (RLessP_any a.pl b.pl) ?_
      ((try refine sx_use ?_); (repeat (refine SxNew.mk fun _ => ?_; (try refine sx_use ?_))))
      exact SxDone.mk fun w' hs => ⟨rfl, hs.touch.below⟩
    · rw [if_neg h2]
      ((try refine sx_use ?_); (repeat (refine SxNew.mk fun _ => ?_; (try refine sx_use ?_))))
      refine SxLd.blk 1 rfl (ckC_s a) ?_
      ((try refine sx_use ?_); (repeat (refine SxNew.mk fun _ => ?_; (try refine sx_use ?_))))
      refine SxLd.blk 0 rfl (ckC_s b) ?_
      ((try refine sx_use ?_); (repeat (refine SxNew.mk fun _ => ?_; (try refine sx_use ?_))))
      refine SxDone.mk fun w' hs => ⟨?_, hs.touch.below⟩
      show Ending.returned (.bool (strLt a.s b.s)) = _
      rw [show strLt a.s b.s = decide (cB a.s.data.toList b.s.data.toList < 0) from strLt_cB a.s.data.toList b.s.data.toList]
  · rw [if_neg h1]
    ((try refine sx_use ?_); (repeat (refine SxNew.mk fun _ => ?_; (try refine sx_use ?_))))
    refine SxLdN.blk 1 rfl (vs := fqC a.fq) (fqC_len _) (ckC_fq a) ?_
    ((try refine sx_use ?_); (repeat (refine SxNew.mk fun _ => ?_; (try refine sx_use ?_))))
    refine SxLdN.blk 0 rfl (vs := fqC b.fq) (fqC_len _) (ckC_fq b) ?_
    ((try refine sx_use ?_); (repeat (refine SxNew.mk fun _ => ?_; (try refine sx_use ?_))))
    refine SxCall.quiet (RLessQ_any a.fq b.fq) ?_
    ((try refine sx_use ?_); (repeat (refine SxNew.mk fun _ => ?_; (try refine sx_use ?_))))
    exact SxDone.mk fun w' hs => ⟨rfl, hs.touch.below⟩
theorem RTwins_any (a b : Ck) (w : World) : Calls Try.prog 37 #[.agg (ckC a).toArray, .agg (ckC b).toArray] w fun e w' => e = .returned (.bool (twB a b)) ∧ Below w.heap.size w w' := by
  refine sx_fn (S := SX) (M := []) (N := 17) (H0 := []) Try.func37 rfl rfl rfl (Sat.nil _ _) ?_
  ((try refine sx_use ?_); (repeat (refine SxNew.mk fun _ => ?_; (try refine sx_use ?_))))
  refine SxLdN.blk 1 rfl (vs := fqC a.fq) (fqC_len _) (ckC_fq a) ?_
  ((try refine sx_use ?_); (repeat (refine SxNew.mk fun _ => ?_; (try refine sx_use ?_))))
  refine SxLdN.blk 0 rfl (vs := fqC b.fq) (fqC_len _) (ckC_fq b) ?_
  ((try refine sx_use ?_); (repeat (refine SxNew.mk fun _ => ?_; (try refine sx_use ?_))))
  refine SxRun.eqFq ?_
  ((try refine sx_use ?_); (repeat (refine SxNew.mk fun _ => ?_; (try refine sx_use ?_))))
  refine SxIf.dec (fun h1 => ?_) (fun h1 => ?_)
  · ((try refine sx_use ?_); (repeat (refine SxNew.mk fun _ => ?_; (try refine sx_use ?_))))
    refine SxLd.blk 1 rfl (ckC_s a) ?_
    ((try refine sx_use ?_); (repeat (refine SxNew.mk fun _ => ?_; (try refine sx_use ?_))))
    refine SxLd.blk 0 rfl (ckC_s b) ?_
    ((try refine sx_use ?_); (repeat (refine SxNew.mk fun _ => ?_; (try refine sx_use ?_))))
    refine SxDone.mk fun w' hs => ⟨?_, hs.touch.below⟩
    show Ending.returned (.bool (strEq a.s b.s)) = _
    unfold twB
    rw [decide_eq_true h1, Bool.true_and]
    have : strEq a.s b.s = decide (a.s = b.s) := by
      by_cases he : a.s = b.s
      · rw [decide_eq_true he, he]; exact (strEq_iff _ _).2 rfl
      · rw [decide_eq_false he]
        cases hb : strEq a.s b.s with
        | false => rfl
        | true => exact absurd ((strEq_iff _ _).1 hb) he
    rw [this]
  · ((try refine sx_use ?_); (repeat (refine SxNew.mk fun _ => ?_; (try refine sx_use ?_))))
    exact SxDone.mk fun w' hs => ⟨by unfold twB; rw [decide_eq_false h1]; rfl, hs.touch.below⟩
/-- Does a place stand among the first ones? -/
theorem cnt_has {l : List Ck} {k : Nat} (p : Pl) : p ∈ (cnt (l.take k)).map (·.pl) ↔ ∃ j c, j < k ∧ l[j]? = some c ∧ c.pl = p := by
  rw [(cnt_ok (l.take k)).2.2.1, List.mem_map]
  constructor
  · rintro ⟨c, hc, rfl⟩
    obtain ⟨j, hj⟩ := List.getElem?_of_mem hc
    rw [List.getElem?_take] at hj
    split at hj
    · exact ⟨j, c, by assumption, hj, rfl⟩
    · cases hj
  · rintro ⟨j, c, h1, h2, h3⟩
    exact ⟨c, List.mem_of_getElem? (i := j) (by rw [List.getElem?_take, if_pos h1]; exact h2), h3⟩
set_option maxHeartbeats 4000000 in
theorem RCount_any26 (l : List Ck) (hl : l.length ≤ 100000) (ao : Option Addr) (ac : Nat) (w : World) (hr : Rd w ao (ckE.fl l)) :
    Calls Try.prog 16 #[.slice ao l.length ac] w fun e w' => ∃ ao' cap', e = .returned (.slice ao' (cnt l).length cap') ∧ NewRow w w' ao' (cnt l).length cap' 34 35 (ckE.fl (cnt l)) := by
  refine sx_fn (S := SX) (M := []) (N := 41) (H0 := [.row none 0 0 34 35 [], .rd ao (ckE.fl l)]) Try.func16 rfl rfl rfl ((Sat.oneRd _ hr).nilRow 34 35) ?_
  ((try refine sx_use ?_); (repeat (refine SxNew.mk fun _ => ?_; (try refine sx_use ?_))))
  refine SxCode.loop (σ := Nat × Option Addr × Nat) [4, 3] [7, 8, 9, 10, 5, 6, 13, 14, 15, 18, 19, 20, 21, 22, 23, 24, 25, 26, 27, 28, 29, 30, 31, 16, 17, 32, 33, 34, 35, 36, 37, 38, 39, 3, 11, 12, 4] (fun x => [.int .i64 (x.1 : Nat), .slice x.2.1 (cnt (l.take x.1)).length x.2.2]) (fun x => [.row x.2.1 (cnt (l.take x.1)).length x.2.2 34 35 (ckE.fl (cnt (l.take x.1))), .rd ao (ckE.fl l)]) (fun x => x.1 ≤ l.length) (fun x => l.length - x.1) (0, none, 0) [0, 1] rfl rfl rfl rfl (Nat.zero_le _) ?_
  rintro ⟨k, ro, rc⟩ hk
  dsimp only at hk ⊢
  have hcl := cnt_len (l.take k)
  rw [List.length_take] at hcl
  by_cases hlt : k < l.length
  · obtain ⟨c, hc⟩ : ∃ c, l[k]? = some c := ⟨l[k], by simp [hlt]⟩
    have hsn := cnt_snoc (l.take k) c
    rw [← take_snocE hc] at hsn
    ((try refine sx_use ?_); (repeat (refine SxNew.mk fun _ => ?_; (try refine sx_use ?_))))
    refine SxCode.loop (σ := Nat × Bool) [6, 5] [13, 14, 15, 18, 19, 20, 21, 22, 23, 24, 25, 26, 27, 28, 29, 30, 31, 5, 16, 17, 6] (fun x => [.int .i64 (x.1 : Nat), .bool x.2]) (fun _ => [.row ro (cnt (l.take k)).length rc 34 35 (ckE.fl (cnt (l.take k))), .rd ao (ckE.fl l)]) (fun x => x.1 ≤ k ∧ (x.2 = false ↔ ∃ j d, j < x.1 ∧ l[j]? = some d ∧ d.pl = c.pl)) (fun x => k - x.1) (0, true) [0, 1] rfl rfl rfl rfl ⟨Nat.zero_le _, by simp⟩ ?_
    rintro ⟨j, b⟩ ⟨hj, hb⟩
    dsimp only at hj hb ⊢
    by_cases hjk : j < k
    · obtain ⟨d, hd⟩ : ∃ d, l[j]? = some d := ⟨l[j]'(by omega), by simp [show j < l.length by omega]⟩
      have hstep : ∀ b' : Bool, (b' = false ↔ b = false ∨ d.pl = c.pl) → (b' = false ↔ ∃ i e, i < j + 1 ∧ l[i]? = some e ∧ e.pl = c.pl) := fun b' hb' => by
        rw [hb', hb]
        constructor
        · rintro (⟨i, e, h1, h2, h3⟩ | h)
          · exact ⟨i, e, by omega, h2, h3⟩
          · exact ⟨j, d, by omega, hd, h⟩
        · rintro ⟨i, e, h1, h2, h3⟩
          by_cases hij : i = j
          · subst hij
            rw [hd] at h2
            obtain rfl := Option.some.inj h2
            exact .inr h3
          · exact .inl ⟨i, e, by omega, h2, h3⟩
      cases hbv : b with
      | true =>
        rw [hbv] at hstep
        ((try refine sx_use ?_); (repeat (refine SxNew.mk fun _ => ?_; (try refine sx_use ?_))))
        refine SxCode.drawAll rfl [] ?_
        ((try refine sx_use ?_); (repeat (refine SxNew.mk fun _ => ?_; (try refine sx_use ?_))))
        refine SxIA.rd 1 _ rfl j rfl (by omega) (by rw [ckE_len]; omega) fun g off ha => ?_
        ((try refine sx_use ?_); (repeat (refine SxNew.mk fun _ => ?_; (try refine sx_use ?_))))
        refine SxLdN.rd 1 rfl ha rfl (vs := plC d.pl) rfl (ckE_pl hd) ?_
        ((try refine sx_use ?_); (repeat (refine SxNew.mk fun _ => ?_; (try refine sx_use ?_))))
        refine SxIA.rd 1 _ rfl k rfl hlt (by rw [ckE_len]; omega) fun g off ha => ?_
        ((try refine sx_use ?_); (repeat (refine SxNew.mk fun _ => ?_; (try refine sx_use ?_))))
        refine SxLdN.rd 1 rfl ha rfl (vs := plC c.pl) rfl (ckE_pl hc) ?_
        ((try refine sx_use ?_); (repeat (refine SxNew.mk fun _ => ?_; (try refine sx_use ?_))))
        refine SxRun.nePl ?_
        ((try refine sx_use ?_); (repeat (refine SxNew.mk fun _ => ?_; (try refine sx_use ?_))))
        exact SxRound.mk (j + 1, !decide (d.pl = c.pl)) [0, 1] rfl rfl rfl ⟨hjk, hstep _ (by simp)⟩ (by first | omega | (dsimp only; omega))
      | false =>
        rw [hbv] at hstep
        ((try refine sx_use ?_); (repeat (refine SxNew.mk fun _ => ?_; (try refine sx_use ?_))))
        (try refine SxCode.drawAll rfl [] ?_)
        (try ((try refine sx_use ?_); (repeat (refine SxNew.mk fun _ => ?_; (try refine sx_use ?_)))))
        exact SxRound.mk (j + 1, false) [0, 1] rfl rfl rfl ⟨hjk, hstep _ (by simp)⟩ (by first | omega | (dsimp only; omega))
    · obtain rfl : j = k := by omega
      have hh := cnt_has (l := l) (k := j) c.pl
      cases hbv : b with
      | true =>
        have hm : ¬ c.pl ∈ (cnt (l.take j)).map (·.pl) := fun h => by rw [hbv] at hb; exact absurd (hb.2 (hh.1 h)) (by simp)
        rw [if_neg hm] at hsn
        have hl1 : (cnt (l.take (j + 1))).length = (cnt (l.take j)).length + 1 := by rw [hsn, List.length_append]; rfl
        ((try refine sx_use ?_); (repeat (refine SxNew.mk fun _ => ?_; (try refine sx_use ?_))))
        refine SxIA.rd 1 _ rfl j rfl hlt (by rw [ckE_len]; omega) fun g off ha => ?_
        ((try refine sx_use ?_); (repeat (refine SxNew.mk fun _ => ?_; (try refine sx_use ?_))))
        refine SxLdN.rd 1 rfl ha rfl (vs := ckC c) (ckC_len _) (ckE_at hc) ?_
        ((try refine sx_use ?_); (repeat (refine SxNew.mk fun _ => ?_; (try refine sx_use ?_))))
        refine SxFill.one rfl (ckC_len c) ?_
        ((try refine sx_use ?_); (repeat (refine SxNew.mk fun _ => ?_; (try refine sx_use ?_))))
        refine SxApp.mk 1 rfl 0 (.inr (.inr (.inr ⟨by decide, _, rfl⟩))) (vs := ckC c) (m := 1) (by rw [ckC_len]) (ckC_one c) (by unfold maxLen; omega) (by omega) (cs' := ckE.fl (cnt (l.take (j + 1)))) (by rw [hsn, ckE.fl_append, ckE.fl_one]; rfl) fun ao' cap' => ?_
        ((try refine sx_use ?_); (repeat (refine SxNew.mk fun _ => ?_; (try refine sx_use ?_))))
        exact SxRound.mk (j + 1, ao', cap') [1, 2] (by dsimp only; rw [hl1]; rfl) (by dsimp only; rw [hl1]; rfl) rfl hlt (by first | omega | (dsimp only; omega))
      | false =>
        have hm : c.pl ∈ (cnt (l.take j)).map (·.pl) := hh.2 (hb.1 hbv)
        rw [if_pos hm] at hsn
        ((try refine sx_use ?_); (repeat (refine SxNew.mk fun _ => ?_; (try refine sx_use ?_))))
        exact SxRound.mk (j + 1, ro, rc) [0, 1] (by dsimp only; rw [hsn]; rfl) (by dsimp only; rw [hsn]; rfl) rfl hlt (by first | omega | (dsimp only; omega))
  · obtain rfl : k = l.length := by omega
    rw [List.take_length]
    ((try refine sx_use ?_); (repeat (refine SxNew.mk fun _ => ?_; (try refine sx_use ?_))))
    exact SxDone.mk fun w' hs => ⟨ro, rc, rfl, hs.newRow 0 rfl⟩
end Go.Proofs.Ytdififdnnpgjoaa
