/- The walk of layer 32: the document's Keep. -/
import Derived.Test.YtiobcjahgmkmiaaZRtL
namespace Go.Proofs.Ytiobcjahgmkmiaa
open Go.RowKit

set_option maxHeartbeats 8000000 in
theorem RKeep_any (p : Pol) (l : List Bk) (hl : l.length ≤ 100000) (hp : mayP p) (hd : mayD l) (ao : Option Addr) (cap : Nat) (w : World) (hr : Rd w ao (bkE.fl l)) :
    Calls Try.prog 27 #[.agg (polC p).toArray, .slice ao l.length cap] w fun e w' => ∃ a1 c1 a2 c2, e = .returned (.tuple #[.slice a1 (keptK p l).1.length c1, .slice a2 (keptK p l).2.length c2]) ∧ NewRow w w' a1 (keptK p l).1.length c1 61 2 (bkE.fl (keptK p l).1) ∧ NewRow w w' a2 (keptK p l).2.length c2 61 2 (bkE.fl (keptK p l).2) := by
  obtain ⟨hp1, hp2, hp3, hp4⟩ := hp
  have hlen : (sortR l).length ≤ l.length := setR_len ltbK l
  have hsd : ∀ b ∈ sortR l, inDays b.day := fun b hb => hd b (((setR_ok ltK_ord ltbK_iff l).2 b).1 hb)
  have hst : (sortR l).Pairwise ltK := (setR_ok ltK_ord ltbK_iff l).1
  refine sx_fn (S := SX) (M := []) (N := 73) (H0 := [.row none 0 0 61 2 [], .row none 0 0 61 2 [], .rd ao (bkE.fl l)]) Try.func27 rfl rfl rfl (Sat.nilRow 61 2 (Sat.nilRow 61 2 (Sat.oneRd _ hr))) ?_
  ((try refine sx_use ?_); (repeat (refine SxNew.mk fun _ => ?_; (try refine sx_use ?_))))
  rename_i gp
  refine SxCall.newRowB (fun w hs => RSort_any l (by omega) ao cap w (hs.rd 3 rfl)) fun sa sc hsa hsc => ?_
  have hkk : keptK p l = pick2 (sortR l) (kp p (sortR l) 4) (sortR l).length := by rw [sortR_eq]; rfl
  obtain ⟨s, hs0⟩ : ∃ s, s = sortR l := ⟨_, rfl⟩
  rw [← hs0] at hkk hlen hsd hst hsa hsc ⊢
  rw [hkk]
  clear hkk hs0
  ((try refine sx_use ?_); (repeat (refine SxNew.mk fun _ => ?_; (try refine sx_use ?_))))
  refine SxBnd.mk s.length s.length rfl rfl (Nat.le_refl _) (by unfold maxLen; omega) ?_
  ((try refine sx_use ?_); (repeat (refine SxNew.mk fun _ => ?_; (try refine sx_use ?_))))
  refine SxP.mk ⟨by omega, rfl, by decide⟩ ?_
  ((try refine sx_use ?_); (repeat (refine SxNew.mk fun _ => ?_; (try refine sx_use ?_))))
  rename_i gk
  refine SxCode.loop (σ := Nat) [8] [17, 18, 19, 20, 21, 22, 23, 24, 25, 26, 29, 30, 31, 27, 28, 8] (fun i => [.int .i64 (i : Nat)]) (fun i => [.row (some ⟨gk, 0, none⟩) s.length s.length 4 1 ((orL (kp p s 0) (st 0 p.la s i).2).map .bool), .row sa s.length sc 61 2 (bkE.fl s), .blk gp 53 (polC p), .row none 0 0 61 2 [], .row none 0 0 61 2 []])
    (fun i => i ≤ s.length ∧ (i : Int) ≤ p.la) (fun i => s.length - i) 0 [0, 1, 2, 3, 4] rfl rfl (by rw [show (st 0 p.la s 0).2 = [] from rfl, orL_nil, show (kp p s 0).map Value.bool = zerosL [Value.bool false] s.length from (zeros_false _).symm]; rfl) rfl ⟨Nat.zero_le _, hp1.1⟩ ?_
  rintro i ⟨hi, hi2⟩
  obtain ⟨sl1, _⟩ := st_len 0 p.la s i hi
  ((try refine sx_use ?_); (repeat (refine SxNew.mk fun _ => ?_; (try refine sx_use ?_))))
  refine SxIf.dec (fun h => ?_) (fun h => ?_)
  · have hlt : i < s.length := by omega
    obtain ⟨b, hb⟩ : ∃ b, s[i]? = some b := ⟨s[i], by simp [hlt]⟩
    ((try refine sx_use ?_); (repeat (refine SxNew.mk fun _ => ?_; (try refine sx_use ?_))))
    refine SxIf.dec (fun h1 => ?_) (fun h1 => ?_)
    · have hy := st_zero_yes (most := p.la) hb (by exact h1)
      ((try refine sx_use ?_); (repeat (refine SxNew.mk fun _ => ?_; (try refine sx_use ?_))))
      refine SxIA.row 0 _ _ _ rfl i rfl hlt fun g' hg' => ?_
      obtain rfl : gk = g' := by simpa using hg'
      ((try refine sx_use ?_); (repeat (refine SxNew.mk fun _ => ?_; (try refine sx_use ?_))))
      (try refine SxP.mk rfl ?_)
      refine SxSt.row 0 rfl rfl (j := i) (by omega) (by rw [List.length_map, orL_len, kp_len]; show i + 1 ≤ _; omega) rfl (cs' := (orL (kp p s 0) ((st 0 p.la s i).2 ++ [true])).map .bool) (by
        rw [orL_true _ _ (by rw [sl1, kp_len]; exact hlt), sl1, List.map_set]
        exact splice_at (by rw [List.length_map, orL_len, kp_len]; exact hlt) _) ?_
      ((try refine sx_use ?_); (repeat (refine SxNew.mk fun _ => ?_; (try refine sx_use ?_))))
      exact SxRound.mk (i + 1) [0, 1, 2, 3, 4] rfl (by rw [hy]; rfl) rfl ⟨by omega, by omega⟩ (by omega)
    · obtain ⟨d, hd2⟩ : ∃ d, s.length = i + d := ⟨s.length - i, by omega⟩
      have hstp := (st_stop (j := 0) (most := p.la) (s := s) (kp p s 0) (kp_len p s 0) (i := i) (by rw [st_zero p.la s i hi hi2]; simp; change ¬ ((i : Int) < p.la) at h1; omega) d (by omega)).2
      rw [← hd2] at hstp
      have hk1 : orL (kp p s 0) (st 0 p.la s i).2 = kp p s 1 := hstp.symm
      rw [hk1]
      ((try refine sx_use ?_); (repeat (refine SxNew.mk fun _ => ?_; (try refine sx_use ?_))))
      refine SxCall.newRowB (v := fun a c => .slice a (kp p s 2).length c) (fun w hs => by
        have h := mark_any s (by omega) hsd (kp p s 1) (kp_len p s 1) 0 (by omega) p.da hp2 sa (some ⟨gk, 0, none⟩) sc s.length w (hs.rowRd 1 rfl (by rw [rowBr_len]; unfold maxLen; omega)) (hs.rowRd 0 rfl (by rw [List.length_map, kp_len]; unfold maxLen; omega))
        rw [kp_len, ← (same_flags hst hsd (j := 1) (by omega) hp2.1 s.length (Nat.le_refl _)).1, show orL (kp p s 1) (st 1 p.da s s.length).2 = kp p s 2 from rfl] at h
        exact h) fun m1 d1 hm1 hd1 => ?_
      ((try refine sx_use ?_); (repeat (refine SxNew.mk fun _ => ?_; (try refine sx_use ?_))))
      refine SxCall.newRowB (v := fun a c => .slice a (kp p s 3).length c) (fun w hs => by
        have h := mark_any s (by omega) hsd (kp p s 2) (kp_len p s 2) 1 (by omega) p.we hp3 sa m1 sc d1 w (hs.rowRd 2 rfl (by rw [rowBr_len]; unfold maxLen; omega)) (hs.rowRd 0 rfl (by rw [List.length_map, kp_len]; unfold maxLen; omega))
        rw [← (same_flags hst hsd (j := 2) (by omega) hp3.1 s.length (Nat.le_refl _)).1, show orL (kp p s 2) (st 2 p.we s s.length).2 = kp p s 3 from rfl] at h
        exact h) fun m2 d2 hm2 hd2 => ?_
      ((try refine sx_use ?_); (repeat (refine SxNew.mk fun _ => ?_; (try refine sx_use ?_))))
      refine SxCall.newRowB (v := fun a c => .slice a (kp p s 4).length c) (fun w hs => by
        have h := mark_any s (by omega) hsd (kp p s 3) (kp_len p s 3) 2 (by omega) p.mo hp4 sa m2 sc d2 w (hs.rowRd 3 rfl (by rw [rowBr_len]; unfold maxLen; omega)) (hs.rowRd 0 rfl (by rw [List.length_map, kp_len]; unfold maxLen; omega))
        rw [← (same_flags hst hsd (j := 3) (by omega) hp4.1 s.length (Nat.le_refl _)).1, show orL (kp p s 3) (st 3 p.mo s s.length).2 = kp p s 4 from rfl] at h
        exact h) fun m3 d3 hm3 hd3 => ?_
      obtain ⟨f, hf⟩ : ∃ f, f = kp p s 4 := ⟨_, rfl⟩
      have hfl : f.length = s.length := by rw [hf]; exact kp_len p s 4
      rw [← hf] at hm3 hd3 ⊢
      ((try refine sx_use ?_); (repeat (refine SxNew.mk fun _ => ?_; (try refine sx_use ?_))))
      refine SxCode.loop (σ := Nat × (Option Addr × Nat) × (Option Addr × Nat)) [11, 9, 10] [47, 48, 49, 50, 53, 54, 55, 56, 57, 58, 59, 60, 61, 62, 63, 9, 64, 65, 66, 67, 68, 69, 70, 10, 51, 52, 11] (fun t => [.int .i64 (t.1 : Nat), .slice t.2.1.1 (pick2 s f t.1).1.length t.2.1.2, .slice t.2.2.1 (pick2 s f t.1).2.length t.2.2.2])
        (fun t => [.row m3 f.length d3 4 1 (f.map .bool), .row sa s.length sc 61 2 (bkE.fl s), .row t.2.1.1 (pick2 s f t.1).1.length t.2.1.2 61 2 (bkE.fl (pick2 s f t.1).1), .row t.2.2.1 (pick2 s f t.1).2.length t.2.2.2 61 2 (bkE.fl (pick2 s f t.1).2)])
        (fun t => t.1 ≤ s.length) (fun t => s.length - t.1) (0, (none, 0), (none, 0)) [0, 4, 6, 7] rfl rfl rfl rfl (Nat.zero_le _) ?_
      rintro ⟨i, ⟨k1, k2⟩, ⟨g1, g2⟩⟩ hi
      dsimp only at hi ⊢
      have hpl := pick2_len s f i hi
      obtain ⟨A, hA⟩ : ∃ A, A = (pick2 s f i).1 := ⟨_, rfl⟩
      obtain ⟨B, hB⟩ : ∃ B, B = (pick2 s f i).2 := ⟨_, rfl⟩
      rw [← hA, ← hB] at hpl ⊢
      ((try refine sx_use ?_); (repeat (refine SxNew.mk fun _ => ?_; (try refine sx_use ?_))))
      refine SxIf.dec (fun h => ?_) (fun h => ?_)
      · have hlt : i < s.length := by omega
        obtain ⟨b, hb⟩ : ∃ b, s[i]? = some b := ⟨s[i], by simp [hlt]⟩
        obtain ⟨ga, rfl⟩ := hsa (by omega)
        obtain ⟨gm, rfl⟩ := hm3 (by omega)
        ((try refine sx_use ?_); (repeat (refine SxNew.mk fun _ => ?_; (try refine sx_use ?_))))
        refine SxIA.row 0 _ _ _ rfl i rfl (by omega) fun g' hg' => ?_
        obtain rfl : gm = g' := by simpa using hg'
        ((try refine sx_use ?_); (repeat (refine SxNew.mk fun _ => ?_; (try refine sx_use ?_))))
        refine SxLd.row 0 rfl rfl rfl (v := .bool (f.getD i false)) (by rw [Nat.mul_one]; exact map_bool_at (by omega)) ?_
        ((try refine sx_use ?_); (repeat (refine SxNew.mk fun _ => ?_; (try refine sx_use ?_))))
        refine ⟨fun hf1 => ?_, fun hf1 => ?_⟩
        · have hy := pick2_yes hb hf1
          rw [← hA, ← hB] at hy
          ((try refine sx_use ?_); (repeat (refine SxNew.mk fun _ => ?_; (try refine sx_use ?_))))
          refine SxIA.row 1 _ _ _ rfl i rfl hlt fun g' hg' => ?_
          obtain rfl : ga = g' := by simpa using hg'
          ((try refine sx_use ?_); (repeat (refine SxNew.mk fun _ => ?_; (try refine sx_use ?_))))
          refine SxLdN.row 1 rfl rfl rfl (vs := bkC b) rfl (rowBr_at hb) ?_
          ((try refine sx_use ?_); (repeat (refine SxNew.mk fun _ => ?_; (try refine sx_use ?_))))
          refine SxApp.mk 3 rfl 0 (.inr (.inr (.inr ⟨by decide, _, rfl⟩))) (vs := bkC b) (m := 1) rfl rfl (by unfold maxLen; omega) (by omega) (cs' := bkE.fl (A ++ [b])) (by rw [bkE.fl_append, bkE.fl_one]; rfl) fun x3 c3 => ?_
          ((try refine sx_use ?_); (repeat (refine SxNew.mk fun _ => ?_; (try refine sx_use ?_))))
          exact SxRound.mk (i + 1, (x3, c3), (g1, g2)) [1, 2, 3, 4] (by dsimp only; rw [hy, List.length_append]; rfl) (by dsimp only; rw [hy, List.length_append]; rfl) rfl hlt (by dsimp only; omega)
        · have hy := pick2_no hb hf1
          rw [← hA, ← hB] at hy
          ((try refine sx_use ?_); (repeat (refine SxNew.mk fun _ => ?_; (try refine sx_use ?_))))
          refine SxIA.row 1 _ _ _ rfl i rfl hlt fun g' hg' => ?_
          obtain rfl : ga = g' := by simpa using hg'
          ((try refine sx_use ?_); (repeat (refine SxNew.mk fun _ => ?_; (try refine sx_use ?_))))
          refine SxLdN.row 1 rfl rfl rfl (vs := bkC b) rfl (rowBr_at hb) ?_
          ((try refine sx_use ?_); (repeat (refine SxNew.mk fun _ => ?_; (try refine sx_use ?_))))
          refine SxApp.mk 4 rfl 0 (.inr (.inr (.inr ⟨by decide, _, rfl⟩))) (vs := bkC b) (m := 1) rfl rfl (by unfold maxLen; omega) (by omega) (cs' := bkE.fl (B ++ [b])) (by rw [bkE.fl_append, bkE.fl_one]; rfl) fun x3 c3 => ?_
          ((try refine sx_use ?_); (repeat (refine SxNew.mk fun _ => ?_; (try refine sx_use ?_))))
          exact SxRound.mk (i + 1, (k1, k2), (x3, c3)) [1, 2, 3, 4] (by dsimp only; rw [hy, List.length_append]; rfl) (by dsimp only; rw [hy, List.length_append]; rfl) rfl hlt (by dsimp only; omega)
      · obtain rfl : i = s.length := by omega
        ((try refine sx_use ?_); (repeat (refine SxNew.mk fun _ => ?_; (try refine sx_use ?_))))
        rw [← hA, ← hB]
        exact SxDone.mk fun w' hs => ⟨k1, k2, g1, g2, rfl, hs.newRow 2 rfl, hs.newRow 3 rfl⟩
  · obtain rfl : i = s.length := by omega
    rw [show orL (kp p s 0) (st 0 p.la s s.length).2 = kp p s 1 from rfl]
    ((try refine sx_use ?_); (repeat (refine SxNew.mk fun _ => ?_; (try refine sx_use ?_))))
    refine SxCall.newRowB (v := fun a c => .slice a (kp p s 2).length c) (fun w hs => by
      have h := mark_any s (by omega) hsd (kp p s 1) (kp_len p s 1) 0 (by omega) p.da hp2 sa (some ⟨gk, 0, none⟩) sc s.length w (hs.rowRd 1 rfl (by rw [rowBr_len]; unfold maxLen; omega)) (hs.rowRd 0 rfl (by rw [List.length_map, kp_len]; unfold maxLen; omega))
      rw [kp_len, ← (same_flags hst hsd (j := 1) (by omega) hp2.1 s.length (Nat.le_refl _)).1, show orL (kp p s 1) (st 1 p.da s s.length).2 = kp p s 2 from rfl] at h
      exact h) fun m1 d1 hm1 hd1 => ?_
    ((try refine sx_use ?_); (repeat (refine SxNew.mk fun _ => ?_; (try refine sx_use ?_))))
    refine SxCall.newRowB (v := fun a c => .slice a (kp p s 3).length c) (fun w hs => by
      have h := mark_any s (by omega) hsd (kp p s 2) (kp_len p s 2) 1 (by omega) p.we hp3 sa m1 sc d1 w (hs.rowRd 2 rfl (by rw [rowBr_len]; unfold maxLen; omega)) (hs.rowRd 0 rfl (by rw [List.length_map, kp_len]; unfold maxLen; omega))
      rw [← (same_flags hst hsd (j := 2) (by omega) hp3.1 s.length (Nat.le_refl _)).1, show orL (kp p s 2) (st 2 p.we s s.length).2 = kp p s 3 from rfl] at h
      exact h) fun m2 d2 hm2 hd2 => ?_
    ((try refine sx_use ?_); (repeat (refine SxNew.mk fun _ => ?_; (try refine sx_use ?_))))
    refine SxCall.newRowB (v := fun a c => .slice a (kp p s 4).length c) (fun w hs => by
      have h := mark_any s (by omega) hsd (kp p s 3) (kp_len p s 3) 2 (by omega) p.mo hp4 sa m2 sc d2 w (hs.rowRd 3 rfl (by rw [rowBr_len]; unfold maxLen; omega)) (hs.rowRd 0 rfl (by rw [List.length_map, kp_len]; unfold maxLen; omega))
      rw [← (same_flags hst hsd (j := 3) (by omega) hp4.1 s.length (Nat.le_refl _)).1, show orL (kp p s 3) (st 3 p.mo s s.length).2 = kp p s 4 from rfl] at h
      exact h) fun m3 d3 hm3 hd3 => ?_
    obtain ⟨f, hf⟩ : ∃ f, f = kp p s 4 := ⟨_, rfl⟩
    have hfl : f.length = s.length := by rw [hf]; exact kp_len p s 4
    rw [← hf] at hm3 hd3 ⊢
    ((try refine sx_use ?_); (repeat (refine SxNew.mk fun _ => ?_; (try refine sx_use ?_))))
    refine SxCode.loop (σ := Nat × (Option Addr × Nat) × (Option Addr × Nat)) [11, 9, 10] [47, 48, 49, 50, 53, 54, 55, 56, 57, 58, 59, 60, 61, 62, 63, 9, 64, 65, 66, 67, 68, 69, 70, 10, 51, 52, 11] (fun t => [.int .i64 (t.1 : Nat), .slice t.2.1.1 (pick2 s f t.1).1.length t.2.1.2, .slice t.2.2.1 (pick2 s f t.1).2.length t.2.2.2])
      (fun t => [.row m3 f.length d3 4 1 (f.map .bool), .row sa s.length sc 61 2 (bkE.fl s), .row t.2.1.1 (pick2 s f t.1).1.length t.2.1.2 61 2 (bkE.fl (pick2 s f t.1).1), .row t.2.2.1 (pick2 s f t.1).2.length t.2.2.2 61 2 (bkE.fl (pick2 s f t.1).2)])
      (fun t => t.1 ≤ s.length) (fun t => s.length - t.1) (0, (none, 0), (none, 0)) [0, 4, 6, 7] rfl rfl rfl rfl (Nat.zero_le _) ?_
    rintro ⟨i, ⟨k1, k2⟩, ⟨g1, g2⟩⟩ hi
    dsimp only at hi ⊢
    have hpl := pick2_len s f i hi
    obtain ⟨A, hA⟩ : ∃ A, A = (pick2 s f i).1 := ⟨_, rfl⟩
    obtain ⟨B, hB⟩ : ∃ B, B = (pick2 s f i).2 := ⟨_, rfl⟩
    rw [← hA, ← hB] at hpl ⊢
    ((try refine sx_use ?_); (repeat (refine SxNew.mk fun _ => ?_; (try refine sx_use ?_))))
    refine SxIf.dec (fun h => ?_) (fun h => ?_)
    · have hlt : i < s.length := by omega
      obtain ⟨b, hb⟩ : ∃ b, s[i]? = some b := ⟨s[i], by simp [hlt]⟩
      obtain ⟨ga, rfl⟩ := hsa (by omega)
      obtain ⟨gm, rfl⟩ := hm3 (by omega)
      ((try refine sx_use ?_); (repeat (refine SxNew.mk fun _ => ?_; (try refine sx_use ?_))))
      refine SxIA.row 0 _ _ _ rfl i rfl (by omega) fun g' hg' => ?_
      obtain rfl : gm = g' := by simpa using hg'
      ((try refine sx_use ?_); (repeat (refine SxNew.mk fun _ => ?_; (try refine sx_use ?_))))
      refine SxLd.row 0 rfl rfl rfl (v := .bool (f.getD i false)) (by rw [Nat.mul_one]; exact map_bool_at (by omega)) ?_
      ((try refine sx_use ?_); (repeat (refine SxNew.mk fun _ => ?_; (try refine sx_use ?_))))
      refine ⟨fun hf1 => ?_, fun hf1 => ?_⟩
      · have hy := pick2_yes hb hf1
        rw [← hA, ← hB] at hy
        ((try refine sx_use ?_); (repeat (refine SxNew.mk fun _ => ?_; (try refine sx_use ?_))))
        refine SxIA.row 1 _ _ _ rfl i rfl hlt fun g' hg' => ?_
        obtain rfl : ga = g' := by simpa using hg'
        ((try refine sx_use ?_); (repeat (refine SxNew.mk fun _ => ?_; (try refine sx_use ?_))))
        refine SxLdN.row 1 rfl rfl rfl (vs := bkC b) rfl (rowBr_at hb) ?_
        ((try refine sx_use ?_); (repeat (refine SxNew.mk fun _ => ?_; (try refine sx_use ?_))))
        refine SxApp.mk 3 rfl 0 (.inr (.inr (.inr ⟨by decide, _, rfl⟩))) (vs := bkC b) (m := 1) rfl rfl (by unfold maxLen; omega) (by omega) (cs' := bkE.fl (A ++ [b])) (by rw [bkE.fl_append, bkE.fl_one]; rfl) fun x3 c3 => ?_
        ((try refine sx_use ?_); (repeat (refine SxNew.mk fun _ => ?_; (try refine sx_use ?_))))
        exact SxRound.mk (i + 1, (x3, c3), (g1, g2)) [1, 2, 3, 4] (by dsimp only; rw [hy, List.length_append]; rfl) (by dsimp only; rw [hy, List.length_append]; rfl) rfl hlt (by dsimp only; omega)
      · have hy := pick2_no hb hf1
        rw [← hA, ← hB] at hy
        ((try refine sx_use ?_); (repeat (refine SxNew.mk fun _ => ?_; (try refine sx_use ?_))))
        refine SxIA.row 1 _ _ _ rfl i rfl hlt fun g' hg' => ?_
        obtain rfl : ga = g' := by simpa using hg'
        ((try refine sx_use ?_); (repeat (refine SxNew.mk fun _ => ?_; (try refine sx_use ?_))))
        refine SxLdN.row 1 rfl rfl rfl (vs := bkC b) rfl (rowBr_at hb) ?_
        ((try refine sx_use ?_); (repeat (refine SxNew.mk fun _ => ?_; (try refine sx_use ?_))))
        refine SxApp.mk 4 rfl 0 (.inr (.inr (.inr ⟨by decide, _, rfl⟩))) (vs := bkC b) (m := 1) rfl rfl (by unfold maxLen; omega) (by omega) (cs' := bkE.fl (B ++ [b])) (by rw [bkE.fl_append, bkE.fl_one]; rfl) fun x3 c3 => ?_
        ((try refine sx_use ?_); (repeat (refine SxNew.mk fun _ => ?_; (try refine sx_use ?_))))
        exact SxRound.mk (i + 1, (k1, k2), (x3, c3)) [1, 2, 3, 4] (by dsimp only; rw [hy, List.length_append]; rfl) (by dsimp only; rw [hy, List.length_append]; rfl) rfl hlt (by dsimp only; omega)
    · obtain rfl : i = s.length := by omega
      ((try refine sx_use ?_); (repeat (refine SxNew.mk fun _ => ?_; (try refine sx_use ?_))))
      rw [← hA, ← hB]
      exact SxDone.mk fun w' hs => ⟨k1, k2, g1, g2, rfl, hs.newRow 2 rfl, hs.newRow 3 rfl⟩
end Go.Proofs.Ytiobcjahgmkmiaa
