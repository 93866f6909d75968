/- Layer 26: waste. -/
import Derived.Test.YtdififdnnpgjoaaZDuG
namespace Go.Proofs.Ytdififdnnpgjoaa
open Go.RowKit

theorem perm_sum {l m : List Nat} (h : l.Perm m) : l.sum = m.sum := by
  induction h with
  | nil => rfl
  | cons x _ ih => simp only [List.sum_cons, ih]
  | swap x y l => simp only [List.sum_cons]; omega
  | trans _ _ h1 h2 => rw [h1, h2]
def szS (l : List Ck) : Nat := (l.map (·.s.size)).sum
theorem szS_app (a b : List Ck) : szS (a ++ b) = szS a + szS b := by unfold szS; rw [List.map_append, List.sum_append]
theorem szS_one (c : Ck) : szS [c] = c.s.size := by unfold szS; simp
theorem szS_le {l : List Ck} {m : Nat} (h : ∀ c ∈ l, c.s.size ≤ m) : szS l ≤ l.length * m := by
  induction l with
  | nil => exact Nat.zero_le _
  | cons c l ih =>
    have h1 := h c (by simp)
    have h2 := ih fun d hd => h d (List.mem_cons_of_mem _ hd)
    have e : szS (c :: l) = c.s.size + szS l := by unfold szS; simp
    rw [e, List.length_cons, Nat.add_mul]; omega
def wstD (L : List Ck) : Nat := ((movD L).map fun p => (atC L p).s.size).sum
theorem tlC_len {L : List Ck} (hL : ∀ a ∈ L, ∀ b ∈ L, a.pl = b.pl → a = b) {P : List (List Ck)} (h : Cls L P) : (tlC P).length = (movD L).length := by
  have := frP_len hL h
  unfold frP at this
  rw [List.length_map] at this; exact this
theorem tlC_size {L : List Ck} (hL : ∀ a ∈ L, ∀ b ∈ L, a.pl = b.pl → a = b) {P : List (List Ck)} (h : Cls L P) : szS (tlC P) = wstD L := by
  unfold wstD
  rw [← frP_sorted hL h]
  have h1 : ((sorted cfP (frP P)).map fun p => (atC L p).s.size).Perm ((frP P).map fun p => (atC L p).s.size) := (sorted_perm cfP (frP P)).map _
  rw [perm_sum h1]
  unfold frP szS
  rw [List.map_map]
  congr 1
  refine List.map_congr_left fun c hc => ?_
  show c.s.size = (atC L c.pl).s.size
  rw [atC_of hL (tlC_mem hL h hc).1]
set_option maxHeartbeats 8000000 in
theorem Waste_any (l : List Ck) (hl : l.length ≤ 100000) (hsz : ∀ c ∈ l, c.s.size ≤ 1000000) (ao : Option Addr) (ac : Nat) (w : World) (hr : Rd w ao (ckE.fl l)) :
    Calls Try.prog 19 #[.slice ao l.length ac] w fun e w' => e = .returned (.tuple #[.int .i64 ((movD (cnt l)).length : Nat), .int .i64 (wstD (cnt l) : Nat)]) ∧ Below w.heap.size w w' := by
  refine sx_fn (S := SX) (M := []) (N := 33) (H0 := [.rd ao (ckE.fl l)]) Try.func19 rfl rfl rfl (Sat.oneRd _ hr) ?_
  ((try refine sx_use ?_); (repeat (refine SxNew.mk fun _ => ?_; (try refine sx_use ?_))))
  refine SxCall.newReads (E := ckE) (v := fun ao cap ds => .slice ao ds.length cap) (n := fun ds => ds.length) (cs := fun ds => dvE.fl ds) (fun ds hq => by rw [dvE_len]; have := hq.2.1; unfold maxLen; omega) (fun w1 hs => classes_any l hl ao ac w1 (hs.rd 0 rfl)) ?_
  rintro ds co cc ⟨hcls, hdl, hdk⟩
  have hu := cnt_uniq l
  obtain ⟨P, hP⟩ : ∃ P, P = grL ds := ⟨_, rfl⟩
  rw [← hP] at hcls
  have hPl : P.length = ds.length := by rw [hP]; exact List.length_map ..
  have hml := movD_len l
  have htl := tlC_len hu hcls
  have hts := tlC_size hu hcls
  have hmem : ∀ c ∈ tlC P, c.s.size ≤ 1000000 := fun c hc => hsz c ((cnt_ok l).2.1 c (tlC_mem hu hcls hc).1)
  have hpre : ∀ i, ∃ t, tlC P = tlC (P.take i) ++ t := fun i => ⟨tlC (P.drop i), by
    conv => lhs; rw [← List.take_append_drop i P]
    unfold tlC; rw [List.flatMap_append]⟩
  dsimp only
  ((try refine sx_use ?_); (repeat (refine SxNew.mk fun _ => ?_; (try refine sx_use ?_))))
  refine SxCode.loop (σ := Nat) [11, 2, 3] [12, 13, 14, 5, 15, 16, 17, 18, 19, 20, 21, 7, 22, 23, 2, 24, 25, 26, 27, 28, 3, 29, 30, 11] (fun i => [.int .i64 (i : Nat), .int .i64 ((tlC (P.take i)).length : Nat), .int .i64 (szS (tlC (P.take i)) : Nat)]) (fun _ => [.rd co (dvE.fl ds), readsG ckE ds, .rd ao (ckE.fl l)]) (fun i => i ≤ ds.length) (fun i => ds.length - i) 0 [0, 1, 2] rfl rfl rfl rfl (Nat.zero_le _) ?_
  rintro i hi
  by_cases hlt : i < ds.length
  · obtain ⟨d, hd⟩ : ∃ d, ds[i]? = some d := ⟨ds[i], by simp [hlt]⟩
    have hdm := List.mem_of_getElem? hd
    obtain ⟨hdl2, hdc⟩ := hdk d hdm
    have hg : P[i]? = some d.l := by rw [hP]; exact grL_at hd
    obtain ⟨y, hy, hyp, r, hyr⟩ := hdp_mem (hcls.ne d.l (List.mem_of_getElem? hg))
    have hdl : d.l.length = r.length + 1 := by rw [hyr]; rfl
    have hsn : tlC (P.take (i + 1)) = tlC (P.take i) ++ r := by rw [take_snocE hg, tlC_snoc, hyr]; rfl
    have hdr : d.l.drop 1 = r := by rw [hyr]; rfl
    obtain ⟨t, ht⟩ := hpre (i + 1)
    rw [hsn] at ht
    have hle : (tlC (P.take i)).length + r.length ≤ l.length := by
      have := congrArg List.length ht
      rw [List.length_append, List.length_append] at this; omega
    have hszi : szS (tlC (P.take i)) + szS r ≤ 100000 * 1000000 := by
      have h1 := szS_le hmem
      rw [ht, szS_app, szS_app, ← ht] at h1
      have h2 : (tlC P).length * 1000000 ≤ 100000 * 1000000 := Nat.mul_le_mul_right _ (by omega)
      omega
    refine sx_weaken (Weak.pickRd 1 rfl hdm) ?_
    ((try refine sx_use ?_); (repeat (refine SxNew.mk fun _ => ?_; (try refine sx_use ?_))))
    refine SxIA.rd 1 _ rfl i rfl hlt (by rw [dvE_len]; omega) fun g0 off ha => ?_
    ((try refine sx_use ?_); (repeat (refine SxNew.mk fun _ => ?_; (try refine sx_use ?_))))
    refine SxLd.rd 1 rfl ha rfl (j := i * 1) (v := .slice d.ao d.l.length d.cap) (dvE_at hd) ?_
    ((try refine sx_use ?_); (repeat (refine SxNew.mk fun _ => ?_; (try refine sx_use ?_))))
    refine SxBnd.mk 1 d.l.length rfl rfl (by omega) hdc fun p1 q1 q2 => ?_
    ((try refine sx_use ?_); (repeat (refine SxNew.mk fun _ => ?_; (try refine sx_use ?_))))
    refine SxCode.weaken (Weak.subRd 0 rfl (1 * 35) (d.l.length * 35) (ao' := p1) (cs' := ckE.fl r) (fun hz => by rw [ckE_len] at hz; exact q1 (by omega)) (by
      have h9 := ckE.fl_drop d.l 1
      rw [show (ckE.fl d.l).drop (1 * 35) = _ from h9, hdr, List.take_of_length_le (by rw [ckE_len]; omega)])) ?_
    refine SxCode.loop (σ := Nat) [18, 2, 3] [19, 20, 21, 7, 22, 23, 2, 24, 25, 26, 27, 28, 3, 29, 18] (fun j => [.int .i64 (j : Nat), .int .i64 (((tlC (P.take i)).length + j : Nat) : Int), .int .i64 ((szS (tlC (P.take i)) + szS (r.take j) : Nat) : Int)]) (fun _ => [.rd p1 (ckE.fl r), .rd co (dvE.fl ds), readsG ckE ds, .rd ao (ckE.fl l)]) (fun j => j ≤ r.length) (fun j => r.length - j) 0 [0, 2, 3, 4] rfl rfl rfl rfl (Nat.zero_le _) ?_
    rintro j hj
    by_cases hjl : j < r.length
    · obtain ⟨c, hc⟩ : ∃ c, r[j]? = some c := ⟨r[j], by simp [hjl]⟩
      have hs1 : szS (r.take (j + 1)) = szS (r.take j) + c.s.size := by rw [take_snocE hc, szS_app, szS_one]
      have hs2 : szS (r.take (j + 1)) ≤ szS r := by
        conv => rhs; rw [← List.take_append_drop (j + 1) r]
        rw [szS_app]; omega
      ((try refine sx_use ?_); (repeat (refine SxNew.mk fun _ => ?_; (try refine sx_use ?_))))
      refine SxIA.rd 0 _ rfl j rfl (by omega) (by rw [ckE_len]; omega) fun g0 off ha => ?_
      ((try refine sx_use ?_); (repeat (refine SxNew.mk fun _ => ?_; (try refine sx_use ?_))))
      refine SxLdN.rd 0 rfl ha rfl (vs := ckC c) (ckC_len c) (ckE_at hc) ?_
      ((try refine sx_use ?_); (repeat (refine SxNew.mk fun _ => ?_; (try refine sx_use ?_))))
      refine SxSt.elem ckE (x := c) 0 rfl rfl ?_
      ((try refine sx_use ?_); (repeat (refine SxNew.mk fun _ => ?_; (try refine sx_use ?_))))
      refine SxLd.blk 0 rfl (ckC_s c) ?_
      ((try refine sx_use ?_); (repeat (refine SxNew.mk fun _ => ?_; (try refine sx_use ?_))))
      exact SxRound.mk (j + 1) [1, 2, 3, 4] (by rw [show szS (tlC (P.take i)) + szS (r.take (j + 1)) = szS (tlC (P.take i)) + szS (r.take j) + c.s.size by omega]; rfl) rfl rfl hjl (by first | omega | (dsimp only; omega))
    · obtain rfl : j = r.length := by omega
      rw [List.take_length]
      ((try refine sx_use ?_); (repeat (refine SxNew.mk fun _ => ?_; (try refine sx_use ?_))))
      exact SxRound.mk (i + 1) [1, 2, 3] (by rw [hsn, szS_app, List.length_append]; rfl) rfl rfl hlt (by first | omega | (dsimp only; omega))
  · obtain rfl : i = ds.length := by omega
    rw [List.take_of_length_le (by omega), htl, hts]
    ((try refine sx_use ?_); (repeat (refine SxNew.mk fun _ => ?_; (try refine sx_use ?_))))
    exact SxDone.mk fun w' hs => ⟨rfl, hs.touch.below⟩
theorem Unique_any (l : List Ck) (hl : l.length ≤ 100000) (hsz : ∀ c ∈ l, c.s.size ≤ 1000000) (ao : Option Addr) (ac : Nat) (w : World) (hr : Rd w ao (ckE.fl l)) :
    Calls Try.prog 22 #[.slice ao l.length ac] w fun e w' => e = .returned (.bool (decide ((movD (cnt l)).length = 0))) ∧ Below w.heap.size w w' := by
  refine sx_fn (S := SX) (M := []) (N := 12) (H0 := [.rd ao (ckE.fl l)]) Try.func22 rfl rfl rfl (Sat.oneRd _ hr) ?_
  ((try refine sx_use ?_); (repeat (refine SxNew.mk fun _ => ?_; (try refine sx_use ?_))))
  refine SxCall.quietS (fun w1 hs => Waste_any l hl hsz ao ac w1 (hs.rd 0 rfl)) ?_
  ((try refine sx_use ?_); (repeat (refine SxNew.mk fun _ => ?_; (try refine sx_use ?_))))
  refine SxDone.mk fun w' hs => ⟨?_, hs.touch.below⟩
  show Ending.returned (.bool (((movD (cnt l)).length : Int) == 0)) = _
  congr 2
  rw [Bool.eq_iff_iff, beq_iff_eq, decide_eq_true_iff]; omega
end Go.Proofs.Ytdififdnnpgjoaa
