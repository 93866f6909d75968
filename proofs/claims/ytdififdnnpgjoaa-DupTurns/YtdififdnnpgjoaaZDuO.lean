/- Layer 26: DupOnce. -/
import Derived.Test.YtdififdnnpgjoaaZDuN
namespace Go.Proofs.Ytdififdnnpgjoaa
open Go.RowKit

theorem once_twins {L : List Ck} (hL : ∀ a ∈ L, ∀ b ∈ L, a.pl = b.pl → a = b) {c d : Ck} (hc : c ∈ L) (hd : d ∈ L) (hcm : c.pl ∉ movD L) (hdm : d.pl ∉ movD L) (hk : tkey c = tkey d) : c = d := by
  have can : ∀ {e : Ck}, e ∈ L → e.pl ∉ movD L → canonC L e = e.pl := fun {e} he hem => by
    unfold movD at hem
    rw [List.mem_filter, plsS_mem2] at hem
    rcases Classical.em (canonC L (atC L e.pl) = e.pl) with h | h
    · rw [atC_of hL he] at h; exact h
    · exact absurd ⟨⟨e, he, rfl⟩, by rw [decide_eq_false h]; rfl⟩ hem
  have h1 := can hc hcm
  have h2 := can hd hdm
  obtain ⟨_, _, g1⟩ := canon_ok c L
  obtain ⟨_, _, g2⟩ := canon_ok d L
  have a1 := g1 d hd hk.symm
  have a2 := g2 c hc hk
  rw [h1] at a1
  rw [h2] at a2
  exact hL c hc d hd (ltP_ord.tri _ _ a2 a1)
theorem movD_none {L : List Ck} (hL : ∀ a ∈ L, ∀ b ∈ L, a.pl = b.pl → a = b) (h : ∀ a ∈ L, ∀ b ∈ L, tkey a = tkey b → a = b) : movD L = [] := by
  cases hm : movD L with
  | nil => rfl
  | cons p r =>
    exfalso
    have hp : p ∈ movD L := by rw [hm]; simp
    obtain ⟨c, hc, hcp, x, hx, hxp, hxk, hnot⟩ := mov_ends hL hp
    have := h x hx c hc hxk
    rw [this, hcp] at hxp
    exact hnot (hxp ▸ hp)
def lfB (A : List Pl) (c : Ck) : Bool := !decide (c.pl ∈ A)
theorem filter_nodup {α : Type} {f : α → Bool} {l : List α} (h : l.Nodup) : (l.filter f).Nodup := h.filter f
set_option maxHeartbeats 16000000 in
set_option maxRecDepth 20000 in
theorem DupOnce_law (w : World) (v1 : Value) (hv1 : FitK Try.prog w 4 (.slice 34) v1) :
    Calls Try.prog 6 #[v1] w fun e w' => e = .returned (.bool true) ∧ Below w.heap.size w w' := by
  obtain ⟨ao, n, ac, rfl, hn, l0, hl0, hr⟩ := open_cks hv1
  clear hv1
  refine sx_fn (S := SX) (M := []) (H0 := [.row none 0 0 33 35 [], .rd ao (ckE.fl l0)]) (N := 115) Try.func6 rfl rfl rfl ((Sat.oneRd _ hr).nilRow 33 35) ?_
  ((try refine sx_use ?_); (repeat (refine SxNew.mk fun _ => ?_; (try refine sx_use ?_))))
  refine SxCall.at (fun w1 hs => ours_any l0 n hl0 ao ac w1 (hs.rd 1 rfl)) fun w1 e w' hs ⟨a1, c1, a2, c2, h1, h2, h3⟩ => ⟨_, _, h1, Sat.twoNew hs h2 h3 (by rw [ckE_len]; have := oursL_len l0; unfold maxLen; omega) (by rw [ckE_len]; have := oursL_len l0; unfold maxLen; omega), ?_⟩
  have hl := oursL_len l0
  have hsz := oursL_size l0
  obtain ⟨l, hll⟩ : ∃ l, l = oursL l0 := ⟨_, rfl⟩
  rw [← hll] at hl hsz ⊢
  have hcl := cnt_len l
  have hu := cnt_uniq l
  have hnd := cnt_nodup l
  have hml := movD_len l
  have hLsz : ∀ c ∈ cnt l, c.s.size ≤ 1000000 := fun c hc => hsz c ((cnt_ok l).2.1 c hc)
  ((try refine sx_use ?_); (repeat (refine SxNew.mk fun _ => ?_; (try refine sx_use ?_))))
  refine SxCall.newRd (by rw [mf_len]; unfold maxLen; omega) (fun w1 hs => Moves_any l (by omega) a1 c1 w1 (hs.rd 0 rfl)) fun mo mc => ?_
  ((try refine sx_use ?_); (repeat (refine SxNew.mk fun _ => ?_; (try refine sx_use ?_))))
  refine SxCall.newRd (by rw [ckE_len]; unfold maxLen; omega) (fun w1 hs => RCount_any26 l (by omega) a2 c2 w1 (hs.rd 2 rfl)) fun lo lc => ?_
  have honce := fun c d => once_twins (L := cnt l) hu (c := c) (d := d)
  obtain ⟨A, hA⟩ : ∃ A, A = movD (cnt l) := ⟨_, rfl⟩
  obtain ⟨F, hF⟩ : ∃ F, F = movF (cnt l) := ⟨_, rfl⟩
  obtain ⟨L, hL⟩ : ∃ L, L = cnt l := ⟨_, rfl⟩
  have hmA : A.length ≤ l.length := by rw [hA]; exact hml
  rw [← hA] at honce
  rw [← hA, ← hF]
  rw [← hL] at hcl hu honce hnd hLsz ⊢
  obtain ⟨B, hB⟩ : ∃ B : Nat → List Ck, B = fun i => (L.take i).filter (lfB A) := ⟨_, rfl⟩
  have hBl : ∀ i, i ≤ L.length → (B i).length ≤ i := fun i hi => by
    rw [hB]
    refine Nat.le_trans (List.length_filter_le _ _) ?_
    rw [List.length_take]; omega
  have hB0 : B 0 = [] := by rw [hB]; rfl
  ((try refine sx_use ?_); (repeat (refine SxNew.mk fun _ => ?_; (try refine sx_use ?_))))
  refine SxCode.loop (σ := Nat × Option Addr × Nat) [8, 7, 2] [22, 23, 24, 25, 9, 10, 28, 29, 30, 31, 34, 35, 36, 37, 38, 39, 40, 41, 42, 43, 44, 45, 46, 47, 32, 33, 48, 49, 50, 51, 52, 53, 54, 55, 56, 57, 58, 59, 60, 61, 62, 63, 64, 65, 66, 67, 68, 7, 26, 27, 8] (fun x => [.int .i64 (x.1 : Nat), .slice x.2.1 (B x.1).length x.2.2, .bool false]) (fun x => [.row x.2.1 (B x.1).length x.2.2 33 35 (ckE.fl (B x.1)), .rd lo (ckE.fl L), .rd mo ((mfEn F).fl A)]) (fun x => x.1 ≤ L.length) (fun x => L.length - x.1) (0, none, 0) [4, 0, 1] rfl (by dsimp only; rw [hB0]; rfl) (by dsimp only; rw [hB0]; rfl) rfl (Nat.zero_le _) ?_
  rintro ⟨i, ro, rc⟩ hi
  dsimp only at hi ⊢
  have hbi := hBl i hi
  by_cases hlt : i < L.length
  · obtain ⟨c, hc⟩ : ∃ c, L[i]? = some c := ⟨L[i], by simp [hlt]⟩
    have hsn : B (i + 1) = B i ++ (if lfB A c then [c] else []) := by rw [hB]; exact filter_snoc hc
    ((try refine sx_use ?_); (repeat (refine SxNew.mk fun _ => ?_; (try refine sx_use ?_))))
    refine SxCode.loop (σ := Nat × Bool) [10, 9, 2] [28, 29, 30, 31, 34, 35, 36, 37, 38, 39, 40, 41, 42, 43, 44, 45, 46, 47, 9, 32, 33, 10] (fun x => [.int .i64 (x.1 : Nat), .bool x.2, .bool false]) (fun _ => [.row ro (B i).length rc 33 35 (ckE.fl (B i)), .rd lo (ckE.fl L), .rd mo ((mfEn F).fl A)]) (fun x => x.1 ≤ A.length ∧ (x.2 = true ↔ c.pl ∈ A.take x.1)) (fun x => A.length - x.1) (0, false) [0, 1, 2] rfl rfl rfl rfl ⟨Nat.zero_le _, by simp⟩ ?_
    rintro ⟨k, b⟩ ⟨hk, hb⟩
    dsimp only at hk hb ⊢
    by_cases hkl : k < A.length
    · obtain ⟨q, hq⟩ : ∃ q, A[k]? = some q := ⟨A[k], by simp [hkl]⟩
      have hst : ∀ b' : Bool, (b' = true ↔ b = true ∨ q = c.pl) → (b' = true ↔ c.pl ∈ A.take (k + 1)) := fun b' h => by
        rw [h, take_snocE hq, List.mem_append, hb, List.mem_singleton]
        constructor
        · rintro (h | h)
          · exact .inl h
          · exact .inr h.symm
        · rintro (h | h)
          · exact .inl h
          · exact .inr h.symm
      cases hbv : b with
      | true =>
        rw [hbv] at hst
        ((try refine sx_use ?_); (repeat (refine SxNew.mk fun _ => ?_; (try refine sx_use ?_))))
        (try refine SxCode.drawAll rfl [] ?_)
        (try ((try refine sx_use ?_); (repeat (refine SxNew.mk fun _ => ?_; (try refine sx_use ?_)))))
        exact SxRound.mk (k + 1, true) [0, 1, 2] rfl rfl rfl ⟨hkl, hst _ (by simp)⟩ (by first | omega | (dsimp only; omega))
      | false =>
        rw [hbv] at hst
        ((try refine sx_use ?_); (repeat (refine SxNew.mk fun _ => ?_; (try refine sx_use ?_))))
        refine SxCode.drawAll rfl [] ?_
        ((try refine sx_use ?_); (repeat (refine SxNew.mk fun _ => ?_; (try refine sx_use ?_))))
        refine SxIA.rd 2 _ rfl k rfl hkl (by rw [mf_len]; omega) fun g off ha => ?_
        ((try refine sx_use ?_); (repeat (refine SxNew.mk fun _ => ?_; (try refine sx_use ?_))))
        refine SxLdN.rd 2 rfl ha (by omega) (j := k * 4) (vs := plC q) rfl (mf_fr hq) ?_
        ((try refine sx_use ?_); (repeat (refine SxNew.mk fun _ => ?_; (try refine sx_use ?_))))
        refine SxIA.rd 1 _ rfl i rfl hlt (by rw [ckE_len]; omega) fun g off ha => ?_
        ((try refine sx_use ?_); (repeat (refine SxNew.mk fun _ => ?_; (try refine sx_use ?_))))
        refine SxLdN.rd 1 rfl ha rfl (vs := plC c.pl) rfl (ckE_pl hc) ?_
        ((try refine sx_use ?_); (repeat (refine SxNew.mk fun _ => ?_; (try refine sx_use ?_))))
        refine SxRun.eqPl ?_
        ((try refine sx_use ?_); (repeat (refine SxNew.mk fun _ => ?_; (try refine sx_use ?_))))
        exact SxRound.mk (k + 1, decide (q = c.pl)) [0, 1, 2] rfl rfl rfl ⟨hkl, hst _ (by simp)⟩ (by first | omega | (dsimp only; omega))
    · obtain rfl : k = A.length := by omega
      rw [List.take_length] at hb
      cases hbv : b with
      | true =>
        have hlf : lfB A c = false := by unfold lfB; rw [decide_eq_true (hb.1 hbv)]; rfl
        rw [hlf] at hsn
        simp only [Bool.false_eq_true, if_false, List.append_nil] at hsn
        ((try refine sx_use ?_); (repeat (refine SxNew.mk fun _ => ?_; (try refine sx_use ?_))))
        exact SxRound.mk (i + 1, ro, rc) [0, 1, 2] (by dsimp only; rw [hsn]; rfl) (by dsimp only; rw [hsn]; rfl) rfl hlt (by first | omega | (dsimp only; omega))
      | false =>
        have hlf : lfB A c = true := by unfold lfB; rw [decide_eq_false (fun h => by rw [hb.2 h] at hbv; cases hbv)]; rfl
        rw [hlf, if_pos rfl] at hsn
        have hl1 : (B (i + 1)).length = (B i).length + 1 := by rw [hsn, List.length_append]; rfl
        ((try refine sx_use ?_); (repeat (refine SxNew.mk fun _ => ?_; (try refine sx_use ?_))))
        refine SxCode.draw rfl [.rd lo (ckE.fl L)] [] [1] rfl rfl ?_
        ((try refine sx_use ?_); (repeat (refine SxNew.mk fun _ => ?_; (try refine sx_use ?_))))
        refine SxIA.rd 0 _ rfl i rfl hlt (by rw [ckE_len]; omega) fun g off ha => ?_
        ((try refine sx_use ?_); (repeat (refine SxNew.mk fun _ => ?_; (try refine sx_use ?_))))
        refine SxLdN.rd 0 rfl ha rfl (vs := plC c.pl) rfl (ckE_pl hc) ?_
        ((try refine sx_use ?_); (repeat (refine SxNew.mk fun _ => ?_; (try refine sx_use ?_))))
        refine SxIA.rd 0 _ rfl i rfl hlt (by rw [ckE_len]; omega) fun g off ha => ?_
        ((try refine sx_use ?_); (repeat (refine SxNew.mk fun _ => ?_; (try refine sx_use ?_))))
        refine SxLdN.rd 0 rfl ha (by omega) (j := i * 35 + 2) (vs := fqC c.fq) (fqC_len _) (ckE_fq hc) ?_
        ((try refine sx_use ?_); (repeat (refine SxNew.mk fun _ => ?_; (try refine sx_use ?_))))
        refine SxIA.rd 0 _ rfl i rfl hlt (by rw [ckE_len]; omega) fun g off ha => ?_
        ((try refine sx_use ?_); (repeat (refine SxNew.mk fun _ => ?_; (try refine sx_use ?_))))
        refine SxLd.rd 0 rfl ha (by omega) (j := i * 35 + 34) (ckE_s hc) ?_
        ((try refine sx_use ?_); (repeat (refine SxNew.mk fun _ => ?_; (try refine sx_use ?_))))
        refine SxFill.first (n := 2) rfl rfl rfl ?_
        refine SxFill.tail (fun i => match i with | 1 => some (0, 32) | 2 => some (32, 1) | _ => none) rfl (by
          intro y hy
          simp only [List.mem_cons, List.not_mem_nil, or_false] at hy
          rcases hy with rfl | rfl <;> exact ⟨_, _, rfl, rfl⟩) ?_
        refine SxFill.firstI (n := 32) rfl (fqC_len _) rfl ?_
        refine SxFill.tail (fun i => match i with | 2 => some (0, 1) | _ => none) (fqC_len _) (by
          intro y hy
          simp only [List.mem_cons, List.not_mem_nil, or_false] at hy
          rcases hy with rfl; exact ⟨_, _, rfl, rfl⟩) ?_
        refine SxFill.ok rfl rfl ?_
        ((try refine sx_use ?_); (repeat (refine SxNew.mk fun _ => ?_; (try refine sx_use ?_))))
        refine SxFill.one rfl (ckC_len c) ?_
        ((try refine sx_use ?_); (repeat (refine SxNew.mk fun _ => ?_; (try refine sx_use ?_))))
        (try refine SxStable.mk [2] rfl rfl ?_)
        (try ((try refine sx_use ?_); (repeat (refine SxNew.mk fun _ => ?_; (try refine sx_use ?_)))))
        refine SxApp.mk 1 rfl 0 (.inr (.inr (.inr ⟨by decide, _, rfl⟩))) (vs := ckC c) (m := 1) (by rw [ckC_len]) (ckC_one c) (by unfold maxLen; omega) (by omega) (cs' := ckE.fl (B (i + 1))) (by rw [hsn, ckE.fl_append, ckE.fl_one]; rfl) fun ao' cap' => ?_
        ((try refine sx_use ?_); (repeat (refine SxNew.mk fun _ => ?_; (try refine sx_use ?_))))
        (try refine SxStable.mk [2] rfl rfl ?_)
        (try ((try refine sx_use ?_); (repeat (refine SxNew.mk fun _ => ?_; (try refine sx_use ?_)))))
        exact SxRound.mk (i + 1, ao', cap') [1, 2, 3] (by dsimp only; rw [hl1]; rfl) (by dsimp only; rw [hl1]; rfl) rfl hlt (by first | omega | (dsimp only; omega))
  · obtain rfl : i = L.length := by omega
    obtain ⟨M, hM⟩ : ∃ M, M = B L.length := ⟨_, rfl⟩
    have hMe : M = L.filter (lfB A) := by rw [hM, hB]; dsimp only; rw [List.take_length]
    have hMl : M.length ≤ l.length := by rw [hM]; omega
    have hMn : M.Nodup := by rw [hMe]; exact filter_nodup hnd
    have hMm : ∀ c ∈ M, c ∈ L ∧ c.pl ∉ A := fun c hc => by
      rw [hMe, List.mem_filter] at hc
      refine ⟨hc.1, fun h => ?_⟩
      have := hc.2
      unfold lfB at this
      rw [decide_eq_true h] at this
      cases this
    have hMt : ∀ a ∈ M, ∀ b ∈ M, tkey a = tkey b → a = b := fun a ha b hb h => honce a b (hMm a ha).1 (hMm b hb).1 (hMm a ha).2 (hMm b hb).2 h
    have hMsz : ∀ c ∈ M, c.s.size ≤ 1000000 := fun c hc => hLsz c (hMm c hc).1
    have hMov : movD (cnt M) = [] := movD_none (cnt_uniq M) fun a ha b hb h => hMt a ((cnt_ok M).2.1 a ha) b ((cnt_ok M).2.1 b hb) h
    rw [← hM]
    ((try refine sx_use ?_); (repeat (refine SxNew.mk fun _ => ?_; (try refine sx_use ?_))))
    refine SxCode.weaken (Weak.read (p := 0) rfl (by rw [ckE_len]; unfold maxLen; omega)) ?_
    refine SxCode.loop (σ := Nat) [11, 2] [69, 70, 71, 72, 12, 75, 76, 77, 80, 81, 82, 83, 84, 85, 86, 87, 88, 89, 90, 91, 92, 93, 94, 95, 96, 97, 98, 99, 100, 101, 102, 103, 2, 78, 79, 73, 74, 11] (fun k => [.int .i64 (k : Nat), .bool false]) (fun _ => [.rd ro (ckE.fl M)]) (fun k => k ≤ M.length) (fun k => M.length - k) 0 [0] rfl rfl rfl rfl (Nat.zero_le _) ?_
    rintro i hi
    by_cases hil : i < M.length
    · obtain ⟨c, hc⟩ : ∃ c, M[i]? = some c := ⟨M[i], by simp [hil]⟩
      ((try refine sx_use ?_); (repeat (refine SxNew.mk fun _ => ?_; (try refine sx_use ?_))))
      refine SxCode.loop (σ := Nat) [12, 2] [75, 76, 77, 80, 81, 82, 83, 84, 85, 86, 87, 88, 89, 90, 91, 92, 93, 94, 95, 96, 97, 98, 99, 100, 101, 102, 103, 2, 78, 79, 12] (fun k => [.int .i64 (k : Nat), .bool false]) (fun _ => [.rd ro (ckE.fl M)]) (fun k => k ≤ i) (fun k => i - k) 0 [0] rfl rfl rfl rfl (Nat.zero_le _) ?_
      rintro k hk
      by_cases hki : k < i
      · obtain ⟨d, hd⟩ : ∃ d, M[k]? = some d := ⟨M[k]'(by omega), by simp [show k < M.length by omega]⟩
        have hnt : ¬ (c.fq = d.fq ∧ c.s = d.s) := fun h => by
          have h1 := hMt c (List.mem_of_getElem? hc) d (List.mem_of_getElem? hd) ((tkey_iff c d).2 h)
          subst h1
          obtain ⟨x1, x2⟩ := List.getElem?_eq_some_iff.1 hc
          obtain ⟨y1, y2⟩ := List.getElem?_eq_some_iff.1 hd
          have := nodup_idx hMn x2 y2
          omega
        ((try refine sx_use ?_); (repeat (refine SxNew.mk fun _ => ?_; (try refine sx_use ?_))))
        refine SxCode.drawAll rfl [] ?_
        ((try refine sx_use ?_); (repeat (refine SxNew.mk fun _ => ?_; (try refine sx_use ?_))))
        refine SxIA.rd 0 _ rfl i rfl hil (by rw [ckE_len]; omega) fun g off ha => ?_
        ((try refine sx_use ?_); (repeat (refine SxNew.mk fun _ => ?_; (try refine sx_use ?_))))
        refine SxLdN.rd 0 rfl ha (by omega) (j := i * 35 + 2) (vs := fqC c.fq) (fqC_len _) (ckE_fq hc) ?_
        ((try refine sx_use ?_); (repeat (refine SxNew.mk fun _ => ?_; (try refine sx_use ?_))))
        refine SxIA.rd 0 _ rfl k rfl (by omega) (by rw [ckE_len]; omega) fun g off ha => ?_
        ((try refine sx_use ?_); (repeat (refine SxNew.mk fun _ => ?_; (try refine sx_use ?_))))
        refine SxLdN.rd 0 rfl ha (by omega) (j := k * 35 + 2) (vs := fqC d.fq) (fqC_len _) (ckE_fq hd) ?_
        ((try refine sx_use ?_); (repeat (refine SxNew.mk fun _ => ?_; (try refine sx_use ?_))))
        refine SxRun.eqFq ?_
        ((try refine sx_use ?_); (repeat (refine SxNew.mk fun _ => ?_; (try refine sx_use ?_))))
        refine SxIf.dec (fun h1 => ?_) (fun h1 => ?_)
        · ((try refine sx_use ?_); (repeat (refine SxNew.mk fun _ => ?_; (try refine sx_use ?_))))
          refine SxIA.rd 0 _ rfl i rfl hil (by rw [ckE_len]; omega) fun g off ha => ?_
          ((try refine sx_use ?_); (repeat (refine SxNew.mk fun _ => ?_; (try refine sx_use ?_))))
          refine SxLd.rd 0 rfl ha (by omega) (j := i * 35 + 34) (ckE_s hc) ?_
          ((try refine sx_use ?_); (repeat (refine SxNew.mk fun _ => ?_; (try refine sx_use ?_))))
          refine SxIA.rd 0 _ rfl k rfl (by omega) (by rw [ckE_len]; omega) fun g off ha => ?_
          ((try refine sx_use ?_); (repeat (refine SxNew.mk fun _ => ?_; (try refine sx_use ?_))))
          refine SxLd.rd 0 rfl ha (by omega) (j := k * 35 + 34) (ckE_s hd) ?_
          ((try refine sx_use ?_); (repeat (refine SxNew.mk fun _ => ?_; (try refine sx_use ?_))))
          refine SxIf.str (fun h2 => absurd ⟨h1, h2⟩ hnt) (fun h2 => ?_)
          ((try refine sx_use ?_); (repeat (refine SxNew.mk fun _ => ?_; (try refine sx_use ?_))))
          exact SxRound.mk (k + 1) [0] rfl rfl rfl hki (by first | omega | (dsimp only; omega))
        · ((try refine sx_use ?_); (repeat (refine SxNew.mk fun _ => ?_; (try refine sx_use ?_))))
          exact SxRound.mk (k + 1) [0] rfl rfl rfl hki (by first | omega | (dsimp only; omega))
      · obtain rfl : k = i := by omega
        ((try refine sx_use ?_); (repeat (refine SxNew.mk fun _ => ?_; (try refine sx_use ?_))))
        exact SxRound.mk (k + 1) [0] rfl rfl rfl hil (by first | omega | (dsimp only; omega))
    · obtain rfl : i = M.length := by omega
      ((try refine sx_use ?_); (repeat (refine SxNew.mk fun _ => ?_; (try refine sx_use ?_))))
      refine SxCall.newRd (n := 0) (e := 54) (k := 4) (cs := []) (v := fun a c => .slice a 0 c) (by decide) (fun w1 hs => by
        have h := Moves_any M (by omega) ro rc w1 (hs.rd 0 rfl)
        rw [hMov] at h
        exact h) fun no nc => ?_
      ((try refine sx_use ?_); (repeat (refine SxNew.mk fun _ => ?_; (try refine sx_use ?_))))
      refine SxCall.quietS (v := .bool true) (fun w1 hs => by
        have h := Unique_any M (by omega) hMsz ro rc w1 (hs.rd 1 rfl)
        rw [hMov] at h
        exact h) ?_
      ((try refine sx_use ?_); (repeat (refine SxNew.mk fun _ => ?_; (try refine sx_use ?_))))
      refine SxCall.quiet du_awake ?_
      ((try refine sx_use ?_); (repeat (refine SxNew.mk fun _ => ?_; (try refine sx_use ?_))))
      exact SxDone.mk fun w' hs => ⟨rfl, hs.touch.below⟩
end Go.Proofs.Ytdififdnnpgjoaa
