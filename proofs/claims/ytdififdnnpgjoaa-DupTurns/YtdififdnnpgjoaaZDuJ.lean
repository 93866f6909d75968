/- Layer 26: the document's waste and classes. -/
import Derived.Test.YtdififdnnpgjoaaZDuI
namespace Go.Proofs.Ytdififdnnpgjoaa
open Go.RowKit

theorem atC_size {L : List Ck} {m : Nat} (h : ∀ c ∈ L, c.s.size ≤ m) (p : Pl) : (atC L p).s.size ≤ m := by
  unfold atC
  cases hf : L.find? (fun c => decide (c.pl = p)) with
  | none => exact Nat.zero_le _
  | some c => exact h c (List.mem_of_find?_eq_some hf)
set_option maxHeartbeats 8000000 in
theorem RWaste_any (l : List Ck) (hl : l.length ≤ 100000) (hsz : ∀ c ∈ l, c.s.size ≤ 1000000) (ao : Option Addr) (ac : Nat) (w : World) (hr : Rd w ao (ckE.fl l)) :
    Calls Try.prog 20 #[.slice ao l.length ac] w fun e w' => e = .returned (.tuple #[.int .i64 ((movD (cnt l)).length : Nat), .int .i64 (wstD (cnt l) : Nat)]) ∧ Below w.heap.size w w' := by
  obtain ⟨L, hL⟩ : ∃ L, L = cnt l := ⟨_, rfl⟩
  have hLl : L.length ≤ l.length := by rw [hL]; exact cnt_len l
  have hml := movD_len l
  have hLs : ∀ c ∈ L, c.s.size ≤ 1000000 := fun c hc => hsz c ((cnt_ok l).2.1 c (hL ▸ hc))
  refine sx_fn (S := SX) (M := []) (N := 33) (H0 := [.rd ao (ckE.fl l)]) Try.func20 rfl rfl rfl (Sat.oneRd _ hr) ?_
  ((try refine sx_use ?_); (repeat (refine SxNew.mk fun _ => ?_; (try refine sx_use ?_))))
  refine SxCall.at (fun w1 hs => RMoves_any l hl ao ac w1 (hs.rd 0 rfl)) fun w1 e w' hs ⟨a1, c1, a2, c2, h1, h2, h3⟩ => ⟨_, _, h1, Sat.twoNew hs h2 h3 (by rw [rowPl_len]; unfold maxLen; omega) (by rw [rowPl_len, List.length_map]; unfold maxLen; omega), ?_⟩
  rw [← hL] at hml ⊢
  obtain ⟨A, hA⟩ : ∃ A, A = movD L := ⟨_, rfl⟩
  have hw : wstD L = (A.map fun p => (atC L p).s.size).sum := by rw [hA]; rfl
  rw [hw]
  rw [← hA] at hml ⊢
  obtain ⟨sm, hsm⟩ : ∃ sm : Nat → Nat, sm = fun i => ((A.take i).map fun p => (atC L p).s.size).sum := ⟨_, rfl⟩
  have hsmA : (A.map fun p => (atC L p).s.size).sum = sm A.length := by rw [hsm]; dsimp only; rw [List.take_length]
  have hsml : ∀ i, i ≤ A.length → sm i ≤ i * 1000000 := fun i => by
    induction i with
    | zero => intro _; rw [hsm]; simp
    | succ i ih =>
      intro hi
      obtain ⟨p, hp⟩ : ∃ p, A[i]? = some p := ⟨A[i]'(by omega), by simp [show i < A.length by omega]⟩
      have e : sm (i + 1) = sm i + (atC L p).s.size := by rw [hsm]; dsimp only; rw [take_snocE hp, List.map_append, List.sum_append]; simp
      have := ih (by omega)
      have := atC_size hLs p
      omega
  rw [hsmA]
  ((try refine sx_use ?_); (repeat (refine SxNew.mk fun _ => ?_; (try refine sx_use ?_))))
  refine SxCode.loop (σ := Nat) [7, 6] [13, 14, 15, 16, 19, 20, 21, 22, 23, 24, 25, 26, 27, 28, 29, 6, 17, 18, 7] (fun i => [.int .i64 (i : Nat), .int .i64 (sm i : Nat)]) (fun _ => [.rd a1 (plE.fl A), .rd ao (ckE.fl l)]) (fun i => i ≤ A.length) (fun i => A.length - i) 0 [0, 2] rfl (by dsimp only; rw [show sm 0 = 0 by rw [hsm]; rfl]; rfl) rfl rfl (Nat.zero_le _) ?_
  rintro i hi
  have hsi := hsml i hi
  by_cases hlt : i < A.length
  · obtain ⟨p, hp⟩ : ∃ p, A[i]? = some p := ⟨A[i], by simp [hlt]⟩
    have e : sm (i + 1) = sm i + (atC L p).s.size := by rw [hsm]; dsimp only; rw [take_snocE hp, List.map_append, List.sum_append]; simp
    have hat := atC_size hLs p
    ((try refine sx_use ?_); (repeat (refine SxNew.mk fun _ => ?_; (try refine sx_use ?_))))
    refine SxCode.drawAll rfl [] ?_
    ((try refine sx_use ?_); (repeat (refine SxNew.mk fun _ => ?_; (try refine sx_use ?_))))
    refine SxIA.rd 0 _ rfl i rfl hlt (by rw [rowPl_len]; omega) fun g off ha => ?_
    ((try refine sx_use ?_); (repeat (refine SxNew.mk fun _ => ?_; (try refine sx_use ?_))))
    refine SxLdN.rd 0 rfl ha rfl (vs := plC p) rfl (rowPl_at hp) ?_
    ((try refine sx_use ?_); (repeat (refine SxNew.mk fun _ => ?_; (try refine sx_use ?_))))
    refine SxCall.newRd (by rw [ckE_len]; have := cnt_len l; unfold maxLen; omega) (fun w1 hs => RCount_any26 l hl ao ac w1 (hs.rd 1 rfl)) fun lo lc => ?_
    rw [← hL]
    ((try refine sx_use ?_); (repeat (refine SxNew.mk fun _ => ?_; (try refine sx_use ?_))))
    (try refine SxStable.mk (allI _) (pickH_all _) (nodupB_all _) ?_)
    (try ((try refine sx_use ?_); (repeat (refine SxNew.mk fun _ => ?_; (try refine sx_use ?_)))))
    refine SxCall.quietS (fun w1 hs => RAt_any L (by omega) p lo lc w1 (hs.rd 0 rfl)) ?_
    ((try refine sx_use ?_); (repeat (refine SxNew.mk fun _ => ?_; (try refine sx_use ?_))))
    refine SxNth.mk (v := .string (atC L p).s) (by simpa using ckC_s (atC L p)) ?_
    ((try refine sx_use ?_); (repeat (refine SxNew.mk fun _ => ?_; (try refine sx_use ?_))))
    exact SxRound.mk (i + 1) [1, 2] (by rw [e]; rfl) rfl rfl hlt (by first | omega | (dsimp only; omega))
  · obtain rfl : i = A.length := by omega
    ((try refine sx_use ?_); (repeat (refine SxNew.mk fun _ => ?_; (try refine sx_use ?_))))
    exact SxDone.mk fun w' hs => ⟨rfl, hs.touch.below⟩
set_option maxHeartbeats 8000000 in
theorem RClasses_any (l : List Ck) (hl : l.length ≤ 100000) (ao : Option Addr) (ac : Nat) (w : World) (hr : Rd w ao (ckE.fl l)) :
    Calls Try.prog 14 #[.slice ao l.length ac] w fun e w' => ∃ (es : List (Drow Pl)) (ao' : Option Addr) (cap' : Nat), e = .returned (.slice ao' es.length cap') ∧ (es.map (·.l) = clsD (cnt l) ∧ es.length ≤ l.length ∧ ∀ d ∈ es, d.l.length ≤ l.length) ∧ NewRow w w' ao' es.length cap' 43 1 (dvE.fl es) ∧ NewReads plE w w' es := by
  obtain ⟨L, hL⟩ : ∃ L, L = cnt l := ⟨_, rfl⟩
  have hLl : L.length ≤ l.length := by rw [hL]; exact cnt_len l
  have hpl := plsS_len L
  refine sx_fn (S := SX) (M := []) (N := 58) (H0 := [.row none 0 0 43 1 [], .rd ao (ckE.fl l)]) Try.func14 rfl rfl rfl ((Sat.oneRd _ hr).nilRow 43 1) ?_
  ((try refine sx_use ?_); (repeat (refine SxNew.mk fun _ => ?_; (try refine sx_use ?_))))
  refine SxCall.newRd (by rw [ckE_len]; have := cnt_len l; unfold maxLen; omega) (fun w1 hs => RCount_any26 l hl ao ac w1 (hs.rd 1 rfl)) fun lo lc => ?_
  rw [← hL]
  ((try refine sx_use ?_); (repeat (refine SxNew.mk fun _ => ?_; (try refine sx_use ?_))))
  refine SxCall.newRd (by rw [rowPl_len]; unfold maxLen; omega) (fun w1 hs => RPlaces_any L (by omega) lo lc w1 (hs.rd 0 rfl)) fun po pc => ?_
  ((try refine sx_use ?_); (repeat (refine SxNew.mk fun _ => ?_; (try refine sx_use ?_))))
  obtain ⟨A, hA⟩ : ∃ A, A = plsS L := ⟨_, rfl⟩
  have hcd : clsD L = (A.filter (isCan L)).map (clF L) := by rw [clsD_eq, hA]
  rw [← hA] at hpl ⊢
  rw [hcd]
  refine SxCode.loop (σ := Nat × List (Drow Pl) × Option Addr × Nat) [5, 3] [13, 14, 15, 16, 19, 20, 21, 22, 23, 24, 6, 25, 26, 27, 28, 29, 30, 31, 32, 7, 8, 33, 34, 35, 36, 39, 40, 41, 42, 43, 44, 45, 46, 47, 48, 49, 50, 51, 37, 38, 52, 53, 54, 55, 56, 3, 17, 18, 5] (fun x => [.int .i64 (x.1 : Nat), .slice x.2.2.1 x.2.1.length x.2.2.2]) (fun x => .row x.2.2.1 x.2.1.length x.2.2.2 43 1 (dvE.fl x.2.1) :: .rd po (plE.fl A) :: .rd lo (ckE.fl L) :: rowsD plE 29 x.2.1) (fun x => x.1 ≤ A.length ∧ x.2.1.map (·.l) = ((A.take x.1).filter (isCan L)).map (clF L) ∧ x.2.1.length ≤ x.1 ∧ ∀ d ∈ x.2.1, d.l.length ≤ l.length) (fun x => A.length - x.1) (0, [], none, 0) [2, 0, 1] rfl rfl rfl rfl ⟨Nat.zero_le _, rfl, Nat.le_refl _, fun d hd => by simp at hd⟩ ?_
  rintro ⟨i, es, ro, rc⟩ ⟨hi, hes, hel, hek⟩
  dsimp only at hi hes hel hek ⊢
  by_cases hlt : i < A.length
  · obtain ⟨p, hp⟩ : ∃ p, A[i]? = some p := ⟨A[i], by simp [hlt]⟩
    have hsn := filter_snoc (f := isCan L) hp
    ((try refine sx_use ?_); (repeat (refine SxNew.mk fun _ => ?_; (try refine sx_use ?_))))
    refine SxIA.rd 1 _ rfl i rfl hlt (by rw [rowPl_len]; omega) fun g off ha => ?_
    ((try refine sx_use ?_); (repeat (refine SxNew.mk fun _ => ?_; (try refine sx_use ?_))))
    refine SxLdN.rd 1 rfl ha rfl (vs := plC p) rfl (rowPl_at hp) ?_
    ((try refine sx_use ?_); (repeat (refine SxNew.mk fun _ => ?_; (try refine sx_use ?_))))
    refine SxCall.quietS (fun w1 hs => RAt_any L (by omega) p lo lc w1 (hs.rd 2 rfl)) ?_
    ((try refine sx_use ?_); (repeat (refine SxNew.mk fun _ => ?_; (try refine sx_use ?_))))
    refine SxSt.elem ckE (x := atC L p) 0 rfl rfl ?_
    ((try refine sx_use ?_); (repeat (refine SxNew.mk fun _ => ?_; (try refine sx_use ?_))))
    rename_i bc
    refine SxCode.drawAll rfl [] ?_
    ((try refine sx_use ?_); (repeat (refine SxNew.mk fun _ => ?_; (try refine sx_use ?_))))
    refine SxLdN.blk 0 rfl (vs := ckC (atC L p)) (ckC_len _) (ckC_all _) ?_
    ((try refine sx_use ?_); (repeat (refine SxNew.mk fun _ => ?_; (try refine sx_use ?_))))
    refine SxIA.rd 2 _ rfl i rfl hlt (by rw [rowPl_len]; omega) fun g off ha => ?_
    ((try refine sx_use ?_); (repeat (refine SxNew.mk fun _ => ?_; (try refine sx_use ?_))))
    refine SxLdN.rd 2 rfl ha rfl (vs := plC p) rfl (rowPl_at hp) ?_
    ((try refine sx_use ?_); (repeat (refine SxNew.mk fun _ => ?_; (try refine sx_use ?_))))
    refine SxCall.quietS (fun w1 hs => RCanon_any L (by omega) (atC L p) lo lc w1 (hs.rd 3 rfl)) ?_
    ((try refine sx_use ?_); (repeat (refine SxNew.mk fun _ => ?_; (try refine sx_use ?_))))
    refine SxRun.nePl ?_
    ((try refine sx_use ?_); (repeat (refine SxNew.mk fun _ => ?_; (try refine sx_use ?_))))
    refine SxIf.nt (SxIf.dec (fun h => ?_) (fun h => ?_))
    · have hc : isCan L p = true := decide_eq_true h
      rw [hc, if_pos rfl] at hsn
      obtain ⟨f, hf⟩ : ∃ f : Ck → Bool, f = fun x => twB x (atC L p) := ⟨_, rfl⟩
      have hfl : ∀ k, k ≤ L.length → ((L.take k).filter f).length ≤ k := fun k hk => by
        refine Nat.le_trans (List.length_filter_le _ _) ?_
        rw [List.length_take]; omega
      have hcf : clF L p = plsS (L.filter f) := by rw [hf]; rfl
      ((try refine sx_use ?_); (repeat (refine SxNew.mk fun _ => ?_; (try refine sx_use ?_))))
      refine SxCode.nil 34 35 ?_
      refine SxCode.loop (σ := Nat × Option Addr × Nat) [8, 7] [33, 34, 35, 36, 39, 40, 41, 42, 43, 44, 45, 46, 47, 48, 49, 50, 51, 7, 37, 38, 8] (fun x => [.int .i64 (x.1 : Nat), .slice x.2.1 ((L.take x.1).filter f).length x.2.2]) (fun x => .row x.2.1 ((L.take x.1).filter f).length x.2.2 34 35 (ckE.fl ((L.take x.1).filter f)) :: .blk bc 34 (ckC (atC L p)) :: .row ro es.length rc 43 1 (dvE.fl es) :: .rd po (plE.fl A) :: .rd lo (ckE.fl L) :: rowsD plE 29 es) (fun x => x.1 ≤ L.length) (fun x => L.length - x.1) (0, none, 0) ([0, 1, 2, 3, 4] ++ tailIx 5 es.length) rfl rfl (pickH_append (A := [_, _, _, _, _]) rfl (pickH_tail 5 rfl (rowsD_len plE _ es))) (nodup_tail 5 _ rfl rfl) (Nat.zero_le _) ?_
      rintro ⟨k, qo, qc⟩ hk
      dsimp only at hk ⊢
      have hfk := hfl k hk
      by_cases hkl : k < L.length
      · obtain ⟨c, hcc⟩ : ∃ c, L[k]? = some c := ⟨L[k], by simp [hkl]⟩
        have hsf := filter_snoc (f := f) hcc
        have hfc : f c = twB c (atC L p) := by rw [hf]
        ((try refine sx_use ?_); (repeat (refine SxNew.mk fun _ => ?_; (try refine sx_use ?_))))
        refine SxCode.drawAll rfl [] ?_
        ((try refine sx_use ?_); (repeat (refine SxNew.mk fun _ => ?_; (try refine sx_use ?_))))
        refine SxIA.rd 4 _ rfl k rfl hkl (by rw [ckE_len]; omega) fun g off ha => ?_
        ((try refine sx_use ?_); (repeat (refine SxNew.mk fun _ => ?_; (try refine sx_use ?_))))
        refine SxLdN.rd 4 rfl ha rfl (vs := ckC c) (ckC_len c) (ckE_at hcc) ?_
        ((try refine sx_use ?_); (repeat (refine SxNew.mk fun _ => ?_; (try refine sx_use ?_))))
        refine SxLdN.blk 1 rfl (vs := ckC (atC L p)) (ckC_len _) (ckC_all _) ?_
        ((try refine sx_use ?_); (repeat (refine SxNew.mk fun _ => ?_; (try refine sx_use ?_))))
        refine SxCall.quiet (RTwins_any c (atC L p)) ?_
        ((try refine sx_use ?_); (repeat (refine SxNew.mk fun _ => ?_; (try refine sx_use ?_))))
        refine ⟨fun ht => ?_, fun ht => ?_⟩
        · rw [hfc, ht, if_pos rfl] at hsf
          have hl1 : ((L.take (k + 1)).filter f).length = ((L.take k).filter f).length + 1 := by rw [hsf, List.length_append]; rfl
          ((try refine sx_use ?_); (repeat (refine SxNew.mk fun _ => ?_; (try refine sx_use ?_))))
          refine SxIA.rd 4 _ rfl k rfl hkl (by rw [ckE_len]; omega) fun g off ha => ?_
          ((try refine sx_use ?_); (repeat (refine SxNew.mk fun _ => ?_; (try refine sx_use ?_))))
          refine SxLdN.rd 4 rfl ha rfl (vs := ckC c) (ckC_len c) (ckE_at hcc) ?_
          ((try refine sx_use ?_); (repeat (refine SxNew.mk fun _ => ?_; (try refine sx_use ?_))))
          refine SxFill.one rfl (ckC_len c) ?_
          ((try refine sx_use ?_); (repeat (refine SxNew.mk fun _ => ?_; (try refine sx_use ?_))))
          refine SxApp.mk 1 rfl 0 (.inr (.inr (.inr ⟨by decide, _, rfl⟩))) (vs := ckC c) (m := 1) (by rw [ckC_len]) (ckC_one c) (by unfold maxLen; omega) (by omega) (cs' := ckE.fl ((L.take (k + 1)).filter f)) (by rw [hsf, ckE.fl_append, ckE.fl_one]; rfl) fun qo' qc' => ?_
          ((try refine sx_use ?_); (repeat (refine SxNew.mk fun _ => ?_; (try refine sx_use ?_))))
          exact SxRound.mk (k + 1, qo', qc') ([1, 2, 3, 4, 5] ++ tailIx 6 es.length) (by dsimp only; rw [hl1]; rfl) (by dsimp only; rw [hl1]; exact pickH_append (A := [_, _, _, _, _]) rfl (pickH_tail 6 rfl (rowsD_len plE _ es))) (nodup_tail 6 _ rfl rfl) hkl (by first | omega | (dsimp only; omega))
        · rw [hfc, ht] at hsf
          simp only [Bool.false_eq_true, if_false, List.append_nil] at hsf
          ((try refine sx_use ?_); (repeat (refine SxNew.mk fun _ => ?_; (try refine sx_use ?_))))
          exact SxRound.mk (k + 1, qo, qc) ([0, 1, 2, 3, 4] ++ tailIx 5 es.length) (by dsimp only; rw [hsf]; rfl) (by dsimp only; rw [hsf]; exact pickH_append (A := [_, _, _, _, _]) rfl (pickH_tail 5 rfl (rowsD_len plE _ es))) (nodup_tail 5 _ rfl rfl) hkl (by first | omega | (dsimp only; omega))
      · obtain rfl : k = L.length := by omega
        rw [List.take_length] at hfk ⊢
        have hpl2 := plsS_len (L.filter f)
        ((try refine sx_use ?_); (repeat (refine SxNew.mk fun _ => ?_; (try refine sx_use ?_))))
        refine SxCall.newRow (fun w1 hs => RPlaces_any (L.filter f) (by omega) qo qc w1 (hs.rowRd 0 rfl (by rw [ckE_len]; unfold maxLen; omega))) fun uo uc => ?_
        rw [← hcf] at hpl2 ⊢
        ((try refine sx_use ?_); (repeat (refine SxNew.mk fun _ => ?_; (try refine sx_use ?_))))
        refine SxApp.mk 4 rfl 0 (.inr (.inr (.inr ⟨by decide, _, rfl⟩))) (vs := [.slice uo (clF L p).length uc]) (m := 1) rfl rfl (by unfold maxLen; omega) (by omega) (cs' := (dvE (α := Pl)).fl (es ++ [⟨uo, uc, clF L p⟩])) (by rw [Enc.fl_append, Enc.fl_one]; rfl) fun ao' cap' => ?_
        ((try refine sx_use ?_); (repeat (refine SxNew.mk fun _ => ?_; (try refine sx_use ?_))))
        exact SxRound.mk (i + 1, es ++ [⟨uo, uc, clF L p⟩], ao', cap') ([4, 5, 6] ++ (tailIx 7 es.length ++ [1])) (by dsimp only; rw [List.length_append]; rfl) (by
          dsimp only
          rw [rowsD_snoc, List.length_append]
          exact pickH_append (A := [_, _, _]) rfl (pickH_append (pickH_tail 7 rfl (rowsD_len plE _ es)) rfl)) (nodup_tail_new 7 _ 1 rfl rfl) ⟨hlt, by
            dsimp only
            rw [hsn, List.map_append, List.map_append, hes]; rfl, by dsimp only; rw [List.length_append]; simp; omega, fun e he => by
            dsimp only at he
            rcases List.mem_append.1 he with e1 | e1
            · exact hek e e1
            · simp only [List.mem_singleton] at e1; rw [e1]; dsimp only; omega⟩ (by first | omega | (dsimp only; omega))
    · have hc : isCan L p = false := decide_eq_false h
      rw [hc] at hsn
      simp only [Bool.false_eq_true, if_false, List.append_nil] at hsn
      ((try refine sx_use ?_); (repeat (refine SxNew.mk fun _ => ?_; (try refine sx_use ?_))))
      exact SxRound.mk (i + 1, es, ro, rc) ([1, 2, 3] ++ tailIx 4 es.length) rfl (pickH_append (A := [_, _, _]) rfl (pickH_tail 4 rfl (rowsD_len plE _ es))) (nodup_tail 4 _ rfl rfl) ⟨hlt, by dsimp only; rw [hsn]; exact hes, by dsimp only; omega, hek⟩ (by first | omega | (dsimp only; omega))
  · obtain rfl : i = A.length := by omega
    rw [List.take_length] at hes
    ((try refine sx_use ?_); (repeat (refine SxNew.mk fun _ => ?_; (try refine sx_use ?_))))
    refine SxDone.mk fun w' hs => ⟨es, ro, rc, rfl, ⟨hes, by omega, hek⟩, hs.newRow 0 rfl, fun d hd => ?_, fun d hd g hg' => ?_⟩
    · obtain ⟨j, hj⟩ := List.getElem?_of_mem hd
      have := hek d hd
      exact hs.rowRd (j + 3) (rowsD_at plE 29 hj) (by rw [rowPl_len]; unfold maxLen; omega)
    · obtain ⟨j, hj⟩ := List.getElem?_of_mem hd
      exact (hs.own (j + 3) _ (rowsD_at plE 29 hj) g hg'.2).resolve_right (by simp)
end Go.Proofs.Ytdififdnnpgjoaa
