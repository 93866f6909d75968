/- Layer 26: DupClasses. -/
import Derived.Test.YtdififdnnpgjoaaZDuL
namespace Go.Proofs.Ytdififdnnpgjoaa
open Go.RowKit

theorem flat_len {L : List Ck} (hn : L.Nodup) (hL : ∀ a ∈ L, ∀ b ∈ L, a.pl = b.pl → a = b) {P : List (List Ck)} (h : Cls L P) : P.flatten.length = L.length := by
  have hnd : P.flatten.Nodup := by
    refine List.pairwise_flatten.2 ⟨fun g hg => (h.ord g hg).imp fun {x y} hxy e => by rw [e] at hxy; exact ltP_ord.irr _ hxy, h.apart.imp fun {g k} hxy x hx y hy e => hxy x hx y hy (by rw [e])⟩
  have e : sorted cfC P.flatten = sorted cfC L := strict_ext ltC_ord (sorted_strict ltC_ord cfC_iff hnd) (sorted_strict ltC_ord cfC_iff hn) fun c => by
    rw [(sorted_perm cfC P.flatten).mem_iff, (sorted_perm cfC L).mem_iff, ← h.all c, List.mem_flatten]
  have := congrArg List.length e
  rw [sorted_len, sorted_len] at this
  exact this
def sumL (K : List (List Pl)) : Nat := (K.map List.length).sum
theorem sumL_snoc (K : List (List Pl)) (g : List Pl) : sumL (K ++ [g]) = sumL K + g.length := by unfold sumL; rw [List.map_append, List.sum_append]; simp
theorem sumL_le (K : List (List Pl)) (k : Nat) : sumL (K.take k) ≤ sumL K := by
  conv => rhs; rw [← List.take_append_drop k K]
  unfold sumL
  rw [List.map_append, List.sum_append]; omega
theorem sumL_plL (P : List (List Ck)) : sumL (plL P) = P.flatten.length := by
  unfold sumL plL
  rw [List.map_map, List.length_flatten]
  congr 1
  exact List.map_congr_left fun g _ => List.length_map ..
theorem Drow_at {es : List (Drow Pl)} {K : List (List Pl)} (h : es.map (·.l) = K) {i : Nat} {d : Drow Pl} (hd : es[i]? = some d) : K[i]? = some d.l := by rw [← h, List.getElem?_map, hd]; rfl
set_option maxHeartbeats 16000000 in
theorem DupClasses_law (w : World) (v1 : Value) (hv1 : FitK Try.prog w 4 (.slice 34) v1) :
    Calls Try.prog 4 #[v1] w fun e w' => e = .returned (.bool true) ∧ Below w.heap.size w w' := by
  obtain ⟨ao, n, ac, rfl, hn, l0, hl0, hr⟩ := open_cks hv1
  clear hv1
  refine sx_fn (S := SX) (M := []) (H0 := [.rd ao (ckE.fl l0)]) (N := 55) Try.func4 rfl rfl rfl (Sat.oneRd _ hr) ?_
  ((try refine sx_use ?_); (repeat (refine SxNew.mk fun _ => ?_; (try refine sx_use ?_))))
  refine SxCall.at (fun w1 hs => ours_any l0 n hl0 ao ac w1 (hs.rd 0 rfl)) fun w1 e w' hs ⟨a1, c1, a2, c2, h1, h2, h3⟩ => ⟨_, _, h1, Sat.twoNew hs h2 h3 (by rw [ckE_len]; have := oursL_len l0; unfold maxLen; omega) (by rw [ckE_len]; have := oursL_len l0; unfold maxLen; omega), ?_⟩
  have hl := oursL_len l0
  obtain ⟨l, hll⟩ : ∃ l, l = oursL l0 := ⟨_, rfl⟩
  rw [← hll] at hl ⊢
  have hcl := cnt_len l
  have hu := cnt_uniq l
  ((try refine sx_use ?_); (repeat (refine SxNew.mk fun _ => ?_; (try refine sx_use ?_))))
  refine SxCall.newReads (E := plE) (v := fun ao cap ds => .slice ao ds.length cap) (n := fun ds => ds.length) (cs := fun ds => dvE.fl ds) (fun ds hq => by rw [dvE_len]; have := hq.2.1; unfold maxLen; omega) (fun w1 hs => Classes_any l (by omega) a1 c1 w1 (hs.rd 0 rfl)) ?_
  rintro es eo ec ⟨⟨P, hcls, heP⟩, hel, hek⟩
  dsimp only
  ((try refine sx_use ?_); (repeat (refine SxNew.mk fun _ => ?_; (try refine sx_use ?_))))
  refine SxCall.newReads (E := plE) (v := fun ao cap ds => .slice ao ds.length cap) (n := fun ds => ds.length) (cs := fun ds => dvE.fl ds) (fun ds hq => by rw [dvE_len]; have := hq.2.1; unfold maxLen; omega) (fun w1 hs => RClasses_any l (by omega) a2 c2 w1 (hs.rd 3 rfl)) ?_
  rintro fs fo fc ⟨hfK, hfl, hfk⟩
  dsimp only
  have hPK : plL P = clsD (cnt l) := hcls.doc hu
  obtain ⟨K, hK⟩ : ∃ K, K = clsD (cnt l) := ⟨_, rfl⟩
  rw [← hK] at hPK hfK
  have heK : es.map (·.l) = K := heP.trans hPK
  have hln : es.length = fs.length := by
    have h1 := congrArg List.length heK
    have h2 := congrArg List.length hfK
    rw [List.length_map] at h1 h2; omega
  have hKl : K.length = fs.length := by rw [← hfK, List.length_map]
  have hsum : sumL K = (cnt l).length := by rw [← hPK, sumL_plL, flat_len (cnt_nodup l) hu hcls]
  ((try refine sx_use ?_); (repeat (refine SxNew.mk fun _ => ?_; (try refine sx_use ?_))))
  refine SxCall.quiet du_awake ?_
  ((try refine sx_use ?_); (repeat (refine SxNew.mk fun _ => ?_; (try refine sx_use ?_))))
  refine SxCode.loop (σ := Nat) [8, 7, 2] [27, 28, 29, 30, 33, 34, 35, 36, 37, 38, 39, 40, 41, 42, 2, 43, 44, 45, 46, 47, 48, 49, 7, 31, 32, 8] (fun k => [.int .i64 (k : Nat), .int .i64 (sumL (K.take k) : Nat), .bool false]) (fun _ => [.rd fo (dvE.fl fs), readsG plE fs, .rd eo (dvE.fl es), readsG plE es, .rd a1 (ckE.fl l), .rd a2 (ckE.fl l)]) (fun k => k ≤ fs.length) (fun k => fs.length - k) 0 [0, 1, 2, 3, 4, 5] rfl rfl rfl rfl (Nat.zero_le _) ?_
  rintro k hk
  have hsk := sumL_le K k
  by_cases hlt : k < fs.length
  · obtain ⟨d, hd⟩ : ∃ d, es[k]? = some d := ⟨es[k]'(by omega), by simp [show k < es.length by omega]⟩
    obtain ⟨f, hf⟩ : ∃ f, fs[k]? = some f := ⟨fs[k], by simp [hlt]⟩
    have hKd := Drow_at heK hd
    have hKf := Drow_at hfK hf
    have hdf : d.l = f.l := Option.some.inj (hKd.symm.trans hKf)
    have hsn : sumL (K.take (k + 1)) = sumL (K.take k) + d.l.length := by rw [take_snocE hKd, sumL_snoc]
    have hsk1 := sumL_le K (k + 1)
    refine sx_weaken (Weak.pickRd 1 rfl (List.mem_of_getElem? hf)) ?_
    refine sx_weaken (Weak.pickRd 4 rfl (List.mem_of_getElem? hd)) ?_
    ((try refine sx_use ?_); (repeat (refine SxNew.mk fun _ => ?_; (try refine sx_use ?_))))
    refine SxCode.drawAll rfl [] ?_
    ((try refine sx_use ?_); (repeat (refine SxNew.mk fun _ => ?_; (try refine sx_use ?_))))
    refine SxIA.rd 4 _ rfl k rfl (by omega) (by rw [dvE_len]; omega) fun g off ha => ?_
    ((try refine sx_use ?_); (repeat (refine SxNew.mk fun _ => ?_; (try refine sx_use ?_))))
    refine SxLd.rd 4 rfl ha rfl (j := k * 1) (v := .slice d.ao d.l.length d.cap) (dvE_at hd) ?_
    ((try refine sx_use ?_); (repeat (refine SxNew.mk fun _ => ?_; (try refine sx_use ?_))))
    refine SxIA.rd 2 _ rfl k rfl (by omega) (by rw [dvE_len]; omega) fun g off ha => ?_
    ((try refine sx_use ?_); (repeat (refine SxNew.mk fun _ => ?_; (try refine sx_use ?_))))
    refine SxLd.rd 2 rfl ha rfl (j := k * 1) (v := .slice f.ao f.l.length f.cap) (dvE_at hf) ?_
    ((try refine sx_use ?_); (repeat (refine SxNew.mk fun _ => ?_; (try refine sx_use ?_))))
    refine SxCall.quietS (v := .bool true) (fun w1 hs => by
      have h := RSamePlD_any d.l f.l d.ao f.ao d.cap f.cap w1 (hs.rd 0 rfl) (hs.rd 1 rfl)
      rw [decide_eq_true hdf] at h
      exact h) ?_
    ((try refine sx_use ?_); (repeat (refine SxNew.mk fun _ => ?_; (try refine sx_use ?_))))
    refine SxIA.rd 4 _ rfl k rfl (by omega) (by rw [dvE_len]; omega) fun g off ha => ?_
    ((try refine sx_use ?_); (repeat (refine SxNew.mk fun _ => ?_; (try refine sx_use ?_))))
    refine SxLd.rd 4 rfl ha rfl (j := k * 1) (v := .slice d.ao d.l.length d.cap) (dvE_at hd) ?_
    ((try refine sx_use ?_); (repeat (refine SxNew.mk fun _ => ?_; (try refine sx_use ?_))))
    exact SxRound.mk (k + 1) [2, 3, 4, 5, 6, 7] (by rw [hsn]; rfl) rfl rfl hlt (by first | omega | (dsimp only; omega))
  · obtain rfl : k = fs.length := by omega
    have hKt : K.take fs.length = K := List.take_of_length_le (by omega)
    rw [hKt, hsum]
    ((try refine sx_use ?_); (repeat (refine SxNew.mk fun _ => ?_; (try refine sx_use ?_))))
    refine SxCall.newRd (by rw [ckE_len]; unfold maxLen; omega) (fun w1 hs => RCount_any26 l (by omega) a2 c2 w1 (hs.rd 5 rfl)) fun lo lc => ?_
    ((try refine sx_use ?_); (repeat (refine SxNew.mk fun _ => ?_; (try refine sx_use ?_))))
    refine SxDone.mk fun w' hs => ⟨?_, hs.touch.below⟩
    show Ending.returned (.bool (((cnt l).length : Int) == ((cnt l).length : Int))) = _
    rw [beq_self_eq_true]
end Go.Proofs.Ytdififdnnpgjoaa
