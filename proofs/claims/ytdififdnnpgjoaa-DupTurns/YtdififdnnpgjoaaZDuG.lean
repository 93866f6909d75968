/- Layer 26: places of classes; moves. -/
import Derived.Test.YtdififdnnpgjoaaZDuF
import Derived.Test.YtdififdnnpgjoaaZLyMv
namespace Go.Proofs.Ytdififdnnpgjoaa
open Go.RowKit

theorem Weak.pickRd {α : Type} {E : Enc α} {H : Hp} {ds : List (Drow α)} (q : Nat) (hq : H[q]? = some (readsG E ds)) {d : Drow α} (hd : d ∈ ds) : Weak H (.rd d.ao (E.fl d.l) :: H) := fun W M w hs =>
  hs.cons_rd (hs.holds q _ hq d hd) fun i e g hi ho hu => by
    have hne : i ≠ q := fun h => by subst h; rw [hq] at hi; cases hi; cases ho
    exact hs.sep i q e _ hne hi hq g ho ⟨d, hd, hu⟩
theorem Weak.subRd {H : Hp} (p : Nat) {ao ao' : Option Addr} {cs : List Value} (hp : H[p]? = some (.rd ao cs)) (off m : Nat) (ha : off < cs.length → ao' = ao.map (·.add off)) {cs' : List Value} (he : (cs.drop off).take m = cs') : Weak H (.rd ao' cs' :: H) := fun W M w hs =>
  hs.cons_rd (he ▸ (hs.rd p hp).sub off m ha) fun i e g hi ho hu => by
    have hne : i ≠ p := fun h => by subst h; rw [hp] at hi; cases hi; cases ho
    have hlt : off < cs.length := by
      rcases Nat.lt_or_ge off cs.length with h | h
      · exact h
      · exact absurd (by rw [← he, List.drop_of_length_le h]; simp) hu.1
    obtain ⟨b, o, h1, _⟩ := (hs.rd p hp).2 (by omega)
    have h2 := ha hlt
    rw [h1] at h2
    simp only [Option.map_some, Addr.add_lit] at h2
    refine hs.sep i p e _ hne hi hp g ho ⟨fun h => by rw [h] at hlt; simp at hlt, ?_⟩
    have := hu.2
    rw [h2] at this
    rw [h1]; exact this
theorem SxCode.weaken {S : Sx} {W : World} {M : List Nat} {N : Nat} {F : Fr} {H H' : Hp} {c : Code} {Q : Exit → Fr → Hp → Prop} (hw : Weak H H') (h : SxCode S W M N c Q F H') : SxCode S W M N c Q F H :=
  ⟨fun a w ha hs => match h with | ⟨h⟩ => h a w ha (hw _ _ _ hs)⟩
def plL (P : List (List Ck)) : List (List Pl) := P.map fun g => g.map (·.pl)
theorem grL_at {ds : List (Drow Ck)} {k : Nat} {d : Drow Ck} (h : ds[k]? = some d) : (grL ds)[k]? = some d.l := by unfold grL; rw [List.getElem?_map, h]; rfl
set_option maxHeartbeats 8000000 in
theorem Classes_any (l : List Ck) (hl : l.length ≤ 100000) (ao : Option Addr) (ac : Nat) (w : World) (hr : Rd w ao (ckE.fl l)) :
    Calls Try.prog 13 #[.slice ao l.length ac] w fun e w' => ∃ (es : List (Drow Pl)) (ao' : Option Addr) (cap' : Nat), e = .returned (.slice ao' es.length cap') ∧ ((∃ P, Cls (cnt l) P ∧ es.map (·.l) = plL P) ∧ es.length ≤ l.length ∧ ∀ d ∈ es, d.l.length ≤ l.length ∧ d.l.length ≤ d.cap) ∧ NewRow w w' ao' es.length cap' 43 1 (dvE.fl es) ∧ NewReads plE w w' es := by
  refine sx_fn (S := SX) (M := []) (N := 34) (H0 := [.row none 0 0 43 1 [], .rd ao (ckE.fl l)]) Try.func13 rfl rfl rfl ((Sat.oneRd _ hr).nilRow 43 1) ?_
  ((try refine sx_use ?_); (repeat (refine SxNew.mk fun _ => ?_; (try refine sx_use ?_))))
  refine SxCall.newReads (E := ckE) (v := fun ao cap ds => .slice ao ds.length cap) (n := fun ds => ds.length) (cs := fun ds => dvE.fl ds) (fun ds hq => by rw [dvE_len]; have := hq.2.1; unfold maxLen; omega) (fun w1 hs => classes_any l hl ao ac w1 (hs.rd 1 rfl)) ?_
  rintro ds co cc ⟨hcls, hdl, hdk⟩
  dsimp only
  ((try refine sx_use ?_); (repeat (refine SxNew.mk fun _ => ?_; (try refine sx_use ?_))))
  refine SxCode.loop (σ := Nat × List (Drow Pl) × Option Addr × Nat) [12, 3] [13, 14, 15, 5, 6, 16, 17, 18, 19, 20, 21, 8, 22, 23, 24, 25, 26, 27, 28, 29, 30, 31, 3, 32, 12] (fun x => [.int .i64 (x.1 : Nat), .slice x.2.2.1 x.1 x.2.2.2]) (fun x => .row x.2.2.1 x.1 x.2.2.2 43 1 (dvE.fl x.2.1) :: .rd co (dvE.fl ds) :: readsG ckE ds :: rowsD plE 29 x.2.1) (fun x => x.1 ≤ ds.length ∧ x.2.1.map (·.l) = plL (grL (ds.take x.1)) ∧ x.2.1.length = x.1 ∧ ∀ d ∈ x.2.1, d.l.length ≤ l.length) (fun x => ds.length - x.1) (0, [], none, 0) [2, 0, 1] rfl rfl rfl rfl ⟨Nat.zero_le _, rfl, rfl, fun d hd => by simp at hd⟩ ?_
  rintro ⟨i, es, ro, rc⟩ ⟨hi, hes, hel, hek⟩
  dsimp only at hi hes hel hek ⊢
  by_cases hlt : i < ds.length
  · obtain ⟨d, hd⟩ : ∃ d, ds[i]? = some d := ⟨ds[i], by simp [hlt]⟩
    have hdm := List.mem_of_getElem? hd
    have hdl2 := (hdk d hdm).1
    refine sx_weaken (Weak.pickRd 2 rfl hdm) ?_
    ((try refine sx_use ?_); (repeat (refine SxNew.mk fun _ => ?_; (try refine sx_use ?_))))
    refine SxIA.rd 2 _ rfl i rfl hlt (by rw [dvE_len]; omega) fun g off ha => ?_
    ((try refine sx_use ?_); (repeat (refine SxNew.mk fun _ => ?_; (try refine sx_use ?_))))
    refine SxLd.rd 2 rfl ha rfl (j := i * 1) (v := .slice d.ao d.l.length d.cap) (dvE_at hd) ?_
    ((try refine sx_use ?_); (repeat (refine SxNew.mk fun _ => ?_; (try refine sx_use ?_))))
    refine SxCode.nil 29 2 ?_
    refine SxCode.loop (σ := Nat × Option Addr × Nat) [18, 6] [19, 20, 21, 8, 22, 23, 24, 25, 26, 6, 27, 18] (fun x => [.int .i64 (x.1 : Nat), .slice x.2.1 x.1 x.2.2]) (fun x => .row x.2.1 x.1 x.2.2 29 2 (plE.fl ((d.l.take x.1).map (·.pl))) :: .rd d.ao (ckE.fl d.l) :: .row ro i rc 43 1 (dvE.fl es) :: .rd co (dvE.fl ds) :: readsG ckE ds :: rowsD plE 29 es) (fun x => x.1 ≤ d.l.length) (fun x => d.l.length - x.1) (0, none, 0) ([0, 1, 2, 3, 4] ++ tailIx 5 es.length) rfl rfl (pickH_append (A := [_, _, _, _, _]) rfl (pickH_tail 5 rfl (rowsD_len plE _ es))) (nodup_tail 5 _ rfl rfl) (Nat.zero_le _) ?_
    rintro ⟨j, po, pc⟩ hj
    dsimp only at hj ⊢
    by_cases hjl : j < d.l.length
    · obtain ⟨c, hc⟩ : ∃ c, d.l[j]? = some c := ⟨d.l[j], by simp [hjl]⟩
      have hsn : (d.l.take (j + 1)).map (·.pl) = (d.l.take j).map (·.pl) ++ [c.pl] := by rw [take_snocE hc]; exact List.map_append
      ((try refine sx_use ?_); (repeat (refine SxNew.mk fun _ => ?_; (try refine sx_use ?_))))
      refine SxIA.rd 1 _ rfl j rfl hjl (by rw [ckE_len]; omega) fun g off ha => ?_
      ((try refine sx_use ?_); (repeat (refine SxNew.mk fun _ => ?_; (try refine sx_use ?_))))
      refine SxLdN.rd 1 rfl ha rfl (vs := ckC c) (ckC_len c) (ckE_at hc) ?_
      ((try refine sx_use ?_); (repeat (refine SxNew.mk fun _ => ?_; (try refine sx_use ?_))))
      refine SxSt.elem ckE (x := c) 0 rfl rfl ?_
      ((try refine sx_use ?_); (repeat (refine SxNew.mk fun _ => ?_; (try refine sx_use ?_))))
      refine SxApp.mk 2 rfl 0 (.inr (.inr (.inr ⟨by decide, _, rfl⟩))) (vs := plC c.pl) (m := 1) rfl rfl (by unfold maxLen; omega) (by omega) (cs' := plE.fl ((d.l.take (j + 1)).map (·.pl))) (by rw [hsn, plE.fl_append, plE.fl_one]; rfl) fun ao' cap' => ?_
      ((try refine sx_use ?_); (repeat (refine SxNew.mk fun _ => ?_; (try refine sx_use ?_))))
      exact SxRound.mk (j + 1, ao', cap') ([2, 3, 4, 5, 6] ++ tailIx 7 es.length) rfl (pickH_append (A := [_, _, _, _, _]) rfl (pickH_tail 7 rfl (rowsD_len plE _ es))) (nodup_tail 7 _ rfl rfl) hjl (by first | omega | (dsimp only; omega))
    · obtain rfl : j = d.l.length := by omega
      rw [List.take_length]
      ((try refine sx_use ?_); (repeat (refine SxNew.mk fun _ => ?_; (try refine sx_use ?_))))
      have hml : (d.l.map (·.pl)).length = d.l.length := List.length_map ..
      refine SxApp.mk 3 rfl 0 (.inr (.inr (.inr ⟨by decide, _, rfl⟩))) (vs := [.slice po d.l.length pc]) (m := 1) rfl rfl (by unfold maxLen; omega) (by omega) (cs' := (dvE (α := Pl)).fl (es ++ [⟨po, pc, d.l.map (·.pl)⟩])) (by rw [Enc.fl_append, Enc.fl_one]; show _ = _ ++ [Value.slice po (d.l.map (·.pl)).length pc]; rw [hml]) fun ao' cap' => ?_
      ((try refine sx_use ?_); (repeat (refine SxNew.mk fun _ => ?_; (try refine sx_use ?_))))
      exact SxRound.mk (i + 1, es ++ [⟨po, pc, d.l.map (·.pl)⟩], ao', cap') ([3, 4, 5] ++ (tailIx 6 es.length ++ [1])) rfl (by
        dsimp only
        rw [rowsD_snoc]
        dsimp only
        rw [hml]
        exact pickH_append (A := [_, _, _]) rfl (pickH_append (pickH_tail 6 rfl (rowsD_len plE _ es)) rfl)) (nodup_tail_new 6 _ 1 rfl rfl) ⟨hlt, by
          dsimp only
          rw [List.map_append, hes, take_snocE hd]
          unfold plL grL
          rw [List.map_append, List.map_append]; rfl, by dsimp only; rw [List.length_append, hel]; rfl, fun e he => by
          dsimp only at he
          rcases List.mem_append.1 he with e1 | e1
          · exact hek e e1
          · simp only [List.mem_singleton] at e1; rw [e1]; dsimp only; omega⟩ (by first | omega | (dsimp only; omega))
  · obtain rfl : i = ds.length := by omega
    rw [List.take_length] at hes
    ((try refine sx_use ?_); (repeat (refine SxNew.mk fun _ => ?_; (try refine sx_use ?_))))
    refine SxDone.mk fun w' hs => ⟨es, ro, rc, by rw [hel]; rfl, ⟨⟨grL ds, hcls, hes⟩, by omega, fun d hd => ⟨hek d hd, by obtain ⟨j, hj⟩ := List.getElem?_of_mem hd; exact (Row.base (hs.row (j + 3) (rowsD_at plE 29 hj))).2⟩⟩, by rw [hel]; exact hs.newRow 0 rfl, fun d hd => ?_, fun d hd g hg' => ?_⟩
    · obtain ⟨j, hj⟩ := List.getElem?_of_mem hd
      have := hek d hd
      exact hs.rowRd (j + 3) (rowsD_at plE 29 hj) (by rw [rowPl_len]; unfold maxLen; omega)
    · obtain ⟨j, hj⟩ := List.getElem?_of_mem hd
      exact (hs.own (j + 3) _ (rowsD_at plE 29 hj) g hg'.2).resolve_right (by simp)
/-- Moves from places to what is told of them. -/
def mfEn (F : Pl → Pl) : Enc Pl := ⟨fun p => plC p ++ plC (F p), 4, by decide, fun _ => rfl, fun _ => rfl⟩
theorem mf_len (F : Pl → Pl) (l : List Pl) : ((mfEn F).fl l).length = l.length * 4 := (mfEn F).fl_len l
theorem mf_at {F : Pl → Pl} {l : List Pl} {k : Nat} {x : Pl} (h : l[k]? = some x) : (((mfEn F).fl l).drop (k * 4)).take 4 = plC x ++ plC (F x) := (mfEn F).fl_at h
theorem Moves1_any (F : Pl → Pl) (a b : Pl) (w : World) : Calls Try.prog 39 #[.agg ((mfEn F).enc a).toArray, .agg ((mfEn F).enc b).toArray] w fun e w' => e = .returned (.int .i64 (cfP a b)) ∧ Below w.heap.size w w' := by
  refine sx_fn (S := SX) (M := []) (N := 10) (H0 := []) Try.func39 rfl rfl rfl (Sat.nil _ _) ?_
  ((try refine sx_use ?_); (repeat (refine SxNew.mk fun _ => ?_; (try refine sx_use ?_))))
  refine SxCall.quiet (places_any a b) ?_
  ((try refine sx_use ?_); (repeat (refine SxNew.mk fun _ => ?_; (try refine sx_use ?_))))
  exact SxDone.mk fun w' hs => ⟨rfl, hs.touch.below⟩
/-- Where the moves of some classes begin. -/
def tlC (P : List (List Ck)) : List Ck := P.flatMap List.tail
def frP (P : List (List Ck)) : List Pl := (tlC P).map (·.pl)
theorem tlC_snoc (P : List (List Ck)) (g : List Ck) : tlC (P ++ [g]) = tlC P ++ g.tail := by unfold tlC; rw [List.flatMap_append]; simp
theorem frP_snoc (P : List (List Ck)) (g : List Ck) : frP (P ++ [g]) = frP P ++ (g.tail).map (·.pl) := by unfold frP; rw [tlC_snoc, List.map_append]
theorem tlC_mem {L : List Ck} (_hL : ∀ a ∈ L, ∀ b ∈ L, a.pl = b.pl → a = b) {P : List (List Ck)} (h : Cls L P) {c : Ck} (hc : c ∈ tlC P) : c ∈ L ∧ ∃ g ∈ P, c ∈ g.tail := by
  unfold tlC at hc
  obtain ⟨g, hg, hcg⟩ := List.mem_flatMap.1 hc
  exact ⟨(h.all c).1 ⟨g, hg, List.mem_of_mem_tail hcg⟩, g, hg, hcg⟩
theorem frP_nodup {L : List Ck} (hL : ∀ a ∈ L, ∀ b ∈ L, a.pl = b.pl → a = b) {P : List (List Ck)} (h : Cls L P) : (frP P).Nodup := by
  unfold frP
  refine List.pairwise_map.2 ?_
  unfold tlC
  refine List.pairwise_flatMap.2 ⟨fun g hg => ?_, ?_⟩
  · have := h.ord g hg
    exact (this.sublist (List.tail_sublist g)).imp fun {x y} hxy e => by rw [e] at hxy; exact ltP_ord.irr _ hxy
  · refine h.apart.imp_of_mem fun {g k} hg hk hxy x hx y hy e => ?_
    have hx' := List.mem_of_mem_tail hx
    have hy' := List.mem_of_mem_tail hy
    have := hL x ((h.all x).1 ⟨g, hg, hx'⟩) y ((h.all y).1 ⟨k, hk, hy'⟩) e
    exact hxy x hx' y hy' (by rw [this])
theorem frP_mem {L : List Ck} (hL : ∀ a ∈ L, ∀ b ∈ L, a.pl = b.pl → a = b) {P : List (List Ck)} (h : Cls L P) (p : Pl) : p ∈ frP P ↔ p ∈ movD L := by
  rw [← h.tails hL p]
  unfold frP tlC
  rw [List.mem_map]
  constructor
  · rintro ⟨c, hc, rfl⟩
    obtain ⟨g, hg, hcg⟩ := List.mem_flatMap.1 hc
    exact ⟨g, hg, c, hcg, rfl⟩
  · rintro ⟨g, hg, c, hc, rfl⟩
    exact ⟨c, List.mem_flatMap.2 ⟨g, hg, hc⟩, rfl⟩
theorem movD_strict {L : List Ck} (hL : ∀ a ∈ L, ∀ b ∈ L, a.pl = b.pl → a = b) : (movD L).Pairwise ltP := (plsS_strict hL L).filter _
theorem frP_sorted {L : List Ck} (hL : ∀ a ∈ L, ∀ b ∈ L, a.pl = b.pl → a = b) {P : List (List Ck)} (h : Cls L P) : sorted cfP (frP P) = movD L :=
  strict_ext ltP_ord (sorted_strict ltP_ord cfP_iff (frP_nodup hL h)) (movD_strict hL) fun p => by
    rw [(sorted_perm cfP (frP P)).mem_iff, frP_mem hL h]
theorem frP_len {L : List Ck} (hL : ∀ a ∈ L, ∀ b ∈ L, a.pl = b.pl → a = b) {P : List (List Ck)} (h : Cls L P) : (frP P).length = (movD L).length := by
  rw [← frP_sorted hL h, sorted_len]
theorem movF_tail {L : List Ck} (hL : ∀ a ∈ L, ∀ b ∈ L, a.pl = b.pl → a = b) {P : List (List Ck)} (h : Cls L P) {g : List Ck} (hg : g ∈ P) {c : Ck} (hc : c ∈ g.tail) : movF L c.pl = hdp g := by
  have hcg := List.mem_of_mem_tail hc
  have hcL := (h.all c).1 ⟨g, hg, hcg⟩
  unfold movF
  rw [atC_of hL hcL, h.canon hL hg hcg]
theorem cnt_uniq (l : List Ck) : ∀ a ∈ cnt l, ∀ b ∈ cnt l, a.pl = b.pl → a = b := fun _ ha _ hb h => cnt_inj ha hb h
theorem movD_len (l : List Ck) : (movD (cnt l)).length ≤ l.length := by
  have h1 : (movD (cnt l)).length ≤ (plsS (cnt l)).length := List.length_filter_le _ _
  have h2 : (plsS (cnt l)).length ≤ ((cnt l).map (·.pl)).length := setS_len cfP _
  rw [List.length_map] at h2
  have := cnt_len l
  omega
set_option maxHeartbeats 8000000 in
theorem Moves_any (l : List Ck) (hl : l.length ≤ 100000) (ao : Option Addr) (ac : Nat) (w : World) (hr : Rd w ao (ckE.fl l)) :
    Calls Try.prog 17 #[.slice ao l.length ac] w fun e w' => ∃ (ao' : Option Addr) (cap' : Nat), e = .returned (.slice ao' (movD (cnt l)).length cap') ∧ NewRow w w' ao' (movD (cnt l)).length cap' 54 4 ((mfEn (movF (cnt l))).fl (movD (cnt l))) := by
  refine sx_fn (S := SX) (M := []) (N := 35) (H0 := [.row none 0 0 54 4 [], .rd ao (ckE.fl l)]) Try.func17 rfl rfl rfl ((Sat.oneRd _ hr).nilRow 54 4) ?_
  ((try refine sx_use ?_); (repeat (refine SxNew.mk fun _ => ?_; (try refine sx_use ?_))))
  refine SxCall.newReads (E := plE) (v := fun ao cap ds => .slice ao ds.length cap) (n := fun ds => ds.length) (cs := fun ds => dvE.fl ds) (fun ds hq => by rw [dvE_len]; have := hq.2.1; unfold maxLen; omega) (fun w1 hs => Classes_any l hl ao ac w1 (hs.rd 1 rfl)) ?_
  rintro es co cc ⟨⟨P, hcls, heP⟩, hel, hek⟩
  have hu := cnt_uniq l
  have hPl : P.length = es.length := by have := congrArg List.length heP; unfold plL at this; rw [List.length_map, List.length_map] at this; omega
  have hfl : ∀ i, i ≤ P.length → (frP (P.take i)).length ≤ l.length := fun i hi => by
    have h1 := frP_len hu hcls
    have h2 := movD_len l
    have h3 : (frP (P.take i)).length ≤ (frP P).length := by
      conv => rhs; rw [← List.take_append_drop i P]
      unfold frP tlC
      rw [List.flatMap_append, List.map_append, List.length_append]; omega
    omega
  dsimp only
  ((try refine sx_use ?_); (repeat (refine SxNew.mk fun _ => ?_; (try refine sx_use ?_))))
  refine SxCode.loop (σ := Nat × Option Addr × Nat) [11, 3] [12, 13, 14, 5, 15, 16, 17, 18, 19, 20, 21, 7, 22, 23, 24, 25, 26, 27, 28, 29, 3, 30, 31, 11] (fun x => [.int .i64 (x.1 : Nat), .slice x.2.1 (frP (P.take x.1)).length x.2.2]) (fun x => [.row x.2.1 (frP (P.take x.1)).length x.2.2 54 4 ((mfEn (movF (cnt l))).fl (frP (P.take x.1))), .rd co (dvE.fl es), readsG plE es]) (fun x => x.1 ≤ es.length) (fun x => es.length - x.1) (0, none, 0) [2, 0, 1] rfl rfl rfl rfl (Nat.zero_le _) ?_
  rintro ⟨i, ro, rc⟩ hi
  dsimp only at hi ⊢
  by_cases hlt : i < es.length
  · obtain ⟨d, hd⟩ : ∃ d, es[i]? = some d := ⟨es[i], by simp [hlt]⟩
    obtain ⟨g, hg⟩ : ∃ g, P[i]? = some g := ⟨P[i]'(by omega), by simp [show i < P.length by omega]⟩
    have hdm := List.mem_of_getElem? hd
    have hgm := List.mem_of_getElem? hg
    have hdg : d.l = g.map (·.pl) := by
      have h1 := congrArg (·[i]?) heP
      unfold plL at h1
      simp only [List.getElem?_map, hd, hg, Option.map_some, Option.some.injEq] at h1
      exact h1
    obtain ⟨y, hy, hyp, r, hyr⟩ := hdp_mem (hcls.ne g hgm)
    have hdl : d.l.length = r.length + 1 := by rw [hdg, hyr, List.length_map]; rfl
    have hd0 : d.l[0]? = some (hdp g) := by rw [hdg, hyr]; rfl
    obtain ⟨hdl2, hdc⟩ := hek d hdm
    have hfi := hfl i (by omega)
    have hfi1 := hfl (i + 1) (by omega)
    have hsn : frP (P.take (i + 1)) = frP (P.take i) ++ r.map (·.pl) := by rw [take_snocE hg, frP_snoc, hyr]; rfl
    refine sx_weaken (Weak.pickRd 2 rfl hdm) ?_
    ((try refine sx_use ?_); (repeat (refine SxNew.mk fun _ => ?_; (try refine sx_use ?_))))
    refine SxIA.rd 2 _ rfl i rfl hlt (by rw [dvE_len]; omega) fun g0 off ha => ?_
    ((try refine sx_use ?_); (repeat (refine SxNew.mk fun _ => ?_; (try refine sx_use ?_))))
    refine SxLd.rd 2 rfl ha rfl (j := i * 1) (v := .slice d.ao d.l.length d.cap) (dvE_at hd) ?_
    ((try refine sx_use ?_); (repeat (refine SxNew.mk fun _ => ?_; (try refine sx_use ?_))))
    refine SxBnd.mk 1 d.l.length rfl rfl (by omega) hdc fun p1 q1 q2 => ?_
    ((try refine sx_use ?_); (repeat (refine SxNew.mk fun _ => ?_; (try refine sx_use ?_))))
    have hdr : d.l.drop 1 = r.map (·.pl) := by rw [hdg, hyr]; rfl
    have hF : ∀ c ∈ r, movF (cnt l) c.pl = hdp g := fun c hc => movF_tail hu hcls hgm (by rw [hyr]; exact hc)
    refine SxCode.weaken (Weak.subRd 0 rfl (1 * 2) (d.l.length * 2) (ao' := p1) (cs' := plE.fl (r.map (·.pl))) (fun hz => by rw [rowPl_len] at hz; exact q1 (by omega)) (by
      have h9 := plE.fl_drop d.l 1
      rw [show (plE.fl d.l).drop (1 * 2) = _ from h9, hdr, List.take_of_length_le (by rw [rowPl_len, List.length_map]; omega)])) ?_
    refine SxCode.loop (σ := Nat × Option Addr × Nat) [18, 3] [19, 20, 21, 7, 22, 23, 24, 25, 26, 27, 28, 29, 3, 30, 18] (fun x => [.int .i64 (x.1 : Nat), .slice x.2.1 (frP (P.take i) ++ (r.take x.1).map (·.pl)).length x.2.2]) (fun x => [.rd p1 (plE.fl (r.map (·.pl))), .rd d.ao (plE.fl d.l), .row x.2.1 (frP (P.take i) ++ (r.take x.1).map (·.pl)).length x.2.2 54 4 ((mfEn (movF (cnt l))).fl (frP (P.take i) ++ (r.take x.1).map (·.pl))), .rd co (dvE.fl es), readsG plE es]) (fun x => x.1 ≤ r.length) (fun x => r.length - x.1) (0, ro, rc) [0, 1, 2, 3, 4] (by first | rfl | (simp only [List.take_zero, List.map_nil, List.append_nil]; rfl)) (by first | rfl | (simp only [List.take_zero, List.map_nil, List.append_nil]; rfl)) (by first | rfl | (simp only [List.take_zero, List.map_nil, List.append_nil]; rfl)) rfl (Nat.zero_le _) ?_
    rintro ⟨j, mo, mc⟩ hj
    dsimp only at hj ⊢
    have hmj : (frP (P.take i) ++ (r.take j).map (·.pl)).length = (frP (P.take i)).length + j := by rw [List.length_append, List.length_map, List.length_take, Nat.min_eq_left hj]
    have hb1 : (frP (P.take i)).length + r.length ≤ l.length := by
      have := hfi1
      rw [hsn, List.length_append, List.length_map] at this; exact this
    by_cases hjl : j < r.length
    · obtain ⟨c, hc⟩ : ∃ c, r[j]? = some c := ⟨r[j], by simp [hjl]⟩
      have hcp : (r.map (·.pl))[j]? = some c.pl := by rw [List.getElem?_map, hc]; rfl
      have hFc := hF c (List.mem_of_getElem? hc)
      have hsn2 : frP (P.take i) ++ (r.take (j + 1)).map (·.pl) = (frP (P.take i) ++ (r.take j).map (·.pl)) ++ [c.pl] := by rw [take_snocE hc, List.map_append, List.append_assoc]; rfl
      have hsl : (frP (P.take i) ++ (r.take (j + 1)).map (·.pl)).length = (frP (P.take i) ++ (r.take j).map (·.pl)).length + 1 := by rw [hsn2, List.length_append]; rfl
      ((try refine sx_use ?_); (repeat (refine SxNew.mk fun _ => ?_; (try refine sx_use ?_))))
      refine SxIA.rd 0 _ rfl j rfl (by omega) (by rw [rowPl_len, List.length_map]; omega) fun g0 off ha => ?_
      ((try refine sx_use ?_); (repeat (refine SxNew.mk fun _ => ?_; (try refine sx_use ?_))))
      refine SxLdN.rd 0 rfl ha rfl (vs := plC c.pl) rfl (rowPl_at hcp) ?_
      ((try refine sx_use ?_); (repeat (refine SxNew.mk fun _ => ?_; (try refine sx_use ?_))))
      rename_i b7
      refine SxCode.draw rfl [.blk b7 29 (plC c.pl), .rd d.ao (plE.fl d.l)] [] [0, 2] rfl rfl ?_
      ((try refine sx_use ?_); (repeat (refine SxNew.mk fun _ => ?_; (try refine sx_use ?_))))
      refine SxIA.rd 1 _ rfl 0 rfl (by omega) (by rw [rowPl_len]; omega) fun g0 off ha => ?_
      ((try refine sx_use ?_); (repeat (refine SxNew.mk fun _ => ?_; (try refine sx_use ?_))))
      refine SxLdN.rd 1 rfl ha rfl (j := 0 * 2) (vs := plC (hdp g)) rfl (rowPl_at hd0) ?_
      ((try refine sx_use ?_); (repeat (refine SxNew.mk fun _ => ?_; (try refine sx_use ?_))))
      refine SxStable.mk [1, 3] rfl rfl ?_
      ((try refine sx_use ?_); (repeat (refine SxNew.mk fun _ => ?_; (try refine sx_use ?_))))
      refine SxApp.mk 4 rfl 0 (.inr (.inr (.inr ⟨by decide, _, rfl⟩))) (vs := plC c.pl ++ plC (hdp g)) (m := 1) rfl rfl (by rw [hmj]; unfold maxLen; omega) (by rw [hmj]; omega) (cs' := (mfEn (movF (cnt l))).fl (frP (P.take i) ++ (r.take (j + 1)).map (·.pl))) (by rw [hsn2, Enc.fl_append _ (frP (P.take i) ++ (r.take j).map (·.pl)), Enc.fl_one]; show _ = _ ++ (plC c.pl ++ plC (movF (cnt l) c.pl)); rw [hFc]) fun ao' cap' => ?_
      ((try refine sx_use ?_); (repeat (refine SxNew.mk fun _ => ?_; (try refine sx_use ?_))))
      (try refine SxStable.mk [1, 3] rfl rfl ?_)
      (try ((try refine sx_use ?_); (repeat (refine SxNew.mk fun _ => ?_; (try refine sx_use ?_)))))
      exact SxRound.mk (j + 1, ao', cap') [2, 3, 4, 5, 6] (by dsimp only; rw [hsl]; rfl) (by dsimp only; rw [hsl]; rfl) rfl hjl (by first | omega | (dsimp only; omega))
    · obtain rfl : j = r.length := by omega
      rw [List.take_length, ← hsn]
      ((try refine sx_use ?_); (repeat (refine SxNew.mk fun _ => ?_; (try refine sx_use ?_))))
      exact SxRound.mk (i + 1, mo, mc) [2, 3, 4] rfl rfl rfl hlt (by first | omega | (dsimp only; omega))
  · obtain rfl : i = es.length := by omega
    have hP : P.take es.length = P := List.take_of_length_le (by omega)
    rw [hP]
    have hfP := hfl P.length (Nat.le_refl _)
    rw [List.take_length] at hfP
    have hlen := frP_len hu hcls
    ((try refine sx_use ?_); (repeat (refine SxNew.mk fun _ => ?_; (try refine sx_use ?_))))
    refine SxCall.sort (S := SX) (cf := cfP) (g := 39) (cb := #[]) (l := frP P) (n := (frP P).length) Try.layMv (mfEn (movF (cnt l))) Try.isAgg54 Try.sizeOf54 (cmpOk_of ltP_ord cfP_iff) (enters_of Try.func39 (by kernel_rfl) rfl) 0 rfl (by omega) (fun x y w w' _ _ => Moves1_any _ x y w') ?_
    rw [frP_sorted hu hcls]
    ((try refine sx_use ?_); (repeat (refine SxNew.mk fun _ => ?_; (try refine sx_use ?_))))
    exact SxDone.mk fun w' hs => ⟨ro, rc, by rw [← hlen]; rfl, by rw [← hlen]; exact hs.newRow 0 rfl⟩
end Go.Proofs.Ytdififdnnpgjoaa
