/- Layer 26: the document's order. -/
import Derived.Test.YtdififdnnpgjoaaZDuD
namespace Go.Proofs.Ytdififdnnpgjoaa
open Go.RowKit

theorem ins_strict {o : List Ck} {x : Ck} {k : Nat} (ho : o.Pairwise ltC) (hk : k ≤ o.length) (hx : ∀ y ∈ o, y ≠ x) (ha : ∀ j y, k ≤ j → o[j]? = some y → ltC x y) (hb : ∀ y, 0 < k → o[k - 1]? = some y → ¬ ltC x y) : (o.take k ++ ([x] ++ o.drop k)).Pairwise ltC := by
  have hlow : ∀ y ∈ o.take k, ltC y x := by
    intro y hy
    obtain ⟨j, hj⟩ := List.getElem?_of_mem hy
    rw [List.getElem?_take] at hj
    split at hj
    · rename_i hjk
      obtain ⟨z, hz⟩ : ∃ z, o[k - 1]? = some z := ⟨o[k - 1]'(by omega), by simp [show k - 1 < o.length by omega]⟩
      have hzx : ltC z x := by
        have h1 := hb z (by omega) hz
        have h2 := hx z (List.mem_of_getElem? hz)
        rcases Classical.em (ltC z x) with e | e
        · exact e
        · exact absurd (ltC_ord.tri z x e h1) h2
      by_cases hjk2 : j = k - 1
      · subst hjk2
        rw [hz] at hj
        exact Option.some.inj hj ▸ hzx
      · have h3 : ltC y z := by
          obtain ⟨a1, a2⟩ := List.getElem?_eq_some_iff.1 hj
          obtain ⟨b1, b2⟩ := List.getElem?_eq_some_iff.1 hz
          have := List.pairwise_iff_getElem.1 ho j (k - 1) a1 b1 (by omega)
          rw [a2, b2] at this
          exact this
        exact ltC_ord.tr _ _ _ h3 hzx
    · cases hj
  have hhigh : ∀ y ∈ o.drop k, ltC x y := by
    intro y hy
    obtain ⟨j, hj⟩ := List.getElem?_of_mem hy
    rw [List.getElem?_drop] at hj
    exact ha (k + j) y (by omega) hj
  have h0 := ho
  rw [← List.take_append_drop k o] at h0
  have h1 := List.pairwise_append.1 h0
  refine List.pairwise_append.2 ⟨h1.1, List.pairwise_append.2 ⟨List.pairwise_singleton .., h1.2.1, fun a ha' b hb' => ?_⟩, fun a ha' b hb' => ?_⟩
  · simp only [List.mem_singleton] at ha'
    rw [ha']; exact hhigh b hb'
  · rcases List.mem_append.1 hb' with e | e
    · simp only [List.mem_singleton] at e
      rw [e]; exact hlow a ha'
    · exact h1.2.2 a ha' b e
theorem ins_mem {o : List Ck} {x : Ck} {k : Nat} (z : Ck) : z ∈ o.take k ++ ([x] ++ o.drop k) ↔ z ∈ o ∨ z = x := by
  rw [List.mem_append, List.mem_append, List.mem_singleton]
  have : z ∈ o ↔ z ∈ o.take k ∨ z ∈ o.drop k := by rw [← List.mem_append, List.take_append_drop]
  rw [this]
  constructor
  · rintro (h | h | h)
    · exact .inl (.inl h)
    · exact .inr h
    · exact .inl (.inr h)
  · rintro ((h | h) | h)
    · exact .inl h
    · exact .inr (.inr h)
    · exact .inr (.inl h)
set_option maxHeartbeats 8000000 in
theorem RSort_any26 (l : List Ck) (hl : l.length ≤ 100000) (ao : Option Addr) (ac : Nat) (w : World) (hr : Rd w ao (ckE.fl l)) :
    Calls Try.prog 11 #[.slice ao l.length ac] w fun e w' => ∃ ao' cap', e = .returned (.slice ao' (srt l).length cap') ∧ NewRow w w' ao' (srt l).length cap' 34 35 (ckE.fl (srt l)) := by
  obtain ⟨L, hL⟩ : ∃ L, L = cnt l := ⟨_, rfl⟩
  have hLl : L.length ≤ 100000 := by rw [hL]; have := cnt_len l; omega
  have hLn : L.Nodup := by rw [hL]; exact cnt_nodup l
  refine sx_fn (S := SX) (M := []) (N := 52) (H0 := [.row none 0 0 34 35 [], .rd ao (ckE.fl l)]) Try.func11 rfl rfl rfl ((Sat.oneRd _ hr).nilRow 34 35) ?_
  ((try refine sx_use ?_); (repeat (refine SxNew.mk fun _ => ?_; (try refine sx_use ?_))))
  refine SxCall.newRd (by rw [ckE_len]; have := cnt_len l; unfold maxLen; omega) (fun w1 hs => RCount_any26 l hl ao ac w1 (hs.rd 1 rfl)) fun lo lc => ?_
  rw [← hL]
  ((try refine sx_use ?_); (repeat (refine SxNew.mk fun _ => ?_; (try refine sx_use ?_))))
  refine SxCode.loop (σ := Nat × List Ck × Option Addr × Nat) [5, 4] [10, 11, 12, 13, 16, 17, 6, 18, 19, 20, 21, 22, 23, 24, 25, 26, 27, 28, 29, 30, 31, 32, 33, 34, 35, 36, 37, 38, 7, 39, 40, 41, 42, 43, 44, 45, 46, 47, 48, 49, 50, 4, 14, 15, 5] (fun x => [.int .i64 (x.1 : Nat), .slice x.2.2.1 x.2.1.length x.2.2.2]) (fun x => [.row x.2.2.1 x.2.1.length x.2.2.2 34 35 (ckE.fl x.2.1), .rd lo (ckE.fl L)]) (fun x => x.1 ≤ L.length ∧ x.2.1.length = x.1 ∧ x.2.1.Pairwise ltC ∧ ∀ z, z ∈ x.2.1 ↔ z ∈ L.take x.1) (fun x => L.length - x.1) (0, [], none, 0) [1, 0] rfl rfl rfl rfl ⟨Nat.zero_le _, rfl, List.Pairwise.nil, fun z => by simp⟩ ?_
  rintro ⟨i, o, oo, oc⟩ ⟨hi, hol, hop, hom⟩
  dsimp only at hi hol hop hom ⊢
  refine sx_base 0 rfl fun hoo hoc => ?_
  by_cases hlt : i < L.length
  · obtain ⟨x, hx⟩ : ∃ x, L[i]? = some x := ⟨L[i], by simp [hlt]⟩
    have hxo : ∀ y ∈ o, y ≠ x := fun y hy e => by
      have h1 := (hom y).1 hy
      obtain ⟨j, hj⟩ := List.getElem?_of_mem h1
      rw [List.getElem?_take] at hj
      split at hj
      · rename_i hji
        rw [e] at hj
        obtain ⟨a1, a2⟩ := List.getElem?_eq_some_iff.1 hj
        obtain ⟨b1, b2⟩ := List.getElem?_eq_some_iff.1 hx
        have := nodup_idx hLn a2 b2
        omega
      · cases hj
    ((try refine sx_use ?_); (repeat (refine SxNew.mk fun _ => ?_; (try refine sx_use ?_))))
    refine SxCode.loop (σ := Nat) [6] [18, 19, 20, 21, 22, 23, 24, 25, 26, 27, 28, 29, 30, 31, 32, 33, 6] (fun k => [.int .i64 (k : Nat)]) (fun _ => [.row oo o.length oc 34 35 (ckE.fl o), .rd lo (ckE.fl L)]) (fun k => k ≤ o.length ∧ ∀ j y, k ≤ j → o[j]? = some y → ltC x y) (fun k => k) o.length [0, 1] rfl rfl rfl rfl ⟨Nat.le_refl _, fun j y hj hy => by have := (List.getElem?_eq_some_iff.1 hy).1; omega⟩ ?_
    rintro k ⟨hk, hall⟩
    by_cases hcont : ∃ y, 0 < k ∧ o[k - 1]? = some y ∧ ltC x y
    · obtain ⟨y, hk0, hy, hxy⟩ := hcont
      obtain ⟨g, rfl⟩ := hoo (by omega)
      ((try refine sx_use ?_); (repeat (refine SxNew.mk fun _ => ?_; (try refine sx_use ?_))))
      refine SxCode.drawAll rfl [] ?_
      ((try refine sx_use ?_); (repeat (refine SxNew.mk fun _ => ?_; (try refine sx_use ?_))))
      refine SxIA.rd 1 _ rfl i rfl hlt (by rw [ckE_len]; omega) fun gi off ha => ?_
      ((try refine sx_use ?_); (repeat (refine SxNew.mk fun _ => ?_; (try refine sx_use ?_))))
      refine SxLdN.rd 1 rfl ha rfl (vs := ckC x) (ckC_len x) (ckE_at hx) ?_
      ((try refine sx_use ?_); (repeat (refine SxNew.mk fun _ => ?_; (try refine sx_use ?_))))
      refine SxIA.row 0 _ _ _ rfl (k - 1) (by omega) (by omega) fun g' hg' => ?_
      obtain rfl : g = g' := by simpa using hg'
      ((try refine sx_use ?_); (repeat (refine SxNew.mk fun _ => ?_; (try refine sx_use ?_))))
      refine SxLdN.row 0 rfl rfl (j := (k - 1) * 35) rfl (vs := ckC y) (ckC_len y) (ckE_at hy) ?_
      ((try refine sx_use ?_); (repeat (refine SxNew.mk fun _ => ?_; (try refine sx_use ?_))))
      refine SxCall.quiet (v := .bool true) (fun w1 => by
        have h := RLessC_any x y w1
        rw [show ltbC x y = true from decide_eq_true hxy] at h
        exact h) ?_
      ((try refine sx_use ?_); (repeat (refine SxNew.mk fun _ => ?_; (try refine sx_use ?_))))
      refine SxRound.mk (k - 1) [0, 1] (by first | rfl | (show some [Value.int .i64 ((k : Nat) - 1)] = some [Value.int .i64 ((k - 1 : Nat) : Int)]; congr 3; omega)) rfl rfl ⟨by omega, fun j z hj hz => ?_⟩ (by omega)
      by_cases hjk : j = k - 1
      · subst hjk
        rw [hy] at hz
        exact Option.some.inj hz ▸ hxy
      · exact hall j z (by omega) hz
    · have hbd : ∀ y, 0 < k → o[k - 1]? = some y → ¬ ltC x y := fun y h1 h2 h3 => hcont ⟨y, h1, h2, h3⟩
      have hnew := ins_strict hop hk hxo hall hbd
      have hlen : (o.take k ++ ([x] ++ o.drop k)).length = i + 1 := by rw [List.length_append, List.length_append, List.length_take, List.length_drop]; simp; omega
      have hmem : ∀ z, z ∈ o.take k ++ ([x] ++ o.drop k) ↔ z ∈ L.take (i + 1) := fun z => by
        rw [ins_mem, take_snocE hx, List.mem_append, hom, List.mem_singleton]
      clear hcont
      rcases Nat.eq_zero_or_pos k with hk0 | hk0
      case' inl =>
        ((try refine sx_use ?_); (repeat (refine SxNew.mk fun _ => ?_; (try refine sx_use ?_))))
        (try refine SxCode.drawAll rfl [] ?_)
        (try ((try refine sx_use ?_); (repeat (refine SxNew.mk fun _ => ?_; (try refine sx_use ?_)))))
      case' inr =>
        obtain ⟨y, hy⟩ : ∃ y, o[k - 1]? = some y := ⟨o[k - 1]'(by omega), by simp [show k - 1 < o.length by omega]⟩
        have hnl := hbd y hk0 hy
        obtain ⟨g, rfl⟩ := hoo (by omega)
        ((try refine sx_use ?_); (repeat (refine SxNew.mk fun _ => ?_; (try refine sx_use ?_))))
        refine SxCode.drawAll rfl [] ?_
        ((try refine sx_use ?_); (repeat (refine SxNew.mk fun _ => ?_; (try refine sx_use ?_))))
        refine SxIA.rd 1 _ rfl i rfl hlt (by rw [ckE_len]; omega) fun gi off ha => ?_
        ((try refine sx_use ?_); (repeat (refine SxNew.mk fun _ => ?_; (try refine sx_use ?_))))
        refine SxLdN.rd 1 rfl ha rfl (vs := ckC x) (ckC_len x) (ckE_at hx) ?_
        ((try refine sx_use ?_); (repeat (refine SxNew.mk fun _ => ?_; (try refine sx_use ?_))))
        refine SxIA.row 0 _ _ _ rfl (k - 1) (by omega) (by omega) fun g' hg' => ?_
        obtain rfl : g = g' := by simpa using hg'
        ((try refine sx_use ?_); (repeat (refine SxNew.mk fun _ => ?_; (try refine sx_use ?_))))
        refine SxLdN.row 0 rfl rfl (j := (k - 1) * 35) rfl (vs := ckC y) (ckC_len y) (ckE_at hy) ?_
        ((try refine sx_use ?_); (repeat (refine SxNew.mk fun _ => ?_; (try refine sx_use ?_))))
        refine SxCall.quiet (v := .bool false) (fun w1 => by
          have h := RLessC_any x y w1
          rw [show ltbC x y = false from decide_eq_false hnl] at h
          exact h) ?_
        ((try refine sx_use ?_); (repeat (refine SxNew.mk fun _ => ?_; (try refine sx_use ?_))))
      all_goals
        refine SxBnd.mk 0 k rfl rfl (by omega) (by omega) fun o1 a1 a2 => ?_
        ((try refine sx_use ?_); (repeat (refine SxNew.mk fun _ => ?_; (try refine sx_use ?_))))
        refine SxApp.from_ 0 rfl (vs := ckE.fl (o.take k)) (fun W M w hs => by
          have h8 := (hs.rowRd 1 rfl (by rw [ckE_len]; unfold maxLen; omega)).sub (ao' := o1) 0 (k * 35) (fun hz => by
            rw [ckE_len] at hz
            exact a1 (by omega))
          have h9 := ckE.fl_take o k
          rw [List.drop_zero, show (ckE.fl o).take (k * 35) = _ from h9] at h8
          exact h8) (by rw [ckE_len, List.length_take, Nat.min_eq_left (by omega)]; rfl) (ckE.fl_allOne _) (by unfold maxLen; omega) (by omega) (cs' := ckE.fl (o.take k)) rfl fun x1 c1 => ?_
        ((try refine sx_use ?_); (repeat (refine SxNew.mk fun _ => ?_; (try refine sx_use ?_))))
        refine SxIA.rd 2 _ rfl i rfl hlt (by rw [ckE_len]; omega) fun gi off ha => ?_
        ((try refine sx_use ?_); (repeat (refine SxNew.mk fun _ => ?_; (try refine sx_use ?_))))
        refine SxLdN.rd 2 rfl ha rfl (vs := ckC x) (ckC_len x) (ckE_at hx) ?_
        ((try refine sx_use ?_); (repeat (refine SxNew.mk fun _ => ?_; (try refine sx_use ?_))))
        refine SxFill.one rfl (ckC_len x) ?_
        ((try refine sx_use ?_); (repeat (refine SxNew.mk fun _ => ?_; (try refine sx_use ?_))))
        refine SxApp.mk 1 rfl 0 (.inr (.inr (.inr ⟨by decide, _, rfl⟩))) (vs := ckC x) (m := 1) (by rw [ckC_len]) (ckC_one x) (by unfold maxLen; omega) (by omega) (cs' := ckE.fl (o.take k ++ [x])) (by rw [ckE.fl_append, ckE.fl_one]; rfl) fun x2 c2 => ?_
        ((try refine sx_use ?_); (repeat (refine SxNew.mk fun _ => ?_; (try refine sx_use ?_))))
        refine SxBnd.mk k o.length rfl rfl (by omega) (by omega) fun o2 b1 b2 => ?_
        ((try refine sx_use ?_); (repeat (refine SxNew.mk fun _ => ?_; (try refine sx_use ?_))))
        refine SxApp.from_ 1 rfl (vs := ckE.fl (o.drop k)) (fun W M w hs => by
          have h8 := (hs.rowRd 2 rfl (by rw [ckE_len]; unfold maxLen; omega)).sub (ao' := o2) (k * 35) (o.length * 35) (fun hz => by
            rw [ckE_len] at hz
            exact b1 (by omega))
          have h9 := ckE.fl_drop o k
          rw [show (ckE.fl o).drop (k * 35) = _ from h9, List.take_of_length_le (by rw [ckE_len, List.length_drop]; omega)] at h8
          exact h8) (by rw [ckE_len, List.length_drop]) (ckE.fl_allOne _) (by unfold maxLen; omega) (by omega) (cs' := ckE.fl (o.take k ++ ([x] ++ o.drop k))) (by rw [← ckE.fl_append, List.append_assoc]) fun x3 c3 => ?_
        ((try refine sx_use ?_); (repeat (refine SxNew.mk fun _ => ?_; (try refine sx_use ?_))))
        exact SxRound.mk (i + 1, o.take k ++ ([x] ++ o.drop k), x3, c3) [1, 3] (by dsimp only; rw [hlen, show 0 + (k - 0) + 1 + (o.length - k) = i + 1 by omega]; rfl) (by dsimp only; rw [hlen, show 0 + (k - 0) + 1 + (o.length - k) = i + 1 by omega]; rfl) rfl ⟨hlt, hlen, hnew, hmem⟩ (by first | omega | (dsimp only; omega))
  · obtain rfl : i = L.length := by omega
    have hs2 : o = srt l := by
      refine strict_ext ltC_ord hop (srt_strict l) fun z => ?_
      rw [hom, List.take_length, srt_mem, hL]
    rw [← hs2]
    ((try refine sx_use ?_); (repeat (refine SxNew.mk fun _ => ?_; (try refine sx_use ?_))))
    exact SxDone.mk fun w' hs => ⟨oo, oc, rfl, hs.newRow 0 rfl⟩
end Go.Proofs.Ytdififdnnpgjoaa
