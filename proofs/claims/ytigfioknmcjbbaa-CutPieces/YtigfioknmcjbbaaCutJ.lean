/- Plain: chunks are parts of the text, and how great they are. The walks over the document's Split and the package's All and Left. -/
import Derived.Test.YtigfioknmcjbbaaCutI
namespace Go.Proofs.Ytigfioknmcjbbaa
open Go.RowKit

theorem firstM_ge (k : Conf4) (l : List UInt8) (m : Nat) (h : firstM k l m ≠ 0) : k.mn ≤ firstM k l m := by
  induction m with
  | zero => simp [firstM] at h
  | succ m ih =>
    simp only [firstM] at h ⊢
    split at h
    · rename_i h1; rw [if_pos h1]; exact ih h1
    · rename_i h1
      rw [if_neg h1]
      split at h
      · rename_i h2; rw [if_pos h2]; exact h2.1
      · exact absurd rfl h
theorem lastB_ge (k : Conf4) (l : List UInt8) (m : Nat) (h : lastB k l m ≠ 0) : k.mn ≤ lastB k l m := by
  induction m with
  | zero => simp [lastB] at h
  | succ m ih =>
    simp only [lastB] at h ⊢
    split at h
    · rename_i h1; rw [if_pos h1]; exact h1.1
    · rename_i h1; rw [if_neg h1]; exact ih h
theorem cutN_bd (k : Conf4) (hk : k.ok) (l : List UInt8) (h : 0 < cutN k l) : k.mn ≤ cutN k l ∧ cutN k l ≤ k.mx := by
  have h1 := firstM_le k l (min l.length k.mx)
  have h2 := lastB_le k l k.mx
  have h3 := firstM_ge k l (min l.length k.mx)
  have h4 := lastB_ge k l k.mx
  have h5 := hk.2.1
  unfold cutN at h ⊢
  split
  · rename_i h6; have := h3 h6; omega
  · rename_i h6
    rw [if_neg h6] at h
    split
    · rename_i h7; rw [if_pos h7] at h; omega
    · split
      · rename_i h8; have := h4 h8; omega
      · omega
theorem cutN_short (k : Conf4) (hk : k.ok) (l : List UInt8) (h : cutN k l = 0) : l.length < k.mx := by
  have h5 := hk.2.1; have h6 := hk.1
  unfold cutN at h
  split at h
  · omega
  · split at h
    · assumption
    · split at h <;> omega
theorem cutN_app (k : Conf4) (l r : List UInt8) (h : 0 < cutN k l) : cutN k (l ++ r) = cutN k l := by
  by_cases h1 : firstM k l (min l.length k.mx) ≠ 0
  · have h2 : cutN k l = firstM k l (min l.length k.mx) := by unfold cutN; rw [if_pos h1]
    have h3 : firstM k (l ++ r) (min l.length k.mx) = firstM k l (min l.length k.mx) := firstM_app k l r _ (by omega)
    have h4 := firstM_stay k (l ++ r) (min l.length k.mx) (min (l ++ r).length k.mx) (by rw [h3]; exact h1) (by rw [List.length_append]; omega)
    rw [h2]
    unfold cutN
    rw [h4, h3, if_pos h1]
  · have h2 : ¬ l.length < k.mx := by
      intro h2
      unfold cutN at h
      rw [if_neg h1, if_pos h2] at h
      omega
    have e1 : min l.length k.mx = k.mx := by omega
    have e2 : min (l ++ r).length k.mx = k.mx := by rw [List.length_append]; omega
    unfold cutN
    rw [e1] at h1 ⊢
    rw [e2, firstM_app k l r _ (by omega), lastB_app k l r _ (by omega), if_neg h1, if_neg h1, if_neg h2, if_neg (by rw [List.length_append]; omega)]
/-- s is these, one behind the other. -/
inductive Parts : ByteArray → List ByteArray → Prop
  | nil {s : ByteArray} : s.size = 0 → Parts s []
  | cons {s : ByteArray} {n : Nat} {cs : List ByteArray} : n ≤ s.size → Parts (s.extract n s.size) cs → Parts s (s.extract 0 n :: cs)
theorem Falls.parts {k : Conf4} {s r : ByteArray} {cs : List ByteArray} (h : Falls k s cs r) : Parts s (cs ++ lastOf r) := by
  induction h with
  | @nil s hz =>
    rw [List.nil_append]
    unfold lastOf
    split
    · exact .nil (by assumption)
    · have := Parts.cons (s := s) (n := s.size) (cs := []) (Nat.le_refl _) (.nil (by simp))
      rw [extract_all] at this
      exact this
  | @cons s cs r hp h ih =>
    have := cutN_le k s.data.toList
    have hl : s.data.toList.length = s.size := by simp
    exact .cons (by omega) ih
theorem Whole.falls {k : Conf4} {s : ByteArray} {cs : List ByteArray} (h : Whole k s cs) : ∃ c0 r, Falls k s c0 r ∧ cs = c0 ++ lastOf r := by
  obtain ⟨c0, r, h1, h2, rfl⟩ := h
  have := h1.falls [] r (.nil h2)
  rw [List.append_nil] at this
  exact ⟨c0, r, this, rfl⟩
theorem Whole.parts {k : Conf4} {s : ByteArray} {cs : List ByteArray} (h : Whole k s cs) : Parts s cs := by
  obtain ⟨c0, r, h1, rfl⟩ := h.falls
  exact h1.parts
theorem Falls.whole {k : Conf4} {s r : ByteArray} {cs : List ByteArray} (h : Falls k s cs r) : ∀ {s0 c0}, Cuts k s0 c0 s → Whole k s0 (c0 ++ cs ++ lastOf r) := by
  induction h with
  | nil hz => intro s0 c0 hc; rw [List.append_nil]; exact ⟨_, _, hc, hz, rfl⟩
  | cons hp h ih => intro s0 c0 hc; have := ih (hc.snoc hp); rw [List.append_assoc c0] at this; exact this
theorem Cuts.sized {k : Conf4} (hk : k.ok) {s r : ByteArray} {cs : List ByteArray} (h : Cuts k s cs r) : ∀ x ∈ cs, 1 ≤ x.size ∧ k.mn ≤ x.size ∧ x.size ≤ k.mx := by
  induction h with
  | nil => simp
  | @snoc cs r h hn ih =>
    intro x hx
    rw [List.mem_append] at hx
    rcases hx with hx | hx
    · exact ih x hx
    · simp only [List.mem_singleton] at hx
      subst hx
      have h1 := cutN_bd k hk _ hn
      have h2 := cutN_le k r.data.toList
      have hl : r.data.toList.length = r.size := by simp
      have : (r.extract 0 (cutN k r.data.toList)).size = cutN k r.data.toList := by simp; omega
      omega
theorem Whole.sized {k : Conf4} (hk : k.ok) {s : ByteArray} {cs : List ByteArray} (h : Whole k s cs) (i : Nat) (hi : i < cs.length) : 1 ≤ (cs.getD i { data := #[] }).size ∧ (cs.getD i { data := #[] }).size ≤ k.mx ∧ (i + 1 < cs.length → k.mn ≤ (cs.getD i { data := #[] }).size) := by
  obtain ⟨c0, r, h1, h2, rfl⟩ := h
  have hl : lastOf r = [] ∧ r.size = 0 ∨ lastOf r = [r] ∧ 0 < r.size := by
    by_cases h : r.size = 0
    · exact .inl ⟨if_pos h, h⟩
    · exact .inr ⟨if_neg h, by omega⟩
  have hs := h1.sized hk
  by_cases hc : i < c0.length
  · have : (c0 ++ lastOf r).getD i { data := #[] } = c0[i] := by
      rw [List.getD_eq_getElem?_getD, List.getElem?_append_left hc, List.getElem?_eq_getElem hc]; rfl
    rw [this]
    have := hs c0[i] (List.getElem_mem hc)
    exact ⟨this.1, this.2.2, fun _ => this.2.1⟩
  · rcases hl with ⟨hl, h0⟩ | ⟨hl, h0⟩
    · rw [hl] at hi; simp at hi; omega
    · rw [hl] at hi ⊢
      simp at hi
      obtain rfl : i = c0.length := by omega
      have : (c0 ++ [r]).getD c0.length { data := #[] } = r := by
        rw [List.getD_eq_getElem?_getD, List.getElem?_append_right (Nat.le_refl _)]; simp
      rw [this]
      have h3 := cutN_short k hk _ h2
      have hl : r.data.toList.length = r.size := by simp
      refine ⟨by omega, by omega, fun h => ?_⟩
      simp at h
theorem map_getD {xs : List ByteArray} {f : ByteArray → Value} (i : Nat) (hi : i < xs.length) : (xs.map f)[i]? = some (f (xs.getD i { data := #[] })) := by
  rw [List.getElem?_map, List.getD_eq_getElem?_getD, List.getElem?_eq_getElem hi]
  rfl
theorem take_snocA (xs : List ByteArray) (i : Nat) (hi : i < xs.length) : xs.take (i + 1) = xs.take i ++ [xs.getD i { data := #[] }] := by
  rw [List.take_succ_eq_append_getElem hi, List.getD_eq_getElem?_getD, List.getElem?_eq_getElem hi]
  rfl
theorem parts_at {s : ByteArray} {cs : List ByteArray} {i : Nat} (h : Parts s (cs.drop i)) (hi : i < cs.length) : ∃ n, n ≤ s.size ∧ cs.getD i { data := #[] } = s.extract 0 n ∧ (cs.getD i { data := #[] }).size = n ∧ Parts (s.extract n s.size) (cs.drop (i + 1)) := by
  rw [List.drop_eq_getElem_cons hi] at h
  have he : cs.getD i { data := #[] } = cs[i] := by rw [List.getD_eq_getElem?_getD, List.getElem?_eq_getElem hi]; rfl
  generalize hx : cs[i] = x at h he
  generalize cs.drop (i + 1) = ds at h
  cases h with
  | cons hn hp => exact ⟨_, hn, he, by rw [he]; simp; omega, hp⟩
theorem Split_whole (c : Nat → Int) (k : Conf4) (hk : k.ok) (hc : conf_is c k) (hm : mayC c = true) (s : ByteArray) (hs : s.size ≤ 1000000) (w : World) :
    Calls Try.prog 14 #[.string s, confA c] w fun e w' => ∃ v cs, e = .returned v ∧ Whole k s cs ∧ w'.ownsRow w.heap.size 9 1 v cs.length (cs.map .string) ∧ Below w.heap.size w w' := by
  refine (Split_any c k hk hc hm s hs w).mono ?_
  rintro e w' ⟨v, cs, r, rfl, h1, h2, h3, h4⟩
  exact ⟨v, _, rfl, ⟨cs, r, h1, h2, rfl⟩, h3, h4⟩
set_option maxHeartbeats 4000000 in
theorem RSplit_any (c : Nat → Int) (k : Conf4) (hk : k.ok) (hc : conf_is c k) (hm : mayC c = true) (s : ByteArray) (hs : s.size ≤ 1000000) (w : World) :
    Calls Try.prog 21 #[.string s, confA c] w fun e w' => ∃ v cs, e = .returned v ∧ Whole k s cs ∧ w'.ownsRow w.heap.size 9 1 v cs.length (cs.map .string) ∧ Below w.heap.size w w' := by
  unfold confA
  go_enter Try.func21, Try.ntmps21
  go_wp2_with (with_reducible refine wpList_box_tab (o := ⟨some 3, _, _, _, _, _⟩) rfl 23 _ rfl 13 (confV c) rfl ?_)
  intro w1 hb1 hbel1 hsz1
  go_wp2_with (first
    | (with_reducible refine wpList_load_tab (o := ⟨some 9, _, _, _, _, _⟩) rfl 23 _ rfl w.heap.size 23 rfl 13 (confV c) _ hb1 rfl rfl (by kernel_rfl) ?_)
    | (go_at_call 31; refine (RAll_cut c k hk hc hm s hs _).mono ?_; rintro e w2 ⟨v, cs, rfl, hwh, hown, hbel2⟩; obtain ⟨ao, cap, rfl, hrd, hrl⟩ := Rd.of_owns hown))
  have hbel := kp_step hbel1 hbel2
  have hlen := hwh.len
  have hparts := hwh.parts
  have HR := Go.Lib.hid hrd; have HW := Go.Lib.hid hwh; have HBEL := Go.Lib.hid hbel
  obtain ⟨B, hB⟩ : ∃ B, w2.heap.size = B := ⟨_, rfl⟩
  have hg2 : w.heap.size ≤ B := by have := hbel.size; omega
  have HBB := Go.Lib.hid hB
  clear hB hrd hwh hown hbel hbel1 hbel2 hb1 hrl
  go_loopw [0, 5, 7] (fun sv v i wr => ∃ (j : Nat) (r : ByteArray), j ≤ cs.length ∧ i = .int .i64 j ∧ sv = .string r ∧ Parts r (cs.drop j) ∧ r.size ≤ s.size ∧ wr.ownsRow B 9 1 v j ((cs.map .string).take j) ∧ Below B w2 wr) (fun _ _ i _ => cs.length - (intOf i).toNat)
  case atStart => exact ⟨0, s, Nat.zero_le _, rfl, rfl, hparts, Nat.le_refl _, World.ownsRow_nil _ _ _ _, by rw [← HBB.out]; exact Below.refl _ _⟩
  case round =>
    obtain ⟨j, r, hj, rfl, rfl, hp, hrs, hown, hbw⟩ := hrel
    clear hparts
    by_cases hlt : j < cs.length
    · obtain ⟨ga, oa, rfl, hga, hca⟩ := HR.out.2 (by rw [List.length_map]; omega)
      have hgB : ga < B := by rw [← HBB.out]; exact hga
      obtain ⟨n, hn, he, hse, hp2⟩ := parts_at hp hlt
      have hn' : (cs.map szV)[j]? = some (.int .i64 (n : Nat)) := by rw [map_getD j hlt, szV, hse]
      have h0 := hca j (by rw [List.length_map]; exact hlt)
      rw [hn'] at h0
      have h1 : wr.cell? ⟨ga, oa + j, none⟩ = some (.int .i64 (n : Nat)) := by rw [hbw.cell (p := ⟨ga, oa + j, none⟩) hgB]; exact h0
      have H0 := Go.Lib.hid h0; clear h0
      have hts := take_snocA cs j hlt
      rw [he] at hts
      have hxs := extract_size r n hn
      have hBr : B ≤ wr.heap.size := by have := hbw.size; have := HBB.out; omega
      have HT := Go.Lib.hid hts; have HO := Go.Lib.hid hown; have HP := Go.Lib.hid hp2; have HX := Go.Lib.hid hxs
      clear hca he hse hn' hts hown hp hp2 hxs
      go_wp2_with (first
        | (at_builtin; refine wpList_append_one _ rfl _ _ 29 rfl B 9 (.string { data := #[] }) 16 Try.underlying29 (by kernel_rfl) rfl _ j _ rfl HO.out (.string (r.extract 0 n)) rfl rfl (by unfold maxLen; omega) (by omega) hBr ?_))
      intro v' w5 hown5 hbel5 _
      have hk5 := hbw.trans hbel5
      have h5 : w5.cell? ⟨ga, oa + j, none⟩ = some (.int .i64 (n : Nat)) := by rw [hk5.cell (p := ⟨ga, oa + j, none⟩) hgB]; exact H0.out
      clear hbel5 h1
      go_wp2_with fail
      go_roundw
      case rel => exact ⟨j + 1, r.extract n r.size, by omega, by go_num, by simp, HP.out, by rw [HX.out]; omega, by rw [← List.map_take, HT.out, List.map_append, List.map_take]; exact hown5, hk5⟩
      case measure => simp [intOf]; omega
    · obtain rfl : j = cs.length := by omega
      rw [List.take_of_length_le (by simp)] at hown
      go_wp2_with fail
      go_ret
      exact ⟨_, cs, rfl, HW.out, owns_base hown hg2, HBEL.out.trans (hbw.mono hg2)⟩
set_option maxHeartbeats 4000000 in
theorem All_cut (c : Nat → Int) (k : Conf4) (hk : k.ok) (hc : conf_is c k) (hm : mayC c = true) (s : ByteArray) (hs : s.size ≤ 1000000) (w : World) :
    Calls Try.prog 22 #[.string s, confA c] w fun e w' => ∃ v cs, e = .returned v ∧ Whole k s cs ∧ w'.ownsRow w.heap.size 3 1 v cs.length (cs.map szV) ∧ Below w.heap.size w w' := by
  unfold confA
  go_enter Try.func22, Try.ntmps22
  go_wp2_with (with_reducible refine wpList_box_tab (o := ⟨some 3, _, _, _, _, _⟩) rfl 23 _ rfl 13 (confV c) rfl ?_)
  intro w1 hb1 hbel1 hsz1
  go_wp2_with (first
    | (with_reducible refine wpList_load_tab (o := ⟨some 9, _, _, _, _, _⟩) rfl 23 _ rfl w.heap.size 23 rfl 13 (confV c) _ hb1 rfl rfl (by kernel_rfl) ?_)
    | (go_at_call 14; refine (Split_whole c k hk hc hm s hs _).mono ?_; rintro e w2 ⟨v, cs, rfl, hwh, hown, hbel2⟩; obtain ⟨ao, cap, rfl, hrd, hrl⟩ := Rd.of_owns hown))
  have hbel := kp_step hbel1 hbel2
  have hlen := hwh.len
  have HR := Go.Lib.hid hrd; have HW := Go.Lib.hid hwh; have HBEL := Go.Lib.hid hbel
  obtain ⟨B, hB⟩ : ∃ B, w2.heap.size = B := ⟨_, rfl⟩
  have hg2 : w.heap.size ≤ B := by have := hbel.size; omega
  have HBB := Go.Lib.hid hB
  clear hB hrd hwh hown hbel hbel1 hbel2 hb1 hrl
  go_loopw [5, 12] (fun v i wr => ∃ j : Nat, j ≤ cs.length ∧ i = .int .i64 j ∧ wr.ownsRow B 3 1 v j ((cs.map szV).take j) ∧ Below B w2 wr) (fun _ i _ => cs.length - (intOf i).toNat)
  case atStart => exact ⟨0, Nat.zero_le _, rfl, World.ownsRow_nil _ _ _ _, by rw [← HBB.out]; exact Below.refl _ _⟩
  case round =>
    obtain ⟨j, hj, rfl, hown, hbw⟩ := hrel
    by_cases hlt : j < cs.length
    · obtain ⟨ga, oa, rfl, hga, hca⟩ := (HR.out.kept (show Below w2.heap.size w2 wr by rw [HBB.out]; exact hbw)).2 (by rw [List.length_map]; omega)
      have h1 := hca j (by rw [List.length_map]; exact hlt)
      rw [map_getD j hlt] at h1
      have hts := take_snocA cs j hlt
      have HT := Go.Lib.hid hts; have HO := Go.Lib.hid hown
      have hBr : B ≤ wr.heap.size := by have := hbw.size; have := HBB.out; omega
      clear hca hts hown
      generalize cs.getD j { data := #[] } = x at h1 HT
      go_wp2_with (first
        | (at_builtin; refine wpList_append_one _ rfl _ _ 42 rfl B 3 (.int .i64 0) 8 Try.underlying42 (by kernel_rfl) rfl _ j _ rfl HO.out (szV x) rfl rfl (by unfold maxLen; omega) (by omega) hBr ?_))
      intro v' w5 hown5 hbel5 _
      have hk5 := hbw.trans hbel5
      clear hbel5
      go_wp2_with fail
      go_roundw
      case rel => exact ⟨j + 1, by omega, by go_num, by rw [← List.map_take, HT.out, List.map_append, List.map_take]; exact hown5, hk5⟩
      case measure => simp [intOf]; omega
    · obtain rfl : j = cs.length := by omega
      rw [List.take_of_length_le (by simp)] at hown
      go_wp2_with fail
      go_ret
      exact ⟨_, cs, rfl, HW.out, owns_base hown hg2, HBEL.out.trans (hbw.mono hg2)⟩
set_option maxHeartbeats 1000000 in
theorem Left_any (g gr : Nat) (c : Nat → Int) (s : ByteArray) (at_ back : Nat) (l : List UInt8) (w : World) (hst : CutS w g gr c s at_ back l) :
    Calls Try.prog 19 #[.pointer (some ⟨g, 0, none⟩)] w fun e w' => e = .returned (.int .i64 (s.size : Nat)) ∧ w = w' := by
  have cLeft : w.cell? ⟨g, 14, none⟩ = some (.string s) := hst.1.at 14 (by omega)
  go_enter Try.func19, Try.ntmps19
  go_wp2_with (go_at_call 29; refine (made_any g gr c s at_ back l _ hst).mono ?_; rintro e w1 ⟨rfl, rfl⟩)
  go_ret
  exact ⟨rfl, rfl⟩
end Go.Proofs.Ytigfioknmcjbbaa
