/- Plain: the chunks of a whole text are told by the text. The walks over the document's All and Done. -/
import Derived.Test.YtigfioknmcjbbaaCutH
namespace Go.Proofs.Ytigfioknmcjbbaa
open Go.RowKit

/-- All chunks of s. -/
def Whole (k : Conf4) (s : ByteArray) (cs : List ByteArray) : Prop := ∃ c0 r, Cuts k s c0 r ∧ cutN k r.data.toList = 0 ∧ cs = c0 ++ lastOf r
inductive Falls (k : Conf4) : ByteArray → List ByteArray → ByteArray → Prop
  | nil {s : ByteArray} : cutN k s.data.toList = 0 → Falls k s [] s
  | cons {s : ByteArray} {cs : List ByteArray} {r : ByteArray} : 0 < cutN k s.data.toList → Falls k (s.extract (cutN k s.data.toList) s.size) cs r → Falls k s (s.extract 0 (cutN k s.data.toList) :: cs) r
theorem Cuts.falls {k : Conf4} {s r : ByteArray} {cs : List ByteArray} (h : Cuts k s cs r) : ∀ cs' r', Falls k r cs' r' → Falls k s (cs ++ cs') r' := by
  induction h with
  | nil => intro cs' r' hf; exact hf
  | snoc h hn ih =>
    intro cs' r' hf
    rw [List.append_assoc]
    exact ih _ _ (.cons hn hf)
theorem Falls.det {k : Conf4} {s r : ByteArray} {cs : List ByteArray} (h : Falls k s cs r) : ∀ {cs' r'}, Falls k s cs' r' → cs = cs' ∧ r = r' := by
  induction h with
  | nil hz =>
    intro cs' r' hf
    cases hf with
    | nil => exact ⟨rfl, rfl⟩
    | cons hp _ => omega
  | cons hp h ih =>
    intro cs' r' hf
    cases hf with
    | nil hz => omega
    | cons _ hf => exact ⟨by rw [(ih hf).1], (ih hf).2⟩
theorem Cuts.det {k : Conf4} {s r r' : ByteArray} {cs cs' : List ByteArray} (h : Cuts k s cs r) (hz : cutN k r.data.toList = 0) (h' : Cuts k s cs' r') (hz' : cutN k r'.data.toList = 0) : cs = cs' ∧ r = r' := by
  have a := h.falls [] r (.nil hz)
  have b := h'.falls [] r' (.nil hz')
  rw [List.append_nil] at a b
  exact a.det b
theorem Whole.det {k : Conf4} {s : ByteArray} {cs cs' : List ByteArray} (h : Whole k s cs) (h' : Whole k s cs') : cs = cs' := by
  obtain ⟨c0, r, h1, h2, rfl⟩ := h
  obtain ⟨c1, r1, h3, h4, rfl⟩ := h'
  obtain ⟨rfl, rfl⟩ := h1.det h2 h3 h4
  rfl
theorem Whole.len {k : Conf4} {s : ByteArray} {cs : List ByteArray} (h : Whole k s cs) : cs.length ≤ s.size := by
  obtain ⟨c0, r, h1, h2, rfl⟩ := h
  have := h1.len
  unfold lastOf
  split <;> simp <;> omega
theorem cutN_nil (k : Conf4) (hk : k.ok) : cutN k [] = 0 := by
  have := hk.1; have := hk.2.1
  unfold cutN
  simp [firstM]
  omega
def strSz : Value → Nat | .string s => s.size | _ => 0
/-- How far the document's All has come. -/
def AllAt (k : Conf4) (s : ByteArray) (cs : List ByteArray) (r : ByteArray) : Prop :=
  ∃ c0 r0, Cuts k s c0 r0 ∧ ((cs = c0 ∧ r = r0) ∨ (cutN k r0.data.toList = 0 ∧ 0 < r0.size ∧ cs = c0 ++ [r0] ∧ r.size = 0))
theorem AllAt.len {k : Conf4} {s r : ByteArray} {cs : List ByteArray} (h : AllAt k s cs r) : cs.length + r.size ≤ s.size := by
  obtain ⟨c0, r0, h1, ⟨rfl, rfl⟩ | ⟨_, h3, rfl, h5⟩⟩ := h
  · exact h1.len
  · have := h1.len; simp; omega
theorem AllAt.fin {k : Conf4} (hk : k.ok) {s r : ByteArray} {cs : List ByteArray} (h : AllAt k s cs r) (h0 : r.size = 0) : Whole k s cs := by
  obtain ⟨c0, r0, h1, ⟨rfl, rfl⟩ | ⟨h2, h3, rfl, h5⟩⟩ := h
  · refine ⟨cs, r, h1, ?_, ?_⟩
    · rw [size_none r h0]; exact cutN_nil k hk
    · rw [lastOf, if_pos h0, List.append_nil]
  · exact ⟨c0, r0, h1, h2, by rw [lastOf, if_neg (by omega)]⟩
theorem AllAt.cut {k : Conf4} {s r : ByteArray} {cs : List ByteArray} (h : AllAt k s cs r) (h0 : 0 < r.size) (hn : 0 < cutN k r.data.toList) : AllAt k s (cs ++ [r.extract 0 (cutN k r.data.toList)]) (r.extract (cutN k r.data.toList) r.size) := by
  obtain ⟨c0, r0, h1, ⟨rfl, rfl⟩ | ⟨_, h3, rfl, h5⟩⟩ := h
  · exact ⟨_, _, h1.snoc hn, .inl ⟨rfl, rfl⟩⟩
  · omega
theorem AllAt.rest {k : Conf4} {s r : ByteArray} {cs : List ByteArray} (h : AllAt k s cs r) (h0 : 0 < r.size) (hn : cutN k r.data.toList = 0) : AllAt k s (cs ++ [r]) (r.extract r.size r.size) := by
  obtain ⟨c0, r0, h1, ⟨rfl, rfl⟩ | ⟨_, h3, rfl, h5⟩⟩ := h
  · exact ⟨_, _, h1, .inr ⟨hn, h0, rfl, by simp⟩⟩
  · omega
def szV (x : ByteArray) : Value := .int .i64 (x.size : Nat)
set_option maxHeartbeats 4000000 in
theorem RAll_cut (c : Nat → Int) (k : Conf4) (hk : k.ok) (hc : conf_is c k) (hm : mayC c = true) (s : ByteArray) (hs : s.size ≤ 1000000) (w : World) :
    Calls Try.prog 31 #[.string s, confA c] w fun e w' => ∃ v cs, e = .returned v ∧ Whole k s cs ∧ w'.ownsRow w.heap.size 3 1 v cs.length (cs.map szV) ∧ Below w.heap.size w w' := by
  unfold confA
  go_enter Try.func31, Try.ntmps31
  go_wp2_with (with_reducible refine wpList_box_tab (o := ⟨some 3, _, _, _, _, _⟩) rfl 23 _ rfl 13 (confV c) rfl ?_)
  intro w1 hb1 hbel1 hsz1
  go_wp2_with (first
    | (with_reducible refine wpList_load_tab (o := ⟨some 7, _, _, _, _, _⟩) rfl 23 _ rfl w.heap.size 23 rfl 13 (confV c) _ hb1 rfl rfl (by kernel_rfl) ?_)
    | (go_at_call 10; refine (RMay_any c _).mono ?_; rw [hm]; rintro e w2 ⟨rfl, hbel2⟩))
  have hb2 := hb1.kept hbel2
  have hbel := kp_step hbel1 hbel2
  have hg2 := hb2.lt
  obtain ⟨B, hB⟩ : ∃ B, w2.heap.size = B := ⟨_, rfl⟩
  have HBB := Go.Lib.hid hB
  rw [hB] at hg2
  have HB2 := Go.Lib.hid hb2; have HBEL := Go.Lib.hid hbel
  clear hB hb1 hb2 hbel1 hbel2 hbel hsz1
  go_loopw [0, 5] (fun sv v wr => ∃ (cs : List ByteArray) (r : ByteArray), sv = .string r ∧ AllAt k s cs r ∧ wr.ownsRow B 3 1 v cs.length (cs.map szV) ∧ Below B w2 wr) (fun sv _ _ => strSz sv)
  case atStart => exact ⟨[], s, rfl, ⟨[], s, .nil, .inl ⟨rfl, rfl⟩⟩, World.ownsRow_nil _ _ _ _, by rw [← HBB.out]; exact Below.refl _ _⟩
  case round =>
    obtain ⟨cs, r, rfl, hat, hown, hbw⟩ := hrel
    have hlen := hat.len
    have hle := cutN_le k r.data.toList
    have hrs : r.data.toList.length = r.size := by simp
    have hbr : Blk wr w.heap.size 23 (tab 13 (confV c)) := HB2.out.below hbw (by omega)
    have hBr : B ≤ wr.heap.size := by have := hbw.size; have := HBB.out; omega
    by_cases h0 : 0 < r.size
    · obtain ⟨n, hn⟩ : ∃ n, cutN k r.data.toList = n := ⟨_, rfl⟩
      have hnr : n ≤ r.size := by omega
      have hrn : r.size ≤ 1000000 := by omega
      have hcl : cs.length ≤ 1000000 := by omega
      have HA := Go.Lib.hid hat; have HO := Go.Lib.hid hown; have HW := Go.Lib.hid hbw; have HN := Go.Lib.hid hn
      clear hat hown hbw hle hrs hlen
      by_cases hz : n = 0
      · subst hz
        clear hn
        go_wp2_with (first
          | (with_reducible refine wpList_load_tab (o := ⟨some 15, _, _, _, _, _⟩) rfl 23 _ rfl w.heap.size 23 rfl 13 (confV c) _ hbr rfl rfl (by kernel_rfl) ?_)
          | (go_at_call 12; refine (RCut_any c k hk hc hm r hrn _).mono ?_; rw [HN.out]; rintro e w3 ⟨rfl, hbel3⟩)
          | (at_builtin; refine wpList_append_one _ rfl _ _ 42 rfl B 3 (.int .i64 0) 8 Try.underlying42 (by kernel_rfl) rfl _ cs.length _ rfl (owns_kept HO.out hbel3) (szV r) rfl rfl (by unfold maxLen; omega) (by omega) (by have := hbel3.size; omega) ?_))
        intro v' w5 hown5 hbel5 _
        have hk5 := (HW.out.trans (hbel3.mono hBr)).trans hbel5
        clear hbel3 hbel5
        go_wp2_with fail
        go_roundw
        case rel => exact ⟨cs ++ [r], r.extract r.size r.size, by simp, HA.out.rest h0 HN.out, by rw [List.length_append, List.map_append]; exact hown5, hk5⟩
        case measure => simp [strSz]; omega
      · have hzi : ((n : Int) == 0) = false := by rw [beq_eq_false_iff_ne]; omega
        clear hn
        go_wp2_with (first
          | (with_reducible refine wpList_load_tab (o := ⟨some 15, _, _, _, _, _⟩) rfl 23 _ rfl w.heap.size 23 rfl 13 (confV c) _ hbr rfl rfl (by kernel_rfl) ?_)
          | (go_at_call 12; refine (RCut_any c k hk hc hm r hrn _).mono ?_; rw [HN.out]; rintro e w3 ⟨rfl, hbel3⟩)
          | (at_builtin; refine wpList_append_one _ rfl _ _ 42 rfl B 3 (.int .i64 0) 8 Try.underlying42 (by kernel_rfl) rfl _ cs.length _ rfl (owns_kept HO.out hbel3) (.int .i64 (n : Nat)) rfl rfl (by unfold maxLen; omega) (by omega) (by have := hbel3.size; omega) ?_))
        intro v' w5 hown5 hbel5 _
        have hk5 := (HW.out.trans (hbel3.mono hBr)).trans hbel5
        clear hbel3 hbel5
        go_wp2_with fail
        go_roundw
        case rel =>
          have h1 := HA.out.cut h0 (by rw [HN.out]; omega)
          rw [HN.out] at h1
          refine ⟨cs ++ [r.extract 0 n], r.extract n r.size, by simp, h1, ?_, hk5⟩
          rw [List.length_append, List.map_append]
          have hsz : szV (r.extract 0 n) = .int .i64 (n : Nat) := by unfold szV; rw [show (r.extract 0 n).size = n by simp; omega]
          rw [show List.map szV [r.extract 0 n] = [.int .i64 (n : Nat)] by rw [← hsz]; rfl]
          exact hown5
        case measure => simp [strSz]; omega
    · have h00 : r.size = 0 := by omega
      have hfin := hat.fin hk h00
      have HF := Go.Lib.hid hfin
      clear hat h00 hfin
      go_wp2_with fail
      go_ret
      exact ⟨_, cs, rfl, HF.out, owns_base hown (by omega), HBEL.out.trans (hbw.mono (by omega))⟩
set_option maxHeartbeats 4000000 in
theorem Done_any (c : Nat → Int) (k : Conf4) (hk : k.ok) (hc : conf_is c k) (hm : mayC c = true) (s : ByteArray) (hs : s.size ≤ 1000000) (w : World) :
    Calls Try.prog 18 #[.string s, confA c] w fun e w' => ∃ v cs r, e = .returned v ∧ Cuts k s cs r ∧ cutN k r.data.toList = 0 ∧ w'.ownsRow w.heap.size 9 1 v cs.length (cs.map .string) ∧ Below w.heap.size w w' := by
  unfold confA
  go_enter Try.func18, Try.ntmps18
  go_wp2_with (with_reducible refine wpList_box_tab (o := ⟨some 3, _, _, _, _, _⟩) rfl 23 _ rfl 13 (confV c) rfl ?_)
  intro w1 hb1 hbel1 hsz1
  go_wp2_with (first
    | (with_reducible refine wpList_load_tab (o := ⟨some 8, _, _, _, _, _⟩) rfl 23 _ rfl w.heap.size 23 rfl 13 (confV c) _ hb1 rfl rfl (by kernel_rfl) ?_)
    | (go_at_call 12; refine (RCut_any c k hk hc hm s hs _).mono ?_; rintro e w2 ⟨rfl, hbel2⟩))
  have hb2 := hb1.kept hbel2
  have hbel := kp_step hbel1 hbel2
  have hg2 := hb2.lt
  obtain ⟨B, hB⟩ : ∃ B, w2.heap.size = B := ⟨_, rfl⟩
  have HBB := Go.Lib.hid hB
  rw [hB] at hg2
  have HB2 := Go.Lib.hid hb2; have HBEL := Go.Lib.hid hbel
  clear hB hb1 hb2 hbel1 hbel2 hbel hsz1
  go_loopw [0, 5, 6] (fun sv v n wr => ∃ (cs : List ByteArray) (r : ByteArray), sv = .string r ∧ n = .int .i64 (cutN k r.data.toList : Nat) ∧ Cuts k s cs r ∧ wr.ownsRow B 9 1 v cs.length (cs.map .string) ∧ Below B w2 wr) (fun sv _ _ _ => strSz sv)
  case atStart => exact ⟨[], s, rfl, rfl, .nil, World.ownsRow_nil _ _ _ _, by rw [← HBB.out]; exact Below.refl _ _⟩
  case round =>
    obtain ⟨cs, r, rfl, rfl, hat, hown, hbw⟩ := hrel
    have hlen := hat.len
    have hle := cutN_le k r.data.toList
    have hrs : r.data.toList.length = r.size := by simp
    have hbr : Blk wr w.heap.size 23 (tab 13 (confV c)) := HB2.out.below hbw (by omega)
    have hBr : B ≤ wr.heap.size := by have := hbw.size; have := HBB.out; omega
    obtain ⟨n, hn⟩ : ∃ n, cutN k r.data.toList = n := ⟨_, rfl⟩
    have hnr : n ≤ r.size := by omega
    have hrn : r.size ≤ 1000000 := by omega
    have hcl : cs.length ≤ 1000000 := by omega
    have HA := Go.Lib.hid hat; have HO := Go.Lib.hid hown; have HW := Go.Lib.hid hbw; have HN := Go.Lib.hid hn
    simp only [hn]
    clear hat hown hbw hle hrs hlen hn
    by_cases hz : 0 < n
    · have hxs : (r.extract n r.size).size ≤ 1000000 := by rw [extract_size r n hnr]; omega
      have HXS := Go.Lib.hid hxs; clear hxs
      go_wp2_with (first
        | (at_builtin; refine wpList_append_one _ rfl _ _ 29 rfl B 9 (.string { data := #[] }) 16 Try.underlying29 (by kernel_rfl) rfl _ cs.length _ rfl HO.out (.string (r.extract 0 n)) rfl rfl (by unfold maxLen; omega) (by omega) hBr ?_))
      intro v' w5 hown5 hbel5 _
      have hbr5 := hbr.below hbel5 (by omega)
      have hk5 := HW.out.trans hbel5
      have hs5 : B ≤ w5.heap.size := by have := hbel5.size; omega
      clear hbel5
      go_wp2_with (first
        | (with_reducible refine wpList_load_tab (o := ⟨some 13, _, _, _, _, _⟩) rfl 23 _ rfl w.heap.size 23 rfl 13 (confV c) _ hbr5 rfl rfl (by kernel_rfl) ?_)
        | (go_at_call 12; refine (RCut_any c k hk hc hm (r.extract n r.size) HXS.out _).mono ?_; rintro e w6 ⟨rfl, hbel6⟩))
      go_roundw
      case rel =>
        have h1 := HA.out.snoc (by rw [HN.out]; exact hz)
        rw [HN.out] at h1
        refine ⟨cs ++ [r.extract 0 n], r.extract n r.size, by simp, by simp, h1, ?_, hk5.trans (hbel6.mono hs5)⟩
        rw [List.length_append, List.map_append]
        exact owns_kept hown5 hbel6
      case measure => simp [strSz]; omega
    · obtain rfl : n = 0 := by omega
      go_wp2_with fail
      go_ret
      exact ⟨_, cs, r, rfl, HA.out, HN.out, owns_base HO.out (by omega), HBEL.out.trans (HW.out.mono (by omega))⟩
end Go.Proofs.Ytigfioknmcjbbaa
