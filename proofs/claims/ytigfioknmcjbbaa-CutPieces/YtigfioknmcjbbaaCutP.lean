/- The statement CutPieces: the walk. -/
import Derived.Test.YtigfioknmcjbbaaCutO
namespace Go.Proofs.Ytigfioknmcjbbaa
open Go.RowKit

/-- 'append(b, ys...)', b the call's own, ys a slice that is read. -/
theorem wpList_append_rd {P : Program} (w : World) {ops : Array Oper} {rest : List Oper} {o : Oper} {a : Act} {Q : Exit → Act → World → Prop}
    (hgd : o.guard = none) (s x : Operand) (t : TypeId) (hop : o.op = Op.call { callee := Callee.builtin Builtin.append, args := #[s, x], argTypes := #[t, t] })
    (base e : Nat) (z : Value) (bytes : Nat) (ht : P.underlying t = some (.slice e)) (hinf : (P.info? e).map (fun i => (i.zero, i.size, i.bytes)) = some (some z, 1, bytes)) (hz : z.cells.size = 1)
    (v : Value) (n : Nat) (xs : List Value) (hs : a.eval s = v) (hown : w.ownsRow base e 1 v n xs) (ao : Option Addr) (m c : Nat) (ys : List Value) (hx : a.eval x = .slice ao m c) (hm : ys.length = m) (hr : Rd w ao ys) (hc : ao = none → c = 0) (h1 : ∀ u ∈ ys, u.oneCell' = true)
    (h63 : n + m ≤ maxLen) (hbytes : (n + m) * bytes ≤ 140737488355328) (hbase : base ≤ w.heap.size)
    (hK : ∀ v' w', w'.ownsRow base e 1 v' (n + m) (xs ++ ys) → Below base w w' → w.grownBy w' v.ownBlock → wpList P ops Q rest (a.put o.dst v') w') : wpList P ops Q (o :: rest) a w := by
  obtain ⟨i, hi, hz0, hz1, hz2⟩ := info_parts hinf
  have hrow : ∀ k, v.ownBlock = some k → base ≤ k := fun k hk => (hown.lt k hk).1
  cases ao with
  | none =>
    have h0 : ys = [] := by
      cases ys with
      | nil => rfl
      | cons y ys =>
        obtain ⟨g, off, h, _⟩ := hr.2 (by simp)
        simp at h
    subst h0
    obtain rfl : m = 0 := by simpa using hm.symm
    obtain rfl := hc rfl
    refine wpList_append_nil w hgd s x t hop base e z bytes ht hinf v n xs hs hown hx (hK v w ?_ (Below.refl _ _) (World.grownBy.refl w _))
    simpa using hown
  | some ad =>
    refine wpList_append_own w hgd s x t hop base e i z 1 bytes ht hi hz0 hz1 hz2 hz (by omega) v n xs hs hown ad m c ys hx (by omega)
      (fun j y hj => ?_) h1 h63 hbytes hbase ?_
    · have hjl : j < ys.length := (List.getElem?_eq_some_iff.1 hj).1
      obtain ⟨g, off, h, _, h3⟩ := hr.2 (by omega)
      simp only [Option.some.injEq] at h
      subst h
      rw [Addr.add_lit, h3 j hjl]
      exact hj
    · intro v' w' h1 h2 _
      exact hK v' w' h1 ((Below.refl base w).grown h2 hbase hrow) h2
theorem End_gen2 (g gr : Nat) (c : Nat → Int) (s : ByteArray) (hs : s.size ≤ 1000000) (at_ back : Nat) (l : List UInt8) (w : World) (hst : CutS w g gr c s at_ back l) :
    Calls Try.prog 20 #[.pointer (some ⟨g, 0, none⟩)] w fun e w' => ∃ ao n cap at' back' l', e = .returned (.slice ao n cap) ∧ (ao = none → cap = 0) ∧ (lastOf s).length = n ∧ Rd w' ao ((lastOf s).map .string) ∧ CutS w' g gr c { data := #[] } at' back' l' ∧ Keep2 w.heap.size g gr w w' := by
  by_cases h0 : s.size = 0
  · have hl : lastOf s = [] := if_pos h0
    have := size_none s h0
    subst this
    refine (End_no g gr c at_ back l w hst).mono ?_
    rintro e w' ⟨rfl, hb⟩
    exact ⟨none, 0, 0, at_, back, l, rfl, fun _ => rfl, by rw [hl]; rfl, by rw [hl]; exact Rd.empty _ _, hst.below hb hst.1.lt hst.2.1.lt, keep_below hb⟩
  · have hl : lastOf s = [s] := if_neg h0
    refine (End_any g gr c s hs (by omega) at_ back l w hst).mono ?_
    rintro e w' ⟨g2, rfl, hb, _, hst2, hk⟩
    exact ⟨some ⟨g2, 0, none⟩, 1, 1, 0, 0, [], rfl, fun h => by simp at h, by rw [hl]; rfl, by rw [hl]; exact Rd.of_blk hb (by unfold maxLen; simp), hst2, hk⟩
theorem Falls.at_ {k : Conf4} {s r : ByteArray} {cs : List ByteArray} {i : Nat} (h : Falls k s (cs.drop i) r) (hi : i < cs.length) : ∃ n, n ≤ s.size ∧ (cs.getD i { data := #[] }).size = n ∧ Falls k (s.extract n s.size) (cs.drop (i + 1)) r := by
  rw [List.drop_eq_getElem_cons hi] at h
  have he : cs.getD i { data := #[] } = cs[i] := by rw [List.getD_eq_getElem?_getD, List.getElem?_eq_getElem hi]; rfl
  generalize hx : cs[i] = x at h he
  generalize cs.drop (i + 1) = ds at h
  cases h with
  | cons hp hf =>
    have hle := cutN_le k s.data.toList
    rw [ba_len] at hle
    exact ⟨_, hle, by rw [he]; simp; omega, hf⟩
theorem Cuts.toFalls {k : Conf4} {s r : ByteArray} {cs : List ByteArray} (h : Cuts k s cs r) (hz : cutN k r.data.toList = 0) : Falls k s cs r := by
  have := h.falls [] r (.nil hz)
  rwa [List.append_nil] at this
theorem Rd.of_owns' {w : World} {base n : Nat} {e : TypeId} {v : Value} {xs : List Value} (h : w.ownsRow base e 1 v n xs) : ∃ ao cap, v = .slice ao n cap ∧ Rd w ao xs ∧ (ao = none → cap = 0) := by
  obtain ⟨ao, cap, rfl, hr, _⟩ := Rd.of_owns h
  refine ⟨ao, cap, rfl, hr, fun h0 => ?_⟩
  rcases h.2 with ⟨hv, _⟩ | ⟨k, cap', cur, hv, _⟩
  · simp at hv; exact hv.2.2
  · subst h0; simp at hv
theorem blk_keep {B g gr gb : Nat} {w w' : World} {e : TypeId} {cs : List Value} (h : Blk w gb e cs) (hk : Keep2 B g gr w w') (h0 : gb < B) (h1 : gb ≠ g) (h2 : gb ≠ gr) : Blk w' gb e cs := by
  obtain ⟨cur, lo, hi, h3, h4⟩ := h
  exact ⟨cur, lo, hi, by rw [hk.block gb h0 h1 h2]; exact h3, h4⟩
theorem strs_one (cs : List ByteArray) : ∀ u ∈ cs.map Value.string, u.oneCell' = true := fun u hu => by
  obtain ⟨a, _, rfl⟩ := List.mem_map.1 hu
  rfl
def cap7 (s : ByteArray) : ByteArray := if 700 < s.size then s.extract 0 700 else s
theorem cap7_size (s : ByteArray) : (cap7 s).size ≤ 700 := by
  unfold cap7; split
  · simp; omega
  · omega
set_option maxHeartbeats 4000000 in
theorem CutPieces_no (w : World) (c : Nat → Int) (hm : mayC c = false) (ao : Option Addr) (n cap : Nat) :
    Calls Try.prog 5 #[.slice ao n cap, confA c] w fun e w' => e = .returned (.bool true) ∧ Below w.heap.size w w' := by
  unfold confA
  go_enter Try.func5, Try.ntmps5
  go_wp2_with (with_reducible refine wpList_box_tab (o := ⟨some 3, _, _, _, _, _⟩) rfl 23 _ rfl 13 (confV c) rfl ?_)
  intro w1 hb1 hbel1 hsz1
  go_wp2_with (with_reducible refine wpList_load_tab (o := ⟨some 16, _, _, _, _, _⟩) rfl 23 _ rfl w.heap.size 23 rfl 13 (confV c) _ hb1 rfl rfl (by kernel_rfl) ?_)
  refine (New_no c hm _).mono ?_
  rintro e w2 ⟨rfl, hbel2⟩
  have hb2 := hb1.kept hbel2
  go_wp2_with (with_reducible refine wpList_load_tab (o := ⟨some 20, _, _, _, _, _⟩) rfl 23 _ rfl w.heap.size 23 rfl 13 (confV c) _ hb2 rfl rfl (by kernel_rfl) ?_)
  refine (RMay_any c _).mono ?_
  rw [hm]
  rintro e w3 ⟨rfl, hbel3⟩
  go_wp2_with fail
  refine (awake_any _).mono ?_
  rintro e w4 ⟨rfl, hbel4⟩
  go_wp2_with fail
  go_ret
  exact ⟨rfl, by (repeat (first | exact Below.refl _ _ | assumption | refine kp_drew ?_ | refine kp_drewN ?_ | refine kp_alloc ?_ | refine kp_step ?_ (by assumption)))⟩
set_option maxHeartbeats 8000000 in
set_option maxRecDepth 100000 in
theorem CutPieces_yes (w : World) (c : Nat → Int) (hm : mayC c = true) (ao : Option Addr) (n cap : Nat) (hnm : n ≤ maxLen) (ss : List ByteArray) (hsl : ss.length = n) (hrd : Rd w ao (ss.map .string)) (hss : ∀ s ∈ ss, s.size ≤ maxLen) :
    Calls Try.prog 5 #[.slice ao n cap, confA c] w fun e w' => e = .returned (.bool true) ∧ Below w.heap.size w w' := by
  have hk := conf4_of hm
  generalize (⟨(c 0).toNat, (c 1).toNat, (c 2).toNat, (c 3).toNat⟩ : Conf4) = k at hk
  obtain ⟨hk1, hk2⟩ := hk
  have HK := Go.Lib.hid hk2; have HSL := Go.Lib.hid hsl; have HSS := Go.Lib.hid hss; have HRD := Go.Lib.hid hrd
  unfold maxLen at hnm
  clear hk2 hsl hss hrd
  unfold confA
  go_enter Try.func5, Try.ntmps5
  go_wp2_with (with_reducible refine wpList_box_tab (o := ⟨some 3, _, _, _, _, _⟩) rfl 23 _ rfl 13 (confV c) rfl ?_)
  intro w1 hb1 hbel1 hsz1
  go_wp2_with (with_reducible refine wpList_load_tab (o := ⟨some 16, _, _, _, _, _⟩) rfl 23 _ rfl w.heap.size 23 rfl 13 (confV c) _ hb1 rfl rfl (by kernel_rfl) ?_)
  refine (New_any' c hm _).mono ?_
  rintro e w2 ⟨g, gr, rfl, hst, hbel2, hg1, hg2⟩
  have hb2 := hb1.kept hbel2
  go_wp2_with (with_reducible refine wpList_load_tab (o := ⟨some 20, _, _, _, _, _⟩) rfl 23 _ rfl w.heap.size 23 rfl 13 (confV c) _ hb2 rfl rfl (by kernel_rfl) ?_)
  refine (RMay_any c _).mono ?_
  rw [hm]
  rintro e w3 ⟨rfl, hbel3⟩
  have hb3 := hb2.kept hbel3
  have hst3 := hst.below hbel3 hst.1.lt hst.2.1.lt
  have hgl := hst3.1.lt
  have hrl := hst3.2.1.lt
  have hbel03 : Below w.heap.size w w3 := by (repeat (first | exact Below.refl _ _ | assumption | refine kp_drew ?_ | refine kp_drewN ?_ | refine kp_alloc ?_ | refine kp_step ?_ (by assumption)))
  obtain ⟨B, hB⟩ : ∃ B, w3.heap.size = B := ⟨_, rfl⟩
  obtain ⟨gb, hgb⟩ : ∃ b, w.heap.size = b := ⟨_, rfl⟩
  rw [hgb] at hb3
  rw [hB] at hgl hrl
  have hne1 : gb < g := by omega
  have hne2 : gb < gr := by omega
  have hgbB : gb < B := by omega
  have HB := Go.Lib.hid hB; have HGB := Go.Lib.hid hgb; have H3 := Go.Lib.hid hb3; have HST := Go.Lib.hid hst3; have HL := Go.Lib.hid hbel03
  have hz0 := cutN_nil k hk1
  have HZ0 := Go.Lib.hid hz0
  simp only [hgb]
  clear hb1 hb2 hb3 hst hst3 hbel1 hbel2 hbel3 hbel03 hsz1 hg1 hg2 hB hgb hz0
  go_wp2_with fail
  go_loopw [7, 8, 9, 10] (fun a lf v i wr => ∃ (j : Nat) (A r : ByteArray) (cs : List ByteArray) (at_ back : Nat), j ≤ n ∧ j ≤ 10 ∧ i = .int .i64 j ∧ a = .string A ∧ lf = .string r ∧ A.size ≤ 700 * j ∧ Cuts k A cs r ∧ Hid (cutN k r.data.toList = 0) ∧
      CutS wr g gr c r at_ back (r.data.toList.take at_) ∧ Looked k r.data.toList at_ back ∧ wr.ownsRow B 9 1 v cs.length (cs.map .string) ∧ Keep2 B g gr w3 wr) (fun _ _ _ i _ => 10 - (intOf i).toNat)
  case atStart => exact ⟨0, { data := #[] }, { data := #[] }, [], 0, 0, Nat.zero_le _, by omega, rfl, rfl, rfl, Nat.zero_le _, .nil, HZ0, HST.out, Looked.new k hk1 _, World.ownsRow_nil _ _ _ _, Keep2.refl⟩
  case round =>
    obtain ⟨j, A, r, cs, at_, back, hjn, hj10, rfl, rfl, rfl, hA, hcuts, hzr, hst, hlk, hown, hkeep⟩ := hrel
    have hrA := hcuts.size
    have hcl := hcuts.len
    have hBr : B ≤ wr.heap.size := by have := hkeep.size; have := HB.out; omega
    have hconf : Blk wr gb 23 (tab 13 (confV c)) := by
      obtain ⟨cur, lo, hi, h1, h2⟩ := H3.out
      exact ⟨cur, lo, hi, by rw [hkeep.block gb hgbB (by omega) (by omega)]; exact h1, h2⟩
    by_cases hgo : j < n ∧ j < 10
    · obtain ⟨hjn2, hj2⟩ := hgo
      have hrdr : Rd wr ao (ss.map .string) := by
        have hb := HL.out.trans ((hkeep.below (C := w.heap.size) (by rw [HGB.out]; omega) (by rw [HGB.out]; omega) (by rw [HGB.out]; omega)))
        exact HRD.out.kept hb
      obtain ⟨ga, oa, rfl, hga, hca⟩ := hrdr.2 (by rw [List.length_map, HSL.out]; omega)
      have h1 := hca j (by rw [List.length_map, HSL.out]; exact hjn2)
      rw [map_getD j (by rw [HSL.out]; exact hjn2)] at h1
      have hxm : (ss.getD j { data := #[] }).size ≤ maxLen := by
        have hj3 : j < ss.length := by rw [HSL.out]; exact hjn2
        have : ss.getD j { data := #[] } = ss[j] := by rw [List.getD_eq_getElem?_getD, List.getElem?_eq_getElem hj3]; rfl
        rw [this]
        exact HSS.out _ (List.getElem_mem hj3)
      generalize ss.getD j { data := #[] } = x at h1 hxm
      unfold maxLen at hxm
      obtain ⟨t, ht⟩ : ∃ t, cap7 x = t := ⟨_, rfl⟩
      have htl : t.size ≤ 700 := by rw [← ht]; exact cap7_size x
      have hrt : (r ++ t).size = r.size + t.size := by simp
      have hAt : (A ++ t).size = A.size + t.size := by simp
      have hrts : (r ++ t).size ≤ 1000000 := by omega
      have hAtj : (A ++ t).size ≤ 700 * (j + 1) := by omega
      have hkw : Below w.heap.size w wr := HL.out.trans ((hkeep.below (C := w.heap.size) (by rw [HGB.out]; omega) (by rw [HGB.out]; omega) (by rw [HGB.out]; omega)))
      have HT := Go.Lib.hid ht; have HRTS := Go.Lib.hid hrts; have HATJ := Go.Lib.hid hAtj; have HC := Go.Lib.hid hcuts; have HSTR := Go.Lib.hid hst; have HLK := Go.Lib.hid hlk; have HOWN := Go.Lib.hid hown; have HKEEP := Go.Lib.hid hkeep; have HCONF := Go.Lib.hid hconf
      have hA2 : A.size ≤ 7000 := by omega
      have hr2 : r.size ≤ 7000 := by omega
      have hcl2 : cs.length ≤ 7000 := by omega
      have hj5 : (j : Int) < (n : Int) := by omega
      have hj6 : (j : Int) < 10 := by omega
      have hj7 : (0 : Int) ≤ (j : Int) := by omega
      clear ht hrt hAt hrts hAtj hkw hcuts hst hlk hown hkeep hconf hca hrdr hga hA hrA hcl
      go_upto_if 54 with fail
      go_cut [11] (fun sx wx => sx = .string t ∧ wr = wx)
      case first =>
        by_cases h7 : 700 < x.size
        · have hx : x.extract 0 700 = t := by rw [← HT.out, cap7, if_pos h7]
          have HX := Go.Lib.hid hx; clear hx
          go_wp2_with fail
          go_meet
          exact ⟨by rw [HX.out], rfl⟩
        · have hx : x = t := by rw [← HT.out, cap7, if_neg h7]
          have HX := Go.Lib.hid hx; clear hx
          go_wp2_with fail
          go_meet
          exact ⟨by rw [HX.out], rfl⟩
      case rest =>
        obtain ⟨rfl, rfl⟩ := hcut
        clear h1
        go_wp2_with fail
        refine (Write_any g gr c k hk1 HK.out r t HRTS.out at_ back _ HSTR.out HLK.out).mono ?_
        rintro e w4 ⟨v4, cs4, r4, at4, back4, l4, rfl, hc4, hz4, hown4, hst4, hrest4, hkeep4⟩
        obtain ⟨rfl, rfl, hlk4⟩ := hrest4 hz4
        obtain ⟨ao4, cap4, rfl, hrd4, hn4⟩ := Rd.of_owns' hown4
        have hlen4 := hc4.len
        have hconf4 := blk_keep HCONF.out hkeep4 (by omega) (by omega) (by omega)
        have hown4' := owns_keep HOWN.out hkeep4 hgl hrl
        have hsz4 := hkeep4.size
        clear hown4 hrest4
        have hcl4 : cs4.length ≤ 8000 := by have := HRTS.out; rw [show (r ++ t).size = r.size + t.size by simp] at hlen4; omega
        have hrl4 : r4.size ≤ 8000 := by rw [show (r ++ t).size = r.size + t.size by simp] at hlen4; omega
        go_wp2_with (with_reducible refine wpList_load_tab (o := ⟨some 67, _, _, _, _, _⟩) rfl 23 _ rfl gb 23 rfl 13 (confV c) _ hconf4 rfl rfl (by kernel_rfl) ?_)
        refine (Done_any c k hk1 HK.out hm (r ++ t) HRTS.out _).mono ?_
        rintro e w5 ⟨v5, cs5, r5, rfl, hc5, hz5, hown5, hbel5⟩
        obtain ⟨rfl, rfl⟩ := hc4.det hz4 hc5 hz5
        obtain ⟨ao5, cap5, rfl, hrd5, hrl5⟩ := Rd.of_owns hown5
        clear hown5 hc5 hz5 hrl5
        go_wp2_with fail
        refine (RSame_any cs4 _ cap4 cap5 rfl (by omega) ao4 ao5 _ (hrd4.kept hbel5) hrd5).mono ?_
        rintro e w6 ⟨rfl, hbel6⟩
        have hbel46 : Below w4.heap.size w4 w6 := kp_step hbel5 hbel6
        have hrd46 := hrd4.kept hbel46
        have hrd56 := hrd5.kept hbel6
        have hst6 := hst4.below hbel46 hst4.1.lt hst4.2.1.lt
        have hown6 := owns_kept hown4' hbel46
        have hkeep6 : Keep2 B g gr w3 w6 := (HKEEP.out.trans ⟨hkeep4.os, hkeep4.tape, hkeep4.output, hkeep4.size, fun q h0 h1 h2 => hkeep4.block q (by omega) h1 h2⟩).trans (keep_below (hbel46.mono (by omega)))
        have hc6 := (HC.out.more t).trans hc4
        have hfalls := hc4.toFalls hz4
        have HR5 := Go.Lib.hid hrd56; have HR4 := Go.Lib.hid hrd46; have HST6 := Go.Lib.hid hst6; have HOWN6 := Go.Lib.hid hown6; have HK6 := Go.Lib.hid hkeep6; have HC6 := Go.Lib.hid hc6; have HZ4 := Go.Lib.hid hz4; have HLK4 := Go.Lib.hid hlk4; have HN4 := Go.Lib.hid hn4
        have hB6 : B ≤ w6.heap.size := by have := hkeep6.size; have := HB.out; omega
        clear hrd4 hrd5 hrd46 hrd56 hst4 hst6 hown4' hown6 hkeep4 hkeep6 hbel5 hbel6 hbel46 hc4 hc6 hz4 hlk4 hlen4 hconf4 hn4 hsz4
        go_wp2_with fail
        go_loop [8, 14] (fun lf i => ∃ (m : Nat) (q : ByteArray), m ≤ cs4.length ∧ i = .int .i64 m ∧ lf = .string q ∧ Falls k q (cs4.drop m) r4 ∧ q.size ≤ 10000) (fun _ i => cs4.length - (intOf i).toNat)
        case atStart => exact ⟨0, r ++ t, Nat.zero_le _, rfl, rfl, hfalls, by rw [show (r ++ t).size = r.size + t.size by simp]; omega⟩
        case round =>
          obtain ⟨m, q, hm1, rfl, rfl, hfq, hq⟩ := hrel
          clear hfalls
          by_cases hmlt : m < cs4.length
          · obtain ⟨g5, o5, rfl, hg5, hc5⟩ := HR5.out.2 (by rw [List.length_map]; omega)
            have h5 := hc5 m (by rw [List.length_map]; exact hmlt)
            rw [map_getD m hmlt] at h5
            obtain ⟨nn, hnn, hyn, hf2⟩ := hfq.at_ hmlt
            generalize cs4.getD m { data := #[] } = y at h5 hyn
            have hyi : (y.size : Int) = (nn : Int) := by omega
            have hni : (nn : Int) ≤ (q.size : Int) := by omega
            have hn0 : (0 : Int) ≤ (nn : Int) := by omega
            have HF2 := Go.Lib.hid hf2
            have hxs := extract_size q nn hnn
            have HXS := Go.Lib.hid hxs
            have hm5 : (m : Int) < (cs4.length : Int) := by omega
            clear hc5 hf2 hfq hxs hyn
            go_wp2_with fail
            go_round
            case rel => exact ⟨m + 1, q.extract nn q.size, by omega, by go_num, by simp, HF2.out, by rw [HXS.out]; omega⟩
            case measure => simp [intOf]; omega
          · obtain rfl : m = cs4.length := by omega
            rw [List.drop_length] at hfq
            obtain rfl : q = r4 := by cases hfq; rfl
            clear hfq
            have hne : ((q.size : Int) != (q.size : Int)) = false := by simp
            go_wp2_with (first
              | (go_at_call 19; refine (Left_any g gr c q _ _ _ _ HST6.out).mono ?_; rintro e w7 ⟨rfl, rfl⟩)
              | (at_builtin; refine wpList_append_rd _ rfl _ _ 29 rfl B 9 (.string { data := #[] }) 16 Try.underlying29 (by kernel_rfl) rfl _ cs.length _ rfl HOWN6.out ao4 cs4.length cap4 (cs4.map .string) rfl (by simp) HR4.out HN4.out (strs_one cs4) (by unfold maxLen; omega) (by omega) hB6 ?_))
            intro v8 w8 hown8 hbel8 _
            go_wp2_with fail
            go_roundw
            case rel =>
              refine ⟨j + 1, A ++ t, q, cs ++ cs4, q.size, back4, by omega, by omega, by go_num, rfl, rfl, HATJ.out, HC6.out, Go.Lib.hid HZ4.out, ?_, HLK4.out, ?_, HK6.out.trans (keep_below hbel8)⟩
              · rw [List.take_of_length_le (by simp)]
                exact HST6.out.below hbel8 hgl hrl
              · rw [List.length_append, List.map_append]
                exact hown8
            case measure => simp [intOf]; omega
    · have hwhole : Whole k A (cs ++ lastOf r) := ⟨cs, r, hcuts, hzr.out, rfl⟩
      have hA2 : A.size ≤ 1000000 := by omega
      have hr2 : r.size ≤ 1000000 := by omega
      have hcl2 : cs.length ≤ 7000 := by omega
      have hj7 : (0 : Int) ≤ (j : Int) := by omega
      have hll : (lastOf r).length ≤ 1 := by unfold lastOf; split <;> simp
      obtain ⟨ws, hws⟩ : ∃ ws, cs ++ lastOf r = ws := ⟨_, rfl⟩
      rw [hws] at hwhole
      have hwl : ws.length ≤ 7001 := by rw [← hws, List.length_append]; omega
      have HWS := Go.Lib.hid hws
      clear hws
      have HW := Go.Lib.hid hwhole; have HOWN := Go.Lib.hid hown; have HCONF := Go.Lib.hid hconf; have HSTR := Go.Lib.hid hst; have HKEEP := Go.Lib.hid hkeep
      have hz0 : ((({ data := #[] } : ByteArray).size : Int) == 0) = true := rfl
      clear hwhole hcuts hown hlk hconf hkeep hst hA hrA hcl
      by_cases hjn2 : j < n
      all_goals
        go_wp2_with fail
        refine (End_gen2 g gr c r hr2 at_ back _ _ HSTR.out).mono ?_
        rintro e w4 ⟨ao4, n4, cap4, at4, back4, l4, rfl, hc0, hn4, hrd4, hst4, hkeep4⟩
        have hconf4 := blk_keep HCONF.out hkeep4 (by omega) (by omega) (by omega)
        have hown4 := owns_keep HOWN.out hkeep4 hgl hrl
        have hsz4 := hkeep4.size
        have hbel4 : Below w.heap.size w w4 := (HL.out.trans ((HKEEP.out.below (C := w.heap.size) (by rw [HGB.out]; omega) (by rw [HGB.out]; omega) (by rw [HGB.out]; omega)))).trans (hkeep4.below (by rw [HGB.out]; omega) (by rw [HGB.out]; omega) (by rw [HGB.out]; omega))
        have H4 := Go.Lib.hid hbel4
        have HN4 := Go.Lib.hid hn4
        have HC0 := Go.Lib.hid hc0
        have hn41 : n4 ≤ 1 := by omega
        clear hkeep4 hbel4 hn4 hc0
        go_wp2_with (at_builtin; refine wpList_append_rd _ rfl _ _ 29 rfl B 9 (.string { data := #[] }) 16 Try.underlying29 (by kernel_rfl) rfl _ cs.length _ rfl hown4 ao4 n4 cap4 ((lastOf r).map .string) rfl (by rw [List.length_map]; exact HN4.out) hrd4 HC0.out (strs_one _) (by unfold maxLen; omega) (by omega) (by omega) ?_)
        intro v5 w5 hown5 hbel5 _
        have hconf5 := hconf4.below hbel5 hgbB
        have hst5 := hst4.below hbel5 hgl hrl
        have H5 := Go.Lib.hid (show Below w.heap.size w w5 from H4.out.trans (hbel5.mono (by rw [HGB.out]; omega)))
        have hown5' : w5.ownsRow B 9 1 v5 ws.length (ws.map .string) := by rw [← HWS.out, List.length_append, HN4.out, List.map_append]; exact hown5
        obtain ⟨ao5, cap5, rfl, hrd5, hrl5⟩ := Rd.of_owns hown5'
        clear hrl5 hown5 hown5' hown4 hrd4 hbel5 hconf4 hst4
        go_wp2_with (with_reducible refine wpList_load_tab (o := ⟨some 100, _, _, _, _, _⟩) rfl 23 _ rfl gb 23 rfl 13 (confV c) _ hconf5 rfl rfl (by kernel_rfl) ?_)
        refine (RSplit_any c k hk1 HK.out hm A hA2 _).mono ?_
        rintro e w6 ⟨v6, cs6, rfl, hwh6, hown6, hbel6⟩
        obtain rfl := HW.out.det hwh6
        obtain ⟨ao6, cap6, rfl, hrd6, hrl6⟩ := Rd.of_owns hown6
        clear hrl6 hown6 hwh6
        have hst6 := hst5.below hbel6 hst5.1.lt hst5.2.1.lt
        have hrd56 := hrd5.kept hbel6
        go_wp2_with fail
        refine (RSame_any ws _ cap5 cap6 rfl (by omega) ao5 ao6 _ hrd56 hrd6).mono ?_
        rintro e w7 ⟨rfl, hbel7⟩
        have hst7 := hst6.below hbel7 hst6.1.lt hst6.2.1.lt
        go_wp2_with fail
        refine (Left_any g gr c { data := #[] } _ _ _ _ hst7).mono ?_
        rintro e w8 ⟨rfl, rfl⟩
        go_wp2_with fail
        refine (End_no g gr c _ _ _ _ hst7).mono ?_
        rintro e w8 ⟨rfl, hbel8⟩
        go_wp2_with fail
        refine (awake_any _).mono ?_
        rintro e w9 ⟨rfl, hbel9⟩
        go_wp2_with fail
        go_ret
        exact ⟨rfl, kp_step (kp_step (kp_step (kp_step H5.out hbel6) hbel7) hbel8) hbel9⟩
theorem CutPieces_law (w : World) (v : Value) (hv : FitK Try.prog w 4 (.slice 9) v) (cs : List Value) (hcs : FitR Try.prog w 4 (List.replicate 13 (.int .i64)) cs) :
    Calls Try.prog 5 #[v, .agg cs.toArray] w fun e w' => e = .returned (.bool true) ∧ Below w.heap.size w w' := by
  obtain ⟨c, rfl, _⟩ := fitR_ints hcs
  obtain ⟨ao, n, cap, ss, rfl, h1, h2, h3, h4, h5⟩ := fitK_strs hv (by kernel_rfl) (by kernel_rfl)
  cases hm : mayC c
  · exact CutPieces_no w c hm ao n cap
  · exact CutPieces_yes w c hm ao n cap (by omega) ss h3 h4 h5
end Go.Proofs.Ytigfioknmcjbbaa
