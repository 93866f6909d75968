/- The walks: same, awake; the laws RollSums, RollForgets, RollSlides. -/
import Derived.Test.YtojeelgloacadaaRollC
namespace Go.Proofs.Ytojeelgloacadaa
open Go.RowKit

set_option maxHeartbeats 1000000 in
theorem same_any (n ca cb : Nat) (hn : n ≤ 1000000) (f : Nat → Nat) (ao bo : Option Addr) (w : World) (ha : Rd w ao (tab n fun i => .int .u32 (f i : Nat))) (hb : Rd w bo (tab n fun i => .int .u32 (f i : Nat))) :
    Calls Try.prog 11 #[.slice ao n ca, .slice bo n cb] w fun e w' => e = .returned (.bool true) ∧ Below w.heap.size w w' := by
  have hne : ((n : Int) != n) = false := by simp
  have HA := Go.Lib.hid ha; have HB := Go.Lib.hid hb; clear ha hb
  go_enter Try.func11, Try.ntmps11
  go_wp2
  go_loopw [5] (fun i wr => ∃ k : Nat, k ≤ n ∧ i = .int .i64 k ∧ Below w.heap.size w wr) (fun i _ => n - (intOf i).toNat)
  case atStart => exact ⟨0, Nat.zero_le _, rfl, Below.refl _ _⟩
  case round =>
    obtain ⟨k, hk, rfl, hbel⟩ := hrel
    by_cases hlt : k < n
    · obtain ⟨ga, oa, rfl, hga, hca⟩ := (HA.out.kept hbel).2 (by rw [tab_length]; omega)
      obtain ⟨gb, ob, rfl, hgb, hcb⟩ := (HB.out.kept hbel).2 (by rw [tab_length]; omega)
      have h1 := hca k (by rw [tab_length]; exact hlt)
      have h2 := hcb k (by rw [tab_length]; exact hlt)
      rw [tab_get _ _ _ hlt] at h1 h2
      have hxx : ((f k : Int) != (f k : Int)) = false := by simp
      generalize f k = x at h1 h2 hxx
      clear hca hcb
      go_wp2_with fail
      go_quiet (fail)
      go_wp2_with fail
      go_roundw
      case rel => exact ⟨k + 1, by omega, by go_num, below_drewN hbel _⟩
      case measure => simp [intOf]; omega
    · obtain rfl : k = n := by omega
      go_wp2
      go_ret
      exact ⟨rfl, hbel⟩
theorem Push_of (g : Nat) (l : List UInt8) (hl : l.length ≤ 1000000) (b : UInt8) (x : Int) (hx : x = b.toNat) (m : List UInt8) (hm : l ++ [b] = m) (w : World) (hb : Blk w g 49 (tab 18 (rollAt l))) :
    Calls Try.prog 18 #[.pointer (some ⟨g, 0, none⟩), .int .u8 x] w fun e w' => e = .returned (.int .u32 (rollL m : Nat)) ∧ Blk w' g 49 (tab 18 (rollAt m)) ∧ Only g w w' := by
  subst hx hm; exact Push_any g l hl b w hb
theorem roll_0 : rollL [0] = 1 := by decide
theorem roll_01 : rollL [0, 1] = 259 := by decide
set_option maxHeartbeats 1000000 in
theorem awake_any (w : World) :
    Calls Try.prog 8 #[] w fun e w' => e = .returned (.bool true) ∧ Below w.heap.size w w' := by
  have h0 := roll_0
  have h01 := roll_01
  go_enter Try.func8, Try.ntmps8
  go_wp2_with fail
  refine (New_any _).mono ?_
  rintro e w1 ⟨rfl, hb1, hbel1⟩
  obtain ⟨g, hg⟩ : ∃ g, w.heap.size = g := ⟨_, rfl⟩
  have HG := Go.Lib.hid hg
  rw [hg] at hb1 hbel1
  simp only [hg]
  clear hg
  go_wp2_with fail
  refine (Push_of g [] (by decide) 9 _ rfl [9] rfl _ hb1).mono ?_
  rintro e w2 ⟨rfl, hb2, ho2⟩
  have k2 := hbel1.trans (ho2.below (Nat.le_refl _))
  clear hb1 hbel1 ho2
  go_wp2_with fail
  refine (Reset_roll g [9] _ hb2).mono ?_
  rintro e w3 ⟨rfl, hb3, ho3⟩
  have k3 := k2.trans (ho3.below (Nat.le_refl _))
  clear hb2 k2 ho3
  go_wp2_with fail
  refine (Push_of g [] (by decide) 0 _ rfl [0] rfl _ hb3).mono ?_
  rintro e w4 ⟨rfl, hb4, ho4⟩
  have k4 := k3.trans (ho4.below (Nat.le_refl _))
  clear hb3 k3 ho4
  go_wp2_with fail
  refine (Push_of g [0] (by decide) 1 _ rfl [0, 1] rfl _ hb4).mono ?_
  rintro e w5 ⟨rfl, hb5, ho5⟩
  have k5 := k4.trans (ho5.below (Nat.le_refl _))
  clear hb4 k4 ho5
  go_wp2_with fail
  refine (Sum_any ⟨#[0]⟩ (by decide) _).mono ?_
  rintro e w6 ⟨rfl, rfl⟩
  go_wp2_with fail
  refine (Sum_any ⟨#[0, 1]⟩ (by decide) _).mono ?_
  rintro e w6 ⟨rfl, rfl⟩
  go_wp2_with fail
  refine (Len_roll g [0, 1] _ hb5).mono ?_
  rintro e w6 ⟨rfl, rfl⟩
  go_wp2_with fail
  refine (Sum_roll g [0, 1] _ hb5).mono ?_
  rintro e w6 ⟨rfl, rfl⟩
  go_wp2_with fail
  refine (All_any ⟨#[97, 98, 99]⟩ (by decide) _).mono ?_
  rintro e w6 ⟨v, rfl, hown, hbel6⟩
  obtain ⟨ao, cap, rfl, hrd, hl⟩ := Rd.of_owns hown
  clear hown hrd hl
  go_wp2_with fail
  go_ret
  refine ⟨rfl, ?_⟩
  rw [HG.out]
  exact k5.trans (hbel6.mono (by have := k5.size; have := HG.out; omega))
set_option maxHeartbeats 1000000 in
theorem RollSums_law (s : ByteArray) (hs : s.size ≤ maxLen) (w : World) :
    Calls Try.prog 3 #[.string s] w fun e w' => e = .returned (.bool true) ∧ Below w.heap.size w w' := by
  have hs' := hs
  unfold maxLen at hs'
  by_cases h300 : 300 < s.size
  · go_enter Try.func3, Try.ntmps3
    go_wp2_with (go_at_call 8; refine (awake_any _).mono ?_; rintro e w1 ⟨rfl, hb1⟩)
    go_ret
    exact ⟨rfl, hb1⟩
  · have h1 : s.size ≤ 1000000 := by omega
    go_enter Try.func3, Try.ntmps3
    go_wp2_with (first
      | (go_at_call 9; refine (Sum_any s hs _).mono ?_; rintro e w1 ⟨rfl, rfl⟩)
      | (go_at_call 10; refine (RSum_any s hs _).mono ?_; rintro e w1 ⟨rfl, rfl⟩)
      | (go_at_call 12; refine (All_any s h1 _).mono ?_; rintro e w1 ⟨v1, rfl, hown1, hbel1⟩; obtain ⟨ao, ca, rfl, hra, hla⟩ := Rd.of_owns hown1; clear hown1 hla)
      | (go_at_call 13; refine (RAll_any s h1 _).mono ?_; rintro e w2 ⟨v2, rfl, hown2, hbel2⟩; obtain ⟨bo, cb, rfl, hrb, hlb⟩ := Rd.of_owns hown2; clear hown2 hlb)
      | (go_at_call 11; refine (same_any s.size _ _ h1 _ _ _ _ (hra.kept hbel2) hrb).mono ?_; rintro e w3 ⟨rfl, hbel3⟩)
      | (go_at_call 8; refine (awake_any _).mono ?_; rintro e w4 ⟨rfl, hb4⟩))
    go_ret
    refine ⟨rfl, ?_⟩
    (repeat (first | exact Below.refl _ _ | assumption | refine kp_drew ?_ | refine kp_drewN ?_ | refine kp_alloc ?_ | refine kp_step ?_ (by assumption)))

def strLen : Value → Nat
  | .string s => s.size
  | _ => 0
theorem rollAppendB (a s : ByteArray) (h : 16 ≤ s.size) : rollL (a ++ s).data.toList = rollL s.data.toList := by
  have : (a ++ s).data.toList = a.data.toList ++ s.data.toList := by simp [ByteArray.data_append]
  rw [this, roll_append _ _ (by simpa using h)]
set_option maxHeartbeats 1000000 in
theorem RollForgets_law (a : ByteArray) (ha : a.size ≤ maxLen) (b : ByteArray) (hb : b.size ≤ maxLen) (s : ByteArray) (hs : s.size ≤ maxLen) (w : World) :
    Calls Try.prog 5 #[.string a, .string b, .string s] w fun e w' => e = .returned (.bool true) ∧ Below w.heap.size w w' := by
  unfold maxLen at ha hb hs
  by_cases h : a.size ≤ 300 ∧ b.size ≤ 300 ∧ s.size ≤ 300
  · obtain ⟨h1, h2, h3⟩ := h
    go_enter Try.func5, Try.ntmps5
    go_wp2_with fail
    go_loop [2] (fun t => ∃ u : ByteArray, t = .string u ∧ u.size ≤ 300) (fun t => 16 - strLen t)
    case atStart => exact ⟨s, rfl, h3⟩
    case round =>
      obtain ⟨u, rfl, hu⟩ := hrel
      by_cases hlt : u.size < 16
      · go_wp2_with fail
        go_round
        case rel => exact ⟨_, rfl, by have h1s : (ByteArray.mk #[115]).size = 1 := rfl; rw [ByteArray.size_append]; omega⟩
        case measure =>
          have h1s : (ByteArray.mk #[115]).size = 1 := rfl
          show 16 - (u ++ ByteArray.mk #[115]).size < 16 - u.size
          rw [ByteArray.size_append]; omega
      · have e1 := rollAppendB a u (by omega)
        have e2 := rollAppendB b u (by omega)
        have h4 : (a ++ u).size ≤ maxLen := by rw [ByteArray.size_append]; unfold maxLen; omega
        have h5 : (b ++ u).size ≤ maxLen := by rw [ByteArray.size_append]; unfold maxLen; omega
        have H1 := Go.Lib.hid e1; have H2 := Go.Lib.hid e2; have H4 := Go.Lib.hid h4; have H5 := Go.Lib.hid h5
        clear e1 e2 h4 h5
        go_wp2_with fail
        refine (Sum_any _ H4.out _).mono ?_
        rw [H1.out]
        rintro e w1 ⟨rfl, rfl⟩
        go_wp2_with fail
        refine (Sum_any _ H5.out _).mono ?_
        rw [H2.out]
        rintro e w1 ⟨rfl, rfl⟩
        go_wp2_with (go_at_call 8; refine (awake_any _).mono ?_; rintro e w4 ⟨rfl, hb4⟩)
        go_ret
        exact ⟨rfl, hb4⟩
  · go_enter Try.func5, Try.ntmps5
    go_wp2_with (go_at_call 8; refine (awake_any _).mono ?_; rintro e w1 ⟨rfl, hb1⟩)
    all_goals
      go_ret
      exact ⟨rfl, hb1⟩

theorem slide_hash (o i : UInt8) (m : List UInt8) (hm : m.length = 15) : addN (dropN (rollL (o :: m)) o.toNat) i.toNat = rollL (m ++ [i]) := by
  have h1 : lastL (o :: m) = o :: m := by unfold lastL; rw [List.length_cons, hm]; rfl
  have h2 : lastL (m ++ [i]) = m ++ [i] := by unfold lastL; rw [List.length_append, hm]; rfl
  unfold rollL
  rw [h1, h2, drop_hash o m hm, hashL_snoc]
theorem Sum_list (x : ByteArray) (l : List UInt8) (hx : x = ⟨l.toArray⟩) (h : l.length ≤ 1000000) (w : World) :
    Calls Try.prog 9 #[.string x] w fun e w' => e = .returned (.int .u32 (rollL l : Nat)) ∧ w = w' := by
  subst hx; exact Sum_any ⟨l.toArray⟩ (by unfold maxLen; show l.length ≤ _; omega) w
theorem RSum_list (x : ByteArray) (l : List UInt8) (hx : x = ⟨l.toArray⟩) (h : l.length ≤ 1000000) (w : World) :
    Calls Try.prog 10 #[.string x] w fun e w' => e = .returned (.int .u32 (rollL l : Nat)) ∧ w = w' := by
  subst hx; exact RSum_any ⟨l.toArray⟩ (by unfold maxLen; show l.length ≤ _; omega) w
set_option maxHeartbeats 1000000 in
theorem RollSlides_law (h : Nat) (hh : h < 4294967296) (o : Nat) (ho : o < 256) (i : Nat) (hi : i < 256) (s : ByteArray) (hs : s.size ≤ maxLen) (w : World) :
    Calls Try.prog 6 #[.int .u32 h, .int .u8 o, .int .u8 i, .string s] w fun e w' => e = .returned (.bool true) ∧ Below w.heap.size w w' := by
  have hs' := hs
  unfold maxLen at hs'
  by_cases hbig : 2147483647 ≤ h
  · have hz : (2147483646 : Int) < (h : Int) := by omega
    have HB := Go.Lib.hid hbig
    clear hbig
    go_enter Try.func6, Try.ntmps6
    go_wp2_with (first
      | (go_at_call 19; refine (Slide_no h o i HB.out _).mono ?_; rintro e w1 ⟨rfl, rfl⟩)
      | (go_at_call 8; refine (awake_any _).mono ?_; rintro e w1 ⟨rfl, hb1⟩))
    go_ret
    exact ⟨rfl, hb1⟩
  · have hz : ¬ ((2147483646 : Int) < (h : Int)) := by omega
    have HB := Go.Lib.hid (show h < 2147483647 by omega)
    clear hbig
    have hc := addN_lt (dropN h o) i
    have hself : ((addN (dropN h o) i : Int) != (addN (dropN h o) i : Int)) = false := by simp
    clear hc
    have HO := Go.Lib.hid ho; have HI := Go.Lib.hid hi; have HS := Go.Lib.hid hs
    go_enter Try.func6, Try.ntmps6
    go_wp2_with (first
      | (go_at_call 19; refine (Slide_any h o i HB.out HO.out HI.out _).mono ?_; rintro e w1 ⟨rfl, rfl⟩)
      | (go_at_call 20; refine (RSlide_any h o i HB.out HO.out HI.out _).mono ?_; rintro e w1 ⟨rfl, rfl⟩))
    go_loop [3] (fun t => ∃ u : ByteArray, t = .string u ∧ u.size ≤ 9223372036854775807) (fun t => 15 - strLen t)
    case atStart => exact ⟨s, rfl, by omega⟩
    case round =>
      obtain ⟨u, rfl, hu⟩ := hrel
      by_cases hlt : u.size < 15
      · go_wp2_with fail
        go_round
        case rel => exact ⟨_, rfl, by have h1s : (ByteArray.mk #[109]).size = 1 := rfl; rw [ByteArray.size_append]; omega⟩
        case measure =>
          have h1s : (ByteArray.mk #[109]).size = 1 := rfl
          show 15 - (u ++ ByteArray.mk #[109]).size < 15 - u.size
          rw [ByteArray.size_append]; omega
      · obtain ⟨m, hm⟩ : ∃ m, (u.data.toList.take 15) = m := ⟨_, rfl⟩
        have hml : m.length = 15 := by rw [← hm, List.length_take]; simp; omega
        have hx : u.extract 0 15 = ⟨m.toArray⟩ := by rw [Go.Lib.extract_eq, ← hm]; simp
        obtain ⟨ob, hob⟩ : ∃ b : UInt8, b.toNat = o := ⟨UInt8.ofNat o, by simp; omega⟩
        obtain ⟨ib, hib⟩ : ∃ b : UInt8, b.toNat = i := ⟨UInt8.ofNat i, by simp; omega⟩
        have hconv : ∀ (W : World) (g : Nat) (x : UInt8), W.cell? ⟨g, 0, none⟩ = some (.int .u8 (x.toNat : Int)) → (convert 29 9 (.slice (some ⟨g, 0, none⟩) 1 1)).run Try.prog W = .ok (.string ⟨[x].toArray⟩) W := fun W g x h =>
          run_string_blk (P := Try.prog) W 29 9 5 Try.underlying29 Try.underlying5 Try.underlying9 g 1 1 [x] rfl (fun j hj => by
            have hj' : j = 0 := by simpa using hj
            subst hj'; exact h)
        have hco : ∀ (W : World) (g : Nat), W.cell? ⟨g, 0, none⟩ = some (.int .u8 (o : Int)) → (convert 29 9 (.slice (some ⟨g, 0, none⟩) 1 1)).run Try.prog W = .ok (.string ⟨[ob].toArray⟩) W := fun W g h => hconv W g ob (by rw [hob]; exact h)
        have hci : ∀ (W : World) (g : Nat), W.cell? ⟨g, 0, none⟩ = some (.int .u8 (i : Int)) → (convert 29 9 (.slice (some ⟨g, 0, none⟩) 1 1)).run Try.prog W = .ok (.string ⟨[ib].toArray⟩) W := fun W g h => hconv W g ib (by rw [hib]; exact h)
        clear hconv
        have hfst : (⟨#[ob]⟩ : ByteArray) ++ ⟨m.toArray⟩ = ⟨(ob :: m).toArray⟩ := ByteArray.mk_append_mk [ob] m
        have hnxt : (⟨m.toArray⟩ : ByteArray) ++ ⟨#[ib]⟩ = ⟨(m ++ [ib]).toArray⟩ := ByteArray.mk_append_mk m [ib]
        have hsl := slide_hash ob ib m hml
        rw [hob, hib] at hsl
        have h1 : (ob :: m).length ≤ 1000000 := by rw [List.length_cons]; omega
        have h2 : (m ++ [ib]).length ≤ 1000000 := by rw [List.length_append]; simp; omega
        have hr := rollL_lt (ob :: m)
        have HF := Go.Lib.hid hfst; have HNX := Go.Lib.hid hnxt; have HSL := Go.Lib.hid hsl; have H1 := Go.Lib.hid h1; have H2 := Go.Lib.hid h2; have HR := Go.Lib.hid hr
        clear hfst hnxt hsl h1 h2 hr hob hib hm
        go_wp2_with fail
        refine (Sum_list _ (ob :: m) (by first | exact HF.out | rfl) H1.out _).mono ?_
        rintro e w1 ⟨rfl, rfl⟩
        go_wp2_with fail
        refine (Slide_any _ o i HR.out HO.out HI.out _).mono ?_
        rw [HSL.out]
        rintro e w1 ⟨rfl, rfl⟩
        go_wp2_with fail
        refine (Sum_list _ (m ++ [ib]) (by first | exact HNX.out | rfl) H2.out _).mono ?_
        rintro e w1 ⟨rfl, rfl⟩
        go_wp2_with fail
        refine (RSum_list _ (m ++ [ib]) (by first | exact HNX.out | rfl) H2.out _).mono ?_
        rintro e w1 ⟨rfl, rfl⟩
        go_wp2_with (go_at_call 8; refine (awake_any _).mono ?_; rintro e w4 ⟨rfl, hb4⟩)
        go_ret
        refine ⟨rfl, ?_⟩
        (repeat (first | exact Below.refl _ _ | assumption | refine kp_drew ?_ | refine kp_drewN ?_ | refine kp_alloc ?_ | refine kp_step ?_ (by assumption)))
end Go.Proofs.Ytojeelgloacadaa
