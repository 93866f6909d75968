/- The laws CrcTurns, CrcBursts. -/
import Derived.Test.YtalfmnkkganimaaCrcZ
namespace Go.Proofs.Ytalfmnkkganimaa
open Go.RowKit

theorem Turn_l (l : List UInt8) (h : l.length ≤ 1000000) (a : Int) (ha : -9223372036854775808 ≤ a ∧ a ≤ 9223372036854775807) (bits : Nat) (hb : bits < 4294967296) (w : World) :
    Calls Try.prog 22 #[.string ⟨l.toArray⟩, .int .i64 a, .int .u32 bits] w fun e w' => e = .returned (.string ⟨(turnL l a bits).toArray⟩) ∧ Below w.heap.size w w' := Turn_any ⟨l.toArray⟩ h a ha bits hb w
theorem RTurn_l (l : List UInt8) (h : l.length ≤ 1000000) (A a : Int) (he : a = A) (ha : -9223372036854775808 ≤ A ∧ A ≤ 9223372036854775807) (bits : Nat) (hb : bits < 4294967296) (w : World) :
    Calls Try.prog 19 #[.string ⟨l.toArray⟩, .int .i64 a, .int .u32 bits] w fun e w' => e = .returned (.string ⟨(turnL l A bits).toArray⟩) ∧ Below w.heap.size w w' := by subst he; exact RTurn_any ⟨l.toArray⟩ h a ha bits hb w
theorem Apart_l (l m : List UInt8) (h : l.length ≤ 1000000) (h2 : m.length ≤ 1000000) (w : World) :
    Calls Try.prog 20 #[.string ⟨l.toArray⟩, .string ⟨m.toArray⟩] w fun e w' => e = .returned (.tuple #[.int .i64 (apartL l m).1, .bool (apartL l m).2]) ∧ Below w.heap.size w w' := Apart_any ⟨l.toArray⟩ ⟨m.toArray⟩ h h2 w
theorem RApart_l (l m : List UInt8) (h : l.length ≤ 1000000) (h2 : m.length ≤ 1000000) (w : World) :
    Calls Try.prog 21 #[.string ⟨l.toArray⟩, .string ⟨m.toArray⟩] w fun e w' => e = .returned (.tuple #[.int .i64 (apartL l m).1, .bool (apartL l m).2]) ∧ Below w.heap.size w w' := RApart_any ⟨l.toArray⟩ ⟨m.toArray⟩ h h2 w
theorem Sum_l (l : List UInt8) (h : l.length ≤ 1000000) (w : World) :
    Calls Try.prog 10 #[.string ⟨l.toArray⟩] w fun e w' => e = .returned (.int .u32 (crcMore 0 l : Nat)) ∧ w = w' := sum_any ⟨l.toArray⟩ (by unfold maxLen; have : (⟨l.toArray⟩ : ByteArray).size = l.length := rfl; omega) w
set_option maxHeartbeats 1000000 in
theorem CrcTurns_law (s : ByteArray) (hs : s.size ≤ maxLen) (t : ByteArray) (ht : t.size ≤ maxLen) (a : Int) (ha : -9223372036854775808 ≤ a ∧ a ≤ 9223372036854775807) (bits : Nat) (hb : bits < 4294967296) (w : World) :
    Calls Try.prog 6 #[.string s, .string t, .int .i64 a, .int .u32 bits] w fun e w' => e = .returned (.bool true) ∧ Below w.heap.size w w' := by
  obtain ⟨l, hl, hl3⟩ := cutB_list s
  obtain ⟨m, hm, hm3⟩ := cutB_list t
  have h1 : l.length ≤ 1000000 := by omega
  have h2 : m.length ≤ 1000000 := by omega
  obtain ⟨u, hu⟩ : ∃ u, turnL l a bits = u := ⟨_, rfl⟩
  have hub : turnL u a bits = l := by rw [← hu]; exact turnL_back l a bits
  have h3 : u.length ≤ 1000000 := by rw [← hu, turnL_length]; omega
  obtain ⟨k1, k2⟩ := apart_turn l a bits
  rw [hu] at k1 k2
  have HL := Go.Lib.hid hl; have HM := Go.Lib.hid hm; have HU := Go.Lib.hid hu; have HUB := Go.Lib.hid hub
  clear hl hm hu hub
  go_enter Try.func6, Try.ntmps6
  go_wp2_with (first
    | (go_at_call 9; ((with_reducible refine (cut_any s hs _).mono ?_); rw [HL.out]; rintro e w1 ⟨rfl, rfl⟩))
    | (go_at_call 9; ((with_reducible refine (cut_any t ht _).mono ?_); rw [HM.out]; rintro e w1 ⟨rfl, rfl⟩))
    | (go_at_call 20; ((with_reducible refine (Apart_l l m h1 h2 _).mono ?_); rintro e w1 ⟨rfl, hb1⟩))
    | (go_at_call 20; ((with_reducible refine (Apart_l l u h1 h3 _).mono ?_); rintro e w1 ⟨rfl, hb1⟩))
    | (go_at_call 21; ((with_reducible refine (RApart_l l m h1 h2 _).mono ?_); rintro e w1 ⟨rfl, hb1⟩))
    | (go_at_call 22; ((with_reducible refine (Turn_l l h1 a ha bits hb _).mono ?_); rw [HU.out]; rintro e w1 ⟨rfl, hb1⟩))
    | (go_at_call 22; ((with_reducible refine (Turn_l u h3 a ha bits hb _).mono ?_); rw [HUB.out]; rintro e w1 ⟨rfl, hb1⟩))
    | (go_at_call 19; ((with_reducible refine (RTurn_l l h1 a a rfl ha bits hb _).mono ?_); rw [HU.out]; rintro e w1 ⟨rfl, hb1⟩))
    | (go_at_call 14; refine (awake_any _).mono ?_; rintro e w1 ⟨rfl, hb1⟩))
  go_ret
  refine ⟨rfl, ?_⟩
  (repeat (first | exact Below.refl _ _ | assumption | refine kp_drew ?_ | refine kp_drewN ?_ | refine kp_alloc ?_ | refine kp_step ?_ (by assumption)))
set_option maxHeartbeats 1000000 in
theorem CrcBursts_law (s : ByteArray) (hs : s.size ≤ maxLen) (x : Nat) (hx : x < 65536) (bits : Nat) (hb : bits < 4294967296) (w : World) :
    Calls Try.prog 5 #[.string s, .int .u16 x, .int .u32 bits] w fun e w' => e = .returned (.bool true) ∧ Below w.heap.size w w' := by
  obtain ⟨l, hl, hl3⟩ := cutB_list s
  have h1 : l.length ≤ 1000000 := by omega
  have hsl := sealL_length l
  obtain ⟨c, hc⟩ : ∃ c, sealL l = c := ⟨_, rfl⟩
  have h2 : c.length ≤ 304 := by rw [← hc]; omega
  have h2' : c.length ≤ 1000000 := by omega
  obtain ⟨A, hA⟩ : ∃ A : Int, (x : Int) % (8 * c.length + 1) = A := ⟨_, rfl⟩
  obtain ⟨B, hB⟩ : ∃ B : Int, (x : Int) % (8 * l.length + 1) = B := ⟨_, rfl⟩
  have hA1 : 0 ≤ A ∧ A < 8 * c.length + 1 := by rw [← hA]; exact ⟨Int.emod_nonneg _ (by omega), Int.emod_lt_of_pos _ (by omega)⟩
  have hB1 : 0 ≤ B ∧ B < 8 * l.length + 1 := by rw [← hB]; exact ⟨Int.emod_nonneg _ (by omega), Int.emod_lt_of_pos _ (by omega)⟩
  have hA2 : -9223372036854775808 ≤ A ∧ A ≤ 9223372036854775807 := by omega
  have hB2 : -9223372036854775808 ≤ B ∧ B ≤ 9223372036854775807 := by omega
  obtain ⟨T, hT⟩ : ∃ T, turnL c A bits = T := ⟨_, rfl⟩
  obtain ⟨U, hU⟩ : ∃ U, turnL l B bits = U := ⟨_, rfl⟩
  have h4 : T.length ≤ 1000000 := by rw [← hT, turnL_length]; omega
  have h5 : U.length ≤ 1000000 := by rw [← hU, turnL_length]; omega
  have HL := Go.Lib.hid hl; have HC := Go.Lib.hid hc; have HA := Go.Lib.hid hA; have HB := Go.Lib.hid hB; have HT := Go.Lib.hid hT; have HU := Go.Lib.hid hU
  clear hl hc hT hU hsl
  go_enter Try.func5, Try.ntmps5
  go_wp2_with (first
    | (go_at_call 9; ((with_reducible refine (cut_any s hs _).mono ?_); rw [HL.out]; rintro e w1 ⟨rfl, rfl⟩))
    | (go_at_call 16; ((with_reducible refine (Seal_l l h1 _).mono ?_); rw [HC.out]; rintro e w1 ⟨rfl, hb1⟩)))
  by_cases hTc : T = c
  · subst hTc
    have ho : openL T = (l, 0) := by rw [← HC.out, open_seal]
    have HO := Go.Lib.hid ho; clear ho
    go_wp2_with (first
      | (go_at_call 19; refine (RTurn_l T h2' A _ rfl hA2 bits hb _).mono ?_; rw [HT.out]; rintro e w2 ⟨rfl, hb2⟩)
      | (go_at_call 15; refine (Open_l T h4 _).mono ?_; rw [HO.out]; rintro e w3 ⟨rfl, hb3⟩)
      | (go_at_call 14; refine (awake_any _).mono ?_; rintro e w4 ⟨rfl, hb4⟩))
    go_ret
    refine ⟨rfl, ?_⟩
    (repeat (first | exact Below.refl _ _ | assumption | refine kp_drew ?_ | refine kp_drewN ?_ | refine kp_alloc ?_ | refine kp_step ?_ (by assumption)))
  · have hTc' : (T == c) = false := by simpa using hTc
    have ho : openL T = ([], 110) := by
      have h := open_burst l A bits
      rw [HC.out, HT.out] at h
      exact h hTc
    have HO := Go.Lib.hid ho; clear ho hTc
    by_cases hUl : U = l
    · have hUl' : (U == l) = true := by simpa using hUl
      clear hUl
      go_wp2_with (first
        | (go_at_call 19; ((with_reducible refine (RTurn_l c h2' A _ rfl hA2 bits hb _).mono ?_); rw [HT.out]; rintro e w2 ⟨rfl, hb2⟩))
        | (go_at_call 19; ((with_reducible refine (RTurn_l l h1 B _ rfl hB2 bits hb _).mono ?_); rw [HU.out]; rintro e w2 ⟨rfl, hb2⟩))
        | (go_at_call 15; refine (Open_l T h4 _).mono ?_; rw [HO.out]; rintro e w3 ⟨rfl, hb3⟩)
        | (go_at_call 14; refine (awake_any _).mono ?_; rintro e w4 ⟨rfl, hb4⟩))
      go_ret
      refine ⟨rfl, ?_⟩
      (repeat (first | exact Below.refl _ _ | assumption | refine kp_drew ?_ | refine kp_drewN ?_ | refine kp_alloc ?_ | refine kp_step ?_ (by assumption)))
    · have hUl' : (U == l) = false := by simpa using hUl
      have hsum : ((crcMore 0 U : Int) == (crcMore 0 l : Int)) = false := by
        have h := sum_burst l B bits
        rw [HU.out] at h
        have := h hUl
        rw [beq_eq_false_iff_ne]
        omega
      clear hUl
      go_wp2_with (first
        | (go_at_call 19; ((with_reducible refine (RTurn_l c h2' A _ rfl hA2 bits hb _).mono ?_); rw [HT.out]; rintro e w2 ⟨rfl, hb2⟩))
        | (go_at_call 19; ((with_reducible refine (RTurn_l l h1 B _ rfl hB2 bits hb _).mono ?_); rw [HU.out]; rintro e w2 ⟨rfl, hb2⟩))
        | (go_at_call 15; refine (Open_l T h4 _).mono ?_; rw [HO.out]; rintro e w3 ⟨rfl, hb3⟩)
        | (go_at_call 10; ((with_reducible refine (Sum_l U h5 _).mono ?_); rintro e w5 ⟨rfl, rfl⟩))
        | (go_at_call 10; ((with_reducible refine (Sum_l l h1 _).mono ?_); rintro e w5 ⟨rfl, rfl⟩))
        | (go_at_call 14; refine (awake_any _).mono ?_; rintro e w4 ⟨rfl, hb4⟩))
      go_ret
      refine ⟨rfl, ?_⟩
      (repeat (first | exact Below.refl _ _ | assumption | refine kp_drew ?_ | refine kp_drewN ?_ | refine kp_alloc ?_ | refine kp_step ?_ (by assumption)))
end Go.Proofs.Ytalfmnkkganimaa
