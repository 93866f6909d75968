/- The walks: Places of roll and of the document; the law RollPlaces. -/
import Derived.Test.YtojeelgloacadaaRollL
namespace Go.Proofs.Ytojeelgloacadaa
open Go.RowKit

def placesL (l : List UInt8) (d : Nat) : Nat → List Nat
  | 0 => []
  | k + 1 => placesL l d k ++ (if rollL (l.take (k + 1)) % d = d - 1 then [k + 1] else [])
theorem placesL_le (l : List UInt8) (d k : Nat) : (placesL l d k).length ≤ k := by
  induction k with
  | zero => simp [placesL]
  | succ k ih => simp only [placesL, List.length_append]; split <;> simp <;> omega
def placesV (l : List UInt8) (d k : Nat) : List Value := (placesL l d k).map fun (x : Nat) => Value.int .i64 (x : Int)
theorem placesV_length (l : List UInt8) (d k : Nat) : (placesV l d k).length = (placesL l d k).length := List.length_map _
theorem placesV_hit (l : List UInt8) (d k : Nat) (h : rollL (l.take (k + 1)) % d = d - 1) : placesV l d (k + 1) = placesV l d k ++ [.int .i64 ((k + 1 : Nat) : Int)] ∧ (placesL l d (k + 1)).length = (placesL l d k).length + 1 := by
  unfold placesV; simp only [placesL]; rw [if_pos h]; simp
theorem placesV_miss (l : List UInt8) (d k : Nat) (h : ¬ rollL (l.take (k + 1)) % d = d - 1) : placesV l d (k + 1) = placesV l d k ∧ (placesL l d (k + 1)).length = (placesL l d k).length := by
  unfold placesV; simp only [placesL]; rw [if_neg h]; simp
set_option maxHeartbeats 1000000 in
theorem Places_any (s : ByteArray) (hs : s.size ≤ 1000000) (d : Nat) (hd : 1 ≤ d) (hdb : (d : Int) ≤ 9223372036854775807) (w : World) :
    Calls Try.prog 21 #[.string s, .int .i64 d] w fun e w' => ∃ v, e = .returned v ∧ w'.ownsRow w.heap.size 3 1 v (placesL s.data.toList d s.size).length (placesV s.data.toList d s.size) ∧ Below w.heap.size w w' := by
  go_enter Try.func21, Try.ntmps21
  go_wp2_with (go_at_call 12; refine (All_any s hs _).mono ?_; rintro e w1 ⟨v1, rfl, hown1, hbel1⟩; obtain ⟨ao, ca, rfl, hra, hla⟩ := Rd.of_owns hown1; clear hown1 hla)
  have hsz1 := hbel1.size
  obtain ⟨B, hB⟩ : ∃ B, w1.heap.size = B := ⟨_, rfl⟩
  have HB := Go.Lib.hid hB
  rw [hB] at hsz1
  clear hB
  have HRA := Go.Lib.hid hra; have HB1 := Go.Lib.hid hbel1
  clear hra hbel1
  go_loopw [5, 6, 7, 14] (fun v _ _ i wr => ∃ k : Nat, k ≤ s.size ∧ i = .int .i64 k ∧ wr.ownsRow B 3 1 v (placesL s.data.toList d k).length (placesV s.data.toList d k) ∧ Below B w1 wr) (fun _ _ _ i _ => s.size - (intOf i).toNat)
  case atStart => exact ⟨0, Nat.zero_le _, rfl, World.ownsRow_nil _ _ _ _, Below.refl _ _⟩
  case round =>
    obtain ⟨k, hk, rfl, hown, hbel⟩ := hrel
    by_cases hlt : k < s.size
    · obtain ⟨ga, oa, rfl, hga, hca⟩ := (HRA.out.kept (by rw [HB.out]; exact hbel)).2 (by rw [allV, tab_length]; omega)
      have hc := hca k (by rw [allV, tab_length]; exact hlt)
      rw [allV, tab_get _ _ _ hlt] at hc
      have hr := rollL_lt (s.data.toList.take (k + 1))
      have hle := placesL_le s.data.toList d k
      have hszr : B ≤ wr.heap.size := by have := hbel.size; have := HB.out; omega
      have HO := Go.Lib.hid hown; have HBL := Go.Lib.hid hbel
      clear hca hown hbel
      by_cases hit : rollL (s.data.toList.take (k + 1)) % d = d - 1
      · have HP := Go.Lib.hid (placesV_hit _ _ _ hit)
        generalize rollL (s.data.toList.take (k + 1)) = h at hc hr hit
        have ht : ((h : Int) % (d : Int) == (d : Int) - 1) = true := by
          rw [beq_iff_eq, ← Int.natCast_emod, hit]; omega
        have hr' : h < 4294967296 := by omega
        clear hit hr
        go_wp2_with (at_builtin; refine wpList_append_one _ rfl _ _ 42 rfl B 3 (.int .i64 0) 8 Try.underlying42 (by kernel_rfl) rfl _ _ _ rfl HO.out (.int .i64 (k + 1)) rfl rfl (by unfold maxLen; omega) (by omega) hszr ?_)
        intro v' w3 hown3 hbel3 _
        have hbel4 := HBL.out.trans hbel3
        clear hbel3
        go_wp2_with fail
        go_roundw
        case rel => exact ⟨k + 1, by omega, by go_num, by rw [HP.out.1, HP.out.2]; exact hown3, hbel4⟩
        case measure => simp [intOf]; omega
      · have HP := Go.Lib.hid (placesV_miss _ _ _ hit)
        generalize rollL (s.data.toList.take (k + 1)) = h at hc hr hit
        have ht : ((h : Int) % (d : Int) == (d : Int) - 1) = false := by
          rw [beq_eq_false_iff_ne, ← Int.natCast_emod]; omega
        have hr' : h < 4294967296 := by omega
        clear hit hr
        go_wp2_with fail
        go_roundw
        case rel => exact ⟨k + 1, by omega, by go_num, by rw [HP.out.1, HP.out.2]; exact HO.out, HBL.out⟩
        case measure => simp [intOf]; omega
    · obtain rfl : k = s.size := by omega
      go_wp2
      go_ret
      exact ⟨_, rfl, owns_base hown hsz1, HB1.out.trans (hbel.mono (by omega))⟩
set_option maxHeartbeats 1000000 in
theorem RPlaces_any (s : ByteArray) (hs : s.size ≤ 1000000) (d : Nat) (hd : 1 ≤ d) (hdb : (d : Int) ≤ 9223372036854775807) (w : World) :
    Calls Try.prog 22 #[.string s, .int .i64 d] w fun e w' => ∃ v, e = .returned v ∧ w'.ownsRow w.heap.size 3 1 v (placesL s.data.toList d s.size).length (placesV s.data.toList d s.size) ∧ Below w.heap.size w w' := by
  obtain ⟨B, hB⟩ : ∃ B, w.heap.size = B := ⟨_, rfl⟩
  have HB := Go.Lib.hid hB
  clear hB
  go_enter Try.func22, Try.ntmps22
  go_wp2_with fail
  go_loopw [5, 6] (fun v i wr => ∃ k : Nat, k ≤ s.size ∧ i = .int .i64 (k + 1 : Nat) ∧ wr.ownsRow B 3 1 v (placesL s.data.toList d k).length (placesV s.data.toList d k) ∧ Below B w wr) (fun _ i _ => s.size + 1 - (intOf i).toNat)
  case atStart => exact ⟨0, Nat.zero_le _, rfl, World.ownsRow_nil _ _ _ _, Below.refl _ _⟩
  case round =>
    obtain ⟨k, hk, rfl, hown, hbel⟩ := hrel
    by_cases hlt : k < s.size
    · have hx : (s.extract 0 (k + 1)).size ≤ maxLen := by rw [ByteArray.size_extract]; unfold maxLen; omega
      have hxl : (s.extract 0 (k + 1)).data.toList = s.data.toList.take (k + 1) := by rw [Go.Lib.extract_data]; simp
      have HX := Go.Lib.hid hxl; have HXS := Go.Lib.hid hx; clear hxl hx
      have hr := rollL_lt (s.data.toList.take (k + 1))
      have hle := placesL_le s.data.toList d k
      have hszr : B ≤ wr.heap.size := by have := hbel.size; have := HB.out; omega
      have HO := Go.Lib.hid hown; have HBL := Go.Lib.hid hbel
      clear hown hbel
      by_cases hit : rollL (s.data.toList.take (k + 1)) % d = d - 1
      · have HP := Go.Lib.hid (placesV_hit _ _ _ hit)
        obtain ⟨h, hh⟩ : ∃ h, rollL (s.data.toList.take (k + 1)) = h := ⟨_, rfl⟩
        rw [hh] at hit hr
        have HH := Go.Lib.hid hh; clear hh
        have ht : ((h : Int) % (d : Int) == (d : Int) - 1) = true := by
          rw [beq_iff_eq, ← Int.natCast_emod, hit]; omega
        have hr' : h < 4294967296 := by omega
        clear hit hr
        go_wp2_with (first
          | (go_at_call 10; refine (RSum_any _ HXS.out _).mono ?_; rw [HX.out, HH.out]; rintro e w2 ⟨rfl, rfl⟩)
          | (at_builtin; refine wpList_append_one _ rfl _ _ 42 rfl B 3 (.int .i64 0) 8 Try.underlying42 (by kernel_rfl) rfl _ _ _ rfl HO.out (.int .i64 (k + 1)) rfl rfl (by unfold maxLen; omega) (by omega) hszr ?_))
        intro v' w3 hown3 hbel3 _
        have hbel4 := HBL.out.trans hbel3
        clear hbel3
        go_wp2_with fail
        go_roundw
        case rel => exact ⟨k + 1, by omega, by go_num, by rw [HP.out.1, HP.out.2]; exact hown3, hbel4⟩
        case measure => simp [intOf]; omega
      · have HP := Go.Lib.hid (placesV_miss _ _ _ hit)
        obtain ⟨h, hh⟩ : ∃ h, rollL (s.data.toList.take (k + 1)) = h := ⟨_, rfl⟩
        rw [hh] at hit hr
        have HH := Go.Lib.hid hh; clear hh
        have ht : ((h : Int) % (d : Int) == (d : Int) - 1) = false := by
          rw [beq_eq_false_iff_ne, ← Int.natCast_emod]; omega
        have hr' : h < 4294967296 := by omega
        clear hit hr
        go_wp2_with (go_at_call 10; refine (RSum_any _ HXS.out _).mono ?_; rw [HX.out, HH.out]; rintro e w2 ⟨rfl, rfl⟩)
        go_roundw
        case rel => exact ⟨k + 1, by omega, by go_num, by rw [HP.out.1, HP.out.2]; exact HO.out, HBL.out⟩
        case measure => simp [intOf]; omega
    · obtain rfl : k = s.size := by omega
      go_wp2
      go_ret
      exact ⟨_, rfl, by rw [HB.out]; exact hown, by rw [HB.out]; exact hbel⟩
set_option maxHeartbeats 400000 in
theorem Places_no (s : ByteArray) (d : Int) (hd : d < 1) (w : World) :
    Calls Try.prog 21 #[.string s, .int .i64 d] w fun e w' => ∃ v, e = .returned v ∧ w'.ownsRow w.heap.size 3 1 v 0 [] ∧ Below w.heap.size w w' := by
  go_enter Try.func21, Try.ntmps21
  go_wp2_with fail
  go_ret
  exact ⟨_, rfl, World.ownsRow_nil _ _ _ _, Below.refl _ _⟩
set_option maxHeartbeats 400000 in
theorem RPlaces_no (s : ByteArray) (hs : s.size ≤ 1000000) (d : Int) (hd : d < 1) (w : World) :
    Calls Try.prog 22 #[.string s, .int .i64 d] w fun e w' => ∃ v, e = .returned v ∧ w'.ownsRow w.heap.size 3 1 v 0 [] ∧ Below w.heap.size w w' := by
  by_cases h1 : 1 ≤ s.size
  · go_enter Try.func22, Try.ntmps22
    go_wp2_with fail
    refine wp_loop_rounds 1 ?_
    rw [rounds_succ]
    go_wp2_with fail
    go_ret
    exact ⟨_, rfl, World.ownsRow_nil _ _ _ _, Below.refl _ _⟩
  · go_enter Try.func22, Try.ntmps22
    go_wp2_with fail
    refine wp_loop_rounds 1 ?_
    rw [rounds_succ]
    go_wp2_with fail
    go_ret
    exact ⟨_, rfl, World.ownsRow_nil _ _ _ _, Below.refl _ _⟩
/-- Both, whatever the divisor: the same numbers, however many. -/
def placesOf (l : List UInt8) (d : Int) (n : Nat) : List Nat := if d < 1 then [] else placesL l d.toNat n
theorem placesOf_le (l : List UInt8) (d : Int) (k : Nat) : (placesOf l d k).length ≤ k := by
  unfold placesOf; split
  · simp
  · exact placesL_le _ _ _
theorem Places_all (s : ByteArray) (hs : s.size ≤ 1000000) (d : Int) (hd : -9223372036854775808 ≤ d ∧ d ≤ 9223372036854775807) (w : World) :
    Calls Try.prog 21 #[.string s, .int .i64 d] w fun e w' => ∃ v, e = .returned v ∧ w'.ownsRow w.heap.size 3 1 v (placesOf s.data.toList d s.size).length ((placesOf s.data.toList d s.size).map fun (x : Nat) => Value.int .i64 (x : Int)) ∧ Below w.heap.size w w' := by
  by_cases h : d < 1
  · unfold placesOf; rw [if_pos h]; exact Places_no s d h w
  · obtain ⟨x, rfl⟩ : ∃ x : Nat, d = x := ⟨d.toNat, by omega⟩
    unfold placesOf; rw [if_neg h, Int.toNat_natCast]; exact Places_any s hs x (by omega) hd.2 w
theorem RPlaces_all (s : ByteArray) (hs : s.size ≤ 1000000) (d : Int) (hd : -9223372036854775808 ≤ d ∧ d ≤ 9223372036854775807) (w : World) :
    Calls Try.prog 22 #[.string s, .int .i64 d] w fun e w' => ∃ v, e = .returned v ∧ w'.ownsRow w.heap.size 3 1 v (placesOf s.data.toList d s.size).length ((placesOf s.data.toList d s.size).map fun (x : Nat) => Value.int .i64 (x : Int)) ∧ Below w.heap.size w w' := by
  by_cases h : d < 1
  · unfold placesOf; rw [if_pos h]; exact RPlaces_no s hs d h w
  · obtain ⟨x, rfl⟩ : ∃ x : Nat, d = x := ⟨d.toNat, by omega⟩
    unfold placesOf; rw [if_neg h, Int.toNat_natCast]; exact RPlaces_any s hs x (by omega) hd.2 w
set_option maxHeartbeats 1000000 in
theorem RollPlaces_law (s : ByteArray) (hs : s.size ≤ maxLen) (d : Int) (hd : -9223372036854775808 ≤ d ∧ d ≤ 9223372036854775807) (w : World) :
    Calls Try.prog 7 #[.string s, .int .i64 d] w fun e w' => e = .returned (.bool true) ∧ Below w.heap.size w w' := by
  have hs' := hs
  unfold maxLen at hs'
  by_cases h300 : 300 < s.size
  · go_enter Try.func7, Try.ntmps7
    go_wp2_with (go_at_call 8; refine (awake_any _).mono ?_; rintro e w1 ⟨rfl, hb1⟩)
    go_ret
    exact ⟨rfl, hb1⟩
  · have h1 : s.size ≤ 1000000 := by omega
    obtain ⟨L, hL⟩ : ∃ L, placesOf s.data.toList d s.size = L := ⟨_, rfl⟩
    have hLn : L.length ≤ 300 := by rw [← hL]; have := placesOf_le s.data.toList d s.size; omega
    obtain ⟨n, hn⟩ : ∃ n, L.length = n := ⟨_, rfl⟩
    rw [hn] at hLn
    have H1 := Places_all s h1 d hd
    have H2 := RPlaces_all s h1 d hd
    rw [hL, hn] at H1 H2
    have HN := Go.Lib.hid hn
    have h1' := Go.Lib.hid H1; have h2' := Go.Lib.hid H2
    have hne : ((n : Int) != n) = false := by simp
    clear H1 H2 hL hn
    go_enter Try.func7, Try.ntmps7
    go_wp2_with (first
      | (go_at_call 21; refine (h1'.out _).mono ?_; rintro e w1 ⟨v1, rfl, hown1, hbel1⟩; obtain ⟨ao, ca, rfl, hra, hla⟩ := Rd.of_owns hown1; clear hown1 hla)
      | (go_at_call 22; refine (h2'.out _).mono ?_; rintro e w2 ⟨v2, rfl, hown2, hbel2⟩; obtain ⟨bo, cb, rfl, hrb, hlb⟩ := Rd.of_owns hown2; clear hown2 hlb))
    have hbel := kp_step hbel1 hbel2
    have HA := Go.Lib.hid (hra.kept hbel2); have HB := Go.Lib.hid hrb
    have HBL := Go.Lib.hid hbel
    clear hra hrb hbel1 hbel2 hbel
    go_loopw [7] (fun i wr => ∃ k : Nat, k ≤ n ∧ i = .int .i64 k ∧ Below w2.heap.size w2 wr) (fun i _ => n - (intOf i).toNat)
    case atStart => exact ⟨0, Nat.zero_le _, rfl, Below.refl _ _⟩
    case round =>
      obtain ⟨k, hk, rfl, hbel⟩ := hrel
      by_cases hlt : k < n
      · obtain ⟨ga, oa, rfl, hga, hca⟩ := (HA.out.kept hbel).2 (by rw [List.length_map, HN.out]; omega)
        obtain ⟨gb, ob, rfl, hgb, hcb⟩ := (HB.out.kept hbel).2 (by rw [List.length_map, HN.out]; omega)
        have c1 := hca k (by rw [List.length_map, HN.out]; exact hlt)
        have c2 := hcb k (by rw [List.length_map, HN.out]; exact hlt)
        have hkl : k < L.length := by have := HN.out; omega
        rw [List.getElem?_map, List.getElem?_eq_getElem hkl] at c1 c2
        simp only [Option.map_some] at c1 c2
        have hxx : ((L[k] : Int) != (L[k] : Int)) = false := by simp
        generalize L[k] = x at c1 c2 hxx
        clear hca hcb hkl
        go_wp2_with fail
        go_quiet (fail)
        go_wp2_with fail
        go_roundw
        case rel => exact ⟨k + 1, by omega, by go_num, below_drewN hbel _⟩
        case measure => simp [intOf]; omega
      · obtain rfl : k = n := by omega
        go_wp2_with (go_at_call 8; refine (awake_any _).mono ?_; rintro e w4 ⟨rfl, hb4⟩)
        go_ret
        exact ⟨rfl, kp_step (kp_step HBL.out hbel) hb4⟩
end Go.Proofs.Ytojeelgloacadaa
