/- The walks: Apart of crc, Apart of the document. -/
import Derived.Test.YtalfmnkkganimaaCrcX
namespace Go.Proofs.Ytalfmnkkganimaa
open Go.RowKit

/-- The first and the last place, of n, at which d holds; (-1, -1): none. -/
def fl (d : Nat → Bool) : Nat → Int × Int
  | 0 => (-1, -1)
  | p + 1 => if d p then (if (fl d p).1 < 0 then (p : Int) else (fl d p).1, (p : Int)) else fl d p
theorem fl_bd (d : Nat → Bool) (n : Nat) : -1 ≤ (fl d n).1 ∧ -1 ≤ (fl d n).2 ∧ (fl d n).1 < n ∧ (fl d n).2 < n ∧ (fl d n).1 ≤ (fl d n).2 := by
  induction n with
  | zero => simp [fl]
  | succ n ih =>
    simp only [fl]
    split
    · split <;> simp <;> omega
    · omega
def apartL (a b : List UInt8) : Int × Bool :=
  if a.length = b.length then
    (if (fl (fun p => bitAt a p != bitAt b p) (8 * a.length)).1 < 0 then 0 else (fl (fun p => bitAt a p != bitAt b p) (8 * a.length)).2 - (fl (fun p => bitAt a p != bitAt b p) (8 * a.length)).1 + 1, true)
  else (0, false)
theorem u8_xbit (x y r : Nat) (hx : x < 256) (hy : y < 256) : bits BinOp.and IntKind.u8 (bits BinOp.xor IntKind.u8 (x : Int) (y : Int) / 2 ^ r) 1 = if x.testBit r != y.testBit r then 1 else 0 := by
  have hxy : x ^^^ y < 256 := Nat.xor_lt_two_pow (n := 8) hx hy
  rw [u8_xor_nat _ _ hx hy]
  have h : (((x ^^^ y : Nat) : Int) / 2 ^ r) = (((x ^^^ y) / 2 ^ r : Nat) : Int) := by simp
  rw [h, show (1 : Int) = ((1 : Nat) : Int) from rfl, u8_and_nat _ _ (Nat.lt_of_le_of_lt (Nat.div_le_self _ _) hxy) (by omega), Nat.and_one_is_mod]
  have hb : (x ^^^ y).testBit r = (x.testBit r != y.testBit r) := by rw [Nat.testBit_xor]
  rw [← hb, Nat.testBit_eq_decide_div_mod_eq]
  have := Nat.mod_two_eq_zero_or_one ((x ^^^ y) / 2 ^ r)
  rcases this with h | h <;> simp [h]
theorem getD_byte (s : ByteArray) (q : Nat) (h : q < s.size) : s.data.toList.getD q 0 = s[q] := by
  simp [List.getD, h]
  rfl
set_option maxHeartbeats 1000000 in
theorem Apart_any (a b : ByteArray) (ha : a.size ≤ 1000000) (hb : b.size ≤ 1000000) (w : World) :
    Calls Try.prog 20 #[.string a, .string b] w fun e w' => e = .returned (.tuple #[.int .i64 (apartL a.data.toList b.data.toList).1, .bool (apartL a.data.toList b.data.toList).2]) ∧ Below w.heap.size w w' := by
  have hal : a.data.toList.length = a.size := by simp
  have hbl : b.data.toList.length = b.size := by simp
  by_cases hab : a.size = b.size
  · obtain ⟨d, hd⟩ : ∃ d, (fun p => bitAt a.data.toList p != bitAt b.data.toList p) = d := ⟨_, rfl⟩
    obtain ⟨n, hn⟩ : ∃ n, a.size = n := ⟨_, rfl⟩
    have hv : apartL a.data.toList b.data.toList = (if (fl d (8 * n)).1 < 0 then 0 else (fl d (8 * n)).2 - (fl d (8 * n)).1 + 1, true) := by
      unfold apartL; rw [if_pos (by omega), hal, hd, hn]
    have hnb : b.size = n := by omega
    have HV := Go.Lib.hid hv; have HD := Go.Lib.hid hd
    have hne : ((n : Int) != n) = false := by simp
    have hnn : n ≤ 1000000 := by omega
    clear hv hal hbl hab hd
    have HA := Go.Lib.hid hn
    have HB := Go.Lib.hid hnb
    go_enter Try.func20, Try.ntmps20
    go_wp2_with fail
    go_loopw [6, 7, 8, 17] (fun x y _ i wr => ∃ p : Nat, p ≤ 8 * n ∧ i = .int .i64 p ∧ x = .int .i64 (fl d p).1 ∧ y = .int .i64 (fl d p).2 ∧ Below w.heap.size w wr) (fun _ _ _ i _ => 8 * n - (intOf i).toNat)
    case atStart => exact ⟨0, by omega, rfl, rfl, rfl, Below.refl _ _⟩
    case round =>
      obtain ⟨p, hp, rfl, rfl, rfl, hbel⟩ := hrel
      have hfl := fl_bd d p
      by_cases hlt : p < 8 * n
      · have hs1 : fl d (p + 1) = if d p then (if (fl d p).1 < 0 then (p : Int) else (fl d p).1, (p : Int)) else fl d p := rfl
        have HS := Go.Lib.hid hs1; clear hs1
        generalize fl d p = r at hfl HS
        obtain ⟨f0, l0⟩ := r
        simp only at hfl
        have e1 : (p : Int).tdiv 8 = ((p / 8 : Nat) : Int) := by rw [Int.tdiv_eq_ediv_of_nonneg (by omega)]; omega
        have e2 : (p : Int).tmod 8 = ((p % 8 : Nat) : Int) := by rw [Int.tmod_eq_emod_of_nonneg (by omega)]; omega
        generalize hq : p / 8 = q at e1
        generalize hr : p % 8 = m at e2
        have hq8 : q < n := by omega
        have hr8 : m < 8 := by omega
        have hqa : q < a.size := by have := HA.out; omega
        have hqb : q < b.size := by have := HB.out; omega
        have e3 : IntKind.i64.wrap (q : Int) = q := IntWalk.i64_in _ (by omega)
        have hdp : d p = ((a[q]).toNat.testBit m != (b[q]).toNat.testBit m) := by
          rw [← HD.out]
          simp only [bitAt, hq, hr, getD_byte a q hqa, getD_byte b q hqb]
        have hx := u8_xbit (a[q]).toNat (b[q]).toNat m (UInt8.toNat_lt _) (UInt8.toNat_lt _)
        rw [← hdp] at hx
        clear hq hr hdp
        obtain ⟨x, hdx⟩ : ∃ x, d p = x := ⟨_, rfl⟩
        rw [hdx] at hx HS
        cases x
        · rw [if_neg (by decide)] at hx HS
          go_wp2_with fail
          go_quiet (fail)
          go_wp2_with fail
          go_roundw
          case rel => exact ⟨p + 1, by omega, by go_num, by rw [HS.out], by rw [HS.out], below_drewN hbel _⟩
          case measure => simp [intOf]; omega
        · rw [if_pos rfl] at hx HS
          by_cases hf0 : f0 < 0
          · have H2 : Hid (fl d (p + 1) = ((p : Int), (p : Int))) := by have := HS.out; simp only [hf0, if_true] at this; exact this
            go_wp2_with fail
            go_quiet (fail)
            go_wp2_with fail
            go_roundw
            case rel => exact ⟨p + 1, by omega, by go_num, by rw [H2.out], by rw [H2.out], below_drewN hbel _⟩
            case measure => simp [intOf]; omega
          · have H2 : Hid (fl d (p + 1) = (f0, (p : Int))) := by have := HS.out; simp only [hf0, if_false] at this; exact this
            go_wp2_with fail
            go_quiet (fail)
            go_wp2_with fail
            go_roundw
            case rel => exact ⟨p + 1, by omega, by go_num, by rw [H2.out], by rw [H2.out], below_drewN hbel _⟩
            case measure => simp [intOf]; omega
      · obtain rfl : p = 8 * n := by omega
        generalize fl d (8 * n) = r at hfl HV
        obtain ⟨f0, l0⟩ := r
        simp only at hfl HV
        by_cases hf0 : f0 < 0
        · rw [if_pos hf0] at HV
          go_wp2_with fail
          go_ret2
          exact ⟨ret_ib (by rw [HV.out]) (by rw [HV.out]), hbel⟩
        · rw [if_neg hf0] at HV
          go_wp2_with fail
          go_ret2
          exact ⟨ret_ib (by rw [HV.out]) (by rw [HV.out]), hbel⟩
  · have hv : apartL a.data.toList b.data.toList = (0, false) := by unfold apartL; rw [if_neg (by omega)]
    have HV := Go.Lib.hid hv; clear hv hal hbl
    have hne : ((a.size : Int) != b.size) = true := by rw [bne_iff_ne]; omega
    go_enter Try.func20, Try.ntmps20
    go_wp2_with fail
    go_ret2
    exact ⟨ret_ib (by rw [HV.out]) (by rw [HV.out]), Below.refl _ _⟩
set_option maxHeartbeats 1000000 in
theorem RApart_any (a b : ByteArray) (ha : a.size ≤ 1000000) (hb : b.size ≤ 1000000) (w : World) :
    Calls Try.prog 21 #[.string a, .string b] w fun e w' => e = .returned (.tuple #[.int .i64 (apartL a.data.toList b.data.toList).1, .bool (apartL a.data.toList b.data.toList).2]) ∧ Below w.heap.size w w' := by
  have hal : a.data.toList.length = a.size := by simp
  have hbl : b.data.toList.length = b.size := by simp
  by_cases hab : a.size = b.size
  · obtain ⟨d, hd⟩ : ∃ d, (fun p => bitAt a.data.toList p != bitAt b.data.toList p) = d := ⟨_, rfl⟩
    obtain ⟨n, hn⟩ : ∃ n, a.size = n := ⟨_, rfl⟩
    obtain ⟨N, hN⟩ : ∃ N, 8 * n = N := ⟨_, rfl⟩
    have hv : apartL a.data.toList b.data.toList = (if (fl d N).1 < 0 then 0 else (fl d N).2 - (fl d N).1 + 1, true) := by
      unfold apartL; rw [if_pos (by omega), hal, hd, hn, hN]
    have hnb : b.size = n := by omega
    have HV := Go.Lib.hid hv
    have hne : ((n : Int) != n) = false := by simp
    have hnn : N ≤ 8000000 := by omega
    have h1 := Bits_any a ha w
    rw [hn, hN] at h1
    have h2 := fun w => Bits_any b hb w
    rw [hnb, hN] at h2
    have H1 := Go.Lib.hid h1; have H2 := Go.Lib.hid h2
    clear hv hal hbl hab h1 h2 hN
    have HD := Go.Lib.hid hd; clear hd
    go_enter Try.func21, Try.ntmps21
    go_wp2_with (first | (go_at_call 25; ((with_reducible refine H1.out.mono ?_); rintro e w1 ⟨rfl, hb1, hbel1⟩)) | (go_at_call 25; ((with_reducible refine (H2.out _).mono ?_); rintro e w2 ⟨rfl, hb2, hbel2⟩)))
    have hb1' := hb1.kept hbel2
    have hgg : w.heap.size < w1.heap.size := hb1.lt
    have hbel3 := kp_step hbel1 hbel2
    clear hb1 hbel1 hbel2
    generalize hg2 : w1.heap.size = g2 at hb2 hgg ⊢
    generalize hg1 : w.heap.size = g1 at hb1' hgg ⊢
    go_loopw [8, 9, 10] (fun x y i wr => ∃ (p : Nat) (l : Int), p ≤ N ∧ i = .int .i64 p ∧ x = .int .i64 (fl d p).1 ∧ y = .int .i64 l ∧ (0 ≤ (fl d p).1 → l = (fl d p).2) ∧ -2 ≤ l ∧ l ≤ N ∧ Blk wr g1 4 (tab N fun j => .bool (bitAt a.data.toList j)) ∧ Blk wr g2 4 (tab N fun j => .bool (bitAt b.data.toList j)) ∧ Below g1 w wr) (fun _ _ i _ => N - (intOf i).toNat)
    case atStart => exact ⟨0, -2, by omega, rfl, rfl, rfl, by simp [fl], by omega, by omega, hb1', hb2, by rw [← hg1]; exact hbel3⟩
    case round =>
      obtain ⟨p, l, hp, rfl, rfl, rfl, hl, hl1, hl2, hbr1, hbr2, hbel⟩ := hrel
      clear hb1' hb2 hbel3
      have hfl := fl_bd d p
      have HL := Go.Lib.hid hl; clear hl
      by_cases hlt : p < N
      · have hs1 : fl d (p + 1) = if d p then (if (fl d p).1 < 0 then (p : Int) else (fl d p).1, (p : Int)) else fl d p := rfl
        have HS := Go.Lib.hid hs1; clear hs1
        generalize fl d p = r at hfl HS HL
        obtain ⟨f0, l0⟩ := r
        simp only at hfl
        have hc1 := hbr1.at p hlt
        have hc2 := hbr2.at p hlt
        have hdp : d p = (bitAt a.data.toList p != bitAt b.data.toList p) := by rw [← HD.out]
        generalize bitAt a.data.toList p = x at hc1 hdp
        generalize bitAt b.data.toList p = y at hc2 hdp
        obtain ⟨z, hz⟩ : ∃ z, d p = z := ⟨_, rfl⟩
        rw [hz] at HS hdp
        have hxy : (x == y) = !z := by rw [hdp]; cases x <;> cases y <;> rfl
        clear hdp hz
        cases z
        · rw [if_neg (by decide)] at HS
          go_wp2_with fail
          go_quiet (fail)
          go_wp2_with fail
          go_roundw
          case rel => exact ⟨p + 1, l, by omega, by go_num, by rw [HS.out], rfl, by rw [HS.out]; exact HL.out, hl1, hl2, hbr1.drewN _, hbr2.drewN _, below_drewN hbel _⟩
          case measure => simp [intOf]; omega
        · rw [if_pos rfl] at HS
          by_cases hf0 : f0 < 0
          · have H2 : Hid (fl d (p + 1) = ((p : Int), (p : Int))) := by have := HS.out; simp only [hf0, if_true] at this; exact this
            go_wp2_with fail
            go_quiet (fail)
            go_wp2_with fail
            go_roundw
            case rel => exact ⟨p + 1, p, by omega, by go_num, by rw [H2.out], rfl, by rw [H2.out]; intro _; rfl, by omega, by omega, hbr1.drewN _, hbr2.drewN _, below_drewN hbel _⟩
            case measure => simp [intOf]; omega
          · have H2 : Hid (fl d (p + 1) = (f0, (p : Int))) := by have := HS.out; simp only [hf0, if_false] at this; exact this
            go_wp2_with fail
            go_quiet (fail)
            go_wp2_with fail
            go_roundw
            case rel => exact ⟨p + 1, p, by omega, by go_num, by rw [H2.out], rfl, by rw [H2.out]; intro _; rfl, by omega, by omega, hbr1.drewN _, hbr2.drewN _, below_drewN hbel _⟩
            case measure => simp [intOf]; omega
      · obtain rfl : p = N := by omega
        generalize fl d p = r at hfl HV HL
        obtain ⟨f0, l0⟩ := r
        simp only at hfl HV HL
        by_cases hf0 : f0 < 0
        · rw [if_pos hf0] at HV
          go_wp2_with fail
          go_ret2
          exact ⟨ret_ib (by rw [HV.out]) (by rw [HV.out]), by first | exact hbel | (rw [hg1]; exact hbel)⟩
        · rw [if_neg hf0] at HV
          go_wp2_with fail
          go_ret2
          exact ⟨ret_ib (by rw [HV.out, HL.out (by omega)]) (by rw [HV.out]), by first | exact hbel | (rw [hg1]; exact hbel)⟩
  · have hv : apartL a.data.toList b.data.toList = (0, false) := by unfold apartL; rw [if_neg (by omega)]
    have HV := Go.Lib.hid hv; clear hv hal hbl
    have hne : ((a.size : Int) != b.size) = true := by rw [bne_iff_ne]; omega
    go_enter Try.func21, Try.ntmps21
    go_wp2_with fail
    go_ret2
    exact ⟨ret_ib (by rw [HV.out]) (by rw [HV.out]), Below.refl _ _⟩
end Go.Proofs.Ytalfmnkkganimaa
