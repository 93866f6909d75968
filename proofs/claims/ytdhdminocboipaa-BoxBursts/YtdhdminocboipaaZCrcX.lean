/- The walks: Turn of the document, Turn of crc. -/
import Derived.Test.YtdhdminocboipaaZCrcW
namespace Go.Proofs.Ytdhdminocboipaa
open Go.RowKit

/-- Bits turned: of 'bits' the first k, from place 'at' on. -/
def flip (f : Nat → Bool) (at_ : Int) (bits k : Nat) : Nat → Bool := fun p => f p != (decide (at_ ≤ p ∧ (p : Int) < at_ + k) && bits.testBit (p - at_).toNat)
def turnL (l : List UInt8) (at_ : Int) (bits : Nat) : List UInt8 := textL l.length (flip (bitAt l) at_ bits 32)
theorem flip_zero (f : Nat → Bool) (at_ : Int) (bits : Nat) (p : Nat) : flip f at_ bits 0 p = f p := by
  unfold flip; rw [decide_eq_false (by omega)]; cases f p <;> rfl
theorem flip_skip (f : Nat → Bool) (at_ : Int) (bits k p : Nat) (h : (p : Int) ≠ at_ + k ∨ bits.testBit k = false) : flip f at_ bits (k + 1) p = flip f at_ bits k p := by
  unfold flip
  by_cases hp : (p : Int) = at_ + k
  · have hb : bits.testBit k = false := h.resolve_left fun h2 => h2 hp
    have : (p - at_).toNat = k := by omega
    rw [this, hb]; simp
  · congr 2
    rw [decide_eq_decide]
    omega
theorem flip_hit (f : Nat → Bool) (at_ : Int) (bits k p : Nat) (h : (p : Int) = at_ + k) (hb : bits.testBit k = true) : flip f at_ bits (k + 1) p = !(flip f at_ bits k p) := by
  unfold flip
  have : (p - at_).toNat = k := by omega
  rw [this, hb, decide_eq_true (show at_ ≤ (p : Int) ∧ (p : Int) < at_ + ((k + 1 : Nat) : Int) by omega), decide_eq_false (by omega)]
  cases f p <;> rfl
set_option maxHeartbeats 1000000 in
theorem RTurn_any (s : ByteArray) (hs : s.size ≤ 1000000) (a : Int) (ha : -9223372036854775808 ≤ a ∧ a ≤ 9223372036854775807) (bits : Nat) (hbits : bits < 4294967296) (w : World) :
    Calls Try.prog 13 #[.string s, .int .i64 a, .int .u32 bits] w fun e w' => e = .returned (.string ⟨(turnL s.data.toList a bits).toArray⟩) ∧ Below w.heap.size w w' := by
  have hsl : s.data.toList.length = s.size := by simp
  obtain ⟨n, hn⟩ : ∃ n, 8 * s.size = n := ⟨_, rfl⟩
  have hnb : n ≤ 8000000 := by omega
  obtain ⟨f, hf⟩ : ∃ f, f = bitAt s.data.toList := ⟨_, rfl⟩
  have hv : textL s.size (flip f a bits 32) = turnL s.data.toList a bits := by unfold turnL; rw [hsl, hf]
  have HV := Go.Lib.hid hv; clear hv hsl
  have HN := Go.Lib.hid hn
  go_enter Try.func13, Try.ntmps13
  go_wp2_with (go_at_call 37; refine (Bits_any s hs _).mono ?_; rw [hn, ← hf]; rintro e w1 ⟨rfl, hb1, hbel1⟩)
  clear hn hf
  obtain ⟨g, hg⟩ : ∃ g, w.heap.size = g := ⟨_, rfl⟩
  have hgw : w.heap.size ≤ g := by omega
  rw [hg] at hb1
  have HG := Go.Lib.hid hg
  simp only [hg]
  clear hg
  go_loopw [2, 8] (fun b i wr => ∃ k : Nat, k ≤ 32 ∧ i = .int .i64 k ∧ b = .int .u32 ((bits / 2 ^ k : Nat) : Int) ∧ Blk wr g 4 (tab n fun j => .bool (flip f a bits k j)) ∧ Below w.heap.size w wr) (fun _ i _ => 32 - (intOf i).toNat)
  case atStart => exact ⟨0, by omega, rfl, by simp, hb1.congr (tab_congr fun j _ => by rw [flip_zero]), hbel1⟩
  case round =>
    obtain ⟨k, hk, rfl, rfl, hbr, hbel⟩ := hrel
    clear hb1 hbel1
    by_cases hlt : k < 32
    · have hd : bits / 2 ^ k < 4294967296 := Nat.lt_of_le_of_lt (Nat.div_le_self _ _) hbits
      have hbt := bit_of_div bits k
      have HP : Hid (bits / 2 ^ (k + 1) = bits / 2 ^ k / 2) := by show _ = _; rw [Nat.pow_succ, Nat.div_div_eq_div_mul]
      generalize bits / 2 ^ k = d at hd hbt HP
      by_cases hbit : bits.testBit k = true
      · rw [hbit] at hbt
        have HB := Go.Lib.hid hbit; clear hbit
        by_cases h1 : a < n - k
        · by_cases h2 : -(k : Int) ≤ a
          · obtain ⟨p, hp⟩ : ∃ p : Nat, a + k = p := ⟨(a + k).toNat, by omega⟩
            have hpn : p < n := by omega
            have HPP := Go.Lib.hid hp
            have hc := hbr.at p hpn
            have hfz := hbr.freeAt p hpn
            obtain ⟨x, hx⟩ : ∃ x, flip f a bits k p = x := ⟨_, rfl⟩
            rw [hx] at hc
            have HX := Go.Lib.hid hx; clear hx
            go_wp2_with fail
            go_roundw
            case rel =>
              refine ⟨k + 1, by omega, by go_num, by rw [HP.out]; go_num, hbr.setTab p _ _ ?_ ?_, hbel.setCell hgw _⟩
              · rw [flip_hit _ _ _ _ _ HPP.out.symm HB.out, HX.out]
              · intro i _ hne
                rw [flip_skip _ _ _ _ _ (.inl (by have := HPP.out; omega))]
            case measure => simp [intOf]; omega
          · go_wp2_with fail
            go_roundw
            case rel => exact ⟨k + 1, by omega, by go_num, by rw [HP.out]; go_num, hbr.congr (tab_congr fun j hj => by rw [flip_skip _ _ _ _ _ (.inl (by omega))]), hbel⟩
            case measure => simp [intOf]; omega
        · have h1' : (n : Int) - k ≤ a := by omega
          go_wp2_with fail
          go_roundw
          case rel => exact ⟨k + 1, by omega, by go_num, by rw [HP.out]; go_num, hbr.congr (tab_congr fun j hj => by rw [flip_skip _ _ _ _ _ (.inl (by omega))]), hbel⟩
          case measure => simp [intOf]; omega
      · have hbit : bits.testBit k = false := by simpa using hbit
        rw [hbit] at hbt
        have HB := Go.Lib.hid hbit; clear hbit
        go_wp2_with fail
        go_roundw
        case rel => exact ⟨k + 1, by omega, by go_num, by rw [HP.out]; go_num, hbr.congr (tab_congr fun j hj => by rw [flip_skip _ _ _ _ _ (.inr HB.out)]), hbel⟩
        case measure => simp [intOf]; omega
    · obtain rfl : k = 32 := by omega
      go_wp2_with (go_at_call 38; refine (text_any g n n n s.size _ _ hbr HN.out.symm (Nat.le_refl _) hs).mono ?_; rintro e w2 ⟨rfl, hbel2⟩)
      go_ret
      exact ⟨ret_str (by rw [HV.out]), kp_step hbel hbel2⟩

/-! Turn of crc: byte by byte. -/
theorem byteOf_congr (f g : Nat → Bool) (j : Nat) (h : ∀ p, p / 8 = j → f p = g p) : byteOf f j = byteOf g j := by
  unfold byteOf
  congr 1
  apply Nat.eq_of_testBit_eq
  intro k
  rw [numOf_bit, numOf_bit]
  by_cases hk : k < 8
  · rw [h _ (by omega)]
  · simp [hk]
theorem byteOf_bitAt (l : List UInt8) (j : Nat) : byteOf (bitAt l) j = l.getD j 0 := by
  apply UInt8.toNat_inj.1
  rw [byteOf_toNat]
  apply Nat.eq_of_testBit_eq
  intro k
  rw [numOf_bit]
  by_cases hk : k < 8
  · unfold bitAt
    simp only [hk, decide_true, Bool.true_and]
    rw [show (8 * j + k) / 8 = j from by omega, show (8 * j + k) % 8 = k from by omega]
  · rw [Nat.testBit_lt_two_pow (Nat.lt_of_lt_of_le (l.getD j 0).toNat_lt (Nat.pow_le_pow_right (n := 2) (i := 8) (by omega) (by omega)))]
    simp [hk]
theorem byteOf_flip (f g : Nat → Bool) (p : Nat) (hp : g p = !(f p)) (hne : ∀ q, q ≠ p → g q = f q) : (byteOf g (p / 8)).toNat = (byteOf f (p / 8)).toNat ^^^ 2 ^ (p % 8) := by
  rw [byteOf_toNat, byteOf_toNat]
  apply Nat.eq_of_testBit_eq
  intro k
  rw [Nat.testBit_xor, numOf_bit, numOf_bit, Nat.testBit_two_pow]
  by_cases hk : k = p % 8
  · subst hk
    rw [show 8 * (p / 8) + p % 8 = p from by omega, hp]
    have : p % 8 < 8 := by omega
    simp [this]
  · by_cases hk8 : k < 8
    · rw [hne _ (by omega)]
      simp [show ¬ p % 8 = k from by omega]
    · simp [hk8, show ¬ p % 8 = k from by omega]
theorem flip_far (f : Nat → Bool) (a : Int) (bits k p : Nat) (h : ¬ (a ≤ p ∧ (p : Int) < a + k)) : flip f a bits k p = f p := by
  unfold flip; rw [decide_eq_false h]; cases f p <;> rfl
theorem u32_bit (x k : Nat) (hx : x < 4294967296) : bits BinOp.and IntKind.u32 ((x : Int) / 2 ^ k) 1 = if x.testBit k then 1 else 0 := by
  have h : ((x : Int) / 2 ^ k) = ((x / 2 ^ k : Nat) : Int) := by simp
  rw [h, show (1 : Int) = ((1 : Nat) : Int) from rfl, u32_and_nat _ _ (Nat.lt_of_le_of_lt (Nat.div_le_self _ _) hx) (by omega), Nat.and_one_is_mod, Nat.testBit_eq_decide_div_mod_eq]
  have := Nat.mod_two_eq_zero_or_one (x / 2 ^ k)
  rcases this with h | h <;> simp [h]
theorem xor_shl (o r : Nat) (ho : o < 256) (hr : r < 8) : bits BinOp.xor IntKind.u8 (o : Int) (2 ^ r % 256) = ((o ^^^ 2 ^ r : Nat) : Int) := by
  have hp : 2 ^ r ≤ 128 := Nat.pow_le_pow_right (n := 2) (by omega) (show r ≤ 7 by omega)
  have h : ((2 : Int) ^ r % 256) = ((2 ^ r : Nat) : Int) := by
    have h2 : ((2 : Int) ^ r) = ((2 ^ r : Nat) : Int) := by simp
    rw [h2]; generalize 2 ^ r = q at hp; omega
  rw [h, u8_xor_nat _ _ ho (by omega)]
end Go.Proofs.Ytdhdminocboipaa
