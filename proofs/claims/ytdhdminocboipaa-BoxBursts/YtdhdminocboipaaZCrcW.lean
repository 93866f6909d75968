/- The walks: text, Turn of the document; Turn of crc. -/
import Derived.Test.YtdhdminocboipaaZCrcT
import Derived.Test.YtdhdminocboipaaZBase
namespace Go.Proofs.Ytdhdminocboipaa
open Go.RowKit

/-- The number whose bits are g's. -/
def numOf (g : Nat → Bool) : Nat → Nat
  | 0 => 0
  | m + 1 => numOf g m ^^^ (if g m then 2 ^ m else 0)
theorem numOf_bit (g : Nat → Bool) (m k : Nat) : (numOf g m).testBit k = (decide (k < m) && g k) := by
  induction m with
  | zero => simp [numOf]
  | succ m ih =>
    simp only [numOf]
    rw [Nat.testBit_xor, ih]
    by_cases hg : g m = true
    · rw [if_pos hg, Nat.testBit_two_pow]
      by_cases h1 : k < m
      · simp [h1, show k < m + 1 from by omega, show ¬ m = k from by omega]
      · by_cases h2 : k = m
        · subst h2; simp [hg]
        · simp [h1, show ¬ k < m + 1 from by omega, show ¬ m = k from by omega]
    · rw [if_neg hg]
      have hg' : g m = false := by simpa using hg
      by_cases h1 : k < m
      · simp [h1, show k < m + 1 from by omega]
      · by_cases h2 : k = m
        · subst h2; simp [hg']
        · simp [h1, show ¬ k < m + 1 from by omega]
theorem numOf_lt (g : Nat → Bool) (m : Nat) : numOf g m < 2 ^ m := by
  apply Nat.lt_pow_two_of_testBit
  intro i hi
  rw [numOf_bit]
  simp [show ¬ i < m from by omega]
def byteOf (f : Nat → Bool) (j : Nat) : UInt8 := UInt8.ofNat (numOf (fun k => f (8 * j + k)) 8)
theorem byteOf_toNat (f : Nat → Bool) (j : Nat) : (byteOf f j).toNat = numOf (fun k => f (8 * j + k)) 8 := by
  unfold byteOf
  have := numOf_lt (fun k => f (8 * j + k)) 8
  simp
  omega
def textL (q : Nat) (f : Nat → Bool) : List UInt8 := tab q (byteOf f)
theorem tab_snoc {α : Type} (n : Nat) (f : Nat → α) : tab (n + 1) f = tab n f ++ [f n] := by simp [tab, List.range_succ]
/-- Doubling from the highest bit on. -/
theorem high_step (c m : Nat) (hm : m < 8) : c / 2 ^ (8 - (m + 1)) = c / 2 ^ (8 - m) * 2 + (if c.testBit (7 - m) then 1 else 0) := by
  rw [show 8 - m = (8 - (m + 1)) + 1 from by omega, show 7 - m = 8 - (m + 1) from by omega, Nat.testBit_eq_decide_div_mod_eq, Nat.pow_succ, ← Nat.div_div_eq_div_mul]
  generalize c / 2 ^ (8 - (m + 1)) = d
  by_cases h : d % 2 = 1
  · simp [h]; omega
  · simp [h]; omega
set_option maxHeartbeats 1000000 in
set_option maxRecDepth 8000 in
theorem text_any (g n c N q : Nat) (f : Nat → Bool) (w : World) (hb : Blk w g 4 (tab N fun j => .bool (f j))) (hn : n = 8 * q) (hN : n ≤ N) (hq : q ≤ 1000000) :
    Calls Try.prog 38 #[.slice (some ⟨g, 0, none⟩) n c] w fun e w' => e = .returned (.string ⟨(textL q f).toArray⟩) ∧ Below w.heap.size w w' := by
  have hgl := hb.lt
  subst hn
  obtain ⟨n, hn⟩ : ∃ n, 8 * q = n := ⟨_, rfl⟩
  rw [hn] at hN ⊢
  have hn8 : n ≤ 8000000 := by omega
  have HN := Go.Lib.hid hn
  clear hn
  go_enter Try.func38, Try.ntmps38
  go_wp2_with fail
  go_loopw [3, 4, 5, 6] (fun v i _ _ wr => ∃ k : Nat, k ≤ q ∧ i = .int .i64 (8 * k : Nat) ∧ wr.ownsRow w.heap.size 5 1 v k ((textL k f).map fun b => .int .u8 (b.toNat : Int)) ∧ Below w.heap.size w wr) (fun _ i _ _ _ => (n - intOf i).toNat)
  case atStart => exact ⟨0, Nat.zero_le _, rfl, World.ownsRow_nil _ _ _ _, Below.refl _ _⟩
  case round =>
    obtain ⟨k, hk, rfl, hown, hbel⟩ := hrel
    have hbr := hb.kept hbel
    obtain ⟨p, hp⟩ : ∃ p, 8 * k = p := ⟨_, rfl⟩
    rw [hp]
    have HP := Go.Lib.hid hp
    by_cases hlt : k < q
    · have hpn : p + 8 ≤ n := by have := HN.out; omega
      clear hp
      obtain ⟨b, hbb⟩ : ∃ b, numOf (fun j => f (8 * k + j)) 8 = b := ⟨_, rfl⟩
      have hb256 : b < 256 := by rw [← hbb]; exact numOf_lt _ _
      have HB := Go.Lib.hid hbb
      clear hbb
      go_wp2_with fail
      go_loop [5, 6] (fun x j => ∃ m : Nat, m ≤ 8 ∧ j = .int .i64 (7 - (m : Int)) ∧ x = .int .u8 ((b / 2 ^ (8 - m) : Nat) : Int)) (fun _ j => (intOf j + 1).toNat)
      case atStart => exact ⟨0, by omega, rfl, by rw [Nat.div_eq_of_lt (by simpa using hb256)]; rfl⟩
      case round =>
        obtain ⟨m, hm, rfl, rfl⟩ := hrel
        by_cases hm8 : m < 8
        · have hst := high_step b m hm8
          have hd : b / 2 ^ (8 - m) < 128 := by
            rw [Nat.div_lt_iff_lt_mul (Nat.two_pow_pos _)]
            have : 2 ≤ 2 ^ (8 - m) := by
              have := Nat.pow_le_pow_right (n := 2) (by omega) (show 1 ≤ 8 - m by omega)
              simpa using this
            omega
          have hbit : b.testBit (7 - m) = f (p + (7 - m)) := by
            rw [← HB.out, numOf_bit, ← HP.out]
            simp
            omega
          rw [hbit] at hst
          have HS := Go.Lib.hid hst
          generalize b / 2 ^ (8 - m) = d at hd HS
          clear hst hbit
          obtain ⟨r, hr⟩ : ∃ r : Nat, 7 - m = r := ⟨_, rfl⟩
          have hrz : (7 - (m : Int)) = r := by omega
          rw [hrz]
          rw [hr] at HS
          have HR := Go.Lib.hid hrz
          have hr8 : r < 8 := by omega
          clear hr hrz
          have hc := hbr.at (p + r) (by omega)
          obtain ⟨x, hx⟩ : ∃ x, f (p + r) = x := ⟨_, rfl⟩
          rw [hx] at HS hc
          clear hx
          cases x
          · go_wp2_with fail
            go_round
            case rel => exact ⟨m + 1, by omega, by have := HR.out; go_num, by rw [HS.out]; go_num⟩
            case measure => have := HR.out; simp [intOf] <;> omega
          · go_wp2_with fail
            go_round
            case rel => exact ⟨m + 1, by omega, by have := HR.out; go_num, by rw [HS.out]; go_num⟩
            case measure => have := HR.out; simp [intOf] <;> omega
        · obtain rfl : m = 8 := by omega
          simp only [Nat.sub_self, Nat.pow_zero, Nat.div_one]
          have hbs := hbel.size
          go_wp2_with (at_builtin; refine wpList_append_one _ rfl _ _ 82 rfl w.heap.size 5 (.int .u8 0) 1 Try.underlying82 (by kernel_rfl) rfl _ k _ rfl hown (.int .u8 b) rfl rfl (by unfold maxLen; omega) (by omega) (by omega) ?_)
          intro v' w2 hown2 hbel2 _
          have hbel3 := hbel.trans hbel2
          clear hown hbel hbel2 hbr
          go_wp2_with fail
          go_roundw
          case rel =>
            refine ⟨k + 1, by omega, by have := HP.out; go_num, ?_, hbel3⟩
            rw [show (textL (k + 1) f).map (fun b => Value.int .u8 (b.toNat : Int)) = (textL k f).map (fun b => Value.int .u8 (b.toNat : Int)) ++ [.int .u8 b] from by
              unfold textL; rw [tab_snoc, List.map_append, List.map_singleton, byteOf_toNat, HB.out]]
            exact hown2
          case measure => simp [intOf]; omega
    · have hpn : n ≤ p := by have := HN.out; omega
      have hpb : p ≤ 8000000 := by omega
      clear hp
      obtain rfl : k = q := by omega
      have hs := run_string_own (P := Try.prog) wr 82 9 5 Try.underlying82 Try.underlying5 Try.underlying9 w.heap.size k _ (textL k f) (tab_length _ _) hown
      go_wp2_with fail
      go_ret
      exact ⟨rfl, hbel⟩
end Go.Proofs.Ytdhdminocboipaa
