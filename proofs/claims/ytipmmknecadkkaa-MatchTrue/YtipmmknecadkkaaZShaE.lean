/- Plain: the words of a block, one by one. The walk over the document's words. -/
import Derived.Test.YtipmmknecadkkaaZShaD
import Derived.Test.YtipmmknecadkkaaZBase
namespace Go.Proofs.Ytipmmknecadkkaa
open Go.RowKit

theorem wl_fix (b : List UInt8) (n j : Nat) (h : j < n) : wl b n j = wl b (j + 1) j := by
  induction n with
  | zero => omega
  | succ n ih =>
    by_cases hj : j = n
    · rw [hj]
    · have : wl b (n + 1) j = wl b n j := by simp only [wl]; rw [if_neg hj]
      rw [this, ih (by omega)]
theorem wl_lo (b : List UInt8) (j : Nat) (h : j < 16) : wl b 64 j = be32 b (4 * j) := by
  rw [wl_fix b 64 j (by omega)]
  simp only [wl]
  rw [if_pos trivial, if_pos h]
theorem wl_hi (b : List UInt8) (t : Nat) (h : 16 ≤ t) (h2 : t < 64) : wl b 64 t = nxtW (wl b 64) t := by
  rw [wl_fix b 64 t h2]
  have h3 : wl b (t + 1) t = if t = t then (if t < 16 then be32 b (4 * t) else nxtW (wl b t) t) else wl b t t := rfl
  rw [h3, if_pos rfl, if_neg (by omega)]
  unfold nxtW
  rw [wl_fix b t (t - 2) (by omega), wl_fix b t (t - 7) (by omega), wl_fix b t (t - 15) (by omega), wl_fix b t (t - 16) (by omega),
    ← wl_fix b 64 (t - 2) (by omega), ← wl_fix b 64 (t - 7) (by omega), ← wl_fix b 64 (t - 15) (by omega), ← wl_fix b 64 (t - 16) (by omega)]
theorem tab_snoc {α : Type} (n : Nat) (f : Nat → α) : tab (n + 1) f = tab n f ++ [f n] := by simp [tab, List.range_succ]
/-- The number of the first bytes from a place on. -/
def beN (b : List UInt8) (i : Nat) : Nat → Nat
  | 0 => 0
  | k + 1 => beN b i k * 256 + (b.getD (i + k) 0).toNat
theorem beN4 (b : List UInt8) (i : Nat) : beN b i 4 = be32 b i := by
  simp only [beN, be32, Nat.add_zero]
  omega
theorem beN_lt (b : List UInt8) (i k : Nat) (h : k ≤ 4) : beN b i k < 256 ^ k := by
  induction k with
  | zero => simp [beN]
  | succ k ih =>
    have := ih (by omega)
    have h2 := byte_lt (b.getD (i + k) 0)
    simp only [beN, Nat.pow_succ]
    omega
theorem beN_lt3 (b : List UInt8) (i k : Nat) (h : k < 4) : beN b i k < 16777216 := by
  have h1 := beN_lt b i k (by omega)
  have h2 : 256 ^ k ≤ 256 ^ 3 := Nat.pow_le_pow_right (by omega) (by omega)
  omega
theorem wrap_u32 (x : Int) : IntKind.u32.wrap x = x % 4294967296 := by simp [IntKind.wrap, IntKind.signed, IntKind.bits]
theorem one1 (x : Int) : ∀ u ∈ (#[Value.int .u32 x] : Array Value).toList, u.oneCell' = true := by
  intro u hu
  simp at hu
  subst hu
  rfl
set_option maxHeartbeats 4000000 in
theorem Rwords_any (s : ByteArray) (hs : s.size = 64) (w : World) :
    Calls Try.prog 33 #[.string s] w fun e w' => ∃ v, e = .returned v ∧ w'.ownsRow w.heap.size 39 1 v 64 (tab 64 (wV s.data.toList 64)) ∧ Below w.heap.size w w' := by
  have hsz : s.size ≤ 64 ∧ 64 ≤ s.size := by omega
  obtain ⟨hs1, hs2⟩ := hsz
  clear hs
  obtain ⟨B, hB⟩ : ∃ B, w.heap.size = B := ⟨_, rfl⟩
  have HB := Go.Lib.hid hB
  clear hB
  obtain ⟨b, hb⟩ : ∃ b, s.data.toList = b := ⟨_, rfl⟩
  have HBS := Go.Lib.hid hb
  have hbyte : ∀ i (h : i < s.size), s[i] = b.getD i 0 := by
    intro i h
    have := getD_extract s 0 i (by simpa using h)
    rw [Nat.zero_add, hb] at this
    rw [← this]
    simp
  have HBY := Go.Lib.hid hbyte
  clear hb hbyte
  go_enter Try.func33, Try.ntmps33
  go_wp2_with fail
  go_loopw [3, 4] (fun v i wr => ∃ j : Nat, j ≤ 16 ∧ i = .int .i64 j ∧ wr.ownsRow B 39 1 v j (tab j (wV b 64)) ∧ Below B w wr) (fun _ i _ => 16 - (intOf i).toNat)
  case atStart => exact ⟨0, by omega, rfl, World.ownsRow_nil _ _ _ _, Below.refl _ _⟩
  case round =>
    obtain ⟨j, hj, rfl, hown, hbel⟩ := hrel
    by_cases hj16 : j < 16
    · have HO := Go.Lib.hid hown; have HL := Go.Lib.hid hbel
      have hBr : B ≤ wr.heap.size := by have := hbel.size; have := HB.out; omega
      clear hown hbel
      obtain ⟨wo, hwo⟩ : ∃ wo : World, wo = wr := ⟨_, rfl⟩
      subst hwo
      go_wp2_with fail
      go_loop [5, 6] (fun n k => ∃ q : Nat, q ≤ 4 ∧ k = .int .i64 q ∧ n = .int .u32 (beN b (4 * j) q : Nat)) (fun _ k => 4 - (intOf k).toNat)
      case atStart => exact ⟨0, by omega, rfl, rfl⟩
      case round =>
        obtain ⟨q, hq, rfl, rfl⟩ := hrel
        by_cases hq4 : q < 4
        · have hl := beN_lt3 b (4 * j) q hq4
          have hnext : beN b (4 * j) (q + 1) = beN b (4 * j) q * 256 + (b.getD (4 * j + q) 0).toNat := rfl
          have hidx : 4 * j + q < s.size := by omega
          have hby := HBY.out (4 * j + q) hidx
          have hbl := byte_lt (b.getD (4 * j + q) 0)
          rw [← hby] at hnext hbl
          generalize beN b (4 * j) q = x at *
          have HN := Go.Lib.hid hnext
          have hI : (4 * (j : Int) + (q : Int)) < (s.size : Int) := by omega
          have hI0 : 0 ≤ 4 * (j : Int) + (q : Int) := by omega
          clear hnext hby
          go_wp2_with fail
          go_round
          case rel => exact ⟨q + 1, by omega, by go_num, by rw [HN.out]; go_num⟩
          case measure => simp [intOf]; omega
        · obtain rfl : q = 4 := by omega
          rw [beN4]
          have hv : wV b 64 j = .int .u32 (be32 b (4 * j) : Nat) := by unfold wV; rw [wl_lo b j hj16]
          have HV := Go.Lib.hid hv
          clear hv
          go_wp2_with (at_builtin; refine wpList_append_one _ rfl _ _ 68 rfl B 39 (.int .u32 0) 4 Try.underlying68 (by kernel_rfl) rfl _ j _ rfl HO.out (.int .u32 (be32 b (4 * j) : Nat)) rfl rfl (by unfold maxLen; omega) (by omega) hBr ?_)
          intro v' w3 hown3 hbel3 _
          go_wp2_with fail
          go_roundw
          case rel => exact ⟨j + 1, by omega, by go_num, by rw [tab_snoc, HV.out]; exact hown3, HL.out.trans hbel3⟩
          case measure => simp [intOf]; omega
    · obtain rfl : j = 16 := by omega
      clear hj hj16
      go_wp2_with fail
      go_loopw [3, 7] (fun v i wr2 => ∃ t : Nat, 16 ≤ t ∧ t ≤ 64 ∧ i = .int .i64 t ∧ wr2.ownsRow B 39 1 v t (tab t (wV b 64)) ∧ Below B w wr2) (fun _ i _ => 64 - (intOf i).toNat)
      case atStart => exact ⟨16, by omega, by omega, rfl, hown, hbel⟩
      case round =>
        obtain ⟨t, ht1, ht2, rfl, hown2, hbel2⟩ := hrel
        clear hown hbel
        by_cases h64 : t < 64
        · obtain ⟨m, rfl⟩ : ∃ m, t = m + 16 := ⟨t - 16, by omega⟩
          have HO := Go.Lib.hid hown2; have HL := Go.Lib.hid hbel2
          have hBr : B ≤ wr.heap.size := by have := hbel2.size; have := HB.out; omega
          obtain ⟨ao, cap, rfl, hrd, hrl⟩ := Rd.of_owns hown2
          clear hrl
          obtain ⟨g, off, rfl, hg, hca⟩ := hrd.2 (by rw [tab_length]; omega)
          have c2 := hca (m + 14) (by rw [tab_length]; omega)
          have c7 := hca (m + 9) (by rw [tab_length]; omega)
          have c15 := hca (m + 1) (by rw [tab_length]; omega)
          have c16 := hca m (by rw [tab_length]; omega)
          rw [tab_get _ _ _ (by omega)] at c2 c7 c15 c16
          simp only [wV] at c2 c7 c15 c16
          have hnx := wl_hi b (m + 16) (by omega) h64
          have hnx2 : nxtW (wl b 64) (m + 16) = (((overS (wl b 64 (m + 14)) 17 19 10 + wl b 64 (m + 9)) % 4294967296 + overS (wl b 64 (m + 1)) 7 18 3) % 4294967296 + wl b 64 m) % 4294967296 := rfl
          have l2 := wl_lt b 64 (m + 14); have l7 := wl_lt b 64 (m + 9); have l15 := wl_lt b 64 (m + 1); have l16 := wl_lt b 64 m
          rw [hnx2] at hnx
          have hv : wV b 64 (m + 16) = .int .u32 (wl b 64 (m + 16) : Nat) := rfl
          rw [hnx] at hv
          generalize wl b 64 (m + 14) = x2 at *
          generalize wl b 64 (m + 9) = x7 at *
          generalize wl b 64 (m + 1) = x15 at *
          generalize wl b 64 m = x16 at *
          have HV := Go.Lib.hid hv
          clear hnx hnx2 hv hca hrd hown2 hbel2
          have hs0 : bits BinOp.xor IntKind.u32 ((rotr x15 7 ^^^ rotr x15 18 : Nat) : Int) ((x15 : Int) / 8) = ((overS x15 7 18 3 : Nat) : Int) := u32_xorI _ _ _ (x15 / 8) rfl (by simp) (xor_lt32 (rotr_lt x15 7 l15) (rotr_lt x15 18 l15)) (Nat.lt_of_le_of_lt (Nat.div_le_self _ _) l15)
          have hs1' : bits BinOp.xor IntKind.u32 ((rotr x2 17 ^^^ rotr x2 19 : Nat) : Int) ((x2 : Int) / 1024) = ((overS x2 17 19 10 : Nat) : Int) := u32_xorI _ _ _ (x2 / 1024) rfl (by simp) (xor_lt32 (rotr_lt x2 17 l2) (rotr_lt x2 19 l2)) (Nat.lt_of_le_of_lt (Nat.div_le_self _ _) l2)
          have r1 := rotr_lt x15 7 l15; have r2 := rotr_lt x15 18 l15; have r3 := xor_lt32 r1 r2
          have q1 := rotr_lt x2 17 l2; have q2 := rotr_lt x2 19 l2; have q3 := xor_lt32 q1 q2
          have d1 : x15 / 8 < 4294967296 := Nat.lt_of_le_of_lt (Nat.div_le_self _ _) l15
          have d2 : x2 / 1024 < 4294967296 := Nat.lt_of_le_of_lt (Nat.div_le_self _ _) l2
          have j2 : (0 : Int) ≤ (m : Int) + 14 := by omega
          have j7 : (0 : Int) ≤ (m : Int) + 9 := by omega
          have j15 : (0 : Int) ≤ (m : Int) + 1 := by omega
          go_wp2_with fail
          refine (turned_any x15 l15 _ 7 rfl (by omega) (by omega) _).mono ?_
          rintro e w5 ⟨rfl, rfl⟩
          go_wp2_with fail
          refine (turned_any x15 l15 _ 18 rfl (by omega) (by omega) _).mono ?_
          rintro e w5 ⟨rfl, rfl⟩
          go_wp2_with fail
          refine (turned_any x2 l2 _ 17 rfl (by omega) (by omega) _).mono ?_
          rintro e w5 ⟨rfl, rfl⟩
          go_wp2_with fail
          refine (turned_any x2 l2 _ 19 rfl (by omega) (by omega) _).mono ?_
          rintro e w5 ⟨rfl, rfl⟩
          go_wp2_with fail
          have p7 : IntKind.i64.wrap ((m : Int) + 16 - 7) = (m : Int) + 9 := by rw [IntWalk.i64_in _ (by omega)]; omega
          have p16 : IntKind.i64.wrap ((m : Int) + 16 - 16) = (m : Int) := by rw [IntWalk.i64_in _ (by omega)]; omega
          have p17 : IntKind.i64.wrap (m : Int) = (m : Int) := IntWalk.i64_in _ (by omega)
          have z7 : ((m : Int) + 9).toNat = m + 9 := by omega
          have k7 : (m : Int) + 9 < (m : Int) + 16 := by omega
          have k16 : (m : Int) < (m : Int) + 16 := by omega
          have k17 : m < m + 16 := by omega
          go_region_law ((refine step_append_blk (by rfl) _ _ 68 (by rfl) B 39 (.int .u32 0) 1 4 Try.underlying68 (by kernel_rfl) rfl (by omega) _ (m + 16) _ (by rfl) (by exact HO.out.alloc _) wr.heap.size 1 1 _ (by rfl) (by rfl) (by exact Blk.new _ _ _) (one1 _) (by unfold maxLen; omega) (by omega) (by simp; omega) ?_; intro v9 w9 hown9 hbel9 hgr9))
          all_goals
            go_wp2_with fail
            refine ⟨⟨m + 16 + 1, by omega, by omega, by omega, owns_congr hown9 ?_, (((HL.out).drew).alloc (by simpa using hBr) _).trans hbel9⟩, by simp [intOf]; omega⟩
            rw [tab_snoc (m + 16), HV.out]
            simp
            rw [wrap_u32, wrap_u32, wrap_u32]
            omega
        · obtain rfl : t = 64 := by omega
          go_wp2_with fail
          go_ret
          exact ⟨_, rfl, by rw [HB.out, HBS.out]; exact hown2, by rw [HB.out]; exact hbel2⟩
end Go.Proofs.Ytipmmknecadkkaa
