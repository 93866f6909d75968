/- Texts of this claim, one behind the other. -/
import Derived.Test.YtlmefcepdadfjaaGreatZShaD
import Derived.Test.YtlmefcepdadfjaaGreatZSxA
import Derived.Test.YtlmefcepdadfjaaGreatZDrawC
/- Plain: the words of a block, one by one. The walk over the document's words. -/
namespace Go.Proofs.YtlmefcepdadfjaaGreat
open Go.RowKit

theorem wl_fix (b : List UInt8) (n j : Nat) (h : j < n) : wl b n j = wl b (j + 1) j := by
  induction n with
  | zero => omega
  | succ n ih =>
    by_cases hj : j = n
    · rw [hj]
    · have : wl b (n + 1) j = wl b n j := by simp only [wl]; rw [if_neg hj]
      rw [this, ih (by omega)]
theorem wl_lo (b : List UInt8) (j : Nat) (h : j < 16) : wl b 64 j = be32 b (4 * j) := by
  rw [wl_fix b 64 j (by omega)]
  simp only [wl]
  rw [if_pos trivial, if_pos h]
theorem wl_hi (b : List UInt8) (t : Nat) (h : 16 ≤ t) (h2 : t < 64) : wl b 64 t = nxtW (wl b 64) t := by
  rw [wl_fix b 64 t h2]
  have h3 : wl b (t + 1) t = if t = t then (if t < 16 then be32 b (4 * t) else nxtW (wl b t) t) else wl b t t := rfl
  rw [h3, if_pos rfl, if_neg (by omega)]
  unfold nxtW
  rw [wl_fix b t (t - 2) (by omega), wl_fix b t (t - 7) (by omega), wl_fix b t (t - 15) (by omega), wl_fix b t (t - 16) (by omega),
    ← wl_fix b 64 (t - 2) (by omega), ← wl_fix b 64 (t - 7) (by omega), ← wl_fix b 64 (t - 15) (by omega), ← wl_fix b 64 (t - 16) (by omega)]
theorem tab_snoc {α : Type} (n : Nat) (f : Nat → α) : tab (n + 1) f = tab n f ++ [f n] := by simp [tab, List.range_succ]
def beN (b : List UInt8) (i : Nat) : Nat → Nat
  | 0 => 0
  | k + 1 => beN b i k * 256 + (b.getD (i + k) 0).toNat
theorem beN4 (b : List UInt8) (i : Nat) : beN b i 4 = be32 b i := by
  simp only [beN, be32, Nat.add_zero]
  omega
theorem beN_lt (b : List UInt8) (i k : Nat) (h : k ≤ 4) : beN b i k < 256 ^ k := by
  induction k with
  | zero => simp [beN]
  | succ k ih =>
    have := ih (by omega)
    have h2 := byte_lt (b.getD (i + k) 0)
    simp only [beN, Nat.pow_succ]
    omega
theorem beN_lt3 (b : List UInt8) (i k : Nat) (h : k < 4) : beN b i k < 16777216 := by
  have h1 := beN_lt b i k (by omega)
  have h2 : 256 ^ k ≤ 256 ^ 3 := Nat.pow_le_pow_right (by omega) (by omega)
  omega
theorem wrap_u32 (x : Int) : IntKind.u32.wrap x = x % 4294967296 := by simp [IntKind.wrap, IntKind.signed, IntKind.bits]
theorem one1 (x : Int) : ∀ u ∈ (#[Value.int .u32 x] : Array Value).toList, u.oneCell' = true := by
  intro u hu
  simp at hu
  subst hu
  rfl
set_option maxHeartbeats 4000000 in
theorem Rwords_any (s : ByteArray) (hs : s.size = 64) (w : World) :
    Calls Tryz.prog 75 #[.string s] w fun e w' => ∃ v, e = .returned v ∧ w'.ownsRow w.heap.size 24 1 v 64 (tab 64 (wV s.data.toList 64)) ∧ Below w.heap.size w w' := by
  have hsz : s.size ≤ 64 ∧ 64 ≤ s.size := by omega
  obtain ⟨hs1, hs2⟩ := hsz
  clear hs
  obtain ⟨B, hB⟩ : ∃ B, w.heap.size = B := ⟨_, rfl⟩
  have HB := Go.Lib.hid hB
  clear hB
  obtain ⟨b, hb⟩ : ∃ b, s.data.toList = b := ⟨_, rfl⟩
  have HBS := Go.Lib.hid hb
  have hbyte : ∀ i (h : i < s.size), s[i] = b.getD i 0 := by
    intro i h
    have := getD_extract s 0 i (by simpa using h)
    rw [Nat.zero_add, hb] at this
    rw [← this]
    simp
  have HBY := Go.Lib.hid hbyte
  clear hb hbyte
  go_enter Tryz.func75, Tryz.ntmps75
  go_wp2_with fail
  go_loopw [3, 4] (fun v i wr => ∃ j : Nat, j ≤ 16 ∧ i = .int .i64 j ∧ wr.ownsRow B 24 1 v j (tab j (wV b 64)) ∧ Below B w wr) (fun _ i _ => 16 - (intOf i).toNat)
  case atStart => exact ⟨0, by omega, rfl, World.ownsRow_nil _ _ _ _, Below.refl _ _⟩
  case round =>
    obtain ⟨j, hj, rfl, hown, hbel⟩ := hrel
    by_cases hj16 : j < 16
    · have HO := Go.Lib.hid hown; have HL := Go.Lib.hid hbel
      have hBr : B ≤ wr.heap.size := by have := hbel.size; have := HB.out; omega
      clear hown hbel
      obtain ⟨wo, hwo⟩ : ∃ wo : World, wo = wr := ⟨_, rfl⟩
      subst hwo
      go_wp2_with fail
      go_loop [5, 6] (fun n k => ∃ q : Nat, q ≤ 4 ∧ k = .int .i64 q ∧ n = .int .u32 (beN b (4 * j) q : Nat)) (fun _ k => 4 - (intOf k).toNat)
      case atStart => exact ⟨0, by omega, rfl, rfl⟩
      case round =>
        obtain ⟨q, hq, rfl, rfl⟩ := hrel
        by_cases hq4 : q < 4
        · have hl := beN_lt3 b (4 * j) q hq4
          have hnext : beN b (4 * j) (q + 1) = beN b (4 * j) q * 256 + (b.getD (4 * j + q) 0).toNat := rfl
          have hidx : 4 * j + q < s.size := by omega
          have hby := HBY.out (4 * j + q) hidx
          have hbl := byte_lt (b.getD (4 * j + q) 0)
          rw [← hby] at hnext hbl
          generalize beN b (4 * j) q = x at *
          have HN := Go.Lib.hid hnext
          have hI : (4 * (j : Int) + (q : Int)) < (s.size : Int) := by omega
          have hI0 : 0 ≤ 4 * (j : Int) + (q : Int) := by omega
          clear hnext hby
          go_wp2_with fail
          go_round
          case rel => exact ⟨q + 1, by omega, by go_num, by rw [HN.out]; go_num⟩
          case measure => simp [intOf]; omega
        · obtain rfl : q = 4 := by omega
          rw [beN4]
          have hv : wV b 64 j = .int .u32 (be32 b (4 * j) : Nat) := by unfold wV; rw [wl_lo b j hj16]
          have HV := Go.Lib.hid hv
          clear hv
          go_wp2_with (at_builtin; refine wpList_append_one _ rfl _ _ 34 rfl B 24 (.int .u32 0) 4 Tryz.underlying34 (by kernel_rfl) rfl _ j _ rfl HO.out (.int .u32 (be32 b (4 * j) : Nat)) rfl rfl (by unfold maxLen; omega) (by omega) hBr ?_)
          intro v' w3 hown3 hbel3 _
          go_wp2_with fail
          go_roundw
          case rel => exact ⟨j + 1, by omega, by go_num, by rw [tab_snoc, HV.out]; exact hown3, HL.out.trans hbel3⟩
          case measure => simp [intOf]; omega
    · obtain rfl : j = 16 := by omega
      clear hj hj16
      go_wp2_with fail
      go_loopw [3, 7] (fun v i wr2 => ∃ t : Nat, 16 ≤ t ∧ t ≤ 64 ∧ i = .int .i64 t ∧ wr2.ownsRow B 24 1 v t (tab t (wV b 64)) ∧ Below B w wr2) (fun _ i _ => 64 - (intOf i).toNat)
      case atStart => exact ⟨16, by omega, by omega, rfl, hown, hbel⟩
      case round =>
        obtain ⟨t, ht1, ht2, rfl, hown2, hbel2⟩ := hrel
        clear hown hbel
        by_cases h64 : t < 64
        · obtain ⟨m, rfl⟩ : ∃ m, t = m + 16 := ⟨t - 16, by omega⟩
          have HO := Go.Lib.hid hown2; have HL := Go.Lib.hid hbel2
          have hBr : B ≤ wr.heap.size := by have := hbel2.size; have := HB.out; omega
          obtain ⟨ao, cap, rfl, hrd, hrl⟩ := Rd.of_owns hown2
          clear hrl
          obtain ⟨g, off, rfl, hg, hca⟩ := hrd.2 (by rw [tab_length]; omega)
          have c2 := hca (m + 14) (by rw [tab_length]; omega)
          have c7 := hca (m + 9) (by rw [tab_length]; omega)
          have c15 := hca (m + 1) (by rw [tab_length]; omega)
          have c16 := hca m (by rw [tab_length]; omega)
          rw [tab_get _ _ _ (by omega)] at c2 c7 c15 c16
          simp only [wV] at c2 c7 c15 c16
          have hnx := wl_hi b (m + 16) (by omega) h64
          have hnx2 : nxtW (wl b 64) (m + 16) = (((overS (wl b 64 (m + 14)) 17 19 10 + wl b 64 (m + 9)) % 4294967296 + overS (wl b 64 (m + 1)) 7 18 3) % 4294967296 + wl b 64 m) % 4294967296 := rfl
          have l2 := wl_lt b 64 (m + 14); have l7 := wl_lt b 64 (m + 9); have l15 := wl_lt b 64 (m + 1); have l16 := wl_lt b 64 m
          rw [hnx2] at hnx
          have hv : wV b 64 (m + 16) = .int .u32 (wl b 64 (m + 16) : Nat) := rfl
          rw [hnx] at hv
          generalize wl b 64 (m + 14) = x2 at *
          generalize wl b 64 (m + 9) = x7 at *
          generalize wl b 64 (m + 1) = x15 at *
          generalize wl b 64 m = x16 at *
          have HV := Go.Lib.hid hv
          clear hnx hnx2 hv hca hrd hown2 hbel2
          have hs0 : bits BinOp.xor IntKind.u32 ((rotr x15 7 ^^^ rotr x15 18 : Nat) : Int) ((x15 : Int) / 8) = ((overS x15 7 18 3 : Nat) : Int) := u32_xorI _ _ _ (x15 / 8) rfl (by simp) (xor_lt32 (rotr_lt x15 7 l15) (rotr_lt x15 18 l15)) (Nat.lt_of_le_of_lt (Nat.div_le_self _ _) l15)
          have hs1' : bits BinOp.xor IntKind.u32 ((rotr x2 17 ^^^ rotr x2 19 : Nat) : Int) ((x2 : Int) / 1024) = ((overS x2 17 19 10 : Nat) : Int) := u32_xorI _ _ _ (x2 / 1024) rfl (by simp) (xor_lt32 (rotr_lt x2 17 l2) (rotr_lt x2 19 l2)) (Nat.lt_of_le_of_lt (Nat.div_le_self _ _) l2)
          have r1 := rotr_lt x15 7 l15; have r2 := rotr_lt x15 18 l15; have r3 := xor_lt32 r1 r2
          have q1 := rotr_lt x2 17 l2; have q2 := rotr_lt x2 19 l2; have q3 := xor_lt32 q1 q2
          have d1 : x15 / 8 < 4294967296 := Nat.lt_of_le_of_lt (Nat.div_le_self _ _) l15
          have d2 : x2 / 1024 < 4294967296 := Nat.lt_of_le_of_lt (Nat.div_le_self _ _) l2
          have j2 : (0 : Int) ≤ (m : Int) + 14 := by omega
          have j7 : (0 : Int) ≤ (m : Int) + 9 := by omega
          have j15 : (0 : Int) ≤ (m : Int) + 1 := by omega
          go_wp2_with fail
          refine (turned_any x15 l15 _ 7 rfl (by omega) (by omega) _).mono ?_
          rintro e w5 ⟨rfl, rfl⟩
          go_wp2_with fail
          refine (turned_any x15 l15 _ 18 rfl (by omega) (by omega) _).mono ?_
          rintro e w5 ⟨rfl, rfl⟩
          go_wp2_with fail
          refine (turned_any x2 l2 _ 17 rfl (by omega) (by omega) _).mono ?_
          rintro e w5 ⟨rfl, rfl⟩
          go_wp2_with fail
          refine (turned_any x2 l2 _ 19 rfl (by omega) (by omega) _).mono ?_
          rintro e w5 ⟨rfl, rfl⟩
          go_wp2_with fail
          have p7 : IntKind.i64.wrap ((m : Int) + 16 - 7) = (m : Int) + 9 := by rw [IntWalk.i64_in _ (by omega)]; omega
          have p16 : IntKind.i64.wrap ((m : Int) + 16 - 16) = (m : Int) := by rw [IntWalk.i64_in _ (by omega)]; omega
          have p17 : IntKind.i64.wrap (m : Int) = (m : Int) := IntWalk.i64_in _ (by omega)
          have z7 : ((m : Int) + 9).toNat = m + 9 := by omega
          have k7 : (m : Int) + 9 < (m : Int) + 16 := by omega
          have k16 : (m : Int) < (m : Int) + 16 := by omega
          have k17 : m < m + 16 := by omega
          go_region_law ((refine step_append_blk (by rfl) _ _ 34 (by rfl) B 24 (.int .u32 0) 1 4 Tryz.underlying34 (by kernel_rfl) rfl (by omega) _ (m + 16) _ (by rfl) (by exact HO.out.alloc _) wr.heap.size 1 1 _ (by rfl) (by rfl) (by exact Blk.new _ _ _) (one1 _) (by unfold maxLen; omega) (by omega) (by simp; omega) ?_; intro v9 w9 hown9 hbel9 hgr9))
          all_goals
            go_wp2_with fail
            refine ⟨⟨m + 16 + 1, by omega, by omega, by omega, owns_congr hown9 ?_, (((HL.out).drew).alloc (by simpa using hBr) _).trans hbel9⟩, by simp [intOf]; omega⟩
            rw [tab_snoc (m + 16), HV.out]
            simp
            rw [wrap_u32, wrap_u32, wrap_u32]
            omega
        · obtain rfl : t = 64 := by omega
          go_wp2_with fail
          go_ret
          exact ⟨_, rfl, by rw [HB.out, HBS.out]; exact hown2, by rw [HB.out]; exact hbel2⟩
end Go.Proofs.YtlmefcepdadfjaaGreat
/- The walk over the document's Block. -/
namespace Go.Proofs.YtlmefcepdadfjaaGreat
open Go.RowKit

theorem quiet_more {P : Program} {f : FuncId} {args : Array Value} {w : World} {a n : Nat} {v : Value} (h : Calls P f args (w.drewN (a + n)) fun e w' => e = .returned v ∧ w.drewN (a + n) = w') : Calls P f args (w.drewN (a + n)) fun e w'' => e = .returned v ∧ ∃ m, w'' = w.drewN (a + m) :=
  h.mono fun _ _ ⟨he, hm⟩ => ⟨he, n, hm.symm⟩
theorem turned_int (x : Nat) (hx : x < 4294967296) (k : Int) (h : 1 ≤ k ∧ k ≤ 31) (w : World) :
    Calls Tryz.prog 77 #[.int .u32 (x : Nat), .int .i64 k] w fun e w' => e = .returned (.int .u32 (rotr x k.toNat : Nat)) ∧ w = w' :=
  turned_any x hx k k.toNat (by omega) (by omega) (by omega) w
section
variable {w0 w1 w2 : World} {g : Nat} {f : Nat → Nat}
theorem k5_of (hg : g < w0.heap.size) (h0 : w0.cell? ⟨g, 1, none⟩ = some (.int .u32 (f 1 : Nat)) ∧ w0.cell? ⟨g, 2, none⟩ = some (.int .u32 (f 2 : Nat)) ∧ w0.cell? ⟨g, 3, none⟩ = some (.int .u32 (f 3 : Nat)) ∧ w0.cell? ⟨g, 5, none⟩ = some (.int .u32 (f 5 : Nat)) ∧ w0.cell? ⟨g, 6, none⟩ = some (.int .u32 (f 6 : Nat))) (hb : Below w0.heap.size w0 w1) : Below w0.heap.size w0 w1 ∧ w1.cell? ⟨g, 1, none⟩ = some (.int .u32 (f 1 : Nat)) ∧ w1.cell? ⟨g, 2, none⟩ = some (.int .u32 (f 2 : Nat)) ∧ w1.cell? ⟨g, 3, none⟩ = some (.int .u32 (f 3 : Nat)) ∧ w1.cell? ⟨g, 5, none⟩ = some (.int .u32 (f 5 : Nat)) ∧ w1.cell? ⟨g, 6, none⟩ = some (.int .u32 (f 6 : Nat)) := by
  obtain ⟨c1, c2, c3, c5, c6⟩ := h0
  exact ⟨hb, by rw [hb.cell (p := ⟨g, 1, none⟩) hg]; exact c1, by rw [hb.cell (p := ⟨g, 2, none⟩) hg]; exact c2, by rw [hb.cell (p := ⟨g, 3, none⟩) hg]; exact c3, by rw [hb.cell (p := ⟨g, 5, none⟩) hg]; exact c5, by rw [hb.cell (p := ⟨g, 6, none⟩) hg]; exact c6⟩
theorem k5_alloc (hg : g < w0.heap.size) (h0 : w0.cell? ⟨g, 1, none⟩ = some (.int .u32 (f 1 : Nat)) ∧ w0.cell? ⟨g, 2, none⟩ = some (.int .u32 (f 2 : Nat)) ∧ w0.cell? ⟨g, 3, none⟩ = some (.int .u32 (f 3 : Nat)) ∧ w0.cell? ⟨g, 5, none⟩ = some (.int .u32 (f 5 : Nat)) ∧ w0.cell? ⟨g, 6, none⟩ = some (.int .u32 (f 6 : Nat))) (h : Below w0.heap.size w0 w1 ∧ w1.cell? ⟨g, 1, none⟩ = some (.int .u32 (f 1 : Nat)) ∧ w1.cell? ⟨g, 2, none⟩ = some (.int .u32 (f 2 : Nat)) ∧ w1.cell? ⟨g, 3, none⟩ = some (.int .u32 (f 3 : Nat)) ∧ w1.cell? ⟨g, 5, none⟩ = some (.int .u32 (f 5 : Nat)) ∧ w1.cell? ⟨g, 6, none⟩ = some (.int .u32 (f 6 : Nat))) (o : Obj) : Below w0.heap.size w0 (w1.alloc o) ∧ (w1.alloc o).cell? ⟨g, 1, none⟩ = some (.int .u32 (f 1 : Nat)) ∧ (w1.alloc o).cell? ⟨g, 2, none⟩ = some (.int .u32 (f 2 : Nat)) ∧ (w1.alloc o).cell? ⟨g, 3, none⟩ = some (.int .u32 (f 3 : Nat)) ∧ (w1.alloc o).cell? ⟨g, 5, none⟩ = some (.int .u32 (f 5 : Nat)) ∧ (w1.alloc o).cell? ⟨g, 6, none⟩ = some (.int .u32 (f 6 : Nat)) := k5_of hg h0 (kp_alloc h.1)
theorem k5_step (hb : Below w0.heap.size w1 w2) (hg : g < w0.heap.size) (h0 : w0.cell? ⟨g, 1, none⟩ = some (.int .u32 (f 1 : Nat)) ∧ w0.cell? ⟨g, 2, none⟩ = some (.int .u32 (f 2 : Nat)) ∧ w0.cell? ⟨g, 3, none⟩ = some (.int .u32 (f 3 : Nat)) ∧ w0.cell? ⟨g, 5, none⟩ = some (.int .u32 (f 5 : Nat)) ∧ w0.cell? ⟨g, 6, none⟩ = some (.int .u32 (f 6 : Nat))) (h : Below w0.heap.size w0 w1 ∧ w1.cell? ⟨g, 1, none⟩ = some (.int .u32 (f 1 : Nat)) ∧ w1.cell? ⟨g, 2, none⟩ = some (.int .u32 (f 2 : Nat)) ∧ w1.cell? ⟨g, 3, none⟩ = some (.int .u32 (f 3 : Nat)) ∧ w1.cell? ⟨g, 5, none⟩ = some (.int .u32 (f 5 : Nat)) ∧ w1.cell? ⟨g, 6, none⟩ = some (.int .u32 (f 6 : Nat))) : Below w0.heap.size w0 w2 ∧ w2.cell? ⟨g, 1, none⟩ = some (.int .u32 (f 1 : Nat)) ∧ w2.cell? ⟨g, 2, none⟩ = some (.int .u32 (f 2 : Nat)) ∧ w2.cell? ⟨g, 3, none⟩ = some (.int .u32 (f 3 : Nat)) ∧ w2.cell? ⟨g, 5, none⟩ = some (.int .u32 (f 5 : Nat)) ∧ w2.cell? ⟨g, 6, none⟩ = some (.int .u32 (f 6 : Nat)) := k5_of hg h0 (h.1.trans hb)
end
set_option maxHeartbeats 8000000 in
set_option maxRecDepth 100000 in
theorem RBlock_any (s : Nat → Nat) (hs : ∀ j, s j < 4294967296) (str : ByteArray) (hl : str.size = 64) (ao : Option Addr) (cp : Nat) (w : World) (hrd : Rd w ao (tab 8 (stV s))) :
    Calls Tryz.prog 49 #[.slice ao 8 cp, .string str] w fun e w' => ∃ v, e = .returned v ∧ w'.ownsRow w.heap.size 24 1 v 8 (tab 8 (stV (blockF str.data.toList s))) ∧ Below w.heap.size w w' := by
  obtain ⟨gs, os, rfl, hgs, hcs⟩ := hrd.2 (by rw [tab_length]; omega)
  obtain ⟨b, hb⟩ : ∃ b, str.data.toList = b := ⟨_, rfl⟩
  have HLS := Go.Lib.hid hl
  have HBS := Go.Lib.hid hb
  have HCS := Go.Lib.hid hcs
  have HRD := Go.Lib.hid hrd
  clear hl hb hcs hrd
  go_enter Tryz.func49, Tryz.ntmps49
  go_wp2_with fail
  refine (Rwords_any str HLS.out _).mono ?_
  rw [HBS.out]
  rintro e w1 ⟨v1, rfl, hown1, hbel1⟩
  obtain ⟨gw, cw, rfl, hgw, hgw1, hcw1, hcw2, hcw, _⟩ := owns_form hown1 (by omega)
  go_wp2_with fail
  refine (Rroots_any _).mono ?_
  rintro e w2 ⟨gk, rfl, hbk, hgk, hbel2⟩
  have hcw' : ∀ j, j < 64 → w2.cell? ⟨gw, j, none⟩ = some (.int .u32 (wl b 64 j : Nat)) := fun j hj => by
    rw [hbel2.cell (p := ⟨gw, j, none⟩) hgw1, hcw j hj, tab_get _ _ _ hj]; rfl
  have hbel02 : Below w.heap.size w w2 := kp_step hbel1 hbel2
  have hrd2 := HRD.out.kept hbel02
  have hsz2 := hbel02.size
  have hgw2 : gw < w2.heap.size := Nat.lt_of_lt_of_le hgw1 hbel2.size
  have HCW := Go.Lib.hid hcw'; have HBK := Go.Lib.hid hbk; have HL2 := Go.Lib.hid hbel02; have HRD2 := Go.Lib.hid hrd2
  have hgk2 := hbk.lt
  clear hcw' hcw hown1 hbel1 hbel2 hbk hgk hbel02 hrd2 hgw hgw1 hcw1 hcw2
  obtain ⟨B, hB⟩ : ∃ B, w2.heap.size = B := ⟨_, rfl⟩
  have HB := Go.Lib.hid hB
  rw [hB] at hsz2 hgw2 hgk2
  clear hB
  go_wp2_with (at_builtin; refine wpList_append_rd _ rfl _ _ 34 rfl B 24 (.int .u32 0) 4 Tryz.underlying34 (by kernel_rfl) rfl _ 0 [] rfl (by exact owns_new w2 #[] 24 B (Nat.le_of_eq HB.out.symm) (by unfold maxLen; simp)) _ 8 cp (tab 8 (stV s)) rfl (tab_length _ _) ((HRD2.out).kept ((Below.refl _ _).alloc (Nat.le_refl _) _)) (fun h => by cases h) (fun u hu => by simp [tab] at hu; obtain ⟨_, _, rfl⟩ := hu; rfl) (by unfold maxLen; omega) (by omega) (by simp; have := HB.out; omega) ?_)
  intro v3 w3 hown3 hbel3 _
  have hbel23 : Below B w2 w3 := (((Below.refl B w2).alloc (Nat.le_of_eq HB.out.symm) _)).trans hbel3
  have hown3' : w3.ownsRow B 24 1 v3 8 (tab 8 (stV s)) := by simpa using hown3
  clear hown3 hbel3
  go_wp2_with fail
  go_loopw [7, 8] (fun v i wr => ∃ t : Nat, t ≤ 64 ∧ i = .int .i64 t ∧ wr.ownsRow B 24 1 v 8 (tab 8 (stV (rndN b t s))) ∧ Below B w2 wr) (fun _ i _ => 64 - (intOf i).toNat)
  case atStart => exact ⟨0, by omega, rfl, hown3', hbel23⟩
  case round =>
    obtain ⟨t, ht, rfl, hown, hbel⟩ := hrel
    clear hown3' hbel23
    by_cases h64 : t < 64
    · have hlt := rndN_lt b s hs t
      have hnext : rndN b (t + 1) s = rndF (kF t) (wl b 64 t) (rndN b t s) := rfl
      generalize rndN b t s = f at *
      obtain ⟨g, cap, rfl, hg1, hg2, hcap1, hcap2, hca, _⟩ := owns_form hown (by omega)
      have hc : ∀ j, j < 8 → wr.cell? ⟨g, j, none⟩ = some (.int .u32 (f j : Nat)) := fun j hj => by rw [hca j hj, tab_get _ _ _ hj]; rfl
      have c0 := hc 0 (by omega); have c1 := hc 1 (by omega); have c2 := hc 2 (by omega); have c3 := hc 3 (by omega); have c4 := hc 4 (by omega); have c5 := hc 5 (by omega); have c6 := hc 6 (by omega); have c7 := hc 7 (by omega)
      have ck : wr.cell? ⟨gk, t, none⟩ = some (.int .u32 (kF t : Nat)) := by rw [hbel.cell (p := ⟨gk, t, none⟩) hgk2, HBK.out.at t h64]; rfl
      have cw' : wr.cell? ⟨gw, t, none⟩ = some (.int .u32 (wl b 64 t : Nat)) := by rw [hbel.cell (p := ⟨gw, t, none⟩) hgw2]; exact HCW.out t h64
      have hBr : B ≤ wr.heap.size := by have := hbel.size; have := HB.out; omega
      have lk := kF_lt t
      have lw := wl_lt b 64 t
      have l0 := hlt 0; have l1 := hlt 1; have l2 := hlt 2; have l3 := hlt 3; have l4 := hlt 4; have l5 := hlt 5; have l6 := hlt 6; have l7 := hlt 7
      have HN := Go.Lib.hid hnext; have HOWN := Go.Lib.hid hown; have HBEL := Go.Lib.hid hbel; have HG := Go.Lib.hid hg2
      have H5 : Hid (wr.cell? ⟨g, 1, none⟩ = some (.int .u32 (f 1 : Nat)) ∧ wr.cell? ⟨g, 2, none⟩ = some (.int .u32 (f 2 : Nat)) ∧ wr.cell? ⟨g, 3, none⟩ = some (.int .u32 (f 3 : Nat)) ∧ wr.cell? ⟨g, 5, none⟩ = some (.int .u32 (f 5 : Nat)) ∧ wr.cell? ⟨g, 6, none⟩ = some (.int .u32 (f 6 : Nat))) := Go.Lib.hid ⟨c1, c2, c3, c5, c6⟩
      have hR : ∀ j, j < 8 → rndF (kF t) (wl b 64 t) f j = if j = 0 then (oneF (kF t) (wl b 64 t) f + twoF f) % 4294967296 else if j = 4 then (f 3 + oneF (kF t) (wl b 64 t) f) % 4294967296 else f (j - 1) := fun j _ => rfl
      have hO : oneF (kF t) (wl b 64 t) f = ((((f 7 + (rotr (f 4) 6 ^^^ rotr (f 4) 11 ^^^ rotr (f 4) 25)) % 4294967296 + ((f 4 &&& f 5) ^^^ ((4294967295 - f 4) &&& f 6))) % 4294967296 + kF t) % 4294967296 + wl b 64 t) % 4294967296 := rfl
      have hT : twoF f = ((rotr (f 0) 2 ^^^ rotr (f 0) 13 ^^^ rotr (f 0) 22) + ((f 0 &&& f 1) ^^^ (f 0 &&& f 2) ^^^ (f 1 &&& f 2))) % 4294967296 := rfl
      have HR := Go.Lib.hid hR; have HO := Go.Lib.hid hO; have HT := Go.Lib.hid hT
      clear hR hO hT hlt hnext hown hbel hca hc
      have a45 : f 4 &&& f 5 < 4294967296 := and_lt32 l4
      have a46 : 4294967295 - f 4 < 4294967296 := by omega
      have a47 : (4294967295 - f 4) &&& f 6 < 4294967296 := and_lt32 a46
      have a01 : f 0 &&& f 1 < 4294967296 := and_lt32 l0
      have a02 : f 0 &&& f 2 < 4294967296 := and_lt32 l0
      have a12 : f 1 &&& f 2 < 4294967296 := and_lt32 l1
      have a03 := xor_lt32 a01 a02
      have q1 := rotr_lt (f 4) 6 l4; have q2 := rotr_lt (f 4) 11 l4; have q3 := rotr_lt (f 4) 25 l4; have q4 := xor_lt32 q1 q2
      have r1 := rotr_lt (f 0) 2 l0; have r2 := rotr_lt (f 0) 13 l0; have r3 := rotr_lt (f 0) 22 l0; have r4 := xor_lt32 r1 r2
      have hsub : bits BinOp.and .u32 (4294967295 - (f 4 : Int)) (f 6 : Int) = (((4294967295 - f 4) &&& f 6 : Nat) : Int) := by
        rw [show (4294967295 - (f 4 : Int)) = ((4294967295 - f 4 : Nat) : Int) by omega]; exact u32_and_nat _ _ a46 l6
      have i0 : (0 : Int) ≤ (t : Int) := by omega
      have i1 : (t : Int) < 64 := by omega
      go_wp2_with fail
      go_big_quiet ((go_at_call 77; exact quiet_left (turned_int (f 4) l4 _ (by omega) _)))
      go_wp2_with fail
      go_big_quiet ((go_at_call 77; exact quiet_more (turned_int (f 0) l0 _ (by omega) _)))
      go_wp2_with fail
      generalize hwq : wr.drewN _ = wq
      have hCq := H5.out
      have hgq : g < wq.heap.size := by rw [← hwq]; exact HG.out
      have hbq : Below B w2 wq := by rw [← hwq]; exact below_drewN HBEL.out _
      have hBq : B ≤ wq.heap.size := by rw [← hwq]; exact hBr
      have hCq2 : wq.cell? ⟨g, 1, none⟩ = some (.int .u32 (f 1 : Nat)) ∧ wq.cell? ⟨g, 2, none⟩ = some (.int .u32 (f 2 : Nat)) ∧ wq.cell? ⟨g, 3, none⟩ = some (.int .u32 (f 3 : Nat)) ∧ wq.cell? ⟨g, 5, none⟩ = some (.int .u32 (f 5 : Nat)) ∧ wq.cell? ⟨g, 6, none⟩ = some (.int .u32 (f 6 : Nat)) := by rw [← hwq]; exact H5.out
      have HCQ := Go.Lib.hid hCq2
      obtain ⟨z1, z2, z3, z5, z6⟩ := hCq2
      have HBQ := Go.Lib.hid hbq
      clear hCq hbq hwq c0 c1 c2 c3 c4 c5 c6 c7 ck cw'
      go_region_held3 (fun w' => Below wq.heap.size wq w' ∧ w'.cell? ⟨g, 1, none⟩ = some (.int .u32 (f 1 : Nat)) ∧ w'.cell? ⟨g, 2, none⟩ = some (.int .u32 (f 2 : Nat)) ∧ w'.cell? ⟨g, 3, none⟩ = some (.int .u32 (f 3 : Nat)) ∧ w'.cell? ⟨g, 5, none⟩ = some (.int .u32 (f 5 : Nat)) ∧ w'.cell? ⟨g, 6, none⟩ = some (.int .u32 (f 6 : Nat))) (first | exact k5_of hgq HCQ.out ((below_drewN (Below.refl _ _) _).drew) | exact k5_alloc hgq HCQ.out (by assumption) _ | exact k5_step (by assumption) hgq HCQ.out (by assumption))
        (first
          | (refine step_append_blk (by rfl) _ _ 34 (by rfl) wq.heap.size 24 (.int .u32 0) 1 4 Tryz.underlying34 (by kernel_rfl) rfl (by omega) _ 7 _ (by rfl) (by first | exact (owns_new' _ _ _ _ _ _ (by simp) (by rfl) (by omega) (by unfold maxLen; omega)).alloc _ | exact owns_new' _ _ _ _ _ _ (by simp) (by rfl) (by omega) (by unfold maxLen; omega)) _ 1 1 _ (by rfl) (by rfl) (by first | exact blk_new' _ _ _ _ (by simp) | exact (blk_new' _ _ _ _ (by simp)).alloc _) (one1 _) (by unfold maxLen; omega) (by omega) (by simp; omega) ?_; intro v9 w9 hown9 hbel9 hgr9))
      all_goals
        go_wp2_with fail
        obtain ⟨hb9, _⟩ : Below wq.heap.size wq w9 ∧ _ := by assumption
        refine ⟨⟨t + 1, by omega, by go_num, owns_base (owns_congr hown9 ?_) hBq, HBQ.out.trans (hb9.mono hBq)⟩, by simp [intOf]; omega⟩
        have e0 := HR.out 0 (by decide)
        have e4 := HR.out 4 (by decide)
        rw [if_pos rfl, HO.out, HT.out] at e0
        rw [if_neg (by decide), if_pos rfl, HO.out] at e4
        rw [HN.out]
        refine list8 (f := stV (rndF (kF t) (wl b 64 t) f)) ?_ rfl rfl rfl ?_ rfl rfl rfl
        · show _ = Value.int .u32 ((rndF (kF t) (wl b 64 t) f 0 : Nat) : Int)
          rw [e0]
          congr 1
          simp only [wrap_u32]
          omega
        · show _ = Value.int .u32 ((rndF (kF t) (wl b 64 t) f 4 : Nat) : Int)
          rw [e4]
          congr 1
          simp only [wrap_u32]
          omega
    · obtain rfl : t = 64 := by omega
      have hlt := rndN_lt b s hs 64
      have hbl : ∀ j, blockF b s j = (rndN b 64 s j + s j) % 4294967296 := fun j => rfl
      generalize rndN b 64 s = f at *
      have HBL := Go.Lib.hid hbl; have HLT := Go.Lib.hid hlt
      obtain ⟨g, cap, rfl, hg1, hg2, hcap1, hcap2, _, _⟩ := owns_form hown (by omega)
      clear hbl hlt
      go_wp2_with fail
      go_loopw [13] (fun i wr2 => ∃ j : Nat, j ≤ 8 ∧ i = .int .i64 j ∧ wr2.ownsRow B 24 1 (.slice (some ⟨g, 0, none⟩) 8 cap) 8 (tab 8 (fun q => if q < j then stV (blockF b s) q else stV f q)) ∧ Below B w2 wr2) (fun i _ => 8 - (intOf i).toNat)
      case atStart => exact ⟨0, by omega, rfl, hown, hbel⟩
      case round =>
        obtain ⟨j, hj, rfl, hown2, hbel2⟩ := hrel
        clear hown hbel
        by_cases hj8 : j < 8
        · have c8 : wr.cell? ⟨g, j, none⟩ = some (.int .u32 (f j : Nat)) := by rw [hown2.cellAt j (by omega), tab_get _ _ _ hj8, if_neg (by omega)]; rfl
          have f8 := hown2.frozenAt j
          have cs : wr.cell? ⟨gs, os + j, none⟩ = some (.int .u32 (s j : Nat)) := by
            rw [hbel2.cell (p := ⟨gs, os + j, none⟩) (show gs < B by omega), HL2.out.cell (p := ⟨gs, os + j, none⟩) hgs, HCS.out j (by rw [tab_length]; exact hj8), tab_get _ _ _ hj8]
            rfl
          have l1 := HLT.out j
          have l2 := hs j
          have i0 : (0 : Int) ≤ (j : Int) := by omega
          have i1 : (j : Int) < 8 := by omega
          have hset : ∀ u : Value, u = stV (blockF b s) j → (wr.setCell ⟨g, j, none⟩ u).ownsRow B 24 1 (.slice (some ⟨g, 0, none⟩) 8 cap) 8 (tab 8 (fun q => if q < j + 1 then stV (blockF b s) q else stV f q)) ∧ Below B wr (wr.setCell ⟨g, j, none⟩ u) := fun u hu => by
            obtain ⟨h1, h2⟩ := hown2.stored j u
            refine ⟨owns_congr h1 ?_, grown_below h2 hg1 (by have := hbel2.size; have := HB.out; omega)⟩
            rw [tab_set]
            refine tab_congr fun i hi => ?_
            by_cases hij : i = j
            · subst hij; rw [if_pos rfl, if_pos (by omega), hu]
            · rw [if_neg hij]
              by_cases h : i < j
              · rw [if_pos h, if_pos (by omega)]
              · rw [if_neg h, if_neg (by omega)]
          have HSET := Go.Lib.hid hset; have HBEL := Go.Lib.hid hbel2
          clear hset hown2 hbel2
          go_wp2_with fail
          go_region
          all_goals
            go_wp2_with fail
            go_roundw
            case rel =>
              refine ⟨j + 1, by omega, by go_num, (HSET.out _ ?_).1, HBEL.out.trans (HSET.out _ ?_).2.drew⟩
              all_goals
                show _ = Value.int .u32 ((blockF b s j : Nat) : Int)
                rw [HBL.out]
                congr 1
            case measure => simp [intOf]; omega
        · obtain rfl : j = 8 := by omega
          have hfin : tab 8 (fun q => if q < 8 then stV (blockF b s) q else stV f q) = tab 8 (stV (blockF b s)) := tab_congr fun q hq => by rw [if_pos hq]
          rw [hfin] at hown2
          have HO2 := Go.Lib.hid hown2
          clear hfin hown2
          go_wp2_with fail
          go_ret
          exact ⟨_, rfl, by rw [HBS.out]; exact owns_base HO2.out hsz2, HL2.out.trans (hbel2.mono hsz2)⟩
end Go.Proofs.YtlmefcepdadfjaaGreat
