/- The walk over the package's words. -/
import Derived.Deep.RegionHeld3
import Derived.Test.YtlmefcepdadfjaaGreatZShaA
namespace Go.Proofs.YtlmefcepdadfjaaGreat
open Go.RowKit

def be32 (b : List UInt8) (i : Nat) : Nat := (((b.getD i 0).toNat * 256 + (b.getD (i + 1) 0).toNat) * 256 + (b.getD (i + 2) 0).toNat) * 256 + (b.getD (i + 3) 0).toNat
def nxtW (f : Nat → Nat) (n : Nat) : Nat := (((overS (f (n - 2)) 17 19 10 + f (n - 7)) % 4294967296 + overS (f (n - 15)) 7 18 3) % 4294967296 + f (n - 16)) % 4294967296
def wl (b : List UInt8) : Nat → Nat → Nat
  | 0, _ => 0
  | n + 1, j => if j = n then (if n < 16 then be32 b (4 * n) else nxtW (wl b n) n) else wl b n j
def wV (b : List UInt8) (t : Nat) (j : Nat) : Value := .int .u32 (wl b t j : Nat)
theorem be32_lt (b : List UInt8) (i : Nat) : be32 b i < 4294967296 := by
  have h0 := byte_lt (b.getD i 0); have h1 := byte_lt (b.getD (i + 1) 0); have h2 := byte_lt (b.getD (i + 2) 0); have h3 := byte_lt (b.getD (i + 3) 0)
  unfold be32; omega
theorem wl_lt (b : List UInt8) (n j : Nat) : wl b n j < 4294967296 := by
  induction n with
  | zero => simp [wl]
  | succ n ih =>
    simp only [wl]
    split
    · split
      · exact be32_lt _ _
      · exact Nat.mod_lt _ (by omega)
    · exact ih
theorem or_add (a b k : Nat) (h : b < 2 ^ k) : a * 2 ^ k ||| b = a * 2 ^ k + b := by
  rw [← Nat.shiftLeft_eq, Nat.shiftLeft_add_eq_or_of_lt h]
theorem be_bits (x0 x1 x2 x3 : Nat) (h0 : x0 < 256) (h1 : x1 < 256) (h2 : x2 < 256) (h3 : x3 < 256) :
    bits BinOp.or IntKind.u32 (bits BinOp.or IntKind.u32 (bits BinOp.or IntKind.u32 ((x0 : Int) % 4294967296 * 16777216 % 4294967296) ((x1 : Int) % 4294967296 * 65536 % 4294967296)) ((x2 : Int) % 4294967296 * 256 % 4294967296)) ((x3 : Int) % 4294967296) = ((((x0 * 256 + x1) * 256 + x2) * 256 + x3 : Nat) : Int) := by
  have e0 : (x0 : Int) % 4294967296 * 16777216 % 4294967296 = ((x0 * 2 ^ 24 : Nat) : Int) := by omega
  have e1 : (x1 : Int) % 4294967296 * 65536 % 4294967296 = ((x1 * 2 ^ 16 : Nat) : Int) := by omega
  have e2 : (x2 : Int) % 4294967296 * 256 % 4294967296 = ((x2 * 2 ^ 8 : Nat) : Int) := by omega
  have e3 : (x3 : Int) % 4294967296 = (x3 : Int) := by omega
  rw [e0, e1, e2, e3, u32_or_nat _ _ (by omega) (by omega)]
  have o1 : x0 * 2 ^ 24 ||| x1 * 2 ^ 16 = (x0 * 256 + x1) * 2 ^ 16 := by rw [or_add x0 (x1 * 2 ^ 16) 24 (by omega)]; omega
  rw [o1, u32_or_nat _ _ (by omega) (by omega)]
  have o2 : (x0 * 256 + x1) * 2 ^ 16 ||| x2 * 2 ^ 8 = ((x0 * 256 + x1) * 256 + x2) * 2 ^ 8 := by rw [or_add _ (x2 * 2 ^ 8) 16 (by omega)]; omega
  rw [o2, u32_or_nat _ _ (by omega) (by omega), or_add _ x3 8 (by omega)]
theorem getD_extract (s : ByteArray) (a i : Nat) (h : i < (s.extract a s.size).size) : (s.extract a s.size)[i] = s.data.toList.getD (a + i) 0 := by
  have h2 : a + i < s.size := by simp at h; omega
  have h3 : a + i < s.data.size := h2
  rw [List.getD_eq_getElem?_getD, Array.getElem?_toList, Array.getElem?_eq_getElem h3]
  have : (s.extract a s.size).data[i]'(by simpa using h) = s.data[a + i] := by simp
  exact this
theorem setOther {w : World} {g a b : Nat} {u v : Value} (h : w.cell? ⟨g, a, none⟩ = some v) (hne : a ≠ b) : ((w.setCell ⟨g, b, none⟩ u).drew).cell? ⟨g, a, none⟩ = some v := by
  have : ((w.setCell ⟨g, b, none⟩ u).drew).cell? ⟨g, a, none⟩ = (w.setCell ⟨g, b, none⟩ u).cell? ⟨g, a, none⟩ := rfl
  rw [this, World.cell?_setCell_other w _ _ u (fun e => hne (by injection e with _ e2; exact e2.symm))]
  exact h
set_option maxHeartbeats 4000000 in
theorem words_any (s : ByteArray) (hs : s.size = 64) (w : World) :
    Calls Tryz.prog 160 #[.string s] w fun e w' => e = .returned (.agg (tab 64 (wV s.data.toList 64)).toArray) ∧ Below w.heap.size w w' := by
  have hsz : s.size ≤ 64 ∧ 64 ≤ s.size := by omega
  obtain ⟨hs1, hs2⟩ := hsz
  have HS := Go.Lib.hid hs; clear hs
  go_enter Tryz.func160, Tryz.ntmps160
  go_wp2_with (first
    | (with_reducible refine wpList_alloc_blk (o := ⟨some 2, _, _, _, _, _⟩) rfl 232 rfl (.agg (tab 64 (wV s.data.toList 0)).toArray) (by kernel_rfl) ?_; intro w1 hb1 hbel1 hsz1)
    | (with_reducible refine wpList_alloc_blk (o := ⟨some 3, _, _, _, _, _⟩) rfl 232 rfl (.agg (tab 64 (wV s.data.toList 0)).toArray) (by kernel_rfl) ?_; intro w2 hb2 hbel2 hsz2))
  have hb1' := hb1.kept hbel2
  have hbel := kp_step hbel1 hbel2
  obtain ⟨g2, hg2⟩ : ∃ g, w.heap.size = g := ⟨_, rfl⟩
  obtain ⟨g3, hg3⟩ : ∃ g, w1.heap.size = g := ⟨_, rfl⟩
  have hlt : g2 < g3 := by omega
  have HG2 := Go.Lib.hid hg2; have HG3 := Go.Lib.hid hg3
  rw [hg2] at hb1' hbel
  rw [hg3] at hb2
  simp only [hg2, hg3]
  clear hb1 hbel1 hbel2 hsz1 hsz2 hg2 hg3
  have hb1 : Blk w2 g2 232 (tab 64 (wV s.data.toList 0)) := hb1'
  have hbw : Blk w2 g3 232 (tab 64 (wV s.data.toList 0)) := hb2
  clear hb1' hb2
  go_loopw [6] (fun i wr => ∃ t : Nat, t ≤ 64 ∧ i = .int .i64 t ∧ Blk wr g3 232 (tab 64 (wV s.data.toList t)) ∧ Blk wr g2 232 (tab 64 (wV s.data.toList 0)) ∧ Below g2 w wr) (fun i _ => 64 - (intOf i).toNat)
  case atStart => exact ⟨0, by omega, rfl, hbw, hb1, hbel⟩
  case round =>
    obtain ⟨t, ht, rfl, hbt, hbr, hbl⟩ := hrel
    clear hbw hb1 hbel
    have HB := Go.Lib.hid hbt; have HR := Go.Lib.hid hbr; have HL := Go.Lib.hid hbl
    by_cases h64 : t < 64
    · have cT : wr.cell? ⟨g3, t, none⟩ = some (.int .u32 (wl s.data.toList t t : Nat)) := hbt.at t h64
      have fT := hbt.freeAt t h64
      have i0 : (0 : Int) ≤ (t : Int) := by omega
      have i1 : (t : Int) < 64 := by omega
      have hset : ∀ u : Value, u = wV s.data.toList (t + 1) t → Blk (wr.setCell ⟨g3, t, none⟩ u) g3 232 (tab 64 (wV s.data.toList (t + 1))) := fun u hu => HB.out.setTab t u _ hu.symm (fun i _ hi => by simp [wV, wl, hi])
      have HSET := Go.Lib.hid hset
      clear hset hbt hbr hbl
      by_cases h16 : t < 16
      · obtain ⟨q, hq⟩ : ∃ q, s.extract (4 * t) s.size = q := ⟨_, rfl⟩
        have hq4 : 4 ≤ q.size := by rw [← hq]; simp; omega
        have hqn : 0 < q.size := by omega
        have hq0 : (0 : Int) < (q.size : Int) := by omega
        have hq1 : (1 : Int) < (q.size : Int) := by omega
        have hq2 : (2 : Int) < (q.size : Int) := by omega
        have hq3 : (3 : Int) < (q.size : Int) := by omega
        have hqb : ∀ i (h : i < q.size), q[i] = s.data.toList.getD (4 * t + i) 0 := by
          intro i h
          subst hq
          exact getD_extract s (4 * t) i h
        have HQB := Go.Lib.hid hqb
        go_wp2_with fail
        simp only [hq]
        clear hq hqb
        go_region_held3 (fun w' => True) (exact True.intro) (fail)
        all_goals
          go_wp2_with fail
          go_roundw
          case rel =>
            refine ⟨t + 1, by omega, by go_num, HSET.out _ ?_, HR.out.other (fun h => by simp at h; omega) _, HL.out.trans (Below.drew ((Only.setCell (g := g3) t _).below (Nat.le_of_lt hlt)))⟩
            rw [be_bits _ _ _ _ (byte_lt _) (byte_lt _) (byte_lt _) (byte_lt _)]
            simp only [wV, wl, if_pos h16, be32, HQB.out, if_true, Nat.add_zero]
          case measure => simp [intOf]; omega
      · obtain ⟨m, rfl⟩ : ∃ m, t = m + 16 := ⟨t - 16, by omega⟩
        have c2 : wr.cell? ⟨g3, m + 14, none⟩ = some (.int .u32 (wl s.data.toList (m + 16) (m + 14) : Nat)) := HB.out.at (m + 14) (by omega)
        have c7 : wr.cell? ⟨g3, m + 9, none⟩ = some (.int .u32 (wl s.data.toList (m + 16) (m + 9) : Nat)) := HB.out.at (m + 9) (by omega)
        have c15 : wr.cell? ⟨g3, m + 1, none⟩ = some (.int .u32 (wl s.data.toList (m + 16) (m + 1) : Nat)) := HB.out.at (m + 1) (by omega)
        have c16 : wr.cell? ⟨g3, m, none⟩ = some (.int .u32 (wl s.data.toList (m + 16) m : Nat)) := HB.out.at m (by omega)
        have l2 := wl_lt s.data.toList (m + 16) (m + 14); have l7 := wl_lt s.data.toList (m + 16) (m + 9); have l15 := wl_lt s.data.toList (m + 16) (m + 1); have l16 := wl_lt s.data.toList (m + 16) m
        have hval : Hid (wV s.data.toList (m + 16 + 1) (m + 16) = .int .u32 (nxtW (wl s.data.toList (m + 16)) (m + 16) : Nat)) := Go.Lib.hid (by simp only [wV, wl, if_neg h16, if_true])
        have j2 : (0 : Int) ≤ (m : Int) + 14 := by omega
        have j7 : (0 : Int) ≤ (m : Int) + 9 := by omega
        have j15 : (0 : Int) ≤ (m : Int) + 1 := by omega
        have j16 : (0 : Int) ≤ (m : Int) := by omega
        have q2 : ((m : Int) + 14).toNat = m + 14 := by omega
        have q7 : ((m : Int) + 9).toNat = m + 9 := by omega
        have q15 : ((m : Int) + 1).toNat = m + 1 := by omega
        have q17 : ((m : Int) + 16).toNat = m + 16 := by omega
        have j17 : (0 : Int) ≤ (m : Int) + 16 := by omega
        have k17 : (m : Int) + 16 < 64 := by omega
        have km : m < 64 := by omega
        have k2 : (m : Int) + 14 < 64 := by omega
        have k7 : (m : Int) + 9 < 64 := by omega
        have k15 : (m : Int) + 1 < 64 := by omega
        have k16 : (m : Int) < 64 := by omega
        have p2 : IntKind.i64.wrap ((m : Int) + 16 - 2) = (m : Int) + 14 := by rw [IntWalk.i64_in _ (by omega)]; omega
        have p7 : IntKind.i64.wrap ((m : Int) + 16 - 7) = (m : Int) + 9 := by rw [IntWalk.i64_in _ (by omega)]; omega
        have p15 : IntKind.i64.wrap ((m : Int) + 16 - 15) = (m : Int) + 1 := by rw [IntWalk.i64_in _ (by omega)]; omega
        have p16 : IntKind.i64.wrap ((m : Int) + 16 - 16) = (m : Int) := by rw [IntWalk.i64_in _ (by omega)]; omega
        have p17 : IntKind.i64.wrap (m : Int) = (m : Int) := IntWalk.i64_in _ (by omega)
        generalize hx2 : wl s.data.toList (m + 16) (m + 14) = x2 at c2 l2
        generalize hx7 : wl s.data.toList (m + 16) (m + 9) = x7 at c7 l7
        generalize hx15 : wl s.data.toList (m + 16) (m + 1) = x15 at c15 l15
        generalize hx16 : wl s.data.toList (m + 16) m = x16 at c16 l16
        have HX : Hid (nxtW (wl s.data.toList (m + 16)) (m + 16) = (((overS x2 17 19 10 + x7) % 4294967296 + overS x15 7 18 3) % 4294967296 + x16) % 4294967296) := Go.Lib.hid (by unfold nxtW; rw [← hx2, ← hx7, ← hx15, ← hx16]; rfl)
        clear hx2 hx7 hx15 hx16
        go_wp2_with fail
        go_region_held3 (fun w' => w'.cell? ⟨g3, m + 14, none⟩ = some (.int .u32 (x2 : Nat)) ∧ w'.cell? ⟨g3, m + 9, none⟩ = some (.int .u32 (x7 : Nat)) ∧ w'.cell? ⟨g3, m + 1, none⟩ = some (.int .u32 (x15 : Nat)) ∧ w'.cell? ⟨g3, m, none⟩ = some (.int .u32 (x16 : Nat))) (first | (exact ⟨c2, c7, c15, c16⟩) | (exact ⟨setOther c2 (by omega), setOther c7 (by omega), setOther c15 (by omega), setOther c16 (by omega)⟩) | go_keep)
          (first
            | (go_at_call 162; refine (over_s _ (by assumption) _ _ _ _ (by omega) (by omega) (by omega) _).mono ?_; rintro e w5 ⟨rfl, rfl⟩))
        all_goals
          go_wp2_with fail
          go_roundw
          case rel =>
            refine ⟨m + 16 + 1, by omega, by go_num, HSET.out _ ?_, HR.out.other (fun h => by simp at h; omega) _, HL.out.trans (Below.drew ((Only.setCell (g := g3) _ _).below (Nat.le_of_lt hlt)))⟩
            rw [hval.out, HX.out]
            simp
          case measure => simp [intOf]; omega
    · obtain rfl : t = 64 := by omega
      go_wp2_with (first
        | (with_reducible refine wpList_load_tab (o := ⟨some 59, _, _, _, _, _⟩) rfl 232 _ rfl g3 232 rfl 64 _ _ HB.out Tryz.underlying232 rfl (by kernel_rfl) ?_)
        | (with_reducible refine wpList_store_tab (o := ⟨none, _, _, _, _, _⟩) rfl 232 _ _ rfl g2 232 64 _ _ rfl rfl HR.out (by kernel_rfl) (fun _ => rfl) ?_; intro w4 hb4 ho4))
      refine bodyPost_ret (results_cell_tab rfl _ _ g2 232 64 _ _ rfl hb4 Tryz.underlying232 rfl (by kernel_rfl)) rfl ⟨rfl, ?_⟩
      rw [HG2.out]
      exact HL.out.trans (ho4.below (Nat.le_refl _))
end Go.Proofs.YtlmefcepdadfjaaGreat
