/- The walks of hook.Text and hook.Parse. -/
import Derived.Test.YtffkjbcelbfejaaZHkA
import Derived.Test.YtffkjbcelbfejaaZStr
namespace Go.Proofs.Ytffkjbcelbfejaa
open Go.RowKit

theorem all_bytes {P : UInt8 → Prop} (h : ∀ n : Nat, n < 256 → P (UInt8.ofNat n)) (c : UInt8) : P c := by
  have := h c.toNat c.toNat_lt
  rwa [UInt8.ofNat_toNat] at this
def dI (c : UInt8) : Int := Go.Lib.indexByte digs c
theorem dI_cases (c : UInt8) : dI c = -1 ∨ (0 ≤ dI c ∧ dI c < 16 ∧ digs.getD (dI c).toNat 0 = c) := by
  refine all_bytes (P := fun c => dI c = -1 ∨ (0 ≤ dI c ∧ dI c < 16 ∧ digs.getD (dI c).toNat 0 = c)) ?_ c
  decide +kernel
theorem dI_digs (x : Nat) (h : x < 16) : dI (digs.getD x 0) = x := by
  have : x = 0 ∨ x = 1 ∨ x = 2 ∨ x = 3 ∨ x = 4 ∨ x = 5 ∨ x = 6 ∨ x = 7 ∨ x = 8 ∨ x = 9 ∨ x = 10 ∨ x = 11 ∨ x = 12 ∨ x = 13 ∨ x = 14 ∨ x = 15 := by omega
  rcases this with h | h | h | h | h | h | h | h | h | h | h | h | h | h | h | h <;> subst h <;> decide +kernel
theorem bV_nat (b : UInt8) : (b.toNat : Int).toNat.toUInt8 = b := by
  rw [Int.toNat_natCast]; exact UInt8.ofNat_toNat
theorem dI_any (c : UInt8) (w : World) : Calls Try.prog 34 #[txH digs, bV c] w fun e w' => e = .returned (.int .i64 (dI c)) ∧ w = w' := by
  refine (Try.strings_IndexByte ⟨digs.toArray⟩ (c.toNat : Int) w).mono fun e w' h => ?_
  rw [bV_nat] at h
  exact ⟨h.1, h.2.symm⟩
theorem hexL_take (f : List UInt8) : ∀ k, k < f.length → hexL (f.take (k + 1)) = hexL (f.take k) ++ hexB (f.getD k 0) := fun k h => by rw [take_succD h, hexL_snoc]
theorem fp_vs {f : List UInt8} (hf : f.length = 32) : ((fpC f).drop 0).take 32 = fpC f := by
  rw [List.drop_zero, List.take_of_length_le (by rw [fpC_len, hf]; exact Nat.le_refl _)]
theorem byteC_snoc (l : List UInt8) (c : UInt8) : Go.Lib.byteCells l ++ [bV c] = Go.Lib.byteCells (l ++ [c]) := by
  simp [Go.Lib.byteCells, bV]
set_option maxHeartbeats 1000000 in
theorem HText_any (f : List UInt8) (hf : f.length = 32) (w : World) : Calls Try.prog 8 #[fpV f] w fun e w' => e = .returned (txH (hexL f)) ∧ Below w.heap.size w w' := by
  refine sx_fn (S := SX) (M := []) (N := 20) (H0 := [.row none 0 0 5 1 []]) Try.func8 rfl rfl rfl ((Sat.nil _ _).nilRow 5 1) ?_
  ((try refine sx_use ?_); (repeat (refine SxNew.mk fun _ => ?_; (try refine sx_use ?_))))
  rename_i b g
  refine SxLdN.blk 1 rfl (vs := fpC f) (by rw [fpC_len, hf]) (fp_vs hf) ?_
  ((try refine sx_use ?_); (repeat (refine SxNew.mk fun _ => ?_; (try refine sx_use ?_))))
  refine SxCode.loop (σ := Nat × Value × Option Addr × Nat) [7] [8, 9, 5, 10, 11, 12, 13, 14, 15, 16, 17, 18, 7] (fun s => [.int .i64 (s.1 : Nat)]) (fun s => [sbE g s.2.1 (.slice s.2.2.1 (2 * s.1) s.2.2.2), .row s.2.2.1 (2 * s.1) s.2.2.2 5 1 (Go.Lib.byteCells (hexL (f.take s.1)))]) (fun s => s.1 ≤ 32 ∧ selfP g s.2.1) (fun s => 32 - s.1) (0, .pointer none, none, 0) [0, 2] rfl rfl rfl rfl ⟨Nat.zero_le _, .inl rfl⟩ ?_
  rintro ⟨k, pv, ao, cap⟩ ⟨hk, hpv⟩
  dsimp only at hk hpv ⊢
  ((try refine sx_use ?_); (repeat (refine SxNew.mk fun _ => ?_; (try refine sx_use ?_))))
  refine SxIf.dec (fun h => ?_) (fun h => ?_)
  · have hlt : k < 32 := by omega
    have hg := getD_lt f k
    have hx := hexL_take f k (by omega)
    ((try refine sx_use ?_); (repeat (refine SxNew.mk fun _ => ?_; (try refine sx_use ?_))))
    refine SxIdx.mk k rfl hlt ?_
    ((try refine sx_use ?_); (repeat (refine SxNew.mk fun _ => ?_; (try refine sx_use ?_))))
    refine SxNth.mk (v := bV (f.getD k 0)) (by rw [Nat.mul_one]; exact fpC_get (by omega)) ?_
    ((try refine sx_use ?_); (repeat (refine SxNew.mk fun _ => ?_; (try refine sx_use ?_))))
    refine SxQ.shr 16 (by decide) (by decide) ?_
    ((try refine sx_use ?_); (repeat (refine SxNew.mk fun _ => ?_; (try refine sx_use ?_))))
    refine SxIdx.mk ((f.getD k 0).toNat / 16) (by omega) (by show _ < 16; omega) ?_
    ((try refine sx_use ?_); (repeat (refine SxNew.mk fun _ => ?_; (try refine sx_use ?_))))
    refine SxCall.mk fun w hs => (WriteByte_sat hs 0 1 g ao (2 * k) cap pv _ rfl hpv (by decide) rfl ((digs.getD ((f.getD k 0).toNat / 16) 0).toNat : Nat) (by omega)).mono ?_
    rintro e w' ⟨ao1, cap1, rfl, hs1⟩
    refine ⟨_, _, rfl, hs1, ?_⟩
    ((try refine sx_use ?_); (repeat (refine SxNew.mk fun _ => ?_; (try refine sx_use ?_))))
    refine SxIdx.mk ((f.getD k 0).toNat % 16) (bitI_and15 _ hg) (by show _ < 16; omega) ?_
    ((try refine sx_use ?_); (repeat (refine SxNew.mk fun _ => ?_; (try refine sx_use ?_))))
    refine SxCall.mk fun w hs => (WriteByte_sat hs 0 1 g ao1 (2 * k + 1) cap1 _ _ rfl (.inr rfl) (by decide) rfl ((digs.getD ((f.getD k 0).toNat % 16) 0).toNat : Nat) (by omega)).mono ?_
    rintro e w' ⟨ao2, cap2, rfl, hs2⟩
    refine ⟨_, _, rfl, hs2, ?_⟩
    ((try refine sx_use ?_); (repeat (refine SxNew.mk fun _ => ?_; (try refine sx_use ?_))))
    have e : Go.Lib.byteCells (hexL (f.take (k + 1))) = (Go.Lib.byteCells (hexL (f.take k)) ++ [bV (digs.getD ((f.getD k 0).toNat / 16) 0)]) ++ [bV (digs.getD ((f.getD k 0).toNat % 16) 0)] := by
      rw [hx, byteC_snoc, byteC_snoc, List.append_assoc]; rfl
    exact SxRound.mk (k + 1, .pointer (some ⟨g, 0, none⟩), ao2, cap2) [0, 1] rfl (by rw [e]; rfl) rfl ⟨by dsimp only; omega, .inr rfl⟩ (by dsimp only; omega)
  · obtain rfl : k = 32 := by omega
    rw [List.take_of_length_le (by omega)]
    ((try refine sx_use ?_); (repeat (refine SxNew.mk fun _ => ?_; (try refine sx_use ?_))))
    refine SxCall.mk fun w hs => (String_sat hs 0 1 g ao (2 * 32) cap pv (hexL f) rfl hpv (by decide) rfl).mono ?_
    rintro e w' ⟨rfl, hs1⟩
    refine ⟨_, _, rfl, hs1 [] (Sat.nil _ _), ?_⟩
    ((try refine sx_use ?_); (repeat (refine SxNew.mk fun _ => ?_; (try refine sx_use ?_))))
    exact SxDone.mk fun w' hs => ⟨rfl, hs.touch.below⟩
theorem splice_one {l : List Value} {i : Nat} (h : i < l.length) (x : Value) : splice i [x] l = l.set i x := by
  rw [List.set_eq_take_append_cons_drop, if_pos h]
  simp [splice]
/-- What is parsed of so many digits. -/
def stP (s : List UInt8) (k : Nat) : List UInt8 := (List.range 32).map fun j =>
  if 2 * j + 1 < k then UInt8.ofNat ((dI (s.getD (2 * j) 0)).toNat * 16 + (dI (s.getD (2 * j + 1) 0)).toNat) else if 2 * j < k then UInt8.ofNat (dI (s.getD (2 * j) 0)).toNat else 0
theorem stP_len (s : List UInt8) (k : Nat) : (stP s k).length = 32 := by simp [stP]
theorem stP_at (s : List UInt8) (k j : Nat) (h : j < 32) : (stP s k)[j]? = some (if 2 * j + 1 < k then UInt8.ofNat ((dI (s.getD (2 * j) 0)).toNat * 16 + (dI (s.getD (2 * j + 1) 0)).toNat) else if 2 * j < k then UInt8.ofNat (dI (s.getD (2 * j) 0)).toNat else 0) := by
  simp [stP, h]
theorem ofNat_toNat {n : Nat} (h : n < 256) : (UInt8.ofNat n).toNat = n := by simp [UInt8.toNat_ofNat']; omega
theorem stP_lo {s : List UInt8} {k : Nat} (hk : k < 64) (hd : ∀ i, i < k → 0 ≤ dI (s.getD i 0)) : ((stP s k).getD (k / 2) 0).toNat < 16 := by
  rw [List.getD_eq_getElem?_getD, stP_at s k (k / 2) (by omega), Option.getD_some, if_neg (by omega)]
  split
  · rename_i h
    have h0 := hd (2 * (k / 2)) h
    rcases dI_cases (s.getD (2 * (k / 2)) 0) with h1 | ⟨_, h2, _⟩
    · omega
    · rw [ofNat_toNat (by omega)]; omega
  · decide
theorem stP_step {s : List UInt8} {k : Nat} (hk : k < 64) (hd : ∀ i, i < k → 0 ≤ dI (s.getD i 0)) (h0 : 0 ≤ dI (s.getD k 0)) : stP s (k + 1) = (stP s k).set (k / 2) (UInt8.ofNat (((stP s k).getD (k / 2) 0).toNat * 16 + (dI (s.getD k 0)).toNat)) := by
  apply List.ext_getElem?
  intro j
  rw [List.getElem?_set]
  by_cases hj : j < 32
  · rw [stP_at _ _ _ hj]
    by_cases he : k / 2 = j
    · subst he
      have hget : (stP s k).getD (k / 2) 0 = if 2 * (k / 2) + 1 < k then UInt8.ofNat ((dI (s.getD (2 * (k / 2)) 0)).toNat * 16 + (dI (s.getD (2 * (k / 2) + 1) 0)).toNat) else if 2 * (k / 2) < k then UInt8.ofNat (dI (s.getD (2 * (k / 2)) 0)).toNat else 0 := by
        rw [List.getD_eq_getElem?_getD, stP_at s k _ hj]; rfl
      rw [if_pos rfl, if_pos (show k / 2 < (stP s k).length by rw [stP_len]; exact hj), hget]
      by_cases hp : k = 2 * (k / 2)
      · rw [if_neg (by omega), if_pos (by omega), if_neg (by omega), if_neg (by omega), ← hp]
        show _ = some (UInt8.ofNat (0 * 16 + _))
        rw [Nat.zero_mul, Nat.zero_add]
      · have hp : k = 2 * (k / 2) + 1 := by omega
        have hq := hd (2 * (k / 2)) (by omega)
        have hb : (dI (s.getD (2 * (k / 2)) 0)).toNat < 16 := by
          rcases dI_cases (s.getD (2 * (k / 2)) 0) with h1 | ⟨_, h2, _⟩
          · omega
          · omega
        rw [if_pos (by omega), if_neg (by omega), if_pos (by omega), ofNat_toNat (by omega), ← hp]
    · rw [if_neg he, stP_at _ _ _ hj]
      congr 1
      by_cases h1 : 2 * j + 1 < k
      · rw [if_pos (by omega), if_pos h1]
      · rw [if_neg (by omega), if_neg h1]
        by_cases h2 : 2 * j < k
        · rw [if_pos (by omega), if_pos h2]
        · rw [if_neg (by omega), if_neg h2]
  · rw [List.getElem?_eq_none (by rw [stP_len]; omega), List.getElem?_eq_none (by rw [stP_len]; omega)]
    split
    · rw [if_neg (by rw [stP_len]; omega)]
    · rfl
theorem stP_cells {s : List UInt8} {k : Nat} (hk : k < 64) (hd : ∀ i, i < k → 0 ≤ dI (s.getD i 0)) (h0 : 0 ≤ dI (s.getD k 0)) :
    splice (k / 2) [.int .u8 (bitI .or .u8 ((((stP s k).getD (k / 2) 0).toNat : Int) * 16) (dI (s.getD k 0)))] (fpC (stP s k)) = fpC (stP s (k + 1)) := by
  have hlo := stP_lo hk hd
  have hb : (dI (s.getD k 0)).toNat < 16 := by
    rcases dI_cases (s.getD k 0) with h1 | ⟨_, h2, _⟩ <;> omega
  rw [splice_one (by rw [fpC_len, stP_len]; omega), stP_step hk hd h0]
  unfold fpC
  rw [List.map_set]
  congr 1
  have := bitI_or8 (((stP s k).getD (k / 2) 0).toNat * 16) (dI (s.getD k 0)).toNat (by omega) (by omega) hb
  rw [show (((dI (s.getD k 0)).toNat : Nat) : Int) = dI (s.getD k 0) by omega, show ((((stP s k).getD (k / 2) 0).toNat * 16 : Nat) : Int) = (((stP s k).getD (k / 2) 0).toNat : Int) * 16 by omega] at this
  rw [this]
  unfold bV
  rw [ofNat_toNat (by omega)]
def zF : List UInt8 := List.replicate 32 0
def pOk (s : List UInt8) : Prop := s.length = 64 ∧ ∀ i, i < 64 → 0 ≤ dI (s.getD i 0)
set_option maxHeartbeats 1000000 in
theorem HParse_any (s : List UInt8) (hs0 : s.length ≤ maxLen) (w : World) : Calls Try.prog 9 #[txH s] w fun e w' => ((pOk s → e = .returned (.tuple #[fpV (stP s 64), .int .i64 0])) ∧ (¬ pOk s → e = .returned (.tuple #[fpV zF, .int .i64 7]))) ∧ Below w.heap.size w w' := by
  have hsz : (⟨s.toArray⟩ : ByteArray).size = s.length := mkh_size s
  refine sx_fn (S := SX) (M := []) (N := 36) (H0 := []) Try.func9 rfl rfl rfl (Sat.nil _ _) ?_
  ((try refine sx_use ?_); (repeat (refine SxNew.mk fun _ => ?_; (try refine sx_use ?_))))
  rename_i b2 b4
  refine SxIf.ne (fun h => ?_) (fun h => ?_)
  · have hno : ¬ pOk s := fun hp => h (by rw [hsz, hp.1]; rfl)
    ((try refine sx_use ?_); (repeat (refine SxNew.mk fun _ => ?_; (try refine sx_use ?_))))
    refine SxDone.mk fun w' hs => ⟨⟨fun hp => absurd hp hno, fun _ => rfl⟩, hs.touch.below⟩
  · have hlen : s.length = 64 := by omega
    ((try refine sx_use ?_); (repeat (refine SxNew.mk fun _ => ?_; (try refine sx_use ?_))))
    refine SxCode.loop (σ := Nat) [13] [14, 15, 5, 16, 17, 18, 19, 6, 20, 21, 22, 3, 23, 24, 25, 26, 27, 28, 29, 30, 31, 32, 33, 34, 13] (fun k => [.int .i64 (k : Nat)]) (fun k => [.blk b4 23 (fpC (stP s k)), .blk b2 23 (fpC zF)]) (fun k => k ≤ 64 ∧ ∀ i, i < k → 0 ≤ dI (s.getD i 0)) (fun k => 64 - k) 0 [0, 1] rfl rfl rfl rfl ⟨Nat.zero_le _, fun i hi => absurd hi (Nat.not_lt_zero _)⟩ ?_
    rintro k ⟨hk, hd⟩
    dsimp only
    ((try refine sx_use ?_); (repeat (refine SxNew.mk fun _ => ?_; (try refine sx_use ?_))))
    refine SxIf.dec (fun h1 => ?_) (fun h1 => ?_)
    · have hlt : k < 64 := by omega
      ((try refine sx_use ?_); (repeat (refine SxNew.mk fun _ => ?_; (try refine sx_use ?_))))
      refine SxIdx.mk k rfl (by omega) ?_
      ((try refine sx_use ?_); (repeat (refine SxNew.mk fun _ => ?_; (try refine sx_use ?_))))
      refine SxCall.pure (dI_any (s.getD k 0)) ?_
      ((try refine sx_use ?_); (repeat (refine SxNew.mk fun _ => ?_; (try refine sx_use ?_))))
      refine SxIf.dec (fun h2 => ?_) (fun h2 => ?_)
      · have hno : ¬ pOk s := fun hp => by have := hp.2 k hlt; omega
        ((try refine sx_use ?_); (repeat (refine SxNew.mk fun _ => ?_; (try refine sx_use ?_))))
        refine SxDone.mk fun w' hs => ⟨⟨fun hp => absurd hp hno, fun _ => rfl⟩, hs.touch.below⟩
      · have h0 : 0 ≤ dI (s.getD k 0) := by omega
        have hlo := stP_lo hlt hd
        have hst := stP_cells hlt hd h0
        have hb : dI (s.getD k 0) < 16 := by
          rcases dI_cases (s.getD k 0) with h1 | ⟨_, h2, _⟩ <;> omega
        ((try refine sx_use ?_); (repeat (refine SxNew.mk fun _ => ?_; (try refine sx_use ?_))))
        refine SxIdx.mk (k / 2) (by omega) (by omega) ?_
        ((try refine sx_use ?_); (repeat (refine SxNew.mk fun _ => ?_; (try refine sx_use ?_))))
        refine SxLd.blk 0 rfl (v := bV ((stP s k).getD (k / 2) 0)) (by rw [Nat.zero_add, Nat.mul_one]; exact fpC_get (by rw [stP_len]; omega)) ?_
        ((try refine sx_use ?_); (repeat (refine SxNew.mk fun _ => ?_; (try refine sx_use ?_))))
        refine SxQ.shl 16 (by decide) ?_
        ((try refine sx_use ?_); (repeat (refine SxNew.mk fun _ => ?_; (try refine sx_use ?_))))
        refine SxRng.u8 (by omega) (by omega) ?_
        ((try refine sx_use ?_); (repeat (refine SxNew.mk fun _ => ?_; (try refine sx_use ?_))))
        refine SxRng.u8 (by omega) (by omega) ?_
        ((try refine sx_use ?_); (repeat (refine SxNew.mk fun _ => ?_; (try refine sx_use ?_))))
        refine SxIdx.mk (k / 2) (by omega) (by omega) ?_
        ((try refine sx_use ?_); (repeat (refine SxNew.mk fun _ => ?_; (try refine sx_use ?_))))
        refine SxSt.blk 0 rfl (by rw [fpC_len, stP_len]; exact Nat.ble_eq_true_of_le (by simp only [Value.cells, List.length_cons, List.length_nil]; omega)) rfl (cs' := fpC (stP s (k + 1))) (by rw [Nat.zero_add, Nat.mul_one]; exact hst) ?_
        ((try refine sx_use ?_); (repeat (refine SxNew.mk fun _ => ?_; (try refine sx_use ?_))))
        refine SxRound.mk (k + 1) [0, 1] rfl rfl rfl ⟨by omega, fun i hi => ?_⟩ (by omega)
        rcases Nat.lt_succ_iff_lt_or_eq.1 hi with h3 | rfl
        · exact hd i h3
        · exact h0
    · obtain rfl : k = 64 := by omega
      have hok : pOk s := ⟨hlen, hd⟩
      have hfl := stP_len s 64
      ((try refine sx_use ?_); (repeat (refine SxNew.mk fun _ => ?_; (try refine sx_use ?_))))
      exact SxDone.mk fun w' hs => ⟨⟨fun _ => rfl, fun hn => absurd hok hn⟩, hs.touch.below⟩
end Go.Proofs.Ytffkjbcelbfejaa
