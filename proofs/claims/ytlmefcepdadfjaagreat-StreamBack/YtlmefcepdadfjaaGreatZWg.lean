/- Texts of this claim, one behind the other. -/
import Derived.Test.YtlmefcepdadfjaaGreatZStQ
import Derived.Laws.ComplexArith
import Derived.Test.YtlmefcepdadfjaaGreatProg
import Derived.Deep.RegionWith
import Derived.Test.YtlmefcepdadfjaaGreatZOwnD
import Derived.Laws.BitsAllLaws
import Derived.Test.YtlmefcepdadfjaaGreatZHkD
import Derived.Test.YtlmefcepdadfjaaGreatZGen
/- Layer 23: a chunk is chopped off. -/
namespace Go.Proofs.YtlmefcepdadfjaaGreat
open Go.RowKit

def stO (g : Nat) (box man : Int) (c : Nat → Int) (L : Lb) (ms : List Mr) (mo : Option Addr) (mc : Nat) (bs : List Nb) (bo : Option Addr) (bc : Nat) (left : ByteArray) (ch : List ByteArray) (co : Option Addr) (cc : Nat) (fo : Option Addr) (fc wa wb : Nat) (n : Int) : Hp :=
  (⟨box, man, ms, mo, mc, bs, bo, bc, (lastX (bs.map Nb.bx) : Nat), (freshX (bs.map Nb.bx) : Nat), c, L, left, ch, co, cc, fo, fc, wa, wb, n⟩ : Sr).own g
structure Fine (L : Lb) (ms : List Mr) (bs : List Nb) (ch : List ByteArray) : Prop where
  ok : L.ok
  kn : ∀ hk, (knownG L.G hk).length ≤ 10000
  ml : ms.length ≤ 9000
  me : ∀ m ∈ ms, m.2.l.length ≤ 9000
  bl : bs.length ≤ 9000
  cl : ∀ b ∈ bs, b.2.l.length ≤ 9000
  hl : ch.length ≤ 9000
  hs : szB ch ≤ 900000
  fx : freshX (bs.map Nb.bx) ≤ 900000
theorem mem_szB {l : List ByteArray} {s : ByteArray} (h : s ∈ l) : s.size ≤ szB l := by
  obtain ⟨i, hi⟩ := List.getElem?_of_mem h
  have h1 := szB_take l (i + 1)
  rw [take_snocE hi, szB_snoc] at h1
  omega
set_option maxHeartbeats 16000000 in
theorem chop_sat {W : World} {M : List Nat} {R : Hp} {w : World} (box man : Int) (c : Nat → Int) (hc : segC c = true) (L : Lb) (ms : List Mr) (mo : Option Addr) (mc : Nat) (bs : List Nb) (bo : Option Addr) (bc : Nat) (left : ByteArray) (ch : List ByteArray) (co : Option Addr) (cc : Nat) (fo : Option Addr) (fc wa wb : Nat) (n : Int) (g m : Nat)
    (hf : Fine L ms bs ch) (hm : m ≤ left.size) (hls : left.size ≤ 90000) (hz : segN c (ch.map bFq) = 0) (hs : Sat W M (stO g box man c L ms mo mc bs bo bc left ch co cc fo fc wa wb n ++ (.gen (rdsG L.rds) :: R)) w) :
    Calls Tryz.prog 42 #[.pointer (some ⟨g, 0, none⟩), .int .i64 (m : Nat)] w fun e w' => ∃ ms' mo' mc' bs' bo' bc' ch' co' cc' fo' fc', e = .returned (.tuple #[]) ∧ ((⟨ms'.map Mr.mn, bs'.map Nb.bx⟩ : Ls), ch') = feedP c box man L.G (⟨ms.map Mr.mn, bs.map Nb.bx⟩, ch) (left.extract 0 m) ∧
      Sat W M (stO g box man c L ms' mo' mc' bs' bo' bc' (left.extract m left.size) ch' co' cc' fo' fc' wa wb n ++ (.gen (rdsG L.rds) :: R)) w' := by
  obtain ⟨x, hx⟩ : ∃ x, x = left.extract 0 m := ⟨_, rfl⟩
  obtain ⟨rest, hrest⟩ : ∃ r, r = left.extract m left.size := ⟨_, rfl⟩
  have hxs : x.size ≤ 90000 := by rw [hx, ByteArray.size_extract]; omega
  have hhl := hf.hl
  have hch1 : (ch ++ [x]).length = ch.length + 1 := by simp
  have hcf : (ch.map bFq).length = ch.length := List.length_map ..
  have hs' : Sat W M (.blk g 101 (smC box man (.slice mo ms.length mc) (.slice bo bs.length bc) (lastX (bs.map Nb.bx) : Nat) (freshX (bs.map Nb.bx) : Nat) c L.kn L.bt left (.slice co ch.length cc) (.slice fo ch.length fc) (.complex .f64 wa wb) n) :: .row mo ms.length mc 67 2 (mbE.fl (ms.map Mr.mb)) :: .row bo bs.length bc 60 2 (mbE.fl (bs.map Nb.mb)) :: topRow bs :: .gen (rdsG (bxL bs.dropLast)) :: .gen (offR co ch.length cc 9 1 (strE.fl ch)) :: .gen (offR fo ch.length fc 69 32 (fqE.fl (ch.map bFq))) :: .gen (rdsG (maL ms)) :: .gen (rdsG L.rds) :: R) w := hs
  refine sx_fn (S := SX) (N := 56) Tryz.func42 rfl rfl rfl hs' ?_
  ((try refine sU ?_);repeat(refine sN fun _=>?_;try refine sU ?_))
  refine SxBnd.mk 0 m rfl rfl (Nat.zero_le _) hm ?_
  ((try refine sU ?_);repeat(refine sN fun _=>?_;try refine sU ?_))
  refine SxBnd.mk m left.size rfl rfl hm (Nat.le_refl _) ?_
  rw [← hx, ← hrest]
  ((try refine sU ?_);repeat(refine sN fun _=>?_;try refine sU ?_))
  refine SxApp.off 6 rfl (vs := [.string x]) (fun _ _ _ hs => hs.rowRd 0 rfl (by show (1 : Nat) ≤ maxLen; unfold maxLen; omega)) (by omega) rfl rfl (by unfold maxLen; omega) (by omega) (cs' := strE.fl (ch ++ [x])) (by rw [strE.fl_append]; rfl) fun co1 cc1 => ?_
  ((try refine sU ?_);repeat(refine sN fun _=>?_;try refine sU ?_))
  refine SxCode.draw rfl [.blk g 101 (smC box man (.slice mo ms.length mc) (.slice bo bs.length bc) (lastX (bs.map Nb.bx) : Nat) (freshX (bs.map Nb.bx) : Nat) c L.kn L.bt rest (.slice co1 (ch.length + 1) cc1) (.slice fo ch.length fc) (.complex .f64 wa wb) n)] [11] [1] rfl rfl ?_
  ((try refine sU ?_);repeat(refine sN fun _=>?_;try refine sU ?_))
  refine SxStable.mk [2] rfl rfl ?_
  ((try refine sU ?_);repeat(refine sN fun _=>?_;try refine sU ?_))
  refine SxCall.newRd (n := 1) (v := fun ao cap => .slice ao 1 cap) (cs := fqE.fl [bFq x]) (by rw [fqE_len]; unfold maxLen; simp) (fun w1 hs1 => Fps_any [x] (by simp) (fun c' hc' => by obtain rfl := List.mem_singleton.1 hc'; omega) _ 1 w1 (hs1.rowRd 0 rfl (by show (1 : Nat) ≤ maxLen; unfold maxLen; omega))) fun fo0 fc0 => ?_
  ((try refine sU ?_);repeat(refine sN fun _=>?_;try refine sU ?_))
  refine SxStable.mk [3] rfl rfl ?_
  ((try refine sU ?_);repeat(refine sN fun _=>?_;try refine sU ?_))
  refine SxApp.off 9 rfl (vs := fqE.fl [bFq x]) (fun _ _ _ hs => hs.rd 0 rfl) (by omega) (fqE_len [bFq x]) (fqE.fl_allOne _) (by unfold maxLen; omega) (by omega) (cs' := fqE.fl ((ch ++ [x]).map bFq)) (by rw [List.map_append, fqE.fl_append]; rfl) fun fo1 fc1 => ?_
  ((try refine sU ?_);repeat(refine sN fun _=>?_;try refine sU ?_))
  refine SxStable.mk [3] rfl rfl ?_
  ((try refine sU ?_);repeat(refine sN fun _=>?_;try refine sU ?_))
  rw [show ch.length + 1 = (ch ++ [x]).length from hch1.symm]
  refine SxCode.wk (H' := stO g box man c L ms mo mc bs bo bc rest (ch ++ [x]) co1 cc1 fo1 fc1 wa wb n ++ (.gen (rdsG L.rds) :: R)) (Weak.pick (ks := [3, 4, 5, 6, 7, 8, 9, 10, 11] ++ tailIx 12 R.length) (pickH_append (A := [_, _, _, _, _, _, _, _, _]) rfl (pickH_tail (L := R) 12 rfl rfl)) (nodup_tail 12 _ rfl rfl)) ?_
  refine SxCode.drawAll rfl [] ?_
  ((try refine sU ?_);repeat(refine sN fun _=>?_;try refine sU ?_))
  obtain ⟨q, hq⟩ : ∃ q, q = segN c ((ch ++ [x]).map bFq) := ⟨_, rfl⟩
  refine SxCall.quietS (v := .int .i64 (q : Nat)) (fun w1 hs1 => by
    have h := SCut_any c ((ch ++ [x]).map bFq) (by rw [List.length_map]; omega) fo1 fc1 w1 (hs1.offRd 6 rfl (by rw [fqE_len, List.length_map]; unfold maxLen; omega))
    rw [List.length_map, ← hq] at h
    exact h) ?_
  rcases feedP_eq (box := box) (man := man) (G := L.G) (σ := (⟨ms.map Mr.mn, bs.map Nb.bx⟩, ch)) hc hz x with ⟨e0, ef⟩ | ⟨e0, ef⟩
  · obtain rfl : q = 0 := by rw [hq]; exact e0
    ((try refine sU ?_);repeat(refine sN fun _=>?_;try refine sU ?_))
    exact SxDone.mk fun w' hs => ⟨ms, mo, mc, bs, bo, bc, ch ++ [x], co1, cc1, fo1, fc1, rfl, by rw [ef], hs⟩
  · have hqk : q = (ch ++ [x]).length := by rw [hq, hch1]; exact e0
    have hq0 : 0 < q := by omega
    ((try refine sU ?_);repeat(refine sN fun _=>?_;try refine sU ?_))
    refine SxCall.mk fun w1 hs1 => (lay_sat box man ms mo mc bs bo bc _ _ c L rest (ch ++ [x]) co1 cc1 fo1 fc1 wa wb n g q hqk hf.ok hf.kn (by omega) (by have := hf.ml; omega) (fun m' hm' => by have := hf.me m' hm'; omega) (by have := hf.bl; omega) (fun b hb => by have := hf.cl b hb; omega) (fun s hs => by
      rcases List.mem_append.1 hs with h | h
      · have := mem_szB h; have := hf.hs; omega
      · obtain rfl := List.mem_singleton.1 h; omega) (by rw [szB_snoc]; have := hf.hs; omega) (by have := hf.fx; omega) rfl rfl hs1).mono ?_
    rintro e w2 ⟨ms', mo', mc', bs', bo', bc', cn, fn, rfl, h1, h2, hs2⟩
    refine ⟨_, _, rfl, hs2, ?_⟩
    ((try refine sU ?_);repeat(refine sN fun _=>?_;try refine sU ?_))
    refine SxDone.mk fun w' hs => ⟨ms', mo', mc', bs', bo', bc', [], cn, cc1 - q, fn, fc1 - q, rfl, ?_, ?_⟩
    · rw [ef, h1, h2]
    · exact hs
end Go.Proofs.YtlmefcepdadfjaaGreat
/- Plain: floats that hold whole numbers below 2^53 are added, taken away, multiplied and compared exactly. No program is named here. -/
namespace Go.Proofs.YtlmefcepdadfjaaGreat
open Ieee

theorem dbl_binade : Ieee.double.binade = 4503599627370496 := by decide
theorem dbl_least : Ieee.double.leastPlace = -1074 := by decide
theorem dbl_inf : Ieee.double.infRung = 9218868437227405312 := by decide
theorem dbl_sign : Ieee.double.signWeight = 9223372036854775808 := by decide
def fW (s : Bool) (m : Nat) : Nat := Ieee.double.nearest s m 0
def fI (n : Int) : Nat := fW (decide (n < 0)) n.natAbs
theorem cut_whole (s : Bool) (n : Nat) : Toward.even.cut s n 0 = n := by
  unfold Toward.cut
  simp [Nat.mod_one]
theorem cut_exact (s : Bool) (m j : Nat) (hm : 0 < m) : Toward.even.cut s (m * 2 ^ j) j = m := by
  have hlog : j ≤ (m * 2 ^ j).log2 + 2 := by
    have h1 : 2 ^ j ≤ m * 2 ^ j := Nat.le_mul_of_pos_left _ hm
    have h2 := (Nat.le_log2 (n := m * 2 ^ j) (k := j) (by have := Nat.two_pow_pos j; omega)).2 h1
    omega
  unfold Toward.cut
  rw [Nat.min_eq_left hlog]
  have hp := Nat.two_pow_pos j
  simp only [Nat.shiftLeft_eq, Nat.one_mul, Nat.mul_div_cancel _ hp, Nat.mul_mod_left, Nat.mul_zero]
  have h1 : decide (2 ^ j < 0) = false := by simp
  have h2 : (2 ^ j == 0) = false := by simp
  rw [h1, h2]
  rfl
theorem log2_mul_pow (m k : Nat) (hm : 0 < m) : (m * 2 ^ k).log2 = m.log2 + k := by
  have hp := Nat.two_pow_pos k
  have hmk : m * 2 ^ k ≠ 0 := by have := Nat.mul_pos hm hp; omega
  apply Nat.le_antisymm
  · have h1 := (Nat.log2_lt (n := m) (k := m.log2 + 1) (by omega)).1 (Nat.lt_succ_self _)
    have h2 : m * 2 ^ k < 2 ^ (m.log2 + k + 1) := by
      rw [show m.log2 + k + 1 = (m.log2 + 1) + k by omega, Nat.pow_add]
      exact Nat.mul_lt_mul_of_pos_right h1 hp
    have := (Nat.log2_lt hmk).2 h2
    omega
  · apply (Nat.le_log2 hmk).2
    rw [Nat.pow_add]
    exact Nat.mul_le_mul_right _ ((Nat.le_log2 (n := m) (k := m.log2) (by omega)).1 (Nat.le_refl _))
theorem log2_lt53 {m : Nat} (hm : 0 < m) (h : m < 9007199254740992) : m.log2 ≤ 52 := by
  have := (Nat.log2_lt (n := m) (k := 53) (by omega)).2 (by simpa using h)
  omega
def rungOf (m : Nat) : Nat := (m.log2 + 1022) * 4503599627370496 + m * 2 ^ (52 - m.log2)
theorem full_bounds {m : Nat} (hm : 0 < m) (h : m < 9007199254740992) : 4503599627370496 ≤ m * 2 ^ (52 - m.log2) ∧ m * 2 ^ (52 - m.log2) < 9007199254740992 := by
  have hl := log2_lt53 hm h
  have h1 := (Nat.le_log2 (n := m) (k := m.log2) (by omega)).1 (Nat.le_refl _)
  have h2 := (Nat.log2_lt (n := m) (k := m.log2 + 1) (by omega)).1 (Nat.lt_succ_self _)
  constructor
  · have h3 : 2 ^ m.log2 * 2 ^ (52 - m.log2) ≤ m * 2 ^ (52 - m.log2) := Nat.mul_le_mul_right _ h1
    rw [← Nat.pow_add, show m.log2 + (52 - m.log2) = 52 by omega] at h3
    simpa using h3
  · have h3 : m * 2 ^ (52 - m.log2) < 2 ^ (m.log2 + 1) * 2 ^ (52 - m.log2) := Nat.mul_lt_mul_of_pos_right h2 (Nat.two_pow_pos _)
    rw [← Nat.pow_add, show m.log2 + 1 + (52 - m.log2) = 53 by omega] at h3
    simpa using h3
theorem nearest_spelt (s : Bool) (m k : Nat) (hm : 0 < m) (h : m < 9007199254740992) : Ieee.double.nearest s (m * 2 ^ k) (-(k : Int)) = Ieee.double.word s (rungOf m) := by
  have hl := log2_lt53 hm h
  have hp := Nat.two_pow_pos k
  have hb := full_bounds hm h
  have hmk : m * 2 ^ k ≠ 0 := by have := Nat.mul_pos hm hp; omega
  unfold Format.nearest
  rw [if_neg hmk, log2_mul_pow m k hm, dbl_least, dbl_binade, dbl_inf]
  have hf : (Ieee.double.fractionBits : Int) = 52 := rfl
  rw [hf]
  have hlast : max (-(k : Int) + ((m.log2 + k : Nat) : Int) - 52) (-1074) = (m.log2 : Int) - 52 := by omega
  simp only [hlast]
  have hkept : Toward.even.cut s ((m * 2 ^ k) <<< (-(k : Int) - ((m.log2 : Int) - 52)).toNat) (((m.log2 : Int) - 52) - -(k : Int)).toNat = m * 2 ^ (52 - m.log2) := by
    rcases Nat.le_total k (52 - m.log2) with hk | hk
    · rw [show (-(k : Int) - ((m.log2 : Int) - 52)).toNat = 52 - m.log2 - k by omega, show (((m.log2 : Int) - 52) - -(k : Int)).toNat = 0 by omega, cut_whole, Nat.shiftLeft_eq, Nat.mul_assoc, ← Nat.pow_add, show k + (52 - m.log2 - k) = 52 - m.log2 by omega]
    · rw [show (-(k : Int) - ((m.log2 : Int) - 52)).toNat = 0 by omega, show (((m.log2 : Int) - 52) - -(k : Int)).toNat = k - (52 - m.log2) by omega, Nat.shiftLeft_eq, Nat.pow_zero, Nat.mul_one]
      have : m * 2 ^ k = (m * 2 ^ (52 - m.log2)) * 2 ^ (k - (52 - m.log2)) := by rw [Nat.mul_assoc, ← Nat.pow_add]; congr 2; omega
      rw [this]
      exact cut_exact s _ _ (by omega)
  rw [hkept, show ((m.log2 : Int) - 52 - -1074).toNat = m.log2 + 1022 by omega]
  congr 1
  unfold rungOf
  rw [Nat.min_eq_left]
  omega
theorem fW_word (s : Bool) (m : Nat) (hm : 0 < m) (h : m < 9007199254740992) : fW s m = Ieee.double.word s (rungOf m) := by
  have := nearest_spelt s m 0 hm h
  simpa [fW] using this
theorem fW_zero (s : Bool) : fW s 0 = Ieee.double.word s 0 := by simp [fW, Format.nearest]
theorem read_word (s : Bool) (m : Nat) (hm : 0 < m) (h : m < 9007199254740992) : Ieee.double.read (Ieee.double.word s (rungOf m)) = .number s (m * 2 ^ (52 - m.log2)) ((m.log2 : Int) - 52) := by
  have hl := log2_lt53 hm h
  have hb := full_bounds hm h
  have hr : rungOf m = (m.log2 + 1022) * 4503599627370496 + m * 2 ^ (52 - m.log2) := rfl
  generalize m * 2 ^ (52 - m.log2) = M at hb hr
  generalize rungOf m = R at hr
  have hR : R < 9223372036854775808 := by omega
  have hw : Ieee.double.word s R = if s then 9223372036854775808 + R else R := by unfold Format.word; rw [dbl_sign]
  have h1 : (Ieee.double.word s R / 9223372036854775808 % 2 == 1) = s := by
    rw [hw]
    cases s
    · simp; omega
    · simp; omega
  have h2 : Ieee.double.word s R % 9223372036854775808 = R := by
    rw [hw]
    cases s
    · simp; omega
    · simp; omega
  unfold Format.read
  simp only [dbl_sign, dbl_binade, dbl_inf, dbl_least, h1, h2]
  rw [if_neg (by omega), if_pos (by omega)]
  congr 1
  · omega
  · omega
theorem read_zero (s : Bool) : Ieee.double.read (Ieee.double.word s 0) = .number s 0 (-1074) := by cases s <;> decide
def IsD (d : Datum) (n : Int) : Prop := ∃ (s : Bool) (k : Nat), d = .number s (n.natAbs * 2 ^ k) (-(k : Int)) ∧ (n < 0 → s = true) ∧ (0 < n → s = false)
def IsW (x : Nat) (n : Int) : Prop := IsD (Ieee.double.read x) n ∧ n.natAbs < 9007199254740992 ∧ ∃ s, x = fW s n.natAbs ∧ (n < 0 → s = true) ∧ (0 < n → s = false)
theorem isD_word (s : Bool) (n : Int) (h : n.natAbs < 9007199254740992) (h1 : n < 0 → s = true) (h2 : 0 < n → s = false) : IsD (Ieee.double.read (fW s n.natAbs)) n := by
  rcases Nat.eq_zero_or_pos n.natAbs with h0 | h0
  · rw [h0, fW_zero, read_zero]
    obtain ⟨k, hk⟩ : ∃ k : Nat, (k : Int) = 1074 := ⟨1074, rfl⟩
    exact ⟨s, k, by rw [h0, Nat.zero_mul, hk], h1, h2⟩
  · rw [fW_word s _ h0 h, read_word s _ h0 h]
    have hl := log2_lt53 h0 h
    exact ⟨s, 52 - n.natAbs.log2, by congr 1; omega, h1, h2⟩
theorem isW_fW (s : Bool) (n : Int) (h : n.natAbs < 9007199254740992) (h1 : n < 0 → s = true) (h2 : 0 < n → s = false) : IsW (fW s n.natAbs) n := ⟨isD_word s n h h1 h2, h, s, rfl, h1, h2⟩
theorem isW_fI (n : Int) (h : n.natAbs < 9007199254740992) : IsW (fI n) n := isW_fW _ n h (fun h => by simpa using h) (fun h => by simp; omega)
theorem write_isD {d : Datum} {n : Int} (hd : IsD d n) (h : n.natAbs < 9007199254740992) : IsW (Ieee.double.write d) n ∧ (n ≠ 0 ∨ d.neg = false → Ieee.double.write d = fI n) := by
  obtain ⟨s, k, rfl, h1, h2⟩ := hd
  have hw : Ieee.double.write (.number s (n.natAbs * 2 ^ k) (-(k : Int))) = fW s n.natAbs := by
    show Ieee.double.nearest s (n.natAbs * 2 ^ k) (-(k : Int)) = _
    rcases Nat.eq_zero_or_pos n.natAbs with h0 | h0
    · rw [h0, fW_zero]; simp [Format.nearest]
    · rw [nearest_spelt s _ k h0 h, fW_word s _ h0 h]
  rw [hw]
  refine ⟨isW_fW s n h h1 h2, fun h3 => ?_⟩
  unfold fI
  congr 1
  rcases Int.lt_trichotomy n 0 with h4 | h4 | h4
  · rw [h1 h4]; simp [h4]
  · subst h4
    rcases h3 with h3 | h3
    · exact absurd rfl h3
    · exact h3
  · rw [h2 h4]; simp; omega
theorem signed_val (s : Bool) (n : Int) (k j : Nat) (h1 : n < 0 → s = true) (h2 : 0 < n → s = false) : signed s (n.natAbs * 2 ^ k) j = n * 2 ^ (k + j) := by
  unfold signed
  rw [Nat.shiftLeft_eq, Nat.mul_assoc, ← Nat.pow_add]
  rcases Int.lt_trichotomy n 0 with h4 | h4 | h4
  · rw [h1 h4]
    simp only [if_true, Int.natCast_mul, Int.natCast_pow]
    have : (n.natAbs : Int) = -n := by omega
    rw [this, Int.neg_mul, Int.neg_neg]
    rfl
  · subst h4
    cases s <;> simp
  · rw [h2 h4]
    simp only [Bool.false_eq_true, if_false, Int.natCast_mul, Int.natCast_pow]
    have : (n.natAbs : Int) = n := by omega
    rw [this]
    rfl
theorem isD_sum {d e : Datum} {a b : Int} (hd : IsD d a) (he : IsD e b) : ∃ r, d.sum e = some r ∧ IsD r (a + b) ∧ (d.neg = false ∨ e.neg = false → a + b = 0 → r.neg = false) := by
  obtain ⟨s, i, rfl, h1, h2⟩ := hd
  obtain ⟨t, j, rfl, h3, h4⟩ := he
  obtain ⟨m, hm⟩ : ∃ m : Nat, m = max i j := ⟨_, rfl⟩
  have hbase : min (-(i : Int)) (-(j : Int)) = -(m : Int) := by omega
  have e1 : signed s (a.natAbs * 2 ^ i) (-(i : Int) - -(m : Int)).toNat = a * 2 ^ m := by
    rw [signed_val s a i _ h1 h2]; congr 2; omega
  have e2 : signed t (b.natAbs * 2 ^ j) (-(j : Int) - -(m : Int)).toNat = b * 2 ^ m := by
    rw [signed_val t b j _ h3 h4]; congr 2; omega
  have hpos : (0 : Int) < 2 ^ m := by exact_mod_cast Nat.two_pow_pos m
  refine ⟨.number (if (a + b) * 2 ^ m = 0 then s && t else decide ((a + b) * 2 ^ m < 0)) ((a + b) * 2 ^ m).natAbs (-(m : Int)), ?_, ⟨if (a + b) * 2 ^ m = 0 then s && t else decide ((a + b) * 2 ^ m < 0), m, ?_, ?_, ?_⟩, ?_⟩
  · simp only [Datum.sum, hbase, e1, e2, ← Int.add_mul]
  · rw [Int.natAbs_mul, Int.natAbs_pow]; rfl
  · intro h
    have : (a + b) * 2 ^ m < 0 := Int.mul_neg_of_neg_of_pos h hpos
    rw [if_neg (by omega)]
    simpa using this
  · intro h
    have : 0 < (a + b) * 2 ^ m := Int.mul_pos h hpos
    rw [if_neg (by omega)]
    simp; omega
  · intro hs h0
    rw [h0]
    simp only [Datum.neg] at hs ⊢
    simp
    rcases hs with h | h
    · intro h'; rw [h] at h'; cases h'
    · intro _; exact h
theorem isD_product {d e : Datum} {a b : Int} (hd : IsD d a) (he : IsD e b) : ∃ r, d.product e = some r ∧ IsD r (a * b) := by
  obtain ⟨s, i, rfl, h1, h2⟩ := hd
  obtain ⟨t, j, rfl, h3, h4⟩ := he
  refine ⟨_, rfl, s ^^ t, i + j, ?_, ?_, ?_⟩
  · congr 1
    · rw [Int.natAbs_mul, Nat.pow_add]; ac_rfl
    · omega
  · intro h
    rcases Int.lt_trichotomy a 0 with ha | ha | ha
    · rcases Int.lt_trichotomy b 0 with hb | hb | hb
      · have := Int.mul_pos_of_neg_of_neg ha hb; omega
      · subst hb; simp at h
      · rw [h1 ha, h4 hb]; rfl
    · subst ha; simp at h
    · rcases Int.lt_trichotomy b 0 with hb | hb | hb
      · rw [h2 ha, h3 hb]; rfl
      · subst hb; simp at h
      · have := Int.mul_pos ha hb; omega
  · intro h
    rcases Int.lt_trichotomy a 0 with ha | ha | ha
    · rcases Int.lt_trichotomy b 0 with hb | hb | hb
      · rw [h1 ha, h3 hb]; rfl
      · subst hb; simp at h
      · have := Int.mul_neg_of_neg_of_pos ha hb; omega
    · subst ha; simp at h
    · rcases Int.lt_trichotomy b 0 with hb | hb | hb
      · have := Int.mul_neg_of_pos_of_neg ha hb; omega
      · subst hb; simp at h
      · rw [h2 ha, h4 hb]; rfl
theorem isD_opposite {d : Datum} {a : Int} (hd : IsD d a) : IsD d.opposite (-a) := by
  obtain ⟨s, i, rfl, h1, h2⟩ := hd
  refine ⟨!s, i, by simp [Datum.opposite], fun h => ?_, fun h => ?_⟩
  · rw [h2 (by omega)]; rfl
  · rw [h1 (by omega)]; rfl
theorem fI_neg {n : Int} (h : n.natAbs < 9007199254740992) : 0 ≤ n → (Ieee.double.read (fI n)).neg = false := by
  intro hn
  unfold fI
  rw [decide_eq_false (by omega)]
  rcases Nat.eq_zero_or_pos n.natAbs with h0 | h0
  · rw [h0, fW_zero, read_zero]; rfl
  · rw [fW_word _ _ h0 h, read_word _ _ h0 h]; rfl
theorem add_W {x y : Nat} {a b : Int} (hx : IsW x a) (hy : IsW y b) (h : (a + b).natAbs < 9007199254740992) : ∃ r, floatBits .add .f64 x y = some r ∧ IsW r (a + b) ∧ (x = fI a ∨ y = fI b → r = fI (a + b)) := by
  obtain ⟨r, h1, h2, h3⟩ := isD_sum hx.1 hy.1
  have hw := write_isD h2 h
  refine ⟨Ieee.double.write r, ?_, hw.1, fun hp => hw.2 ?_⟩
  · show (Ieee.double.add x y) = _
    unfold Format.add
    rw [h1]; rfl
  · by_cases h0 : a + b = 0
    · right
      refine h3 ?_ h0
      rcases hp with rfl | rfl
      · by_cases ha : 0 ≤ a
        · exact .inl (fI_neg hx.2.1 ha)
        · right
          obtain ⟨t, k, h4, h5, h6⟩ := hy.1
          rw [h4]
          exact h6 (by omega)
      · by_cases hb : 0 ≤ b
        · exact .inr (fI_neg hy.2.1 hb)
        · left
          obtain ⟨t, k, h4, h5, h6⟩ := hx.1
          rw [h4]
          exact h6 (by omega)
    · exact .inl h0
theorem sub_W {x y : Nat} {a b : Int} (hx : IsW x a) (hy : IsW y b) (h : (a - b).natAbs < 9007199254740992) : ∃ r, floatBits .sub .f64 x y = some r ∧ IsW r (a - b) := by
  obtain ⟨r, h1, h2, h3⟩ := isD_sum hx.1 (isD_opposite hy.1)
  rw [← Int.sub_eq_add_neg] at h2
  refine ⟨Ieee.double.write r, ?_, (write_isD h2 h).1⟩
  show (Ieee.double.sub x y) = _
  unfold Format.sub
  rw [h1]; rfl
theorem mul_W {x y : Nat} {a b : Int} (hx : IsW x a) (hy : IsW y b) (h : (a * b).natAbs < 9007199254740992) : ∃ r, floatBits .mul .f64 x y = some r ∧ IsW r (a * b) := by
  obtain ⟨r, h1, h2⟩ := isD_product hx.1 hy.1
  refine ⟨Ieee.double.write r, ?_, (write_isD h2 h).1⟩
  show (Ieee.double.mul x y) = _
  unfold Format.mul
  rw [h1]; rfl
theorem order_isD {d e : Datum} {a b : Int} (hd : IsD d a) (he : IsD e b) : d.order e = some (compare a b) := by
  obtain ⟨s, i, rfl, h1, h2⟩ := hd
  obtain ⟨t, j, rfl, h3, h4⟩ := he
  obtain ⟨m, hm⟩ : ∃ m : Nat, m = max i j := ⟨_, rfl⟩
  have hbase : min (-(i : Int)) (-(j : Int)) = -(m : Int) := by omega
  have e1 : signed s (a.natAbs * 2 ^ i) (-(i : Int) - -(m : Int)).toNat = a * 2 ^ m := by
    rw [signed_val s a i _ h1 h2]; congr 2; omega
  have e2 : signed t (b.natAbs * 2 ^ j) (-(j : Int) - -(m : Int)).toNat = b * 2 ^ m := by
    rw [signed_val t b j _ h3 h4]; congr 2; omega
  have hpos : (0 : Int) < 2 ^ m := by exact_mod_cast Nat.two_pow_pos m
  simp only [Datum.order, hbase, e1, e2]
  congr 1
  simp only [compare, compareOfLessAndEq]
  by_cases h : a < b
  · rw [if_pos h, if_pos (Int.mul_lt_mul_of_pos_right h hpos)]
  · rw [if_neg h, if_neg (fun h' => h (Int.lt_of_mul_lt_mul_right h' (Int.le_of_lt hpos)))]
    by_cases h' : a = b
    · rw [if_pos h', if_pos (by rw [h'])]
    · rw [if_neg h', if_neg (fun e => h' (Int.eq_of_mul_eq_mul_right (by omega) e))]
theorem order_W {x y : Nat} {a b : Int} (hx : IsW x a) (hy : IsW y b) : FloatKind.f64.format.order x y = some (compare a b) := order_isD hx.1 hy.1
theorem toInt_isD {d : Datum} {a : Int} (hd : IsD d a) : d.toInt .zero = some a := by
  obtain ⟨s, i, rfl, h1, h2⟩ := hd
  have hc : ∀ (n : Nat), Toward.zero.cut s (n * 2 ^ i) i = n := by
    intro n
    rcases Nat.eq_zero_or_pos n with h0 | h0
    · subst h0; simp [Toward.cut]
    · have hlog : i ≤ (n * 2 ^ i).log2 + 2 := by rw [log2_mul_pow n i h0]; omega
      unfold Toward.cut
      rw [Nat.min_eq_left hlog]
      simp only [Nat.shiftLeft_eq, Nat.one_mul, Nat.mul_div_cancel _ (Nat.two_pow_pos i)]
      rfl
  simp only [Datum.toInt, Datum.integral]
  rw [show (-(i : Int)).toNat = 0 by omega, show (-(-(i : Int))).toNat = i by omega, Nat.shiftLeft_eq, Nat.pow_zero, Nat.mul_one, hc]
  have := signed_val s a 0 0 h1 h2
  simp at this
  rw [this]
end Go.Proofs.YtlmefcepdadfjaaGreat
/- The reader of package pack, and the document's. -/
namespace Go.Proofs.YtlmefcepdadfjaaGreat
open Go.RowKit

theorem mk_size (l : List UInt8) : (⟨l.toArray⟩ : ByteArray).size = l.length := rfl
section
variable {W : World} {M : List Nat} {H : Hp} {w : World}
end
end Go.Proofs.YtlmefcepdadfjaaGreat
/- The walks of package weigh, and of the document's: weights as two whole numbers. -/
namespace Go.Proofs.YtlmefcepdadfjaaGreat
open Go.RowKit

section
variable {P : Program} {A : Value → Prop} {t : Nat} {x y : Operand}
theorem SxRun.cadd {a b c d re im : Nat} (h : cSumBits .add .f64 a b c d = some (re, im)) (hA : A (.complex .f64 re im)) : SxRun P (do eqGuard .add t x y (.complex .f64 a b) (.complex .f64 c d); binOp .add t (.complex .f64 a b) (.complex .f64 c d)) A :=
  ⟨_, fun w => by have := run_complex_sum (P := P) w .add (.inl rfl) t .f64 a b c d re im h; simp [eqGuard, this], hA⟩
theorem SxRun.cmul {a b c d re im : Nat} (h : cMulBits a b c d = some (re, im)) (hA : A (.complex .f64 re im)) : SxRun P (do eqGuard .mul t x y (.complex .f64 a b) (.complex .f64 c d); binOp .mul t (.complex .f64 a b) (.complex .f64 c d)) A :=
  ⟨_, fun w => by have := run_complex_mul (P := P) w t a b c d re im h; simp [eqGuard, this], hA⟩
theorem SxRun.fadd {a b r : Nat} (h : floatBits .add .f64 a b = some r) (hA : A (.float .f64 r)) : SxRun P (do eqGuard .add t x y (.float .f64 a) (.float .f64 b); binOp .add t (.float .f64 a) (.float .f64 b)) A :=
  ⟨_, fun w => by have := run_float_arith (P := P) w .add t .f64 a b r h; simp [eqGuard, this], hA⟩
theorem SxRun.feql {a b : Nat} {m n : Int} (ha : IsW a m) (hb : IsW b n) (hA : A (.bool (decide (m = n)))) : SxRun P (do eqGuard .eql t x y (.float .f64 a) (.float .f64 b); binOp .eql t (.float .f64 a) (.float .f64 b)) A :=
  ⟨_, fun w => by
    have ho := order_W ha hb
    have : (some (compare m n) == some Ordering.eq) = decide (m = n) := by
      simp only [compare, compareOfLessAndEq]
      by_cases h : m < n
      · rw [if_pos h, decide_eq_false (by omega)]; rfl
      · rw [if_neg h]
        by_cases h' : m = n
        · rw [if_pos h', decide_eq_true (by omega)]; rfl
        · rw [if_neg h', decide_eq_false (by omega)]; rfl
    simp [eqGuard, binOp, Op.floatCmp, ho, this], hA⟩
theorem SxRun.i2f {src dst : Nat} {k : IntKind} {n : Int} {u : TypeDesc} (hs : P.underlying src = some u) (hd : P.underlying dst = some (.float .f64)) (hA : A (.float .f64 (fI n))) : SxRun P (convert src dst (.int k n)) A :=
  ⟨_, fun w => run_convert_int_float (P := P) w src dst k .f64 n (by rw [hs]; rfl) hd, hA⟩
theorem SxRun.f2i {src dst : Nat} {a : Nat} {n : Int} {u : TypeDesc} (ha : IsW a n) (hs : P.underlying src = some u) (hd : P.underlying dst = some (.int .i64)) (hA : A (.int .i64 n)) : SxRun P (convert src dst (.float .f64 a)) A :=
  ⟨_, fun w => run_convert_float_int (P := P) w src dst .f64 .i64 a n (by rw [hs]; rfl) hd (by
    unfold floatToIntVal
    rw [show (FloatKind.f64.decode a).toInt .zero = some n from toInt_isD ha.1]
    have h1 : IntKind.i64.min = -9223372036854775808 := rfl
    have h2 : IntKind.i64.max = 9223372036854775807 := rfl
    have := ha.2.1
    exact if_pos ⟨by omega, by omega⟩), hA⟩
theorem SxRun.fneg {a r : Nat} (h : (Op.unary .neg (.float .f64 a) : Sem Value) = pure (.float .f64 r)) (hA : A (.float .f64 r)) : SxRun P (Op.unary .neg (.float .f64 a)) A :=
  ⟨_, fun w => by rw [h]; rfl, hA⟩
end
theorem cmul_W {a b c d : Nat} {A B C D : Int} (ha : IsW a A) (hb : IsW b B) (hc : IsW c C) (hd : IsW d D) (h1 : (A * C).natAbs < 9007199254740992) (h2 : (B * D).natAbs < 9007199254740992) (h3 : (A * D).natAbs < 9007199254740992) (h4 : (B * C).natAbs < 9007199254740992) (h5 : (A * C - B * D).natAbs < 9007199254740992) (h6 : (A * D + B * C).natAbs < 9007199254740992) :
    ∃ re im, cMulBits a b c d = some (re, im) ∧ IsW re (A * C - B * D) ∧ IsW im (A * D + B * C) := by
  obtain ⟨ac, e1, w1⟩ := mul_W ha hc h1
  obtain ⟨bd, e2, w2⟩ := mul_W hb hd h2
  obtain ⟨re, e3, w3⟩ := sub_W w1 w2 h5
  obtain ⟨ad, e4, w4⟩ := mul_W ha hd h3
  obtain ⟨bc, e5, w5⟩ := mul_W hb hc h4
  obtain ⟨im, e6, w6, _⟩ := add_W w4 w5 h6
  exact ⟨re, im, by simp [cMulBits, e1, e2, e3, e4, e5, e6], w3, w6⟩
theorem cadd_W {a b c d : Nat} {A B C D : Int} (ha : IsW a A) (hb : IsW b B) (hc : IsW c C) (hd : IsW d D) (h1 : (A + C).natAbs < 9007199254740992) (h2 : (B + D).natAbs < 9007199254740992) (ha' : a = fI A ∨ c = fI C) (hb' : b = fI B ∨ d = fI D) :
    cSumBits .add .f64 a b c d = some (fI (A + C), fI (B + D)) := by
  obtain ⟨r, e1, w1, p1⟩ := add_W ha hc h1
  obtain ⟨i, e2, w2, p2⟩ := add_W hb hd h2
  rw [← p1 ha', ← p2 hb']
  simp [cSumBits, e1, e2]
theorem fI_0 : fI 0 = 0 := by decide
theorem fI_1 : fI 1 = 4607182418800017408 := by decide +kernel
theorem W_0 : IsW 0 0 := by have := isW_fI 0 (by decide); rwa [fI_0] at this
theorem W_1 : IsW 4607182418800017408 1 := by have := isW_fI 1 (by decide); rwa [fI_1] at this
def wAt (l : List UInt8) (j : Nat) : Nat → Int
  | 0 => 0
  | k + 1 => wAt l j k + (if k % 4 = j then ((l.getD k 0).toNat : Int) else 0)
theorem wAt_bd (l : List UInt8) (j : Nat) : ∀ k : Nat, 0 ≤ wAt l j k ∧ wAt l j k ≤ 255 * k
  | 0 => by simp [wAt]
  | k + 1 => by
    have h := wAt_bd l j k
    have hb := (l.getD k 0).toNat_lt
    simp only [wAt]
    split <;> omega
def reW (l : List UInt8) (k : Nat) : Int := wAt l 0 k - wAt l 2 k
def imW (l : List UInt8) (k : Nat) : Int := wAt l 1 k - wAt l 3 k
def unR (k : Nat) : Int := if k % 4 = 0 then 1 else if k % 4 = 2 then -1 else 0
def unI (k : Nat) : Int := if k % 4 = 1 then 1 else if k % 4 = 3 then -1 else 0
theorem W_u0 : IsW 4607182418800017408 (unR 0) := W_1
theorem W_v0 : IsW 0 (unI 0) := W_0
theorem unR_succ (k : Nat) : unR (k + 1) = -unI k := by unfold unR unI; split <;> split <;> (try split) <;> (try split) <;> omega
theorem unI_succ (k : Nat) : unI (k + 1) = unR k := by unfold unR unI; split <;> split <;> (try split) <;> (try split) <;> omega
theorem un_bd (k : Nat) : -1 ≤ unR k ∧ unR k ≤ 1 ∧ -1 ≤ unI k ∧ unI k ≤ 1 := by unfold unR unI; refine ⟨?_, ?_, ?_, ?_⟩ <;> split <;> (try split) <;> omega
theorem un_mul (k : Nat) (c : Int) : c * unR k = (if k % 4 = 0 then c else 0) - (if k % 4 = 2 then c else 0) ∧ c * unI k = (if k % 4 = 1 then c else 0) - (if k % 4 = 3 then c else 0) := by
  have h : k % 4 = 0 ∨ k % 4 = 1 ∨ k % 4 = 2 ∨ k % 4 = 3 := by omega
  unfold unR unI
  rcases h with h | h | h | h <;> simp [h]
theorem reW_succ (l : List UInt8) (k : Nat) : reW l (k + 1) = reW l k + ((l.getD k 0).toNat : Int) * unR k := by
  rw [(un_mul k _).1]; simp only [reW, wAt]; omega
theorem imW_succ (l : List UInt8) (k : Nat) : imW l (k + 1) = imW l k + ((l.getD k 0).toNat : Int) * unI k := by
  rw [(un_mul k _).2]; simp only [imW, wAt]; omega
def txV (l : List UInt8) : Value := .string ⟨l.toArray⟩
def wv (a b : Int) : Value := .complex .f64 (fI a) (fI b)
theorem plain_any (a b : Nat) (A B : Int) (ha : IsW a A) (hb : IsW b B) (w : World) :
    Calls Tryz.prog 90 #[.complex .f64 a b] w fun e w' => e = .returned (wv A B) ∧ Below w.heap.size w w' := by
  refine sx_fn (S := SX) (M := []) (N := 10) (H0 := []) Tryz.func90 rfl rfl rfl (Sat.nil _ _) ?_
  obtain ⟨r, e1, w1, p1⟩ := add_W ha W_0 (by have := ha.2.1; simpa using this)
  obtain ⟨i, e2, w2, p2⟩ := add_W hb W_0 (by have := hb.2.1; simpa using this)
  ((try refine sU ?_);repeat(refine sN fun _=>?_;try refine sU ?_))
  refine SxRun.fadd e1 ?_
  ((try refine sU ?_);repeat(refine sN fun _=>?_;try refine sU ?_))
  refine SxRun.fadd e2 ?_
  ((try refine sU ?_);repeat(refine sN fun _=>?_;try refine sU ?_))
  refine SxDone.mk fun w' hs => ⟨?_, hs.touch.below⟩
  rw [p1 (.inr fI_0.symm), p2 (.inr fI_0.symm), Int.add_zero, Int.add_zero]
  rfl
theorem WOf_any (l : List UInt8) (hl : l.length ≤ 1000000) (w : World) :
    Calls Tryz.prog 63 #[txV l] w fun e w' => e = .returned (wv (reW l l.length) (imW l l.length)) ∧ Below w.heap.size w w' := by
  have hsz : (⟨l.toArray⟩ : ByteArray).size = l.length := mk_size l
  refine sx_fn (S := SX) (M := []) (N := 25) (H0 := []) Tryz.func63 rfl rfl rfl (Sat.nil _ _) ?_
  ((try refine sU ?_);repeat(refine sN fun _=>?_;try refine sU ?_))
  refine SxCode.scope (σ := Nat × Nat × Nat) [5, 3, 4] [2, 3, 4, 5, 6, 7, 8, 9, 10, 11, 12, 13, 14, 15, 16, 17, 18, 19, 20, 21, 22, 23, 24] (fun _ => 0) (fun s => [.int .i64 (s.1 : Nat), wv (reW l s.1) (imW l s.1), .complex .f64 s.2.1 s.2.2]) (fun _ => []) (fun s => s.1 ≤ l.length ∧ IsW s.2.1 (unR s.1) ∧ IsW s.2.2 (unI s.1)) (fun s => l.length - s.1) rfl ?_ ?_
  · have hz : Value.complex .f64 0 0 = wv (reW l 0) (imW l 0) := by unfold wv; rw [show reW l 0 = 0 from rfl, show imW l 0 = 0 from rfl, fI_0]
    rw [hz]
    have hb0 := wAt_bd l 0 0
    have hb1 := wAt_bd l 1 0
    have hb2 := wAt_bd l 2 0
    have hb3 := wAt_bd l 3 0
    have hre : reW l 0 = wAt l 0 0 - wAt l 2 0 := rfl
    have him : imW l 0 = wAt l 1 0 - wAt l 3 0 := rfl
    ((try refine sU ?_);repeat(refine sN fun _=>?_;try refine sU ?_))
    refine SxIf.eq (fun h => ?_) (fun h => ?_)
    · ((try refine sU ?_);repeat(refine sN fun _=>?_;try refine sU ?_))
      have hlen : l.length = 0 := by omega
      refine SxCall.quiet (plain_any (fI (reW l 0)) (fI (imW l 0)) (reW l 0) (imW l 0) (isW_fI _ (by omega)) (isW_fI _ (by omega))) ?_
      ((try refine sU ?_);repeat(refine sN fun _=>?_;try refine sU ?_))
      exact SxDone.mk fun w' hs => ⟨by rw [hlen]; rfl, hs.touch.below⟩
    · have hlt : 0 < l.length := by omega
      have hc := (l.getD 0 0).toNat_lt
      have hun := un_bd 0
      have hmu := un_mul 0 ((l.getD 0 0).toNat : Int)
      have hcR : (((l.getD 0 0).toNat : Int) * unR 0).natAbs < 1000 := by rw [hmu.1]; split <;> split <;> omega
      have hcI : (((l.getD 0 0).toNat : Int) * unI 0).natAbs < 1000 := by rw [hmu.2]; split <;> split <;> omega
      obtain ⟨re, im, e1, w1, w2⟩ := cmul_W (isW_fI ((l.getD 0 0).toNat : Int) (by omega)) W_0 W_u0 W_v0 (by omega) (by rw [Int.zero_mul]; decide) (by omega) (by rw [Int.zero_mul]; decide) (by rw [Int.zero_mul]; omega) (by rw [Int.zero_mul]; omega)
      rw [Int.zero_mul, Int.sub_zero] at w1
      rw [Int.zero_mul, Int.add_zero] at w2
      have e2 := cadd_W (isW_fI (reW l 0) (by omega)) (isW_fI (imW l 0) (by omega)) w1 w2 (by omega) (by omega) (.inl rfl) (.inl rfl)
      rw [← reW_succ, ← imW_succ] at e2
      obtain ⟨U', V', e3, w3, w4⟩ := cmul_W W_u0 W_v0 W_0 W_1 (by rw [Int.mul_zero]; decide) (by rw [Int.mul_one]; omega) (by rw [Int.mul_one]; omega) (by rw [Int.mul_zero]; decide) (by rw [Int.mul_zero, Int.mul_one]; omega) (by rw [Int.mul_zero, Int.mul_one]; omega)
      rw [Int.mul_zero, Int.mul_one, Int.zero_sub, ← unR_succ] at w3
      rw [Int.mul_one, Int.mul_zero, Int.add_zero, ← unI_succ] at w4
      ((try refine sU ?_);repeat(refine sN fun _=>?_;try refine sU ?_))
      refine SxIdx.mk 0 rfl (by omega) ?_
      ((try refine sU ?_);repeat(refine sN fun _=>?_;try refine sU ?_))
      refine SxRun.i2f Tryz.underlying5 Tryz.underlying138 ?_
      ((try refine sU ?_);repeat(refine sN fun _=>?_;try refine sU ?_))
      refine SxRun.cmul e1 ?_
      ((try refine sU ?_);repeat(refine sN fun _=>?_;try refine sU ?_))
      refine SxRun.cadd e2 ?_
      ((try refine sU ?_);repeat(refine sN fun _=>?_;try refine sU ?_))
      refine SxRun.cmul e3 ?_
      ((try refine sU ?_);repeat(refine sN fun _=>?_;try refine sU ?_))
      exact SxJump.mk (0 + 1, U', V') [] rfl rfl rfl rfl ⟨by dsimp only; omega, w3, w4⟩ (by intro b hb; cases hb)
  · rintro ⟨k, U, V⟩ ⟨hk, hU, hV⟩
    dsimp only at hk hU hV ⊢
    refine ⟨_, rfl, rfl, ?_⟩
    have hb0 := wAt_bd l 0 k
    have hb1 := wAt_bd l 1 k
    have hb2 := wAt_bd l 2 k
    have hb3 := wAt_bd l 3 k
    have hre : reW l k = wAt l 0 k - wAt l 2 k := rfl
    have him : imW l k = wAt l 1 k - wAt l 3 k := rfl
    ((try refine sU ?_);repeat(refine sN fun _=>?_;try refine sU ?_))
    refine SxIf.eq (fun h => ?_) (fun h => ?_)
    · ((try refine sU ?_);repeat(refine sN fun _=>?_;try refine sU ?_))
      have hlen : l.length = k := by omega
      refine SxCall.quiet (plain_any (fI (reW l k)) (fI (imW l k)) (reW l k) (imW l k) (isW_fI _ (by omega)) (isW_fI _ (by omega))) ?_
      ((try refine sU ?_);repeat(refine sN fun _=>?_;try refine sU ?_))
      exact SxDone.mk fun w' hs => ⟨by rw [hlen]; rfl, hs.touch.below⟩
    · have hlt : k < l.length := by omega
      have hc := (l.getD k 0).toNat_lt
      have hun := un_bd k
      have hmu := un_mul k ((l.getD k 0).toNat : Int)
      have hcR : (((l.getD k 0).toNat : Int) * unR k).natAbs < 1000 := by rw [hmu.1]; split <;> split <;> omega
      have hcI : (((l.getD k 0).toNat : Int) * unI k).natAbs < 1000 := by rw [hmu.2]; split <;> split <;> omega
      obtain ⟨re, im, e1, w1, w2⟩ := cmul_W (isW_fI ((l.getD k 0).toNat : Int) (by omega)) W_0 hU hV (by omega) (by rw [Int.zero_mul]; decide) (by omega) (by rw [Int.zero_mul]; decide) (by rw [Int.zero_mul]; omega) (by rw [Int.zero_mul]; omega)
      rw [Int.zero_mul, Int.sub_zero] at w1
      rw [Int.zero_mul, Int.add_zero] at w2
      have e2 := cadd_W (isW_fI (reW l k) (by omega)) (isW_fI (imW l k) (by omega)) w1 w2 (by omega) (by omega) (.inl rfl) (.inl rfl)
      rw [← reW_succ, ← imW_succ] at e2
      obtain ⟨U', V', e3, w3, w4⟩ := cmul_W hU hV W_0 W_1 (by rw [Int.mul_zero]; decide) (by rw [Int.mul_one]; omega) (by rw [Int.mul_one]; omega) (by rw [Int.mul_zero]; decide) (by rw [Int.mul_zero, Int.mul_one]; omega) (by rw [Int.mul_zero, Int.mul_one]; omega)
      rw [Int.mul_zero, Int.mul_one, Int.zero_sub, ← unR_succ] at w3
      rw [Int.mul_one, Int.mul_zero, Int.add_zero, ← unI_succ] at w4
      ((try refine sU ?_);repeat(refine sN fun _=>?_;try refine sU ?_))
      refine SxIdx.mk k rfl (by omega) ?_
      ((try refine sU ?_);repeat(refine sN fun _=>?_;try refine sU ?_))
      refine SxRun.i2f Tryz.underlying5 Tryz.underlying138 ?_
      ((try refine sU ?_);repeat(refine sN fun _=>?_;try refine sU ?_))
      refine SxRun.cmul e1 ?_
      ((try refine sU ?_);repeat(refine sN fun _=>?_;try refine sU ?_))
      refine SxRun.cadd e2 ?_
      ((try refine sU ?_);repeat(refine sN fun _=>?_;try refine sU ?_))
      refine SxRun.cmul e3 ?_
      ((try refine sU ?_);repeat(refine sN fun _=>?_;try refine sU ?_))
      exact SxJump.mk (k + 1, U', V') [] rfl rfl rfl rfl ⟨by dsimp only; omega, w3, w4⟩ (by intro b hb; cases hb; show l.length - (k + 1) < l.length - k; omega)
theorem order_most {x : Nat} {n : Int} (hx : IsW x n) : FloatKind.f64.format.order x 4845873199050653696 = some .lt ∧ FloatKind.f64.format.order x 14069245235905429504 = some .gt := by
  have hm : Ieee.double.read 4845873199050653696 = .number false 4503599627370496 1 := by decide +kernel
  have hm' : Ieee.double.read 14069245235905429504 = .number true 4503599627370496 1 := by decide +kernel
  obtain ⟨s, k, hd, h1, h2⟩ := hx.1
  have hb := hx.2.1
  have hbase : min (-(k : Int)) (1 : Int) = -(k : Int) := by omega
  have e1 : Ieee.signed s (n.natAbs * 2 ^ k) (-(k : Int) - -(k : Int)).toNat = n * 2 ^ k := by
    rw [signed_val s n k _ h1 h2]; congr 2; omega
  have hp : (0 : Int) < 2 ^ k := by exact_mod_cast Nat.two_pow_pos k
  have e2 : Ieee.signed false 4503599627370496 (1 - -(k : Int)).toNat = 9007199254740992 * 2 ^ k := by
    unfold Ieee.signed
    rw [show (1 - -(k : Int)).toNat = k + 1 by omega, Nat.shiftLeft_eq, Nat.pow_succ]
    simp only [Bool.false_eq_true, if_false, Int.natCast_mul, Int.natCast_pow]
    have hc : ((2 : Nat) : Int) ^ k = 2 ^ k := rfl
    rw [hc]
    omega
  have e3 : Ieee.signed true 4503599627370496 (1 - -(k : Int)).toNat = -(9007199254740992 * 2 ^ k) := by
    rw [← e2]; rfl
  have l1 : n * 2 ^ k < 9007199254740992 * 2 ^ k := Int.mul_lt_mul_of_pos_right (by omega) hp
  have l2 : -(9007199254740992 * 2 ^ k) < n * 2 ^ k := by rw [← Int.neg_mul]; exact Int.mul_lt_mul_of_pos_right (by omega) hp
  constructor
  · show (Ieee.double.read x).order (Ieee.double.read 4845873199050653696) = _
    rw [hd, hm]
    simp only [Ieee.Datum.order, hbase, e1, e2]
    congr 1
    simp only [compare, compareOfLessAndEq]
    rw [if_pos l1]
  · show (Ieee.double.read x).order (Ieee.double.read 14069245235905429504) = _
    rw [hd, hm']
    simp only [Ieee.Datum.order, hbase, e1, e3]
    congr 1
    simp only [compare, compareOfLessAndEq]
    rw [if_neg (by omega), if_neg (by omega)]
theorem SxRun.fgeqT {P : Program} {A : Value → Prop} {t : Nat} {x y : Operand} {a b : Nat} (h : FloatKind.f64.format.order a b = some .gt) (hA : A (.bool true)) : SxRun P (do eqGuard .geq t x y (.float .f64 a) (.float .f64 b); binOp .geq t (.float .f64 a) (.float .f64 b)) A :=
  ⟨_, fun w => by simp [eqGuard, binOp, Op.floatCmp, h], hA⟩
theorem SxRun.fleqT {P : Program} {A : Value → Prop} {t : Nat} {x y : Operand} {a b : Nat} (h : FloatKind.f64.format.order a b = some .lt) (hA : A (.bool true)) : SxRun P (do eqGuard .leq t x y (.float .f64 a) (.float .f64 b); binOp .leq t (.float .f64 a) (.float .f64 b)) A :=
  ⟨_, fun w => by simp [eqGuard, binOp, Op.floatCmp, h], hA⟩
theorem whole_any (a : Nat) (n : Int) (ha : IsW a n) (w : World) :
    Calls Tryz.prog 104 #[.float .f64 a] w fun e w' => e = .returned (.bool true) ∧ Below w.heap.size w w' := by
  obtain ⟨h1, h2⟩ := order_most ha
  refine sx_fn (S := SX) (M := []) (N := 16) (H0 := []) Tryz.func104 rfl rfl rfl (Sat.nil _ _) ?_
  ((try refine sU ?_);repeat(refine sN fun _=>?_;try refine sU ?_))
  refine SxRun.fgeqT h2 ?_
  ((try refine sU ?_);repeat(refine sN fun _=>?_;try refine sU ?_))
  refine SxRun.fleqT h1 ?_
  ((try refine sU ?_);repeat(refine sN fun _=>?_;try refine sU ?_))
  refine SxRun.f2i ha Tryz.underlying138 Tryz.underlying3 ?_
  ((try refine sU ?_);repeat(refine sN fun _=>?_;try refine sU ?_))
  refine SxRun.i2f Tryz.underlying3 Tryz.underlying138 ?_
  ((try refine sU ?_);repeat(refine sN fun _=>?_;try refine sU ?_))
  refine SxRun.feql (isW_fI n ha.2.1) ha ?_
  ((try refine sU ?_);repeat(refine sN fun _=>?_;try refine sU ?_))
  exact SxDone.mk fun w' hs => ⟨by rw [decide_eq_true rfl]; rfl, hs.touch.below⟩
theorem may_any (a b : Nat) (m n : Int) (ha : IsW a m) (hb : IsW b n) (w : World) :
    Calls Tryz.prog 73 #[.complex .f64 a b] w fun e w' => e = .returned (.bool true) ∧ Below w.heap.size w w' := by
  refine sx_fn (S := SX) (M := []) (N := 11) (H0 := []) Tryz.func73 rfl rfl rfl (Sat.nil _ _) ?_
  ((try refine sU ?_);repeat(refine sN fun _=>?_;try refine sU ?_))
  refine SxCall.quiet (whole_any a m ha) ?_
  ((try refine sU ?_);repeat(refine sN fun _=>?_;try refine sU ?_))
  refine SxCall.quiet (whole_any b n hb) ?_
  ((try refine sU ?_);repeat(refine sN fun _=>?_;try refine sU ?_))
  exact SxDone.mk fun w' hs => ⟨rfl, hs.touch.below⟩
theorem Parts_any (a b : Nat) (m n : Int) (ha : IsW a m) (hb : IsW b n) (w : World) :
    Calls Tryz.prog 44 #[.complex .f64 a b] w fun e w' => e = .returned (.tuple #[.int .i64 m, .int .i64 n, .int .i64 0]) ∧ Below w.heap.size w w' := by
  refine sx_fn (S := SX) (M := []) (N := 14) (H0 := []) Tryz.func44 rfl rfl rfl (Sat.nil _ _) ?_
  ((try refine sU ?_);repeat(refine sN fun _=>?_;try refine sU ?_))
  refine SxCall.quiet (may_any a b m n ha hb) ?_
  ((try refine sU ?_);repeat(refine sN fun _=>?_;try refine sU ?_))
  refine SxRun.f2i ha Tryz.underlying138 Tryz.underlying3 ?_
  ((try refine sU ?_);repeat(refine sN fun _=>?_;try refine sU ?_))
  refine SxRun.f2i hb Tryz.underlying138 Tryz.underlying3 ?_
  ((try refine sU ?_);repeat(refine sN fun _=>?_;try refine sU ?_))
  exact SxDone.mk fun w' hs => ⟨rfl, hs.touch.below⟩
end Go.Proofs.YtlmefcepdadfjaaGreat
