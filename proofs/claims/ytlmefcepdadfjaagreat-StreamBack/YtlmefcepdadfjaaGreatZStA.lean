/- Texts of this claim, one behind the other. -/
import Derived.Test.YtlmefcepdadfjaaGreatZHkD
import Derived.Test.YtlmefcepdadfjaaGreatProg
import Derived.Test.YtlmefcepdadfjaaGreatZOwnD
import Derived.Deep.RegionWith
import Derived.RegionTactic
import Derived.ChangeAlike
import Derived.Deep.QuietTactic
import Derived.BigQuiet
import Derived.Test.YtlmefcepdadfjaaGreatZDrawC
import Derived.Test.YtlmefcepdadfjaaGreatZGen
/- The walks of layer 7: the document's Zeros; Is. -/
namespace Go.Proofs.YtlmefcepdadfjaaGreat
open Go.RowKit

def clampN (n : Int) : Int := if 256 < (if n < 0 then 0 else n) then 256 else (if n < 0 then 0 else n)
def hooksV (g : Nat) : Value := .func (.func 121) #[] #[.pointer (some ⟨g, 0, none⟩)]
theorem hooks_sat {W : World} {M : List Nat} {H : Hp} {w : World} (hs : Sat W M H w) (n : Int) : Calls Tryz.prog 96 #[.int .i64 n] w fun e w' => ∃ g, e = .returned (hooksV g) ∧ Sat W M (.blk g 3 [.int .i64 (clampN n)] :: H) w' := by
  refine sx_fn (S := SX) (N := 8) Tryz.func96 rfl rfl rfl hs ?_
  ((try refine sU ?_);repeat(refine sN fun _=>?_;try refine sU ?_))
  exact SxDone.mk fun w' hs => ⟨_, rfl, hs⟩
def isF (f : List UInt8) (n : Int) : Bool := decide (((zr f : Nat) : Int) ≥ clampN n)
theorem hooks1_any (f : List UInt8) (hf : f.length = 32) (g : Nat) (m : Int) (w : World) (hb : Blk w g 3 [.int .i64 m]) : Calls Tryz.prog 121 #[fpV f, .pointer (some ⟨g, 0, none⟩)] w fun e w' => e = .returned (.bool (decide (((zr f : Nat) : Int) ≥ m))) ∧ Below w.heap.size w w' := by
  refine sx_fn (S := SX) (M := []) (N := 8) (H0 := [.rd (some ⟨g, 0, none⟩) [.int .i64 m]]) Tryz.func121 rfl rfl rfl (Sat.oneRd _ (Rd_blk hb (by simp [maxLen]))) ?_
  ((try refine sU ?_);repeat(refine sN fun _=>?_;try refine sU ?_))
  refine SxCode.drawAll rfl [] ?_
  ((try refine sU ?_);repeat(refine sN fun _=>?_;try refine sU ?_))
  refine SxLdN.blk 0 rfl (vs := fpC f) (by rw [fpC_len, hf]) (fp_vs hf) ?_
  ((try refine sU ?_);repeat(refine sN fun _=>?_;try refine sU ?_))
  refine SxLd.rd 1 rfl rfl (j := 0) rfl rfl ?_
  ((try refine sU ?_);repeat(refine sN fun _=>?_;try refine sU ?_))
  refine SxCall.quiet (Zeros_any f hf) ?_
  ((try refine sU ?_);repeat(refine sN fun _=>?_;try refine sU ?_))
  exact SxDone.mk fun w' hs => ⟨rfl, hs.touch.below⟩
end Go.Proofs.YtlmefcepdadfjaaGreat
/- The walks over package roll: top, add, drop, Sum, Slide; and the document's Sum, Slide. -/
namespace Go.Proofs.YtlmefcepdadfjaaGreat
open Go.RowKit
set_option maxRecDepth 20000

def addN (h b : Nat) : Nat := (h * 257 + b + 1) % 2147483647
def dropN (h o : Nat) : Nat := (h + 2147483647 - (o + 1) * 1079017218 % 2147483647) % 2147483647
theorem addN_lt (h b : Nat) : addN h b < 2147483647 := Nat.mod_lt _ (by omega)
theorem dropN_lt (h b : Nat) : dropN h b < 2147483647 := Nat.mod_lt _ (by omega)
def powP (k : Nat) : Nat := 257 ^ k % 2147483647
theorem powP_succ (k : Nat) : powP (k + 1) = powP k * 257 % 2147483647 := by
  unfold powP; rw [Nat.pow_succ, Nat.mod_mul_mod]
theorem powP_lt (k : Nat) : powP k < 2147483647 := Nat.mod_lt _ (by omega)
theorem powP_top : powP 15 = 1079017218 := by decide
set_option maxHeartbeats 400000 in
theorem top_any (w : World) : Calls Tryz.prog 145 #[] w fun e w' => e = .returned (.int .u64 1079017218) ∧ w = w' := by
  go_enter Tryz.func145, Tryz.ntmps145
  go_wp2
  go_loop [1, 2] (fun p i => ∃ k : Nat, k ≤ 15 ∧ i = .int .i64 k ∧ p = .int .u64 (powP k : Nat)) (fun _ i => 15 - (intOf i).toNat)
  case atStart => exact ⟨0, by omega, rfl, rfl⟩
  case round =>
    obtain ⟨k, hk, rfl, rfl⟩ := hrel
    by_cases hlt : k < 15
    · have hp := powP_lt k
      have HS := Go.Lib.hid (powP_succ k)
      generalize powP k = p at hp HS
      go_wp2
      go_round
      case rel => exact ⟨k + 1, by omega, by go_num, by rw [HS.out]; go_num⟩
      case measure => simp [intOf]; omega
    · obtain rfl : k = 15 := by omega
      go_wp2
      go_ret
      exact ⟨ret_int (by rw [powP_top]; rfl), rfl⟩
set_option maxHeartbeats 400000 in
theorem add_any (h b : Nat) (hh : h < 4294967296) (hb : b < 256) (w : World) :
    Calls Tryz.prog 136 #[.int .u64 h, .int .u8 b] w fun e w' => e = .returned (.int .u64 (addN h b : Nat)) ∧ w = w' := by
  have hv : ((addN h b : Nat) : Int) = ((h : Int) * 257 + b + 1) % 2147483647 := by unfold addN; omega
  have HV := Go.Lib.hid hv; clear hv
  go_enter Tryz.func136, Tryz.ntmps136
  go_wp2
  go_ret
  exact ⟨ret_int HV.out.symm, rfl⟩
set_option maxHeartbeats 400000 in
theorem drop_any (h o : Nat) (hh : h < 4294967296) (ho : o < 256) (w : World) :
    Calls Tryz.prog 135 #[.int .u64 h, .int .u8 o] w fun e w' => e = .returned (.int .u64 (dropN h o : Nat)) ∧ w = w' := by
  have hv : ((dropN h o : Nat) : Int) = ((h : Int) + 2147483647 - ((o : Int) + 1) * 1079017218 % 2147483647) % 2147483647 := by unfold dropN; omega
  have HV := Go.Lib.hid hv; clear hv
  go_enter Tryz.func135, Tryz.ntmps135
  go_wp2_with (go_at_call 145; refine (top_any _).mono ?_; rintro e w' ⟨rfl, rfl⟩)
  go_ret
  exact ⟨ret_int HV.out.symm, rfl⟩

def hashL (l : List UInt8) : Nat := l.foldl (fun h b => addN h b.toNat) 0
def lastL (l : List UInt8) : List UInt8 := l.drop (l.length - 16)
def rollL (l : List UInt8) : Nat := hashL (lastL l)
theorem hashL_snoc (l : List UInt8) (b : UInt8) : hashL (l ++ [b]) = addN (hashL l) b.toNat := by simp [hashL]
theorem hashL_lt (l : List UInt8) : hashL l < 2147483647 := by
  rcases List.eq_nil_or_concat l with h | ⟨l', b, h⟩
  · subst h; simp [hashL]
  · rw [h, List.concat_eq_append, hashL_snoc]; exact addN_lt _ _
theorem rollL_lt (l : List UInt8) : rollL l < 2147483647 := hashL_lt _
end Go.Proofs.YtlmefcepdadfjaaGreat
/- The walks over package roll: Slide, and the roll that keeps its bytes: New, Push, Reset, Sum, Len. -/
namespace Go.Proofs.YtlmefcepdadfjaaGreat
open Go.RowKit
set_option maxRecDepth 20000

def ringAt (l : List UInt8) (j : Nat) : UInt8 := if j < l.length then l.getD (l.length - 1 - (l.length - 1 - j) % 16) 0 else 0
def rollAt (l : List UInt8) (j : Nat) : Value := if j < 16 then .int .u8 ((ringAt l j).toNat : Int) else if j = 16 then .int .i64 (l.length : Nat) else .int .u64 (rollL l : Nat)
theorem Only.setCell' {g : Nat} {w w' : World} (h : Only g w w') (j : Nat) (u : Value) : Only g w (w'.setCell ⟨g, j, none⟩ u) := h.trans (Only.setCell j u)
theorem Only.drewCt' {g : Nat} {w w' : World} (h : Only g w w') : Only g w w'.drew := ⟨h.os, h.tape, h.output, h.size, h.block⟩
theorem ring_snoc (l : List UInt8) (b : UInt8) (j : Nat) (hj : j < 16) : ringAt (l ++ [b]) j = if j = l.length % 16 then b else ringAt l j := by
  unfold ringAt
  simp only [List.length_append, List.length_singleton]
  by_cases h : j = l.length % 16
  · rw [if_pos h, if_pos (by omega)]
    have : l.length + 1 - 1 - (l.length + 1 - 1 - j) % 16 = l.length := by omega
    rw [this]
    simp [List.getD]
  · rw [if_neg h]
    by_cases hl : j < l.length
    · rw [if_pos (by omega), if_pos hl]
      have : l.length + 1 - 1 - (l.length + 1 - 1 - j) % 16 = l.length - 1 - (l.length - 1 - j) % 16 := by omega
      rw [this, List.getD, List.getD, List.getElem?_append_left (by omega)]
    · rw [if_neg (by omega), if_neg hl]
theorem ring_old (l : List UInt8) (h : 16 ≤ l.length) : ringAt l (l.length % 16) = l.getD (l.length - 16) 0 := by
  unfold ringAt
  rw [if_pos (by omega)]
  congr 1
  omega
theorem mod_in (A Y P M : Nat) : (A + Y % M * P) % M = (A + Y * P) % M := by
  rw [Nat.add_mod, Nat.mod_mul_mod, ← Nat.add_mod]
theorem hash_from (r : List UInt8) : ∀ h0, h0 < 2147483647 → r.foldl (fun h b => addN h b.toNat) h0 = (h0 * 257 ^ r.length + hashL r) % 2147483647 := by
  induction r with
  | nil => intro h0 hh; simp [hashL]; omega
  | cons b r ih =>
    intro h0 hh
    show r.foldl _ (addN h0 b.toNat) = _
    have h1 : hashL (b :: r) = r.foldl (fun h b => addN h b.toNat) (addN 0 b.toNat) := rfl
    rw [ih _ (addN_lt _ _), h1, ih _ (addN_lt _ _)]
    unfold addN
    generalize hashL r = H
    generalize hP : 257 ^ r.length = P
    have hP2 : 257 ^ (b :: r).length = 257 * P := by rw [List.length_cons, Nat.pow_succ, hP, Nat.mul_comm]
    rw [hP2, Nat.add_comm _ H, mod_in, Nat.add_mod_mod, ← Nat.add_assoc (h0 * _), Nat.add_right_comm _ _ H, Nat.add_comm _ H, mod_in]
    congr 1
    rw [Nat.zero_mul, Nat.zero_add, Nat.add_mul, Nat.add_mul, Nat.add_mul, Nat.mul_assoc]
    omega
theorem drop_hash (o : UInt8) (r : List UInt8) (hr : r.length = 15) : dropN (hashL (o :: r)) o.toNat = hashL r := by
  have h1 : hashL (o :: r) = r.foldl (fun h b => addN h b.toNat) (addN 0 o.toNat) := rfl
  have ho : addN 0 o.toNat = o.toNat + 1 := by have := o.toNat_lt; unfold addN; omega
  have hlt := hashL_lt r
  have hon := o.toNat_lt
  rw [h1, hash_from _ _ (addN_lt _ _), ho, hr]
  generalize hashL r = H at hlt
  unfold dropN
  have e : (o.toNat + 1) * 1079017218 % 2147483647 = (o.toNat + 1) * 257 ^ 15 % 2147483647 := by
    rw [← powP_top]; unfold powP
    rw [Nat.mul_mod, Nat.mod_mod, ← Nat.mul_mod]
  rw [e]
  generalize (o.toNat + 1) * 257 ^ 15 = X
  omega
theorem lastL_snoc (l : List UInt8) (b : UInt8) : lastL (l ++ [b]) = (if 16 ≤ l.length then (lastL l).drop 1 else lastL l) ++ [b] := by
  unfold lastL
  simp only [List.length_append, List.length_singleton]
  by_cases h : 16 ≤ l.length
  · rw [if_pos h, List.drop_append_of_le_length (by omega), List.drop_drop]
    congr 2
    omega
  · rw [if_neg h, List.drop_append_of_le_length (by omega)]
    congr 2
    omega
theorem lastL_cons (l : List UInt8) (h : 16 ≤ l.length) : lastL l = l.getD (l.length - 16) 0 :: (lastL l).drop 1 := by
  unfold lastL
  rw [List.drop_drop, List.drop_eq_getElem_cons (by omega)]
  simp [List.getD, show l.length - 16 < l.length by omega]
theorem roll_snoc (l : List UInt8) (b : UInt8) : rollL (l ++ [b]) = addN (if 16 ≤ l.length then dropN (rollL l) (l.getD (l.length - 16) 0).toNat else rollL l) b.toNat := by
  unfold rollL
  rw [lastL_snoc, hashL_snoc]
  by_cases h : 16 ≤ l.length
  · rw [if_pos h, if_pos h]
    congr 1
    have h15 : ((lastL l).drop 1).length = 15 := by simp [lastL]; omega
    have := drop_hash (l.getD (l.length - 16) 0) ((lastL l).drop 1) h15
    rw [← lastL_cons l h] at this
    exact this.symm
  · rw [if_neg h, if_neg h]
set_option maxHeartbeats 400000 in
theorem New_anyCt (w : World) :
    Calls Tryz.prog 114 #[] w fun e w' => e = .returned (.pointer (some ⟨w.heap.size, 0, none⟩)) ∧ Blk w' w.heap.size 204 (tab 18 (rollAt [])) ∧ Below w.heap.size w w' := by
  go_enter Tryz.func114, Tryz.ntmps114
  go_wp2
  go_ret
  exact ⟨rfl, (Blk.new w _ _).congr rfl, (Below.refl _ _).alloc (Nat.le_refl _) _⟩
set_option maxHeartbeats 1000000 in
theorem Push_any (g : Nat) (l : List UInt8) (hl : l.length ≤ 1000000) (b : UInt8) (w : World) (hb : Blk w g 204 (tab 18 (rollAt l))) :
    Calls Tryz.prog 115 #[.pointer (some ⟨g, 0, none⟩), .int .u8 b.toNat] w fun e w' => e = .returned (.int .u32 (rollL (l ++ [b]) : Nat)) ∧ Blk w' g 204 (tab 18 (rollAt (l ++ [b]))) ∧ Only g w w' := by
  obtain ⟨n, hn⟩ : ∃ n, l.length = n := ⟨_, rfl⟩
  have hnb : n ≤ 1000000 := by omega
  have hh := rollL_lt l
  have hh' : rollL l < 4294967296 := by omega
  have hbb : b.toNat < 256 := b.toNat_lt
  have hs := roll_snoc l b
  have hr := rollL_lt (l ++ [b])
  have hr' : rollL (l ++ [b]) < 4294967296 := by omega
  have c16 : w.cell? ⟨g, 16, none⟩ = some (.int .i64 n) := by rw [hb.at 16 (by omega), ← hn]; rfl
  have c17 : w.cell? ⟨g, 17, none⟩ = some (.int .u64 (rollL l : Nat)) := hb.at 17 (by omega)
  have f16 := hb.freeAt 16 (by omega)
  have f17 := hb.freeAt 17 (by omega)
  obtain ⟨a, ha⟩ : ∃ a, n % 16 = a := ⟨_, rfl⟩
  have ha16 : a < 16 := by omega
  have hai : (n : Int) % 16 = a := by omega
  have ca : w.cell? ⟨g, a, none⟩ = some (.int .u8 ((ringAt l a).toNat : Int)) := by rw [hb.at a (by omega)]; unfold rollAt; rw [if_pos ha16]
  have fa := hb.freeAt a (by omega)
  have hre : (ringAt l a).toNat < 256 := (ringAt l a).toNat_lt
  have hfin : ∀ v1 : Value, ((((tab 18 (rollAt l)).set 17 v1).set 17 (.int .u64 (rollL (l ++ [b]) : Nat))).set a (.int .u8 (b.toNat : Int))).set 16 (.int .i64 (n + 1 : Nat)) = tab 18 (rollAt (l ++ [b])) := by
    intro v1
    rw [tab_set, tab_set, tab_set, tab_set]
    refine tab_congr fun j hj => ?_
    unfold rollAt
    by_cases h16 : j = 16
    · subst h16; simp [hn]
    · by_cases h17 : j = 17
      · subst h17; simp [show ¬ 17 = a by omega]
      · have hj16 : j < 16 := by omega
        rw [if_neg h16, if_pos hj16, if_pos hj16, ring_snoc l b j hj16, hn, ha]
        by_cases hja : j = a
        · rw [if_pos hja, if_pos hja]
        · rw [if_neg hja, if_neg hja, if_neg h17, if_neg h17]
  have HFIN := Go.Lib.hid hfin; clear hfin
  have HS := Go.Lib.hid hs; clear hs
  generalize hR : rollL (l ++ [b]) = R at hr hr' HS HFIN ⊢
  have HR := Go.Lib.hid hR; clear hR hr
  by_cases h16 : 16 ≤ n
  · have hro : ringAt l a = l.getD (l.length - 16) 0 := by rw [← ha, ← hn]; exact ring_old l (by omega)
    have hs2 : R = addN (dropN (rollL l) (ringAt l a).toNat) b.toNat := by rw [HS.out, if_pos (by omega), hro]
    have HS2 := Go.Lib.hid hs2
    have hd := dropN_lt (rollL l) (ringAt l a).toNat
    have hd' : dropN (rollL l) (ringAt l a).toNat < 4294967296 := by omega
    have HN := Go.Lib.hid hn; have HA := Go.Lib.hid ha
    clear hn ha hro hs2 hd hh hl
    have hne : (16 : Nat) ≠ a := by omega
    go_enter Tryz.func115, Tryz.ntmps115
    go_wp2_with fail
    go_region_with (go_at_call 135; refine (drop_any (rollL l) (ringAt l a).toNat hh' hre _).mono ?_; rintro e w1 ⟨rfl, rfl⟩)
    all_goals
      go_wp2_with (go_at_call 136; refine (add_any _ b.toNat hd' hbb _).mono ?_; rw [← HS2.out]; rintro e w1 ⟨rfl, rfl⟩)
      go_ret
      refine ⟨rfl, ?_, ?_⟩
      · exact ((((hb.set 17 _).set 17 _).set a _).set 16 _).congr (HFIN.out _)
      · exact ((((Only.refl.setCell' 17 _).setCell' 17 _).setCell' a _).setCell' 16 _).drewCt'
  · have hs2 : R = addN (rollL l) b.toNat := by rw [HS.out, if_neg (by omega)]
    have HS2 := Go.Lib.hid hs2
    have HN := Go.Lib.hid hn; have HA := Go.Lib.hid ha
    clear hn ha hs2 hh hl
    have hne : (16 : Nat) ≠ a := by omega
    go_enter Tryz.func115, Tryz.ntmps115
    go_wp2_with (go_at_call 136; refine (add_any _ b.toNat hh' hbb _).mono ?_; rw [← HS2.out]; rintro e w1 ⟨rfl, rfl⟩)
    go_ret
    refine ⟨rfl, ?_, ?_⟩
    · refine (((hb.set 17 _).set a _).set 16 _).congr ?_
      have := HFIN.out (.int .u64 0)
      rw [List.set_set] at this
      exact this
    · exact (((Only.refl.setCell' 17 _).setCell' a _).setCell' 16 _)

end Go.Proofs.YtlmefcepdadfjaaGreat
/- The walks: May of cut and of the document; New. -/
namespace Go.Proofs.YtlmefcepdadfjaaGreat
open Go.RowKit
set_option maxRecDepth 20000

def confV (c : Nat → Int) (i : Nat) : Value := .int .i64 (c i)
def confA (c : Nat → Int) : Value := .agg (tab 13 (confV c)).toArray
def mayC (c : Nat → Int) : Bool := decide (1 ≤ c 0 ∧ c 0 ≤ c 1 ∧ c 1 ≤ 4096 ∧ 1 ≤ c 2 ∧ c 2 ≤ 1048576 ∧ 1 ≤ c 3 ∧ c 3 ≤ 1048576)
theorem mayC_iff (c : Nat → Int) : mayC c = true ↔ (1 ≤ c 0 ∧ c 0 ≤ c 1 ∧ c 1 ≤ 4096 ∧ 1 ≤ c 2 ∧ c 2 ≤ 1048576 ∧ 1 ≤ c 3 ∧ c 3 ≤ 1048576) := by unfold mayC; rw [decide_eq_true_iff]
def divC (n : Int) : Bool := decide (1 ≤ n ∧ n ≤ 1048576)
set_option maxHeartbeats 400000 in
theorem div_any (n : Int) (w : World) : Calls Tryz.prog 78 #[.int .i64 n] w fun e w' => e = .returned (.bool (divC n)) ∧ w = w' := by
  by_cases h1 : 1 ≤ n
  · by_cases h2 : n ≤ 1048576
    · have hv : true = divC n := by unfold divC; rw [decide_eq_true ⟨h1, h2⟩]
      have HV := Go.Lib.hid hv; clear hv
      go_enter Tryz.func78, Tryz.ntmps78
      go_wp2
      go_ret
      exact ⟨ret_bool HV.out, rfl⟩
    · have hv : false = divC n := by unfold divC; rw [decide_eq_false (fun h => h2 h.2)]
      have HV := Go.Lib.hid hv; clear hv
      go_enter Tryz.func78, Tryz.ntmps78
      go_wp2
      go_ret
      exact ⟨ret_bool HV.out, rfl⟩
  · have hv : false = divC n := by unfold divC; rw [decide_eq_false (fun h => h1 h.1)]
    have HV := Go.Lib.hid hv; clear hv
    go_enter Tryz.func78, Tryz.ntmps78
    go_wp2
    go_ret
    exact ⟨ret_bool HV.out, rfl⟩
set_option maxHeartbeats 1000000 in
theorem May_any (c : Nat → Int) (w : World) :
    Calls Tryz.prog 51 #[confA c] w fun e w' => e = .returned (.bool (mayC c)) ∧ Below w.heap.size w w' := by
  have hv : mayC c = (decide (1 ≤ c 0) && decide (c 0 ≤ c 1) && decide (c 1 ≤ 4096) && divC (c 2) && divC (c 3)) := by
    unfold mayC divC
    simp only [Bool.decide_and]
    cases decide (1 ≤ c 0) <;> cases decide (c 0 ≤ c 1) <;> cases decide (c 1 ≤ 4096) <;> cases decide (1 ≤ c 2) <;> cases decide (c 2 ≤ 1048576) <;> cases decide (1 ≤ c 3) <;> cases decide (c 3 ≤ 1048576) <;> rfl
  have HV := Go.Lib.hid hv; clear hv
  unfold confA
  go_enter Tryz.func51, Tryz.ntmps51
  go_wp2_with (with_reducible refine wpList_box_tab (o := ⟨some 1, _, _, _, _, _⟩) rfl 23 _ rfl 13 (confV c) rfl ?_)
  intro w1 hb1 hbel1 hsz1
  have c0 : w1.cell? ⟨w.heap.size, 0, none⟩ = some (.int .i64 (c 0)) := hb1.at 0 (by omega)
  have c1 : w1.cell? ⟨w.heap.size, 1, none⟩ = some (.int .i64 (c 1)) := hb1.at 1 (by omega)
  have c2 : w1.cell? ⟨w.heap.size, 2, none⟩ = some (.int .i64 (c 2)) := hb1.at 2 (by omega)
  have c3 : w1.cell? ⟨w.heap.size, 3, none⟩ = some (.int .i64 (c 3)) := hb1.at 3 (by omega)
  go_wp2_with (go_at_call 78; refine (div_any _ _).mono ?_; rintro e w2 ⟨rfl, rfl⟩)
  all_goals
    go_ret
    refine ⟨ret_bool ?_, hbel1⟩
    rw [HV.out]
    first
      | (have h : ¬ divC (c 2) = true := by assumption
         simp [h])
      | (have h : ¬ (1 ≤ c 0) := by omega
         simp [h])
      | (have h : ¬ (c 0 ≤ c 1) := by omega
         simp [h])
      | (have h : ¬ (c 1 ≤ 4096) := by omega
         simp [h])
      | (have h : divC (c 2) = true := by assumption
         have h1 : 1 ≤ c 0 := by omega
         have h2 : c 0 ≤ c 1 := by omega
         have h3 : c 1 ≤ 4096 := by omega
         simp [h, h1, h2, h3])
end Go.Proofs.YtlmefcepdadfjaaGreat
/- Layers 8 and 23: what settings may be; the first segment. -/
namespace Go.Proofs.YtlmefcepdadfjaaGreat
open Go.RowKit

def segC (c : Nat → Int) : Bool := decide (1 ≤ c 4 ∧ c 4 ≤ c 5 ∧ c 5 ≤ 256 ∧ 1 ≤ c 6 ∧ c 6 ≤ 1048576)
def inC (n lo hi : Int) : Bool := decide (lo ≤ n ∧ n ≤ hi)
theorem In_any (n lo hi : Int) (w : World) : Calls Tryz.prog 50 #[.int .i64 n, .int .i64 lo, .int .i64 hi] w fun e w' => e = .returned (.bool (inC n lo hi)) ∧ Below w.heap.size w w' := by
  by_cases h1 : lo ≤ n
  all_goals
    refine sx_fn (S := SX) (M := []) (N := 15) (H0 := []) Tryz.func50 rfl rfl rfl (Sat.nil _ _) ?_
    ((try refine sU ?_);repeat(refine sN fun _=>?_;try refine sU ?_))
    refine SxDone.mk fun w' hs => ⟨?_, hs.touch.below⟩
    simp [inC, h1, resV]
theorem RIn_any (n lo hi : Int) (w : World) : Calls Tryz.prog 32 #[.int .i64 n, .int .i64 lo, .int .i64 hi] w fun e w' => e = .returned (.bool (inC n lo hi)) ∧ Below w.heap.size w w' := by
  by_cases h1 : lo ≤ n
  all_goals
    refine sx_fn (S := SX) (M := []) (N := 15) (H0 := []) Tryz.func32 rfl rfl rfl (Sat.nil _ _) ?_
    ((try refine sU ?_);repeat(refine sN fun _=>?_;try refine sU ?_))
    refine SxDone.mk fun w' hs => ⟨?_, hs.touch.below⟩
    simp [inC, h1, resV]
theorem SMay_any (c : Nat → Int) (w : World) : Calls Tryz.prog 52 #[confA c] w fun e w' => e = .returned (.bool (segC c)) ∧ Below w.heap.size w w' := by
  refine sx_fn (S := SX) (M := []) (N := 28) (H0 := []) Tryz.func52 rfl rfl rfl (Sat.nil _ _) ?_
  ((try refine sU ?_);repeat(refine sN fun _=>?_;try refine sU ?_))
  repeat' (refine SxIf.dec (fun h => ?_) (fun h => ?_) <;> ((try refine sU ?_);repeat(refine sN fun _=>?_;try refine sU ?_)))
  all_goals
    refine SxDone.mk fun w' hs => ⟨?_, hs.touch.below⟩
    show Ending.returned (.bool _) = .returned (.bool _)
    congr 2
    unfold segC
    simp only [ge_iff_le] at *
    first
      | (rw [decide_eq_decide]; omega)
      | (symm; rw [decide_eq_true_iff]; omega)
      | (symm; rw [decide_eq_false_iff_not]; omega)
def endC (c : Nat → Int) (i : Nat) (f : List UInt8) : Bool := decide ((i : Int) + 1 = c 5 ∨ (c 4 ≤ (i : Int) + 1 ∧ ((beV (f.take 4) : Nat) : Int) % c 6 = 0))
def enderV (g : Nat) : Value := .func (.func 119) #[] #[.pointer (some ⟨g, 0, none⟩)]
theorem ender_sat {W : World} {M : List Nat} {H : Hp} {w : World} (hs : Sat W M H w) (c : Nat → Int) : Calls Tryz.prog 95 #[confA c] w fun e w' => ∃ g, e = .returned (enderV g) ∧ Sat W M (.blk g 23 (tab 13 (confV c)) :: H) w' := by
  refine sx_fn (S := SX) (N := 4) Tryz.func95 rfl rfl rfl hs ?_
  ((try refine sU ?_);repeat(refine sN fun _=>?_;try refine sU ?_))
  exact SxDone.mk fun w' hs => ⟨_, rfl, hs⟩
theorem ender1_any (c : Nat → Int) (hc : segC c = true) (i : Nat) (hi : i < 1000000000) (f : List UInt8) (hf : f.length = 32) (g : Nat) (w : World) (hb : Blk w g 23 (tab 13 (confV c))) : Calls Tryz.prog 119 #[.int .i64 i, fpV f, .pointer (some ⟨g, 0, none⟩)] w fun e w' => e = .returned (.bool (endC c i f)) ∧ Below w.heap.size w w' := by
  have hc' : 1 ≤ c 4 ∧ c 4 ≤ c 5 ∧ c 5 ≤ 256 ∧ 1 ≤ c 6 ∧ c 6 ≤ 1048576 := by unfold segC at hc; exact of_decide_eq_true hc
  have hbs : ((beV (f.take 4) : Nat) : Int) < 4294967296 := by
    have := beV_lt 4 f
    omega
  have hv : ∀ b : Bool, (b = true ↔ ((i : Int) + 1 = c 5 ∨ (c 4 ≤ (i : Int) + 1 ∧ ((beV (f.take 4) : Nat) : Int) % c 6 = 0))) → b = endC c i f := by
    intro b h; unfold endC; rw [Bool.eq_iff_iff, h, decide_eq_true_iff]
  refine sx_fn (S := SX) (M := []) (N := 27) (H0 := [.rd (some ⟨g, 0, none⟩) (tab 13 (confV c))]) Tryz.func119 rfl rfl rfl (Sat.oneRd _ (Rd_blk hb (by simp [tab, maxLen]))) ?_
  by_cases h1 : (i : Int) + 1 = c 5
  · ((try refine sU ?_);repeat(refine sN fun _=>?_;try refine sU ?_))
    refine SxCode.drawAll rfl [] ?_
    ((try refine sU ?_);repeat(refine sN fun _=>?_;try refine sU ?_))
    refine SxLd.rd 1 rfl rfl (j := 5) (v := .int .i64 (c 5)) rfl rfl ?_
    ((try refine sU ?_);repeat(refine sN fun _=>?_;try refine sU ?_))
    refine SxDone.mk fun w' hs => ⟨?_, hs.touch.below⟩
    rw [← hv true (by simp [h1])]
    rfl
  · by_cases h2 : c 4 ≤ (i : Int) + 1
    · ((try refine sU ?_);repeat(refine sN fun _=>?_;try refine sU ?_))
      refine SxCode.drawAll rfl [] ?_
      ((try refine sU ?_);repeat(refine sN fun _=>?_;try refine sU ?_))
      refine SxLd.rd 1 rfl rfl (j := 5) (v := .int .i64 (c 5)) rfl rfl ?_
      ((try refine sU ?_);repeat(refine sN fun _=>?_;try refine sU ?_))
      refine SxLd.rd 1 rfl rfl (j := 4) (v := .int .i64 (c 4)) rfl rfl ?_
      ((try refine sU ?_);repeat(refine sN fun _=>?_;try refine sU ?_))
      refine SxLdN.blk 0 rfl (vs := fpC f) (by rw [fpC_len, hf]) (fp_vs hf) ?_
      ((try refine sU ?_);repeat(refine sN fun _=>?_;try refine sU ?_))
      refine SxLd.rd 1 rfl rfl (j := 6) (v := .int .i64 (c 6)) rfl rfl ?_
      ((try refine sU ?_);repeat(refine sN fun _=>?_;try refine sU ?_))
      refine SxRng.u32 (by omega) (by omega) ?_
      ((try refine sU ?_);repeat(refine sN fun _=>?_;try refine sU ?_))
      refine SxCall.quiet (Num_any f hf) ?_
      ((try refine sU ?_);repeat(refine sN fun _=>?_;try refine sU ?_))
      refine SxDone.mk fun w' hs => ⟨?_, hs.touch.below⟩
      rw [← hv (((beV (f.take 4) : Nat) : Int) % c 6 == 0) (by simp [h1, h2])]
      rfl
    · ((try refine sU ?_);repeat(refine sN fun _=>?_;try refine sU ?_))
      refine SxCode.drawAll rfl [] ?_
      ((try refine sU ?_);repeat(refine sN fun _=>?_;try refine sU ?_))
      refine SxLd.rd 1 rfl rfl (j := 5) (v := .int .i64 (c 5)) rfl rfl ?_
      ((try refine sU ?_);repeat(refine sN fun _=>?_;try refine sU ?_))
      refine SxLd.rd 1 rfl rfl (j := 4) (v := .int .i64 (c 4)) rfl rfl ?_
      ((try refine sU ?_);repeat(refine sN fun _=>?_;try refine sU ?_))
      refine SxDone.mk fun w' hs => ⟨?_, hs.touch.below⟩
      rw [← hv false (by simp [h1, h2])]
      rfl
end Go.Proofs.YtlmefcepdadfjaaGreat
