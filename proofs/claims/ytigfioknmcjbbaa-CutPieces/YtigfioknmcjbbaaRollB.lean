/- The walks over package roll: Slide, and the roll that keeps its bytes: New, Push, Reset, Sum, Len. -/
import Derived.Test.YtigfioknmcjbbaaRollA
import Derived.Test.YtigfioknmcjbbaaOwnC
import Derived.Deep.RegionWith
import Derived.RegionTactic
import Derived.ChangeAlike
import Derived.Deep.QuietTactic
import Derived.BigQuiet
namespace Go.Proofs.Ytigfioknmcjbbaa
open Go.RowKit

/-- The ring of the last sixteen bytes; the roll's cells. -/
def ringAt (l : List UInt8) (j : Nat) : UInt8 := if j < l.length then l.getD (l.length - 1 - (l.length - 1 - j) % 16) 0 else 0
def rollAt (l : List UInt8) (j : Nat) : Value := if j < 16 then .int .u8 ((ringAt l j).toNat : Int) else if j = 16 then .int .i64 (l.length : Nat) else .int .u64 (rollL l : Nat)
theorem Only.setCell' {g : Nat} {w w' : World} (h : Only g w w') (j : Nat) (u : Value) : Only g w (w'.setCell ⟨g, j, none⟩ u) := h.trans (Only.setCell j u)
theorem Only.drew' {g : Nat} {w w' : World} (h : Only g w w') : Only g w w'.drew := ⟨h.os, h.tape, h.output, h.size, h.block⟩
theorem ring_snoc (l : List UInt8) (b : UInt8) (j : Nat) (hj : j < 16) : ringAt (l ++ [b]) j = if j = l.length % 16 then b else ringAt l j := by
  unfold ringAt
  simp only [List.length_append, List.length_singleton]
  by_cases h : j = l.length % 16
  · rw [if_pos h, if_pos (by omega)]
    have : l.length + 1 - 1 - (l.length + 1 - 1 - j) % 16 = l.length := by omega
    rw [this]
    simp [List.getD]
  · rw [if_neg h]
    by_cases hl : j < l.length
    · rw [if_pos (by omega), if_pos hl]
      have : l.length + 1 - 1 - (l.length + 1 - 1 - j) % 16 = l.length - 1 - (l.length - 1 - j) % 16 := by omega
      rw [this, List.getD, List.getD, List.getElem?_append_left (by omega)]
    · rw [if_neg (by omega), if_neg hl]
theorem ring_old (l : List UInt8) (h : 16 ≤ l.length) : ringAt l (l.length % 16) = l.getD (l.length - 16) 0 := by
  unfold ringAt
  rw [if_pos (by omega)]
  congr 1
  omega
theorem mod_in (A Y P M : Nat) : (A + Y % M * P) % M = (A + Y * P) % M := by
  rw [Nat.add_mod, Nat.mod_mul_mod, ← Nat.add_mod]
theorem hash_from (r : List UInt8) : ∀ h0, h0 < 2147483647 → r.foldl (fun h b => addN h b.toNat) h0 = (h0 * 257 ^ r.length + hashL r) % 2147483647 := by
  induction r with
  | nil => intro h0 hh; simp [hashL]; omega
  | cons b r ih =>
    intro h0 hh
    show r.foldl _ (addN h0 b.toNat) = _
    have h1 : hashL (b :: r) = r.foldl (fun h b => addN h b.toNat) (addN 0 b.toNat) := rfl
    rw [ih _ (addN_lt _ _), h1, ih _ (addN_lt _ _)]
    unfold addN
    generalize hashL r = H
    generalize hP : 257 ^ r.length = P
    have hP2 : 257 ^ (b :: r).length = 257 * P := by rw [List.length_cons, Nat.pow_succ, hP, Nat.mul_comm]
    rw [hP2, Nat.add_comm _ H, mod_in, Nat.add_mod_mod, ← Nat.add_assoc (h0 * _), Nat.add_right_comm _ _ H, Nat.add_comm _ H, mod_in]
    congr 1
    rw [Nat.zero_mul, Nat.zero_add, Nat.add_mul, Nat.add_mul, Nat.add_mul, Nat.mul_assoc]
    omega
/-- The window's hash without its first byte. -/
theorem drop_hash (o : UInt8) (r : List UInt8) (hr : r.length = 15) : dropN (hashL (o :: r)) o.toNat = hashL r := by
  have h1 : hashL (o :: r) = r.foldl (fun h b => addN h b.toNat) (addN 0 o.toNat) := rfl
  have ho : addN 0 o.toNat = o.toNat + 1 := by have := o.toNat_lt; unfold addN; omega
  have hlt := hashL_lt r
  have hon := o.toNat_lt
  rw [h1, hash_from _ _ (addN_lt _ _), ho, hr]
  generalize hashL r = H at hlt
  unfold dropN
  have e : (o.toNat + 1) * 1079017218 % 2147483647 = (o.toNat + 1) * 257 ^ 15 % 2147483647 := by
    rw [← powP_top]; unfold powP
    rw [Nat.mul_mod, Nat.mod_mod, ← Nat.mul_mod]
  rw [e]
  generalize (o.toNat + 1) * 257 ^ 15 = X
  omega
theorem lastL_snoc (l : List UInt8) (b : UInt8) : lastL (l ++ [b]) = (if 16 ≤ l.length then (lastL l).drop 1 else lastL l) ++ [b] := by
  unfold lastL
  simp only [List.length_append, List.length_singleton]
  by_cases h : 16 ≤ l.length
  · rw [if_pos h, List.drop_append_of_le_length (by omega), List.drop_drop]
    congr 2
    omega
  · rw [if_neg h, List.drop_append_of_le_length (by omega)]
    congr 2
    omega
theorem lastL_cons (l : List UInt8) (h : 16 ≤ l.length) : lastL l = l.getD (l.length - 16) 0 :: (lastL l).drop 1 := by
  unfold lastL
  rw [List.drop_drop, List.drop_eq_getElem_cons (by omega)]
  simp [List.getD, show l.length - 16 < l.length by omega]
/-- A byte more: the new hash, by the old one. -/
theorem roll_snoc (l : List UInt8) (b : UInt8) : rollL (l ++ [b]) = addN (if 16 ≤ l.length then dropN (rollL l) (l.getD (l.length - 16) 0).toNat else rollL l) b.toNat := by
  unfold rollL
  rw [lastL_snoc, hashL_snoc]
  by_cases h : 16 ≤ l.length
  · rw [if_pos h, if_pos h]
    congr 1
    have h15 : ((lastL l).drop 1).length = 15 := by simp [lastL]; omega
    have := drop_hash (l.getD (l.length - 16) 0) ((lastL l).drop 1) h15
    rw [← lastL_cons l h] at this
    exact this.symm
  · rw [if_neg h, if_neg h]
theorem roll_append (a s : List UInt8) (h : 16 ≤ s.length) : rollL (a ++ s) = rollL s := by
  unfold rollL lastL
  rw [List.length_append, List.drop_append, List.drop_of_length_le (by omega), List.nil_append]
  congr 2
  omega

set_option maxHeartbeats 400000 in
theorem New_any (w : World) :
    Calls Try.prog 28 #[] w fun e w' => e = .returned (.pointer (some ⟨w.heap.size, 0, none⟩)) ∧ Blk w' w.heap.size 60 (tab 18 (rollAt [])) ∧ Below w.heap.size w w' := by
  go_enter Try.func28, Try.ntmps28
  go_wp2
  go_ret
  exact ⟨rfl, (Blk.new w _ _).congr rfl, (Below.refl _ _).alloc (Nat.le_refl _) _⟩
set_option maxHeartbeats 1000000 in
theorem Push_any (g : Nat) (l : List UInt8) (hl : l.length ≤ 1000000) (b : UInt8) (w : World) (hb : Blk w g 60 (tab 18 (rollAt l))) :
    Calls Try.prog 32 #[.pointer (some ⟨g, 0, none⟩), .int .u8 b.toNat] w fun e w' => e = .returned (.int .u32 (rollL (l ++ [b]) : Nat)) ∧ Blk w' g 60 (tab 18 (rollAt (l ++ [b]))) ∧ Only g w w' := by
  obtain ⟨n, hn⟩ : ∃ n, l.length = n := ⟨_, rfl⟩
  have hnb : n ≤ 1000000 := by omega
  have hh := rollL_lt l
  have hh' : rollL l < 4294967296 := by omega
  have hbb : b.toNat < 256 := b.toNat_lt
  have hs := roll_snoc l b
  have hr := rollL_lt (l ++ [b])
  have hr' : rollL (l ++ [b]) < 4294967296 := by omega
  have c16 : w.cell? ⟨g, 16, none⟩ = some (.int .i64 n) := by rw [hb.at 16 (by omega), ← hn]; rfl
  have c17 : w.cell? ⟨g, 17, none⟩ = some (.int .u64 (rollL l : Nat)) := hb.at 17 (by omega)
  have f16 := hb.freeAt 16 (by omega)
  have f17 := hb.freeAt 17 (by omega)
  obtain ⟨a, ha⟩ : ∃ a, n % 16 = a := ⟨_, rfl⟩
  have ha16 : a < 16 := by omega
  have hai : (n : Int) % 16 = a := by omega
  have ca : w.cell? ⟨g, a, none⟩ = some (.int .u8 ((ringAt l a).toNat : Int)) := by rw [hb.at a (by omega)]; unfold rollAt; rw [if_pos ha16]
  have fa := hb.freeAt a (by omega)
  have hre : (ringAt l a).toNat < 256 := (ringAt l a).toNat_lt
  have hfin : ∀ v1 : Value, ((((tab 18 (rollAt l)).set 17 v1).set 17 (.int .u64 (rollL (l ++ [b]) : Nat))).set a (.int .u8 (b.toNat : Int))).set 16 (.int .i64 (n + 1 : Nat)) = tab 18 (rollAt (l ++ [b])) := by
    intro v1
    rw [tab_set, tab_set, tab_set, tab_set]
    refine tab_congr fun j hj => ?_
    unfold rollAt
    by_cases h16 : j = 16
    · subst h16; simp [hn]
    · by_cases h17 : j = 17
      · subst h17; simp [show ¬ 17 = a by omega]
      · have hj16 : j < 16 := by omega
        rw [if_neg h16, if_pos hj16, if_pos hj16, ring_snoc l b j hj16, hn, ha]
        by_cases hja : j = a
        · rw [if_pos hja, if_pos hja]
        · rw [if_neg hja, if_neg hja, if_neg h17, if_neg h17]
  have HFIN := Go.Lib.hid hfin; clear hfin
  have HS := Go.Lib.hid hs; clear hs
  generalize hR : rollL (l ++ [b]) = R at hr hr' HS HFIN ⊢
  have HR := Go.Lib.hid hR; clear hR hr
  by_cases h16 : 16 ≤ n
  · have hro : ringAt l a = l.getD (l.length - 16) 0 := by rw [← ha, ← hn]; exact ring_old l (by omega)
    have hs2 : R = addN (dropN (rollL l) (ringAt l a).toNat) b.toNat := by rw [HS.out, if_pos (by omega), hro]
    have HS2 := Go.Lib.hid hs2
    have hd := dropN_lt (rollL l) (ringAt l a).toNat
    have hd' : dropN (rollL l) (ringAt l a).toNat < 4294967296 := by omega
    have HN := Go.Lib.hid hn; have HA := Go.Lib.hid ha
    clear hn ha hro hs2 hd hh hl
    have hne : (16 : Nat) ≠ a := by omega
    go_enter Try.func32, Try.ntmps32
    go_wp2_with fail
    go_region_with (go_at_call 35; refine (drop_any (rollL l) (ringAt l a).toNat hh' hre _).mono ?_; rintro e w1 ⟨rfl, rfl⟩)
    all_goals
      go_wp2_with (go_at_call 36; refine (add_any _ b.toNat hd' hbb _).mono ?_; rw [← HS2.out]; rintro e w1 ⟨rfl, rfl⟩)
      go_ret
      refine ⟨rfl, ?_, ?_⟩
      · exact ((((hb.set 17 _).set 17 _).set a _).set 16 _).congr (HFIN.out _)
      · exact ((((Only.refl.setCell' 17 _).setCell' 17 _).setCell' a _).setCell' 16 _).drew'
  · have hs2 : R = addN (rollL l) b.toNat := by rw [HS.out, if_neg (by omega)]
    have HS2 := Go.Lib.hid hs2
    have HN := Go.Lib.hid hn; have HA := Go.Lib.hid ha
    clear hn ha hs2 hh hl
    have hne : (16 : Nat) ≠ a := by omega
    go_enter Try.func32, Try.ntmps32
    go_wp2_with (go_at_call 36; refine (add_any _ b.toNat hh' hbb _).mono ?_; rw [← HS2.out]; rintro e w1 ⟨rfl, rfl⟩)
    go_ret
    refine ⟨rfl, ?_, ?_⟩
    · refine (((hb.set 17 _).set a _).set 16 _).congr ?_
      have := HFIN.out (.int .u64 0)
      rw [List.set_set] at this
      exact this
    · exact (((Only.refl.setCell' 17 _).setCell' a _).setCell' 16 _)

set_option maxHeartbeats 400000 in
theorem Reset_roll (g : Nat) (l : List UInt8) (w : World) (hb : Blk w g 60 (tab 18 (rollAt l))) :
    Calls Try.prog 34 #[.pointer (some ⟨g, 0, none⟩)] w fun e w' => e = .returned (.tuple #[]) ∧ Blk w' g 60 (tab 18 (rollAt [])) ∧ Only g w w' := by
  go_enter Try.func34, Try.ntmps34
  go_wp2_with (with_reducible refine wpList_store_tab (o := ⟨none, .store 60 (.tmp 6) (.tmp 5), _, _, _, _⟩) rfl 60 _ _ rfl g 60 18 (rollAt []) _ rfl rfl hb (by kernel_rfl) (fun j => ?_) ?_)
  · unfold rollAt; split <;> (try split) <;> rfl
  · intro w' hb' ho
    go_wp2
    go_end0
    exact ⟨rfl, hb', ho⟩
set_option maxHeartbeats 400000 in
theorem nil_Push (b : Int) (w : World) : Calls Try.prog 32 #[.pointer none, .int .u8 b] w fun e w' => e = .returned (.int .u32 0) ∧ w = w' := by
  go_enter Try.func32, Try.ntmps32
  go_wp2
  go_ret
  exact ⟨rfl, rfl⟩
set_option maxHeartbeats 400000 in
theorem nil_Reset (w : World) : Calls Try.prog 34 #[.pointer none] w fun e w' => e = .returned (.tuple #[]) ∧ w = w' := by
  go_enter Try.func34, Try.ntmps34
  go_wp2
  go_end0
  exact ⟨rfl, rfl⟩
end Go.Proofs.Ytigfioknmcjbbaa
