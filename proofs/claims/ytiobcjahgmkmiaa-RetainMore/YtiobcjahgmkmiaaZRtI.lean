/- The walk of layer 32: split. -/
import Derived.Test.YtiobcjahgmkmiaaZRtH
import Derived.Test.YtiobcjahgmkmiaaZSxb
namespace Go.Proofs.Ytiobcjahgmkmiaa
open Go.RowKit

def intK : KeyT SX 3 := ⟨1, [.int .i64], _, rfl, rfl, rfl⟩
theorem intK_ok (k : Int) : intK.ok (.int .i64 k) := ⟨rfl, rfl⟩
def metE (m : List Int) : List (Value × Value) := m.map fun k => (.int .i64 k, .int .i64 1)
theorem metE_at {k : Int} {m : List Int} (h : k ∈ m) : ∃ q : Nat, (metE m)[q]? = some (.int .i64 k, .int .i64 1) := by
  obtain ⟨q, hq⟩ := List.getElem?_of_mem h
  exact ⟨q, by unfold metE; rw [List.getElem?_map, hq]; rfl⟩
theorem metE_no {k : Int} {m : List Int} (h : k ∉ m) : ∀ x ∈ metE m, x.1 ≠ .int .i64 k := by
  intro x hx he
  obtain ⟨q, hq, rfl⟩ := List.mem_map.1 hx
  simp only [Value.int.injEq, true_and] at he
  exact h (he ▸ hq)
theorem metE_len (m : List Int) : (metE m).length = m.length := List.length_map ..
theorem metE_snoc (m : List Int) (k : Int) : metE (m ++ [k]) = metE m ++ [(.int .i64 k, .int .i64 1)] := by simp [metE]
theorem splice_at {l : List Value} {i : Nat} (h : i < l.length) (x : Value) : splice i [x] l = l.set i x := by
  rw [List.set_eq_take_append_cons_drop, if_pos h]
  simp [splice]
def cnJ (n : Nat) : Nat → Int
  | 0 => 0
  | _ + 1 => n
theorem map_bool_at {f : List Bool} {i : Nat} (h : i < f.length) : (f.map Value.bool)[i]? = some (.bool (f.getD i false)) := by
  rw [List.getElem?_map, List.getD_eq_getElem?_getD, List.getElem?_eq_getElem h]; rfl
def ruC (p : Pol) (gn : Nat) : List Value := [.func (.func 49) #[] #[.pointer (some ⟨gn, 0, none⟩)], .int .i64 (p.at 0), .func (.func 50) #[] #[], .int .i64 (p.at 1), .func (.func 51) #[] #[], .int .i64 (p.at 2), .func (.func 52) #[] #[], .int .i64 (p.at 3)]
def ruE (p : Pol) (gr gn : Nat) : Ent := .row (some ⟨gr, 0, none⟩) 4 4 79 2 (ruC p gn)
theorem zeros_false : ∀ n, zerosL [Value.bool false] n = (List.replicate n false).map .bool
  | 0 => rfl
  | n + 1 => by
    show Value.bool false :: zerosL [Value.bool false] n = Value.bool false :: (List.replicate n false).map .bool
    rw [zeros_false n]
set_option maxHeartbeats 8000000 in
theorem split_ok (p : Pol) (l : List Bk) (hl : l.length ≤ 100000) (hp : mayP p) (hd : mayD l) (ao : Option Addr) (cap : Nat) (w : World) (hr : Rd w ao (bkE.fl l)) :
    Calls Try.prog 41 #[.agg (polC p).toArray, .slice ao l.length cap] w fun e w' => ∃ a1 c1 a2 c2, e = .returned (.tuple #[.slice a1 (keptK p l).1.length c1, .slice a2 (keptK p l).2.length c2, .int .i64 0]) ∧ NewRow w w' a1 (keptK p l).1.length c1 55 2 (bkE.fl (keptK p l).1) ∧ NewRow w w' a2 (keptK p l).2.length c2 55 2 (bkE.fl (keptK p l).2) := by
  obtain ⟨⟨p1, p2⟩, ⟨p3, p4⟩, ⟨p5, p6⟩, p7, p8⟩ := hp
  have hlen : (sortK l).length ≤ l.length := setS_len cfK l
  refine sx_fn (S := SX) (M := []) (N := 134) (H0 := [.row none 0 0 55 2 [], .row none 0 0 55 2 [], .rd ao (bkE.fl l)]) Try.func41 rfl rfl rfl (Sat.nilRow 55 2 (Sat.nilRow 55 2 (Sat.oneRd _ hr))) ?_
  ((try refine sx_use ?_); (repeat (refine SxNew.mk fun _ => ?_; (try refine sx_use ?_))))
  rename_i gp g4
  refine SxCode.loop (σ := Nat) [32, 4, 5, 6] [33, 34, 35, 8, 36, 37, 38, 39, 40, 41, 4, 5, 6, 42, 32] (fun k => [.int .i64 (k : Nat), .slice none 0 0, .slice none 0 0, .int .i64 0]) (fun _ => [.row (some ⟨g4, 0, none⟩) 4 4 3 1 (polC p), .blk gp 49 (polC p), .row none 0 0 55 2 [], .row none 0 0 55 2 [], .rd ao (bkE.fl l)]) (fun k => k ≤ 4) (fun k => 4 - k) 0 [0, 1, 2, 3, 4] rfl rfl rfl rfl (Nat.zero_le _) ?_
  rintro k hk
  by_cases hk4 : k < 4
  · obtain ⟨v, hv, hv1, hv2⟩ : ∃ v : Int, (polC p)[k]? = some (.int .i64 v) ∧ 0 ≤ v ∧ v ≤ 4096 := by
      have hc : k = 0 ∨ k = 1 ∨ k = 2 ∨ k = 3 := by omega
      rcases hc with rfl | rfl | rfl | rfl
      · exact ⟨_, rfl, p1, p2⟩
      · exact ⟨_, rfl, p3, p4⟩
      · exact ⟨_, rfl, p5, p6⟩
      · exact ⟨_, rfl, p7, p8⟩
    ((try refine sx_use ?_); (repeat (refine SxNew.mk fun _ => ?_; (try refine sx_use ?_))))
    refine SxIA.row 0 _ _ _ rfl k rfl hk4 fun g' hg' => ?_
    obtain rfl : g4 = g' := by simpa using hg'
    ((try refine sx_use ?_); (repeat (refine SxNew.mk fun _ => ?_; (try refine sx_use ?_))))
    refine SxLd.row 0 rfl rfl rfl (by rw [Nat.mul_one]; exact hv) ?_
    ((try refine sx_use ?_); (repeat (refine SxNew.mk fun _ => ?_; (try refine sx_use ?_))))
    exact SxRound.mk (k + 1) [0, 1, 2, 3, 4] rfl rfl rfl (by omega) (by omega)
  obtain rfl : k = 4 := by omega
  clear hk hk4
  ((try refine sx_use ?_); (repeat (refine SxNew.mk fun _ => ?_; (try refine sx_use ?_))))
  refine SxCode.loop (σ := Nat) [45, 4, 5, 6] [46, 47, 48, 10, 49, 50, 51, 52, 53, 54, 55, 56, 4, 5, 6, 57, 45] (fun k => [.int .i64 (k : Nat), .slice none 0 0, .slice none 0 0, .int .i64 0]) (fun _ => [.blk gp 49 (polC p), .row none 0 0 55 2 [], .row none 0 0 55 2 [], .rd ao (bkE.fl l)]) (fun k => k ≤ l.length) (fun k => l.length - k) 0 [1, 2, 3, 4] rfl rfl rfl rfl (Nat.zero_le _) ?_
  rintro k hk
  ((try refine sx_use ?_); (repeat (refine SxNew.mk fun _ => ?_; (try refine sx_use ?_))))
  refine SxIf.dec (fun h => ?_) (fun h => ?_)
  · have hlt : k < l.length := by omega
    obtain ⟨b, hb⟩ : ∃ b, l[k]? = some b := ⟨l[k], by simp [hlt]⟩
    obtain ⟨d1, d2⟩ := hd b (List.mem_of_getElem? hb)
    ((try refine sx_use ?_); (repeat (refine SxNew.mk fun _ => ?_; (try refine sx_use ?_))))
    refine SxIA.rd 3 _ rfl k rfl hlt (by rw [rowBk_len]; omega) fun g off ha => ?_
    ((try refine sx_use ?_); (repeat (refine SxNew.mk fun _ => ?_; (try refine sx_use ?_))))
    refine SxLdN.rd 3 rfl ha rfl (vs := bkC b) rfl (rowBk_at hb) ?_
    ((try refine sx_use ?_); (repeat (refine SxNew.mk fun _ => ?_; (try refine sx_use ?_))))
    exact SxRound.mk (k + 1) [1, 2, 3, 4] rfl rfl rfl hlt (by omega)
  obtain rfl : k = l.length := by omega
  clear hk h
  have hsd : ∀ b ∈ sortK l, inDays b.day := fun b hb => hd b ((setS_mem cfK l b).1 hb)
  ((try refine sx_use ?_); (repeat (refine SxNew.mk fun _ => ?_; (try refine sx_use ?_))))
  refine SxCall.newRowB (fun w hs => Sort_any l (by omega) ao cap w (hs.rd 3 rfl)) fun sa sc hsa hsc => ?_
  obtain ⟨s, hs0⟩ : ∃ s, s = sortK l := ⟨_, rfl⟩
  have hkk : keptK p l = pick2 s (kp p s 4) s.length := by rw [hs0]; rfl
  rw [hkk]
  rw [← hs0] at hlen hsd hsa hsc ⊢
  clear hkk
  ((try refine sx_use ?_); (repeat (refine SxNew.mk fun _ => ?_; (try refine sx_use ?_))))
  rename_i gn
  refine SxBnd.mk s.length s.length rfl rfl (Nat.le_refl _) (by unfold maxLen; omega) ?_
  ((try refine sx_use ?_); (repeat (refine SxNew.mk fun _ => ?_; (try refine sx_use ?_))))
  refine SxP.mk ⟨by omega, rfl, by decide⟩ ?_
  ((try refine sx_use ?_); (repeat (refine SxNew.mk fun _ => ?_; (try refine sx_use ?_))))
  rename_i gk gr
  refine SxCode.loop (σ := Nat) [78] [79, 80, 81, 15, 82, 16, 83, 84, 85, 86, 87, 88, 89, 18, 17, 90, 91, 92, 93, 19, 94, 95, 96, 97, 98, 99, 100, 101, 102, 103, 104, 105, 106, 107, 108, 109, 110, 111, 78] (fun j => [.int .i64 (j : Nat)]) (fun j => [ruE p gr gn, .row (some ⟨gk, 0, none⟩) s.length s.length 4 1 ((kp p s j).map .bool), .blk gn 3 [.int .i64 (cnJ s.length j)], .row sa s.length sc 55 2 (bkE.fl s), .row none 0 0 55 2 [], .row none 0 0 55 2 []]) (fun j => j ≤ 4) (fun j => 4 - j) 0 [0, 1, 2, 3, 5, 6] rfl rfl (by rw [show (kp p s 0).map Value.bool = zerosL [Value.bool false] s.length from (zeros_false _).symm]; rfl) rfl (Nat.zero_le _) ?_
  rintro j hj
  have hc : j = 0 ∨ j = 1 ∨ j = 2 ∨ j = 3 ∨ j = 4 := by omega
  rcases hc with rfl | rfl | rfl | rfl | rfl
  · ((try refine sx_use ?_); (repeat (refine SxNew.mk fun _ => ?_; (try refine sx_use ?_))))
    refine SxIA.row 0 _ _ _ rfl 0 rfl (by omega) fun g' hg' => ?_
    obtain rfl : gr = g' := by simpa using hg'
    ((try refine sx_use ?_); (repeat (refine SxNew.mk fun _ => ?_; (try refine sx_use ?_))))
    refine SxLdN.row 0 rfl rfl rfl (vs := [.func (.func 49) #[] #[.pointer (some ⟨gn, 0, none⟩)], .int .i64 (p.at 0)]) rfl rfl ?_
    ((try refine sx_use ?_); (repeat (refine SxNew.mk fun _ => ?_; (try refine sx_use ?_))))
    rename_i gq
    refine SxSem.make intK rfl fun gm => ?_
    ((try refine sx_use ?_); (repeat (refine SxNew.mk fun _ => ?_; (try refine sx_use ?_))))
    refine SxCode.loop (σ := Nat) [85] [86, 87, 88, 89, 18, 17, 90, 91, 92, 93, 19, 94, 95, 96, 97, 98, 99, 100, 101, 102, 103, 104, 105, 106, 107, 108, 109, 110, 85] (fun i => [.int .i64 (i : Nat)])
      (fun i => [mapE intK gm (metE (st 0 (p.at 0) s i).1), .blk gq 79 [.func (.func 49) #[] #[.pointer (some ⟨gn, 0, none⟩)], .int .i64 (p.at 0)], ruE p gr gn, .row (some ⟨gk, 0, none⟩) s.length s.length 4 1 ((orL (kp p s 0) (st 0 (p.at 0) s i).2).map .bool), .blk gn 3 [.int .i64 (i : Nat)], .row sa s.length sc 55 2 (bkE.fl s), .row none 0 0 55 2 [], .row none 0 0 55 2 []])
      (fun i => i ≤ s.length) (fun i => s.length - i) 0 [0, 1, 2, 3, 4, 5, 6, 7] rfl rfl (by show some _ = some _; rw [show (st 0 (p.at 0) s 0).2 = [] from rfl, orL_nil]; rfl) rfl (Nat.zero_le _) ?_
    rintro i hi
    dsimp only
    obtain ⟨sl1, sl2⟩ := st_len 0 (p.at 0) s i hi
    ((try refine sx_use ?_); (repeat (refine SxNew.mk fun _ => ?_; (try refine sx_use ?_))))
    refine SxIf.dec (fun h => ?_) (fun h => ?_)
    · have hlt : i < s.length := by omega
      obtain ⟨b, hb⟩ : ∃ b, s[i]? = some b := ⟨s[i], by simp [hlt]⟩
      have hbd := hsd b (List.mem_of_getElem? hb)
      obtain ⟨ga, rfl⟩ := hsa (by omega)
      ((try refine sx_use ?_); (repeat (refine SxNew.mk fun _ => ?_; (try refine sx_use ?_))))
      refine SxIA.row 5 _ _ _ rfl i rfl hlt fun g' hg' => ?_
      obtain rfl : ga = g' := by simpa using hg'
      ((try refine sx_use ?_); (repeat (refine SxNew.mk fun _ => ?_; (try refine sx_use ?_))))
      refine SxLdN.row 5 rfl rfl rfl (vs := bkC b) rfl (rowBk_at hb) ?_
      ((try refine sx_use ?_); (repeat (refine SxNew.mk fun _ => ?_; (try refine sx_use ?_))))
      refine SxCall.mk fun w hs => (sp1_sat hs 5 gn (i : Nat) ⟨by omega, by omega⟩ rfl b).mono fun e w' he => ⟨_, _, he.1, he.2, ?_⟩
      rw [show ((i : Nat) : Int) + 1 = keyOf 0 i b from rfl]
      ((try refine sx_use ?_); (repeat (refine SxNew.mk fun _ => ?_; (try refine sx_use ?_))))
      by_cases hm : keyOf 0 i b ∈ (st 0 (p.at 0) s i).1
      · have hno : ¬ (keyOf 0 i b ∉ (st 0 (p.at 0) s i).1 ∧ ((st 0 (p.at 0) s i).1.length : Int) < p.at 0) := fun hh => hh.1 hm
        obtain ⟨q, hq⟩ := metE_at hm
        refine SxSem.look intK 1 rfl Try.underlying81 rfl rfl rfl (intK_ok _) (.inl ⟨q, _, hq, ?_⟩)
        ((try refine sx_use ?_); (repeat (refine SxNew.mk fun _ => ?_; (try refine sx_use ?_))))
        refine SxRound.mk (i + 1) [1, 2, 3, 4, 5, 6, 7, 8] rfl (by
          (try dsimp only)
          rw [st_no hb hno, orL_false _ _ (by rw [sl1, kp_len]; exact hlt)]
          (try rw [show keyOf 0 i b = ((i + 1 : Nat) : Int) from rfl])
          rfl) rfl hlt (by omega)
      · refine SxSem.look intK 1 rfl Try.underlying81 rfl rfl rfl (intK_ok _) (.inr ⟨metE_no hm, _, rfl, ?_⟩)
        ((try refine sx_use ?_); (repeat (refine SxNew.mk fun _ => ?_; (try refine sx_use ?_))))
        refine SxLenV.map (K := intK) 1 rfl Try.underlying81 rfl ?_
        rw [metE_len]
        ((try refine sx_use ?_); (repeat (refine SxNew.mk fun _ => ?_; (try refine sx_use ?_))))
        refine SxIf.dec (fun h2 => ?_) (fun h2 => ?_)
        · have hyes : keyOf 0 i b ∉ (st 0 (p.at 0) s i).1 ∧ ((st 0 (p.at 0) s i).1.length : Int) < p.at 0 := ⟨hm, h2⟩
          ((try refine sx_use ?_); (repeat (refine SxNew.mk fun _ => ?_; (try refine sx_use ?_))))
          refine SxSem.upd (K := intK) 1 (.inl rfl) Try.underlying81 rfl rfl rfl rfl (intK_ok _) (.inr ⟨metE_no hm, ?_⟩)
          ((try refine sx_use ?_); (repeat (refine SxNew.mk fun _ => ?_; (try refine sx_use ?_))))
          refine SxIA.row 4 _ _ _ rfl i rfl hlt fun g' hg' => ?_
          obtain rfl : gk = g' := by simpa using hg'
          ((try refine sx_use ?_); (repeat (refine SxNew.mk fun _ => ?_; (try refine sx_use ?_))))
          (try refine SxP.mk rfl ?_)
          refine SxSt.row 4 rfl rfl (j := i) (by omega) (by rw [List.length_map, orL_len, kp_len]; show i + 1 ≤ _; omega) rfl (cs' := (orL (kp p s 0) ((st 0 (p.at 0) s i).2 ++ [true])).map .bool) (by
            rw [orL_true _ _ (by rw [sl1, kp_len]; exact hlt), sl1, List.map_set]
            exact splice_at (by rw [List.length_map, orL_len, kp_len]; exact hlt) _) ?_
          ((try refine sx_use ?_); (repeat (refine SxNew.mk fun _ => ?_; (try refine sx_use ?_))))
          refine SxRound.mk (i + 1) [1, 2, 3, 4, 5, 6, 7, 8] rfl (by
            (try dsimp only)
            rw [st_yes hb hyes, metE_snoc]
            (try rw [show keyOf 0 i b = ((i + 1 : Nat) : Int) from rfl])
            rfl) rfl hlt (by omega)
        · have hno : ¬ (keyOf 0 i b ∉ (st 0 (p.at 0) s i).1 ∧ ((st 0 (p.at 0) s i).1.length : Int) < p.at 0) := fun hh => h2 hh.2
          ((try refine sx_use ?_); (repeat (refine SxNew.mk fun _ => ?_; (try refine sx_use ?_))))
          refine SxRound.mk (i + 1) [1, 2, 3, 4, 5, 6, 7, 8] rfl (by
            (try dsimp only)
            rw [st_no hb hno, orL_false _ _ (by rw [sl1, kp_len]; exact hlt)]
            (try rw [show keyOf 0 i b = ((i + 1 : Nat) : Int) from rfl])
            rfl) rfl hlt (by omega)
    · obtain rfl : i = s.length := by omega
      ((try refine sx_use ?_); (repeat (refine SxNew.mk fun _ => ?_; (try refine sx_use ?_))))
      exact SxRound.mk (0 + 1) [2, 3, 4, 5, 6, 7] rfl rfl rfl (by omega) (by omega)
  · ((try refine sx_use ?_); (repeat (refine SxNew.mk fun _ => ?_; (try refine sx_use ?_))))
    refine SxIA.row 0 _ _ _ rfl 1 rfl (by omega) fun g' hg' => ?_
    obtain rfl : gr = g' := by simpa using hg'
    ((try refine sx_use ?_); (repeat (refine SxNew.mk fun _ => ?_; (try refine sx_use ?_))))
    refine SxLdN.row 0 rfl rfl rfl (vs := [.func (.func 50) #[] #[], .int .i64 (p.at 1)]) rfl rfl ?_
    ((try refine sx_use ?_); (repeat (refine SxNew.mk fun _ => ?_; (try refine sx_use ?_))))
    rename_i gq
    refine SxSem.make intK rfl fun gm => ?_
    ((try refine sx_use ?_); (repeat (refine SxNew.mk fun _ => ?_; (try refine sx_use ?_))))
    refine SxCode.loop (σ := Nat) [85] [86, 87, 88, 89, 18, 17, 90, 91, 92, 93, 19, 94, 95, 96, 97, 98, 99, 100, 101, 102, 103, 104, 105, 106, 107, 108, 109, 110, 85] (fun i => [.int .i64 (i : Nat)])
      (fun i => [mapE intK gm (metE (st 1 (p.at 1) s i).1), .blk gq 79 [.func (.func 50) #[] #[], .int .i64 (p.at 1)], ruE p gr gn, .row (some ⟨gk, 0, none⟩) s.length s.length 4 1 ((orL (kp p s 1) (st 1 (p.at 1) s i).2).map .bool), .blk gn 3 [.int .i64 (s.length : Nat)], .row sa s.length sc 55 2 (bkE.fl s), .row none 0 0 55 2 [], .row none 0 0 55 2 []])
      (fun i => i ≤ s.length) (fun i => s.length - i) 0 [0, 1, 2, 3, 4, 5, 6, 7] rfl rfl (by show some _ = some _; rw [show (st 1 (p.at 1) s 0).2 = [] from rfl, orL_nil]; rfl) rfl (Nat.zero_le _) ?_
    rintro i hi
    dsimp only
    obtain ⟨sl1, sl2⟩ := st_len 1 (p.at 1) s i hi
    ((try refine sx_use ?_); (repeat (refine SxNew.mk fun _ => ?_; (try refine sx_use ?_))))
    refine SxIf.dec (fun h => ?_) (fun h => ?_)
    · have hlt : i < s.length := by omega
      obtain ⟨b, hb⟩ : ∃ b, s[i]? = some b := ⟨s[i], by simp [hlt]⟩
      have hbd := hsd b (List.mem_of_getElem? hb)
      obtain ⟨ga, rfl⟩ := hsa (by omega)
      ((try refine sx_use ?_); (repeat (refine SxNew.mk fun _ => ?_; (try refine sx_use ?_))))
      refine SxIA.row 5 _ _ _ rfl i rfl hlt fun g' hg' => ?_
      obtain rfl : ga = g' := by simpa using hg'
      ((try refine sx_use ?_); (repeat (refine SxNew.mk fun _ => ?_; (try refine sx_use ?_))))
      refine SxLdN.row 5 rfl rfl rfl (vs := bkC b) rfl (rowBk_at hb) ?_
      ((try refine sx_use ?_); (repeat (refine SxNew.mk fun _ => ?_; (try refine sx_use ?_))))
      refine SxCall.quiet (sp2_any b) ?_
      rw [show b.day = keyOf 1 i b from rfl]
      ((try refine sx_use ?_); (repeat (refine SxNew.mk fun _ => ?_; (try refine sx_use ?_))))
      by_cases hm : keyOf 1 i b ∈ (st 1 (p.at 1) s i).1
      · have hno : ¬ (keyOf 1 i b ∉ (st 1 (p.at 1) s i).1 ∧ ((st 1 (p.at 1) s i).1.length : Int) < p.at 1) := fun hh => hh.1 hm
        obtain ⟨q, hq⟩ := metE_at hm
        refine SxSem.look intK 1 rfl Try.underlying81 rfl rfl rfl (intK_ok _) (.inl ⟨q, _, hq, ?_⟩)
        ((try refine sx_use ?_); (repeat (refine SxNew.mk fun _ => ?_; (try refine sx_use ?_))))
        refine SxRound.mk (i + 1) [1, 2, 3, 4, 5, 6, 7, 8] rfl (by
          (try dsimp only)
          rw [st_no hb hno, orL_false _ _ (by rw [sl1, kp_len]; exact hlt)]
          skip
          rfl) rfl hlt (by omega)
      · refine SxSem.look intK 1 rfl Try.underlying81 rfl rfl rfl (intK_ok _) (.inr ⟨metE_no hm, _, rfl, ?_⟩)
        ((try refine sx_use ?_); (repeat (refine SxNew.mk fun _ => ?_; (try refine sx_use ?_))))
        refine SxLenV.map (K := intK) 1 rfl Try.underlying81 rfl ?_
        rw [metE_len]
        ((try refine sx_use ?_); (repeat (refine SxNew.mk fun _ => ?_; (try refine sx_use ?_))))
        refine SxIf.dec (fun h2 => ?_) (fun h2 => ?_)
        · have hyes : keyOf 1 i b ∉ (st 1 (p.at 1) s i).1 ∧ ((st 1 (p.at 1) s i).1.length : Int) < p.at 1 := ⟨hm, h2⟩
          ((try refine sx_use ?_); (repeat (refine SxNew.mk fun _ => ?_; (try refine sx_use ?_))))
          refine SxSem.upd (K := intK) 1 (.inl rfl) Try.underlying81 rfl rfl rfl rfl (intK_ok _) (.inr ⟨metE_no hm, ?_⟩)
          ((try refine sx_use ?_); (repeat (refine SxNew.mk fun _ => ?_; (try refine sx_use ?_))))
          refine SxIA.row 4 _ _ _ rfl i rfl hlt fun g' hg' => ?_
          obtain rfl : gk = g' := by simpa using hg'
          ((try refine sx_use ?_); (repeat (refine SxNew.mk fun _ => ?_; (try refine sx_use ?_))))
          (try refine SxP.mk rfl ?_)
          refine SxSt.row 4 rfl rfl (j := i) (by omega) (by rw [List.length_map, orL_len, kp_len]; show i + 1 ≤ _; omega) rfl (cs' := (orL (kp p s 1) ((st 1 (p.at 1) s i).2 ++ [true])).map .bool) (by
            rw [orL_true _ _ (by rw [sl1, kp_len]; exact hlt), sl1, List.map_set]
            exact splice_at (by rw [List.length_map, orL_len, kp_len]; exact hlt) _) ?_
          ((try refine sx_use ?_); (repeat (refine SxNew.mk fun _ => ?_; (try refine sx_use ?_))))
          refine SxRound.mk (i + 1) [1, 2, 3, 4, 5, 6, 7, 8] rfl (by
            (try dsimp only)
            rw [st_yes hb hyes, metE_snoc]
            skip
            rfl) rfl hlt (by omega)
        · have hno : ¬ (keyOf 1 i b ∉ (st 1 (p.at 1) s i).1 ∧ ((st 1 (p.at 1) s i).1.length : Int) < p.at 1) := fun hh => h2 hh.2
          ((try refine sx_use ?_); (repeat (refine SxNew.mk fun _ => ?_; (try refine sx_use ?_))))
          refine SxRound.mk (i + 1) [1, 2, 3, 4, 5, 6, 7, 8] rfl (by
            (try dsimp only)
            rw [st_no hb hno, orL_false _ _ (by rw [sl1, kp_len]; exact hlt)]
            skip
            rfl) rfl hlt (by omega)
    · obtain rfl : i = s.length := by omega
      ((try refine sx_use ?_); (repeat (refine SxNew.mk fun _ => ?_; (try refine sx_use ?_))))
      exact SxRound.mk (1 + 1) [2, 3, 4, 5, 6, 7] rfl rfl rfl (by omega) (by omega)
  · ((try refine sx_use ?_); (repeat (refine SxNew.mk fun _ => ?_; (try refine sx_use ?_))))
    refine SxIA.row 0 _ _ _ rfl 2 rfl (by omega) fun g' hg' => ?_
    obtain rfl : gr = g' := by simpa using hg'
    ((try refine sx_use ?_); (repeat (refine SxNew.mk fun _ => ?_; (try refine sx_use ?_))))
    refine SxLdN.row 0 rfl rfl rfl (vs := [.func (.func 51) #[] #[], .int .i64 (p.at 2)]) rfl rfl ?_
    ((try refine sx_use ?_); (repeat (refine SxNew.mk fun _ => ?_; (try refine sx_use ?_))))
    rename_i gq
    refine SxSem.make intK rfl fun gm => ?_
    ((try refine sx_use ?_); (repeat (refine SxNew.mk fun _ => ?_; (try refine sx_use ?_))))
    refine SxCode.loop (σ := Nat) [85] [86, 87, 88, 89, 18, 17, 90, 91, 92, 93, 19, 94, 95, 96, 97, 98, 99, 100, 101, 102, 103, 104, 105, 106, 107, 108, 109, 110, 85] (fun i => [.int .i64 (i : Nat)])
      (fun i => [mapE intK gm (metE (st 2 (p.at 2) s i).1), .blk gq 79 [.func (.func 51) #[] #[], .int .i64 (p.at 2)], ruE p gr gn, .row (some ⟨gk, 0, none⟩) s.length s.length 4 1 ((orL (kp p s 2) (st 2 (p.at 2) s i).2).map .bool), .blk gn 3 [.int .i64 (s.length : Nat)], .row sa s.length sc 55 2 (bkE.fl s), .row none 0 0 55 2 [], .row none 0 0 55 2 []])
      (fun i => i ≤ s.length) (fun i => s.length - i) 0 [0, 1, 2, 3, 4, 5, 6, 7] rfl rfl (by show some _ = some _; rw [show (st 2 (p.at 2) s 0).2 = [] from rfl, orL_nil]; rfl) rfl (Nat.zero_le _) ?_
    rintro i hi
    dsimp only
    obtain ⟨sl1, sl2⟩ := st_len 2 (p.at 2) s i hi
    ((try refine sx_use ?_); (repeat (refine SxNew.mk fun _ => ?_; (try refine sx_use ?_))))
    refine SxIf.dec (fun h => ?_) (fun h => ?_)
    · have hlt : i < s.length := by omega
      obtain ⟨b, hb⟩ : ∃ b, s[i]? = some b := ⟨s[i], by simp [hlt]⟩
      have hbd := hsd b (List.mem_of_getElem? hb)
      obtain ⟨ga, rfl⟩ := hsa (by omega)
      ((try refine sx_use ?_); (repeat (refine SxNew.mk fun _ => ?_; (try refine sx_use ?_))))
      refine SxIA.row 5 _ _ _ rfl i rfl hlt fun g' hg' => ?_
      obtain rfl : ga = g' := by simpa using hg'
      ((try refine sx_use ?_); (repeat (refine SxNew.mk fun _ => ?_; (try refine sx_use ?_))))
      refine SxLdN.row 5 rfl rfl rfl (vs := bkC b) rfl (rowBk_at hb) ?_
      ((try refine sx_use ?_); (repeat (refine SxNew.mk fun _ => ?_; (try refine sx_use ?_))))
      refine SxCall.quiet (sp3_any b hbd) ?_
      rw [show weekN (dn b) = keyOf 2 i b from rfl]
      ((try refine sx_use ?_); (repeat (refine SxNew.mk fun _ => ?_; (try refine sx_use ?_))))
      by_cases hm : keyOf 2 i b ∈ (st 2 (p.at 2) s i).1
      · have hno : ¬ (keyOf 2 i b ∉ (st 2 (p.at 2) s i).1 ∧ ((st 2 (p.at 2) s i).1.length : Int) < p.at 2) := fun hh => hh.1 hm
        obtain ⟨q, hq⟩ := metE_at hm
        refine SxSem.look intK 1 rfl Try.underlying81 rfl rfl rfl (intK_ok _) (.inl ⟨q, _, hq, ?_⟩)
        ((try refine sx_use ?_); (repeat (refine SxNew.mk fun _ => ?_; (try refine sx_use ?_))))
        refine SxRound.mk (i + 1) [1, 2, 3, 4, 5, 6, 7, 8] rfl (by
          (try dsimp only)
          rw [st_no hb hno, orL_false _ _ (by rw [sl1, kp_len]; exact hlt)]
          skip
          rfl) rfl hlt (by omega)
      · refine SxSem.look intK 1 rfl Try.underlying81 rfl rfl rfl (intK_ok _) (.inr ⟨metE_no hm, _, rfl, ?_⟩)
        ((try refine sx_use ?_); (repeat (refine SxNew.mk fun _ => ?_; (try refine sx_use ?_))))
        refine SxLenV.map (K := intK) 1 rfl Try.underlying81 rfl ?_
        rw [metE_len]
        ((try refine sx_use ?_); (repeat (refine SxNew.mk fun _ => ?_; (try refine sx_use ?_))))
        refine SxIf.dec (fun h2 => ?_) (fun h2 => ?_)
        · have hyes : keyOf 2 i b ∉ (st 2 (p.at 2) s i).1 ∧ ((st 2 (p.at 2) s i).1.length : Int) < p.at 2 := ⟨hm, h2⟩
          ((try refine sx_use ?_); (repeat (refine SxNew.mk fun _ => ?_; (try refine sx_use ?_))))
          refine SxSem.upd (K := intK) 1 (.inl rfl) Try.underlying81 rfl rfl rfl rfl (intK_ok _) (.inr ⟨metE_no hm, ?_⟩)
          ((try refine sx_use ?_); (repeat (refine SxNew.mk fun _ => ?_; (try refine sx_use ?_))))
          refine SxIA.row 4 _ _ _ rfl i rfl hlt fun g' hg' => ?_
          obtain rfl : gk = g' := by simpa using hg'
          ((try refine sx_use ?_); (repeat (refine SxNew.mk fun _ => ?_; (try refine sx_use ?_))))
          (try refine SxP.mk rfl ?_)
          refine SxSt.row 4 rfl rfl (j := i) (by omega) (by rw [List.length_map, orL_len, kp_len]; show i + 1 ≤ _; omega) rfl (cs' := (orL (kp p s 2) ((st 2 (p.at 2) s i).2 ++ [true])).map .bool) (by
            rw [orL_true _ _ (by rw [sl1, kp_len]; exact hlt), sl1, List.map_set]
            exact splice_at (by rw [List.length_map, orL_len, kp_len]; exact hlt) _) ?_
          ((try refine sx_use ?_); (repeat (refine SxNew.mk fun _ => ?_; (try refine sx_use ?_))))
          refine SxRound.mk (i + 1) [1, 2, 3, 4, 5, 6, 7, 8] rfl (by
            (try dsimp only)
            rw [st_yes hb hyes, metE_snoc]
            skip
            rfl) rfl hlt (by omega)
        · have hno : ¬ (keyOf 2 i b ∉ (st 2 (p.at 2) s i).1 ∧ ((st 2 (p.at 2) s i).1.length : Int) < p.at 2) := fun hh => h2 hh.2
          ((try refine sx_use ?_); (repeat (refine SxNew.mk fun _ => ?_; (try refine sx_use ?_))))
          refine SxRound.mk (i + 1) [1, 2, 3, 4, 5, 6, 7, 8] rfl (by
            (try dsimp only)
            rw [st_no hb hno, orL_false _ _ (by rw [sl1, kp_len]; exact hlt)]
            skip
            rfl) rfl hlt (by omega)
    · obtain rfl : i = s.length := by omega
      ((try refine sx_use ?_); (repeat (refine SxNew.mk fun _ => ?_; (try refine sx_use ?_))))
      exact SxRound.mk (2 + 1) [2, 3, 4, 5, 6, 7] rfl rfl rfl (by omega) (by omega)
  · ((try refine sx_use ?_); (repeat (refine SxNew.mk fun _ => ?_; (try refine sx_use ?_))))
    refine SxIA.row 0 _ _ _ rfl 3 rfl (by omega) fun g' hg' => ?_
    obtain rfl : gr = g' := by simpa using hg'
    ((try refine sx_use ?_); (repeat (refine SxNew.mk fun _ => ?_; (try refine sx_use ?_))))
    refine SxLdN.row 0 rfl rfl rfl (vs := [.func (.func 52) #[] #[], .int .i64 (p.at 3)]) rfl rfl ?_
    ((try refine sx_use ?_); (repeat (refine SxNew.mk fun _ => ?_; (try refine sx_use ?_))))
    rename_i gq
    refine SxSem.make intK rfl fun gm => ?_
    ((try refine sx_use ?_); (repeat (refine SxNew.mk fun _ => ?_; (try refine sx_use ?_))))
    refine SxCode.loop (σ := Nat) [85] [86, 87, 88, 89, 18, 17, 90, 91, 92, 93, 19, 94, 95, 96, 97, 98, 99, 100, 101, 102, 103, 104, 105, 106, 107, 108, 109, 110, 85] (fun i => [.int .i64 (i : Nat)])
      (fun i => [mapE intK gm (metE (st 3 (p.at 3) s i).1), .blk gq 79 [.func (.func 52) #[] #[], .int .i64 (p.at 3)], ruE p gr gn, .row (some ⟨gk, 0, none⟩) s.length s.length 4 1 ((orL (kp p s 3) (st 3 (p.at 3) s i).2).map .bool), .blk gn 3 [.int .i64 (s.length : Nat)], .row sa s.length sc 55 2 (bkE.fl s), .row none 0 0 55 2 [], .row none 0 0 55 2 []])
      (fun i => i ≤ s.length) (fun i => s.length - i) 0 [0, 1, 2, 3, 4, 5, 6, 7] rfl rfl (by show some _ = some _; rw [show (st 3 (p.at 3) s 0).2 = [] from rfl, orL_nil]; rfl) rfl (Nat.zero_le _) ?_
    rintro i hi
    dsimp only
    obtain ⟨sl1, sl2⟩ := st_len 3 (p.at 3) s i hi
    ((try refine sx_use ?_); (repeat (refine SxNew.mk fun _ => ?_; (try refine sx_use ?_))))
    refine SxIf.dec (fun h => ?_) (fun h => ?_)
    · have hlt : i < s.length := by omega
      obtain ⟨b, hb⟩ : ∃ b, s[i]? = some b := ⟨s[i], by simp [hlt]⟩
      have hbd := hsd b (List.mem_of_getElem? hb)
      obtain ⟨ga, rfl⟩ := hsa (by omega)
      ((try refine sx_use ?_); (repeat (refine SxNew.mk fun _ => ?_; (try refine sx_use ?_))))
      refine SxIA.row 5 _ _ _ rfl i rfl hlt fun g' hg' => ?_
      obtain rfl : ga = g' := by simpa using hg'
      ((try refine sx_use ?_); (repeat (refine SxNew.mk fun _ => ?_; (try refine sx_use ?_))))
      refine SxLdN.row 5 rfl rfl rfl (vs := bkC b) rfl (rowBk_at hb) ?_
      ((try refine sx_use ?_); (repeat (refine SxNew.mk fun _ => ?_; (try refine sx_use ?_))))
      refine SxCall.quiet (sp4_any b hbd) ?_
      rw [show monI (dn b) = keyOf 3 i b from rfl]
      ((try refine sx_use ?_); (repeat (refine SxNew.mk fun _ => ?_; (try refine sx_use ?_))))
      by_cases hm : keyOf 3 i b ∈ (st 3 (p.at 3) s i).1
      · have hno : ¬ (keyOf 3 i b ∉ (st 3 (p.at 3) s i).1 ∧ ((st 3 (p.at 3) s i).1.length : Int) < p.at 3) := fun hh => hh.1 hm
        obtain ⟨q, hq⟩ := metE_at hm
        refine SxSem.look intK 1 rfl Try.underlying81 rfl rfl rfl (intK_ok _) (.inl ⟨q, _, hq, ?_⟩)
        ((try refine sx_use ?_); (repeat (refine SxNew.mk fun _ => ?_; (try refine sx_use ?_))))
        refine SxRound.mk (i + 1) [1, 2, 3, 4, 5, 6, 7, 8] rfl (by
          (try dsimp only)
          rw [st_no hb hno, orL_false _ _ (by rw [sl1, kp_len]; exact hlt)]
          skip
          rfl) rfl hlt (by omega)
      · refine SxSem.look intK 1 rfl Try.underlying81 rfl rfl rfl (intK_ok _) (.inr ⟨metE_no hm, _, rfl, ?_⟩)
        ((try refine sx_use ?_); (repeat (refine SxNew.mk fun _ => ?_; (try refine sx_use ?_))))
        refine SxLenV.map (K := intK) 1 rfl Try.underlying81 rfl ?_
        rw [metE_len]
        ((try refine sx_use ?_); (repeat (refine SxNew.mk fun _ => ?_; (try refine sx_use ?_))))
        refine SxIf.dec (fun h2 => ?_) (fun h2 => ?_)
        · have hyes : keyOf 3 i b ∉ (st 3 (p.at 3) s i).1 ∧ ((st 3 (p.at 3) s i).1.length : Int) < p.at 3 := ⟨hm, h2⟩
          ((try refine sx_use ?_); (repeat (refine SxNew.mk fun _ => ?_; (try refine sx_use ?_))))
          refine SxSem.upd (K := intK) 1 (.inl rfl) Try.underlying81 rfl rfl rfl rfl (intK_ok _) (.inr ⟨metE_no hm, ?_⟩)
          ((try refine sx_use ?_); (repeat (refine SxNew.mk fun _ => ?_; (try refine sx_use ?_))))
          refine SxIA.row 4 _ _ _ rfl i rfl hlt fun g' hg' => ?_
          obtain rfl : gk = g' := by simpa using hg'
          ((try refine sx_use ?_); (repeat (refine SxNew.mk fun _ => ?_; (try refine sx_use ?_))))
          (try refine SxP.mk rfl ?_)
          refine SxSt.row 4 rfl rfl (j := i) (by omega) (by rw [List.length_map, orL_len, kp_len]; show i + 1 ≤ _; omega) rfl (cs' := (orL (kp p s 3) ((st 3 (p.at 3) s i).2 ++ [true])).map .bool) (by
            rw [orL_true _ _ (by rw [sl1, kp_len]; exact hlt), sl1, List.map_set]
            exact splice_at (by rw [List.length_map, orL_len, kp_len]; exact hlt) _) ?_
          ((try refine sx_use ?_); (repeat (refine SxNew.mk fun _ => ?_; (try refine sx_use ?_))))
          refine SxRound.mk (i + 1) [1, 2, 3, 4, 5, 6, 7, 8] rfl (by
            (try dsimp only)
            rw [st_yes hb hyes, metE_snoc]
            skip
            rfl) rfl hlt (by omega)
        · have hno : ¬ (keyOf 3 i b ∉ (st 3 (p.at 3) s i).1 ∧ ((st 3 (p.at 3) s i).1.length : Int) < p.at 3) := fun hh => h2 hh.2
          ((try refine sx_use ?_); (repeat (refine SxNew.mk fun _ => ?_; (try refine sx_use ?_))))
          refine SxRound.mk (i + 1) [1, 2, 3, 4, 5, 6, 7, 8] rfl (by
            (try dsimp only)
            rw [st_no hb hno, orL_false _ _ (by rw [sl1, kp_len]; exact hlt)]
            skip
            rfl) rfl hlt (by omega)
    · obtain rfl : i = s.length := by omega
      ((try refine sx_use ?_); (repeat (refine SxNew.mk fun _ => ?_; (try refine sx_use ?_))))
      exact SxRound.mk (3 + 1) [2, 3, 4, 5, 6, 7] rfl rfl rfl (by omega) (by omega)
  · obtain ⟨f, hf⟩ : ∃ f, f = kp p s 4 := ⟨_, rfl⟩
    have hfl : f.length = s.length := by rw [hf]; exact kp_len p s 4
    rw [← hf]
    ((try refine sx_use ?_); (repeat (refine SxNew.mk fun _ => ?_; (try refine sx_use ?_))))
    refine SxCode.loop (σ := Nat × (Option Addr × Nat) × (Option Addr × Nat)) [114, 4, 5] [115, 116, 117, 118, 21, 20, 119, 120, 121, 122, 123, 124, 125, 126, 4, 127, 128, 129, 130, 5, 131, 114] (fun t => [.int .i64 (t.1 : Nat), .slice t.2.1.1 (pick2 s f t.1).1.length t.2.1.2, .slice t.2.2.1 (pick2 s f t.1).2.length t.2.2.2])
      (fun t => [.row (some ⟨gk, 0, none⟩) s.length s.length 4 1 (f.map .bool), .row sa s.length sc 55 2 (bkE.fl s), .row t.2.1.1 (pick2 s f t.1).1.length t.2.1.2 55 2 (bkE.fl (pick2 s f t.1).1), .row t.2.2.1 (pick2 s f t.1).2.length t.2.2.2 55 2 (bkE.fl (pick2 s f t.1).2)])
      (fun t => t.1 ≤ s.length) (fun t => s.length - t.1) (0, (none, 0), (none, 0)) [1, 3, 4, 5] rfl rfl rfl rfl (Nat.zero_le _) ?_
    rintro ⟨i, ⟨k1, k2⟩, ⟨g1, g2⟩⟩ hi
    dsimp only at hi ⊢
    have hpl := pick2_len s f i hi
    obtain ⟨A, hA⟩ : ∃ A, A = (pick2 s f i).1 := ⟨_, rfl⟩
    obtain ⟨B, hB⟩ : ∃ B, B = (pick2 s f i).2 := ⟨_, rfl⟩
    rw [← hA, ← hB] at hpl ⊢
    ((try refine sx_use ?_); (repeat (refine SxNew.mk fun _ => ?_; (try refine sx_use ?_))))
    refine SxIf.dec (fun h => ?_) (fun h => ?_)
    · have hlt : i < s.length := by omega
      obtain ⟨b, hb⟩ : ∃ b, s[i]? = some b := ⟨s[i], by simp [hlt]⟩
      obtain ⟨ga, rfl⟩ := hsa (by omega)
      ((try refine sx_use ?_); (repeat (refine SxNew.mk fun _ => ?_; (try refine sx_use ?_))))
      refine SxIA.row 1 _ _ _ rfl i rfl hlt fun g' hg' => ?_
      obtain rfl : ga = g' := by simpa using hg'
      ((try refine sx_use ?_); (repeat (refine SxNew.mk fun _ => ?_; (try refine sx_use ?_))))
      refine SxLdN.row 1 rfl rfl rfl (vs := bkC b) rfl (rowBk_at hb) ?_
      ((try refine sx_use ?_); (repeat (refine SxNew.mk fun _ => ?_; (try refine sx_use ?_))))
      refine SxIA.row 1 _ _ _ rfl i rfl hlt fun g' hg' => ?_
      obtain rfl : gk = g' := by simpa using hg'
      ((try refine sx_use ?_); (repeat (refine SxNew.mk fun _ => ?_; (try refine sx_use ?_))))
      refine SxLd.row 1 rfl rfl rfl (v := .bool (f.getD i false)) (by rw [Nat.mul_one]; exact map_bool_at (by omega)) ?_
      ((try refine sx_use ?_); (repeat (refine SxNew.mk fun _ => ?_; (try refine sx_use ?_))))
      refine ⟨fun hf1 => ?_, fun hf1 => ?_⟩
      · have hy := pick2_yes hb hf1
        rw [← hA, ← hB] at hy
        ((try refine sx_use ?_); (repeat (refine SxNew.mk fun _ => ?_; (try refine sx_use ?_))))
        refine SxApp.mk 4 rfl 0 (.inr (.inr (.inr ⟨by decide, _, rfl⟩))) (vs := bkC b) (m := 1) rfl rfl (by unfold maxLen; omega) (by omega) (cs' := bkE.fl (A ++ [b])) (by rw [bkE.fl_append, bkE.fl_one]; rfl) fun x3 c3 => ?_
        ((try refine sx_use ?_); (repeat (refine SxNew.mk fun _ => ?_; (try refine sx_use ?_))))
        exact SxRound.mk (i + 1, (x3, c3), (g1, g2)) [2, 3, 4, 5] (by dsimp only; rw [hy, List.length_append]; rfl) (by dsimp only; rw [hy, List.length_append]; rfl) rfl hlt (by dsimp only; omega)
      · have hy := pick2_no hb hf1
        rw [← hA, ← hB] at hy
        ((try refine sx_use ?_); (repeat (refine SxNew.mk fun _ => ?_; (try refine sx_use ?_))))
        refine SxApp.mk 5 rfl 0 (.inr (.inr (.inr ⟨by decide, _, rfl⟩))) (vs := bkC b) (m := 1) rfl rfl (by unfold maxLen; omega) (by omega) (cs' := bkE.fl (B ++ [b])) (by rw [bkE.fl_append, bkE.fl_one]; rfl) fun x3 c3 => ?_
        ((try refine sx_use ?_); (repeat (refine SxNew.mk fun _ => ?_; (try refine sx_use ?_))))
        exact SxRound.mk (i + 1, (k1, k2), (x3, c3)) [2, 3, 4, 5] (by dsimp only; rw [hy, List.length_append]; rfl) (by dsimp only; rw [hy, List.length_append]; rfl) rfl hlt (by dsimp only; omega)
    · obtain rfl : i = s.length := by omega
      ((try refine sx_use ?_); (repeat (refine SxNew.mk fun _ => ?_; (try refine sx_use ?_))))
      rw [← hA, ← hB]
      exact SxDone.mk fun w' hs => ⟨k1, k2, g1, g2, rfl, hs.newRow 2 rfl, hs.newRow 3 rfl⟩
end Go.Proofs.Ytiobcjahgmkmiaa
