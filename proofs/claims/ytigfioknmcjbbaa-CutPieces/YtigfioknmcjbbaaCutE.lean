/- The walks over the cutter's End, Left, and package cut's Cut. -/
import Derived.Test.YtigfioknmcjbbaaCutD
namespace Go.Proofs.Ytigfioknmcjbbaa
open Go.RowKit

theorem loop_nil (s : ByteArray) : ∀ (n i : Nat) (r : List UInt8), s.size - i = n → (ByteArray.toList.loop s i r).length = r.length + (s.size - i) := by
  intro n
  induction n with
  | zero => intro i r h; unfold ByteArray.toList.loop; rw [if_neg (by omega)]; simp; omega
  | succ n ih => intro i r h; unfold ByteArray.toList.loop; rw [if_pos (by omega), ih (i+1) _ (by omega)]; simp; omega
theorem tl_len (s : ByteArray) : s.toList.length = s.size := by
  unfold ByteArray.toList
  rw [loop_nil s _ 0 [] rfl]; simp
theorem tl_emp (s : ByteArray) (h : 0 < s.size) : s.toList.isEmpty = false := by
  have := tl_len s
  cases hh : s.toList with
  | nil => rw [hh] at this; simp at this; omega
  | cons a l => rfl
theorem extract_none (s : ByteArray) : s.extract s.size s.size = { data := #[] } := by
  apply ByteArray.ext
  simp
theorem extract_all (s : ByteArray) : s.extract 0 s.size = s := by
  apply ByteArray.ext
  simp
set_option maxHeartbeats 4000000 in
theorem End_no (g gr : Nat) (c : Nat → Int) (at_ back : Nat) (l : List UInt8) (w : World) (hst : CutS w g gr c { data := #[] } at_ back l) :
    Calls Try.prog 20 #[.pointer (some ⟨g, 0, none⟩)] w fun e w' => e = .returned (.slice none 0 0) ∧ Below w.heap.size w w' := by
  have cLeft : w.cell? ⟨g, 14, none⟩ = some (.string { data := #[] }) := hst.1.at 14 (by omega)
  go_enter Try.func20, Try.ntmps20
  go_wp2_with (go_at_call 29; refine (made_any g gr c _ at_ back l _ hst).mono ?_; rintro e w1 ⟨rfl, rfl⟩)
  go_ret
  exact ⟨rfl, Below.refl _ _⟩
set_option maxHeartbeats 4000000 in
theorem End_any (g gr : Nat) (c : Nat → Int) (s : ByteArray) (hs : s.size ≤ 1000000) (h0 : 0 < s.size) (at_ back : Nat) (l : List UInt8) (w : World) (hst : CutS w g gr c s at_ back l) :
    Calls Try.prog 20 #[.pointer (some ⟨g, 0, none⟩)] w fun e w' => ∃ g2, e = .returned (.slice (some ⟨g2, 0, none⟩) 1 1) ∧ Blk w' g2 9 [.string s] ∧ w.heap.size ≤ g2 ∧ CutS w' g gr c { data := #[] } 0 0 [] ∧ Keep2 w.heap.size g gr w w' := by
  have cLeft : w.cell? ⟨g, 14, none⟩ = some (.string s) := hst.1.at 14 (by omega)
  have hne := tl_emp s h0
  have hx := extract_all s
  have HX := Go.Lib.hid hx
  clear hx
  go_enter Try.func20, Try.ntmps20
  go_wp2_with (first
    | (go_at_call 29; refine (made_any g gr c _ at_ back l _ hst).mono ?_; rintro e w1 ⟨rfl, rfl⟩)
    | (go_at_call 30; refine (take_any g gr c s hs at_ back l s.size (Nat.le_refl _) _ hst).mono ?_; rw [HX.out]; rintro e w3 ⟨rfl, hst4, ho4⟩))
  go_ret
  rw [extract_none] at hst4
  have := ho4.size
  exact ⟨w3.heap.size, rfl, (Blk.new w3 _ _).congr rfl, by omega, ⟨hst4.1.alloc _, hst4.2.1.alloc _, hst4.2.2⟩, ho4.keep.trans (keep_below ((Below.refl _ _).alloc (by omega) _))⟩
theorem CutS.left {w : World} {g gr : Nat} {c : Nat → Int} {s0 : ByteArray} {a b : Nat} {l : List UInt8} (h : CutS w g gr c s0 a b l) (s : ByteArray) : CutS (w.setCell ⟨g, 14, none⟩ (.string s)) g gr c s a b l := by
  refine ⟨(h.1.set 14 (.string s)).congr ?_, h.2.1.other (fun e => h.2.2 e) _, h.2.2⟩
  rw [tab_set]
  refine tab_congr fun j hj => ?_
  unfold cutAt
  by_cases h14 : j = 14
  · subst h14; rfl
  · rw [if_neg h14]
    simp [h14]
set_option maxHeartbeats 4000000 in
theorem Cut_any (c : Nat → Int) (k : Conf4) (hk : k.ok) (hc : conf_is c k) (hm : mayC c = true) (s : ByteArray) (hs : s.size ≤ 1000000) (w : World) :
    Calls Try.prog 11 #[.string s, confA c] w fun e w' => e = .returned (.int .i64 (cutN k s.data.toList : Nat)) ∧ Below w.heap.size w w' := by
  unfold confA
  go_enter Try.func11, Try.ntmps11
  go_wp2_with (with_reducible refine wpList_box_tab (o := ⟨some 3, _, _, _, _, _⟩) rfl 23 _ rfl 13 (confV c) rfl ?_)
  intro w1 hb1 hbel1 hsz1
  go_wp2_with (first
    | (with_reducible refine wpList_load_tab (o := ⟨some 8, _, _, _, _, _⟩) rfl 23 _ rfl w.heap.size 23 rfl 13 (confV c) _ hb1 rfl rfl (by kernel_rfl) ?_)
    | (go_at_call 16; refine (New_any' c hm _).mono ?_; rintro e w2 ⟨g, gr, rfl, hst, hbel, hg1, hg2⟩; have c14 : w2.cell? ⟨g, 14, none⟩ = some (.string { data := #[] }) := hst.1.at 14 (by omega); have f14 := hst.1.freeAt 14 (by omega))
    | (go_at_call 24; refine (next_any g gr c k hk hc s hs 0 0 _ (hst.left s) (Looked.new k hk _)).mono ?_; rintro e w3 ⟨rfl, a3, b3, l3, hst3, ho3, hz3⟩))
  go_ret
  exact ⟨rfl, (kp_step hbel1 hbel).trans (((Only.setCell 14 _).below (by omega)).trans (ho3.below (by omega) (by omega)))⟩
end Go.Proofs.Ytigfioknmcjbbaa
