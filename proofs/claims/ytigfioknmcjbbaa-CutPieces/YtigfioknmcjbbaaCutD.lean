/- The walk over the cutter's Write. -/
import Derived.Test.YtigfioknmcjbbaaCutC
namespace Go.Proofs.Ytigfioknmcjbbaa
open Go.RowKit

/-- s was cut into cs, r is left. -/
inductive Cuts (k : Conf4) (s : ByteArray) : List ByteArray → ByteArray → Prop
  | nil : Cuts k s [] s
  | snoc {cs : List ByteArray} {r : ByteArray} : Cuts k s cs r → 0 < cutN k r.data.toList → Cuts k s (cs ++ [r.extract 0 (cutN k r.data.toList)]) (r.extract (cutN k r.data.toList) r.size)
theorem cutN_le (k : Conf4) (l : List UInt8) : cutN k l ≤ l.length := by
  have h1 := firstM_le k l (min l.length k.mx)
  have h2 := lastB_le k l k.mx
  unfold cutN
  split
  · omega
  · split
    · omega
    · split <;> omega
theorem extract_size (r : ByteArray) (n : Nat) (h : n ≤ r.size) : (r.extract n r.size).size = r.size - n := by simp
theorem Cuts.len {k : Conf4} {s r : ByteArray} {cs : List ByteArray} (h : Cuts k s cs r) : cs.length + r.size ≤ s.size := by
  induction h with
  | nil => simp
  | @snoc cs r h hn ih =>
    have hl := cutN_le k r.data.toList
    have he : r.data.toList.length = r.size := by simp
    rw [extract_size r _ (by omega), List.length_append]
    simp
    omega
theorem firstM_app (k : Conf4) (l r : List UInt8) (m : Nat) (h : m ≤ l.length) : firstM k (l ++ r) m = firstM k l m := by
  induction m with
  | zero => rfl
  | succ m ih =>
    have e : ∀ d, isP (l ++ r) d (m + 1) = isP l d (m + 1) := fun d => by unfold isP; rw [List.take_append_of_le_length h]
    simp only [firstM, e, ih (by omega)]
theorem lastB_app (k : Conf4) (l r : List UInt8) (m : Nat) (h : m ≤ l.length) : lastB k (l ++ r) m = lastB k l m := by
  induction m with
  | zero => rfl
  | succ m ih =>
    have e : ∀ d, isP (l ++ r) d (m + 1) = isP l d (m + 1) := fun d => by unfold isP; rw [List.take_append_of_le_length h]
    simp only [lastB, e, ih (by omega)]
theorem Looked.app {k : Conf4} {l : List UInt8} {at_ back : Nat} (h : Looked k l at_ back) (r : List UInt8) : Looked k (l ++ r) at_ back := by
  obtain ⟨h1, h2, h3, h4⟩ := h
  exact ⟨by rw [firstM_app k l r _ h4]; exact h1, by rw [lastB_app k l r _ h4]; exact h2, h3, by rw [List.length_append]; omega⟩
theorem Looked.new (k : Conf4) (hk : k.ok) (l : List UInt8) : Looked k l 0 0 := ⟨rfl, rfl, by have := hk.1; have := hk.2.1; omega, Nat.zero_le _⟩
/-- Below B, blocks g and h alone may have been written. -/
structure Keep2 (B g h : Nat) (w w' : World) : Prop where
  os : w'.os = w.os
  tape : w'.tape = w.tape
  output : w'.output = w.output
  size : w.heap.size ≤ w'.heap.size
  block : ∀ k, k < B → k ≠ g → k ≠ h → w'.heap[k]? = w.heap[k]?
section
variable {B g h : Nat} {w w' w'' : World}
theorem Keep2.refl : Keep2 B g h w w := ⟨rfl, rfl, rfl, Nat.le_refl _, fun _ _ _ _ => rfl⟩
theorem Keep2.trans (a : Keep2 B g h w w') (b : Keep2 B g h w' w'') : Keep2 B g h w w'' := ⟨b.os.trans a.os, b.tape.trans a.tape, b.output.trans a.output, Nat.le_trans a.size b.size, fun k h0 h1 h2 => (b.block k h0 h1 h2).trans (a.block k h0 h1 h2)⟩
theorem Only2.keep (a : Only2 g h w w') : Keep2 B g h w w' := ⟨a.os, a.tape, a.output, Nat.le_of_eq a.size.symm, fun k _ h1 h2 => a.block k h1 h2⟩
theorem keep_below (a : Below B w w') : Keep2 B g h w w' := ⟨a.os, a.tape, a.output, a.size, fun k h0 _ _ => a.block k h0⟩
theorem Keep2.below {C : Nat} (a : Keep2 B g h w w') (h0 : C ≤ B) (h1 : C ≤ g) (h2 : C ≤ h) : Below C w w' := ⟨a.os, a.tape, a.output, a.size, fun k hk => a.block k (by omega) (by omega) (by omega)⟩
end
theorem CutS.below {w w' : World} {g gr B : Nat} {c : Nat → Int} {s : ByteArray} {at_ back : Nat} {l : List UInt8} (h : CutS w g gr c s at_ back l) (hb : Below B w w') (h1 : g < B) (h2 : gr < B) : CutS w' g gr c s at_ back l :=
  ⟨h.1.below hb h1, h.2.1.below hb h2, h.2.2⟩
/-- What is left behind a Write: all looked at, no chunk in it. -/
def Rests (k : Conf4) (r : ByteArray) (at_ back : Nat) (l : List UInt8) : Prop := cutN k r.data.toList = 0 → at_ = r.size ∧ l = r.data.toList ∧ Looked k r.data.toList at_ back
def leftOf (g : Nat) (w : World) : Nat := match w.cell? ⟨g, 14, none⟩ with | some (.string s) => s.size | _ => 0
theorem leftOf_at {g : Nat} {w : World} {s : ByteArray} (h : w.cell? ⟨g, 14, none⟩ = some (.string s)) : leftOf g w = s.size := by unfold leftOf; rw [h]
set_option maxHeartbeats 4000000 in
theorem Write_any (g gr : Nat) (c : Nat → Int) (k : Conf4) (hk : k.ok) (hc : conf_is c k) (s t : ByteArray) (hs : (s ++ t).size ≤ 1000000) (at_ back : Nat) (w : World) (hst : CutS w g gr c s at_ back (s.data.toList.take at_)) (hlk : Looked k s.data.toList at_ back) :
    Calls Try.prog 17 #[.pointer (some ⟨g, 0, none⟩), .string t] w fun e w' => ∃ v cs r at' back' l, e = .returned v ∧ Cuts k (s ++ t) cs r ∧ cutN k r.data.toList = 0 ∧
      w'.ownsRow w.heap.size 9 1 v cs.length (cs.map .string) ∧ CutS w' g gr c r at' back' l ∧ Rests k r at' back' l ∧ Keep2 w.heap.size g gr w w' := by
  obtain ⟨hb, hr, hgg⟩ := id hst
  have hgl := hb.lt
  have hrl := hr.lt
  have cLeft : w.cell? ⟨g, 14, none⟩ = some (.string s) := hb.at 14 (by omega)
  have f14 := hb.freeAt 14 (by omega)
  have hsz : (s ++ t).size = s.size + t.size := by simp
  have hst2 : CutS (w.setCell ⟨g, 14, none⟩ (.string (s ++ t))) g gr c (s ++ t) at_ back ((s ++ t).data.toList.take at_) := by
    refine ⟨(hb.set 14 (.string (s ++ t))).congr ?_, ?_, hgg⟩
    · rw [tab_set]
      refine tab_congr fun j hj => ?_
      unfold cutAt
      by_cases h14 : j = 14
      · subst h14; rfl
      · rw [if_neg h14]
        simp [h14]
    · have : (s ++ t).data.toList.take at_ = s.data.toList.take at_ := by
        have := hlk.2.2.2
        simp at this
        simp
        rw [List.take_append_of_le_length (by simpa using this)]
      rw [this]
      exact hr.other (fun h => hgg h) _
  have hlk2 : Looked k (s ++ t).data.toList at_ back := by
    have := hlk.app t.data.toList
    simpa using this
  have ho2 : Only g w (w.setCell ⟨g, 14, none⟩ (.string (s ++ t))) := Only.setCell 14 _
  have HS := Go.Lib.hid hst
  have HS2 := Go.Lib.hid hst2
  have HL := Go.Lib.hid hlk2
  clear hst hst2 hlk hlk2 hb hr
  go_enter Try.func17, Try.ntmps17
  go_wp2_with (first
    | (go_at_call 29; refine (made_any g gr c s at_ back _ _ HS.out).mono ?_; rintro e w1 ⟨rfl, rfl⟩)
    | (go_at_call 24; refine (next_any g gr c k hk hc (s ++ t) hs at_ back _ HS2.out HL.out).mono ?_; rintro e w2 ⟨rfl, hn⟩))
  obtain ⟨at2, back2, l2, hst2, hoo2, hz2⟩ := hn
  have hk2 : Keep2 w.heap.size g gr w w2 := (ho2.two (h := gr)).keep.trans hoo2.keep
  obtain ⟨B, hB⟩ : ∃ B, w.heap.size = B := ⟨_, rfl⟩
  have HBB := Go.Lib.hid hB
  rw [hB] at hk2 hgl hrl
  clear hB HS HS2 HL hoo2 ho2 cLeft f14
  have hBw : B ≤ w2.heap.size := by have := hk2.size; have := HBB.out; omega
  go_loopw [5, 6] (fun v i wr => ∃ (cs : List ByteArray) (r : ByteArray) (a b : Nat) (l : List UInt8), i = .int .i64 (cutN k r.data.toList : Nat) ∧ Cuts k (s ++ t) cs r ∧ wr.ownsRow B 9 1 v cs.length (cs.map .string) ∧ CutS wr g gr c r a b l ∧ Rests k r a b l ∧ Keep2 B g gr w wr) (fun _ _ wr => leftOf g wr)
  case atStart => exact ⟨[], s ++ t, at2, back2, l2, rfl, .nil, World.ownsRow_nil _ _ _ _, hst2, hz2, hk2⟩
  case round =>
    obtain ⟨cs, r, a, b, l, rfl, hcuts, hown, hst3, hrest, hkeep⟩ := hrel
    have hlen := hcuts.len
    have hle := cutN_le k r.data.toList
    have hrs : r.data.toList.length = r.size := by simp
    have hBr : B ≤ wr.heap.size := by have := hkeep.size; have := HBB.out; omega
    have hcl : cs.length ≤ 1000000 := by omega
    have hrn : r.size ≤ 1000000 := by omega
    have hmu : leftOf g wr = r.size := leftOf_at (hst3.1.at 14 (by omega))
    have hnr : cutN k r.data.toList ≤ r.size := by omega
    have hxs := extract_size r _ hnr
    have HMU := Go.Lib.hid hmu; have HC := Go.Lib.hid hcuts; have HO := Go.Lib.hid hown; have HT := Go.Lib.hid hst3; have HR := Go.Lib.hid hrest; have HK := Go.Lib.hid hkeep; have HX := Go.Lib.hid hxs
    clear hmu hcuts hown hst3 hrest hkeep hlen hle hrs hst2 hz2 hk2 hBw hxs
    obtain ⟨n, hn⟩ : ∃ n, cutN k r.data.toList = n := ⟨_, rfl⟩
    have HN := Go.Lib.hid hn
    rw [hn] at hnr
    simp only [hn]
    clear hn
    by_cases h0 : 0 < n
    · go_wp2_with (first
        | (go_at_call 30; refine (take_any g gr c r hrn a b l n hnr _ HT.out).mono ?_; rintro e w3 ⟨rfl, hst4, ho4⟩)
        | (at_builtin; refine wpList_append_one _ rfl _ _ 29 rfl B 9 (.string { data := #[] }) 16 Try.underlying29 (by kernel_rfl) rfl _ cs.length _ rfl (owns_only2 HO.out ho4 hgl hrl) (.string (r.extract 0 n)) rfl rfl (by unfold maxLen; omega) (by omega) (by have := ho4.size; omega) ?_))
      intro v' w5 hown5 hbel5 _
      have hst5 := hst4.below hbel5 hgl hrl
      have hk5 := (HK.out.trans ho4.keep).trans (keep_below hbel5)
      have HX5 := Go.Lib.hid (show (r.extract n r.size).size ≤ 1000000 by rw [← HN.out, HX.out]; omega)
      go_wp2_with (go_at_call 24; refine (next_any g gr c k hk hc (r.extract n r.size) HX5.out 0 0 _ (by exact hst5) (Looked.new k hk _)).mono ?_; rintro e w6 ⟨rfl, a6, b6, l6, hst6, ho6, hz6⟩)
      go_roundw
      case rel =>
        refine ⟨cs ++ [r.extract 0 n], r.extract n r.size, a6, b6, l6, (by simp), ?_, ?_, hst6, hz6, hk5.trans ho6.keep⟩
        · have := HC.out.snoc (by rw [HN.out]; exact h0)
          rw [HN.out] at this
          exact this
        · rw [List.length_append, List.map_append]
          exact owns_only2 hown5 ho6 hgl hrl
      case measure =>
        rw [HMU.out, leftOf_at (hst6.1.at 14 (by omega)), ← HN.out, HX.out, HN.out]
        omega
    · obtain rfl : n = 0 := by omega
      go_wp2
      go_ret
      exact ⟨_, cs, r, a, b, l, rfl, HC.out, HN.out, by rw [HBB.out]; exact HO.out, HT.out, HR.out, by rw [HBB.out]; exact HK.out⟩
end Go.Proofs.Ytigfioknmcjbbaa
