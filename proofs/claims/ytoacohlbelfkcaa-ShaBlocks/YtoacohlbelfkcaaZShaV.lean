/- The law of blocks. -/
import Derived.Test.YtoacohlbelfkcaaZShaT
import Derived.Test.YtoacohlbelfkcaaZOpen
import Derived.Test.YtoacohlbelfkcaaZFrame
namespace Go.Proofs.Ytoacohlbelfkcaa
open Go.RowKit

theorem st_of_fit (w : World) (cs : List Value) (h : FitR Try.prog w 4 [.int .u32, .int .u32, .int .u32, .int .u32, .int .u32, .int .u32, .int .u32, .int .u32] cs) : ∃ s : Nat → Nat, (∀ j, s j < 4294967296) ∧ cs = tab 8 (stV s) := by
  have one : ∀ i, i < 8 → ∃ n : Nat, cs[i]? = some (.int .u32 (n : Nat)) ∧ n < 4294967296 := by
    intro i hi
    have hl := h.1
    have hlt : i < cs.length := by rw [hl]; exact hi
    have hk : ([.int .u32, .int .u32, .int .u32, .int .u32, .int .u32, .int .u32, .int .u32, .int .u32] : List CK)[i]? = some (.int .u32) := by
      match i, hi with
      | 0, _ => rfl
      | 1, _ => rfl
      | 2, _ => rfl
      | 3, _ => rfl
      | 4, _ => rfl
      | 5, _ => rfl
      | 6, _ => rfl
      | 7, _ => rfl
    have hf := h.2 i _ cs[i] hk (by simp [hlt])
    obtain ⟨n, hn, hwf⟩ : ∃ n, cs[i] = .int .u32 n ∧ (Lit.int .u32 n).wf = true := by simpa [FitK] using hf
    obtain ⟨x, hx, rfl⟩ := nat_u32 hwf
    exact ⟨x, by rw [List.getElem?_eq_getElem hlt, hn], hx⟩
  have hch : ∀ i, ∃ n : Nat, n < 4294967296 ∧ (i < 8 → cs[i]? = some (.int .u32 (n : Nat))) := by
    intro i
    by_cases hi : i < 8
    · obtain ⟨n, h1, h2⟩ := one i hi; exact ⟨n, h2, fun _ => h1⟩
    · exact ⟨0, by decide, fun h => absurd h hi⟩
  refine ⟨fun i => (hch i).choose, fun i => (hch i).choose_spec.1, ?_⟩
  apply List.ext_getElem?
  intro i
  by_cases hi : i < 8
  · rw [(hch i).choose_spec.2 hi, tab_get _ _ _ hi]; rfl
  · rw [List.getElem?_eq_none (by have := h.1; simp at this; omega), List.getElem?_eq_none (by rw [tab_length]; omega)]
/-- Eight words. -/
def st8 (s : Nat → Nat) : List Value := [.int .u32 (s 0 : Nat), .int .u32 (s 1 : Nat), .int .u32 (s 2 : Nat), .int .u32 (s 3 : Nat), .int .u32 (s 4 : Nat), .int .u32 (s 5 : Nat), .int .u32 (s 6 : Nat), .int .u32 (s 7 : Nat)]
theorem st8_eq (s : Nat → Nat) : tab 8 (stV s) = st8 s := rfl
theorem st8_at (s : Nat → Nat) {i : Nat} (hi : i < 8) : (st8 s)[i]? = some (.int .u32 (s i : Nat)) := by rw [← st8_eq, tab_get _ _ _ hi]; rfl
theorem st8_ok (st : Nat → Nat) : allK (reps 8 [.int .u32]) (st8 st) = true := rfl
theorem Block_yes8 (s : Nat → Nat) (hs : ∀ j, s j < 4294967296) (str : ByteArray) (hl : str.size = 64) (w : World) : Calls Try.prog 15 #[.agg (st8 s).toArray, .string str] w fun e w' => e = .returned (.tuple #[.agg (st8 (blockF str.data.toList s)).toArray, .int .i64 0]) ∧ Below w.heap.size w w' := Block_yes s hs str hl w
theorem Block_no8 (s : Nat → Nat) (str : ByteArray) (hs : str.size ≤ maxLen) (hl : str.size ≠ 64) (w : World) : Calls Try.prog 15 #[.agg (st8 s).toArray, .string str] w fun e w' => e = .returned (.tuple #[.agg (st8 fun _ => 0).toArray, .int .i64 1]) ∧ Below w.heap.size w w' := Block_no s str hs hl w
theorem Start8 (w : World) : Calls Try.prog 17 #[] w fun e w' => e = .returned (.agg (st8 hF).toArray) ∧ Below w.heap.size w w' := Start_any w
section
variable {W : World} {M : List Nat} {H : Hp} {A : Value → Hp → Prop}
theorem SxCall.rstart (h : ∀ g, A (.slice (some ⟨g, 0, none⟩) 8 8) (.blk g 36 (st8 hF) :: H)) : SxCall SX W M 18 #[] H A :=
  ⟨fun w hs => (RStart_any w).mono fun e w' ⟨g, he, hb, hg, hbel⟩ => ⟨_, _, he, hs.cons (Below.toGrown hbel) (e := .blk g 36 (st8 hF)) hb (fun b hb => by rw [show b = g from hb]; exact hg), h g⟩⟩
theorem SxCall.rblock (p : Nat) {s : Nat → Nat} {ao : Option Addr} {cp e : Nat} (hs : ∀ j, s j < 4294967296) (str : ByteArray) (hl : str.size = 64) (hp : H[p]? = some (.row ao 8 cp e 1 (st8 s))) (h : ∀ ao' cap', (0 < 8 → ∃ g, ao' = some ⟨g, 0, none⟩) → A (.slice ao' 8 cap') (.row ao' 8 cap' 36 1 (st8 (blockF str.data.toList s)) :: H)) : SxCall SX W M 16 #[.slice ao 8 cp, .string str] H A :=
  ⟨fun w hw => (RBlock_any s hs str hl ao cp w (hw.rowRd p hp (by rw [maxLen_val]; exact (by decide : 8 ≤ 9223372036854775807)))).mono fun e w' ⟨v, he, ho, hb⟩ => by
    have h1 := ho
    rcases ho.2 with ⟨_, h2⟩ | ⟨g, c, cur, hv, _, _, hnc, _⟩
    · cases h2
    · subst hv
      have hn : NewRow w w' (some ⟨g, 0, none⟩) 8 c 36 1 (st8 (blockF str.data.toList s)) := ⟨h1, hb⟩
      exact ⟨_, _, he, hw.addNew hn, h _ _ fun _ => ⟨g, rfl⟩⟩⟩
end
set_option maxHeartbeats 4000000 in
theorem Blocks_st (w : World) (s : Nat → Nat) (hs : ∀ j, s j < 4294967296) (b : ByteArray) (hb : b.size ≤ maxLen) :
    Calls Try.prog 5 #[.agg (st8 s).toArray, .string b] w fun e w' => e = .returned (.bool true) ∧ Below w.heap.size w w' := by
  have h4 := hs 0
  refine sx_fn (S := SX) (M := []) (N := 96) (H0 := []) Try.func5 rfl rfl rfl (Sat.nil _ _) ?_
  have hcs : IntKind.u32.wrap 0 = 0 := by decide
  ((try refine sx_use ?_); (repeat (refine SxNew.mk fun _ => ?_; (try refine sx_use ?_))))
  by_cases hl : b.size = 64
  · have hB := Block_yes8 s hs b hl
    obtain ⟨t, ht⟩ : ∃ t, t = blockF b.data.toList s := ⟨_, rfl⟩
    have hR : ∀ {W : World} {M : List Nat} {H : Hp} {A : Value → Hp → Prop} (p : Nat) {ao : Option Addr} {cp e : Nat} (_ : H[p]? = some (.row ao 8 cp e 1 (st8 s))) (_ : ∀ ao' cap', (0 < 8 → ∃ g, ao' = some ⟨g, 0, none⟩) → A (.slice ao' 8 cap') (.row ao' 8 cap' 36 1 (st8 t) :: H)), SxCall SX W M 16 #[.slice ao 8 cp, .string b] H A := fun p _ _ _ hp h => SxCall.rblock p hs b hl hp (by rw [← ht]; exact h)
    rw [← ht] at hB
    refine SxCall.quiet hB ?_
    ((try refine sx_use ?_); (repeat (refine SxNew.mk fun _ => ?_; (try refine sx_use ?_))))
    refine hR 0 rfl fun ao' cap' hao => ?_
    obtain ⟨go, rfl⟩ := hao (by decide)
    ((try refine sx_use ?_); (repeat (refine SxNew.mk fun _ => ?_; (try refine sx_use ?_))))
    refine SxCall.quiet Start8 ?_
    ((try refine sx_use ?_); (repeat (refine SxNew.mk fun _ => ?_; (try refine sx_use ?_))))
    refine SxCall.rstart fun gs => ?_
    ((try refine sx_use ?_); (repeat (refine SxNew.mk fun _ => ?_; (try refine sx_use ?_))))
    rename_i ba bst bgot brow bstart
    have at8 : ∀ (f : Nat → Nat) (k : Nat), k < 8 → (st8 f)[0 + k * 1]? = some (.int .u32 (f k : Nat)) := fun f k hk => by rw [Nat.mul_one, Nat.zero_add]; exact st8_at f hk
    refine SxCode.loop (σ := Nat) [11, 4] [69, 70, 73, 74, 75, 76, 77, 78, 79, 80, 81, 82, 83, 84, 85, 86, 87, 88, 89, 90, 4, 71, 72, 11] (fun k => [.int .i64 (k : Nat), .bool false]) (fun _ => [.blk gs 36 (st8 hF), .blk bstart 39 (st8 hF), .row (some ⟨go, 0, none⟩) 8 cap' 36 1 (st8 t), .blk bgot 39 (st8 t)]) (fun k => k ≤ 8) (fun k => 8 - k) 0 [0, 1, 2, 4] rfl rfl rfl rfl (Nat.zero_le _) ?_
    rintro k hk
    ((try refine sx_use ?_); (repeat (refine SxNew.mk fun _ => ?_; (try refine sx_use ?_))))
    refine SxIf.dec (fun h => ?_) (fun h => ?_)
    · have hlt : k < 8 := by omega
      ((try refine sx_use ?_); (repeat (refine SxNew.mk fun _ => ?_; (try refine sx_use ?_))))
      refine SxCode.drawAll rfl [] ?_
      ((try refine sx_use ?_); (repeat (refine SxNew.mk fun _ => ?_; (try refine sx_use ?_))))
      refine SxIdx.mk k rfl hlt ?_
      ((try refine sx_use ?_); (repeat (refine SxNew.mk fun _ => ?_; (try refine sx_use ?_))))
      refine SxLd.blk 3 rfl (at8 t k hlt) ?_
      ((try refine sx_use ?_); (repeat (refine SxNew.mk fun _ => ?_; (try refine sx_use ?_))))
      refine SxIA.row 2 _ _ _ rfl k rfl hlt fun g' hg' => ?_
      obtain rfl : go = g' := by simpa using hg'
      ((try refine sx_use ?_); (repeat (refine SxNew.mk fun _ => ?_; (try refine sx_use ?_))))
      refine SxLd.row 2 rfl rfl (j := 0 + k * 1) (by omega) (at8 t k hlt) ?_
      ((try refine sx_use ?_); (repeat (refine SxNew.mk fun _ => ?_; (try refine sx_use ?_))))
      (try refine SxIf.neF rfl ?_)
      (try ((try refine sx_use ?_); (repeat (refine SxNew.mk fun _ => ?_; (try refine sx_use ?_)))))
      refine SxIdx.mk k rfl hlt ?_
      ((try refine sx_use ?_); (repeat (refine SxNew.mk fun _ => ?_; (try refine sx_use ?_))))
      refine SxLd.blk 1 rfl (at8 hF k hlt) ?_
      ((try refine sx_use ?_); (repeat (refine SxNew.mk fun _ => ?_; (try refine sx_use ?_))))
      refine SxIA.ptr gs 0 rfl k rfl hlt ?_
      ((try refine sx_use ?_); (repeat (refine SxNew.mk fun _ => ?_; (try refine sx_use ?_))))
      refine SxLd.blk 0 rfl (at8 hF k hlt) ?_
      ((try refine sx_use ?_); (repeat (refine SxNew.mk fun _ => ?_; (try refine sx_use ?_))))
      (try refine SxIf.neF rfl ?_)
      (try ((try refine sx_use ?_); (repeat (refine SxNew.mk fun _ => ?_; (try refine sx_use ?_)))))
      exact SxRound.mk (k + 1) [0, 1, 2, 3] rfl rfl rfl hlt (by omega)
    · ((try refine sx_use ?_); (repeat (refine SxNew.mk fun _ => ?_; (try refine sx_use ?_))))
      refine SxCall.quiet awake_any ?_
      ((try refine sx_use ?_); (repeat (refine SxNew.mk fun _ => ?_; (try refine sx_use ?_))))
      exact SxDone.mk fun w' hs => ⟨rfl, hs.touch.below⟩
  · refine SxCall.quiet (Block_no8 s b hb hl) ?_
    ((try refine sx_use ?_); (repeat (refine SxNew.mk fun _ => ?_; (try refine sx_use ?_))))
    refine SxRun.eq 3 rfl (ks := reps 8 [.int .u32]) rfl rfl (by kernel_rfl) rfl rfl rfl ?_
    ((try refine sx_use ?_); (repeat (refine SxNew.mk fun _ => ?_; (try refine sx_use ?_))))
    refine SxCall.quiet awake_any ?_
    ((try refine sx_use ?_); (repeat (refine SxNew.mk fun _ => ?_; (try refine sx_use ?_))))
    exact SxDone.mk fun w' hs => ⟨rfl, hs.touch.below⟩
theorem ShaBlocks_law (w : World) (cs : List Value) (h : FitR Try.prog w 4 [.int .u32, .int .u32, .int .u32, .int .u32, .int .u32, .int .u32, .int .u32, .int .u32] cs) (b : ByteArray) (hb : b.size ≤ maxLen) :
    Calls Try.prog 5 #[.agg cs.toArray, .string b] w fun e w' => e = .returned (.bool true) ∧ Below w.heap.size w w' := by
  obtain ⟨s, hs, rfl⟩ := st_of_fit w cs h
  exact Blocks_st w s hs b hb
end Go.Proofs.Ytoacohlbelfkcaa
