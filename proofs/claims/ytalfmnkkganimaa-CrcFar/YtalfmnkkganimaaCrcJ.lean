/- The walks over crc: do, twice, Join. -/
import Derived.Test.YtalfmnkkganimaaCrcU
import Derived.Test.YtalfmnkkganimaaOwnC
namespace Go.Proofs.Ytalfmnkkganimaa
open Go.RowKit

/-- What a table of steps does to a number. -/
def doTo (f : Nat → Nat) (x : Nat) : Nat → Nat
  | 0 => 0
  | i + 1 => doTo f x i ^^^ (if x.testBit i then f i else 0)
theorem doTo_lt (f : Nat → Nat) (x i : Nat) (hf : ∀ j, f j < 4294967296) : doTo f x i < 4294967296 := by
  induction i with
  | zero => simp [doTo]
  | succ i ih => simp only [doTo]; exact xor_lt32 ih (by split; exact hf i; omega)
set_option maxHeartbeats 1000000 in
theorem do_any (g : Nat) (f : Nat → Nat) (hf : ∀ j, f j < 4294967296) (x : Nat) (hx : x < 4294967296) (w : World) (hb : Blk w g 51 (tab 32 fun j => .int .u32 (f j : Nat))) :
    Calls Try.prog 33 #[.pointer (some ⟨g, 0, none⟩), .int .u32 x] w fun e w' => e = .returned (.int .u32 (doTo f x 32 : Nat)) ∧ w = w' := by
  have HF := Go.Lib.hid hf; clear hf
  go_enter Try.func33, Try.ntmps33
  go_wp2_with fail
  go_loop [5, 6, 7] (fun y _ i => ∃ k : Nat, k ≤ 32 ∧ i = .int .i64 k ∧ y = .int .u32 (doTo f x k : Nat)) (fun _ _ i => 32 - (intOf i).toNat)
  case atStart => exact ⟨0, by omega, rfl, rfl⟩
  case round =>
    obtain ⟨k, hk, rfl, rfl⟩ := hrel
    by_cases hlt : k < 32
    · have hy := doTo_lt f x k HF.out
      have HS : Hid (doTo f x (k + 1) = doTo f x k ^^^ (if x.testBit k then f k else 0)) := rfl
      generalize doTo f x k = y at hy HS
      have hfk := HF.out k
      have hc := hb.at k hlt
      have hbit := u32_bit x k hx
      obtain ⟨b, hbb⟩ : ∃ b, x.testBit k = b := ⟨_, rfl⟩
      rw [hbb] at hbit HS
      clear hbb
      generalize f k = fk at hfk hc HS
      cases b
      · rw [if_neg (by decide)] at hbit HS
        go_wp2_with fail
        go_round
        case rel => exact ⟨k + 1, by omega, by go_num, by rw [HS.out, Nat.xor_zero]⟩
        case measure => simp [intOf]; omega
      · rw [if_pos rfl] at hbit HS
        go_wp2_with fail
        go_round
        case rel => exact ⟨k + 1, by omega, by go_num, by rw [HS.out]⟩
        case measure => simp [intOf]; omega
    · obtain rfl : k = 32 := by omega
      go_wp2_with fail
      go_ret
      exact ⟨rfl, rfl⟩

def twiceF (f : Nat → Nat) (i : Nat) : Nat := doTo f (f i) 32
theorem twiceF_lt (f : Nat → Nat) (hf : ∀ j, f j < 4294967296) (i : Nat) : twiceF f i < 4294967296 := doTo_lt f _ _ hf
set_option maxHeartbeats 1000000 in
theorem twice_any (g : Nat) (f : Nat → Nat) (hf : ∀ j, f j < 4294967296) (w : World) (hb : Blk w g 51 (tab 32 fun j => .int .u32 (f j : Nat))) :
    Calls Try.prog 32 #[.pointer (some ⟨g, 0, none⟩)] w fun e w' => e = .returned (.agg (tab 32 fun j => .int .u32 (twiceF f j : Nat)).toArray) ∧ Below w.heap.size w w' := by
  have HF := Go.Lib.hid hf; clear hf
  have hgl := hb.lt
  go_enter Try.func32, Try.ntmps32
  go_wp2_with (with_reducible refine wpList_alloc_blk (o := ⟨some 2, _, _, _, _, _⟩) rfl 51 rfl (.agg (tab 32 fun _ => .int .u32 0).toArray) (by kernel_rfl) ?_)
  intro w1 hb1 hbel1 hsz1
  go_wp2_with (with_reducible refine wpList_alloc_blk (o := ⟨some 3, _, _, _, _, _⟩) rfl 51 rfl (.agg (tab 32 fun _ => .int .u32 0).toArray) (by kernel_rfl) ?_)
  intro w2 hb2 hbel2 hsz2
  have hb1' := hb1.kept hbel2
  have hbel3 := kp_step hbel1 hbel2
  have hbx := hb.kept hbel3
  have hg1 : g < w.heap.size := hgl
  have hg2 : w.heap.size < w1.heap.size := hb1.lt
  have HW : Hid (∀ B, Below B w w2 → True) := fun _ _ => trivial
  clear hb1 hbel1 hbel2 hb hsz1 hsz2
  obtain ⟨B, hB⟩ : ∃ B, w.heap.size = B := ⟨_, rfl⟩
  generalize w1.heap.size = gp at hb2 hg2 ⊢
  have HB := Go.Lib.hid hB
  rw [hB] at hb1' hg1 hg2 hbel3
  simp only [hB]
  clear hB hgl
  have hb2' : Blk w2 gp 51 (tab 32 fun j => .int .u32 ((if j < 0 then twiceF f j else 0 : Nat) : Int)) := hb2
  have hb1'' : Blk w2 B 51 (tab 32 fun _ => .int .u32 0) := hb1'
  clear hb2 hb1'
  go_wp2_with fail
  go_loopw [4, 5] (fun _ i wr => ∃ k : Nat, k ≤ 32 ∧ i = .int .i64 k ∧ Blk wr gp 51 (tab 32 fun j => .int .u32 ((if j < k then twiceF f j else 0 : Nat) : Int)) ∧ Blk wr B 51 (tab 32 fun _ => .int .u32 0) ∧ Blk wr g 51 (tab 32 fun j => .int .u32 (f j : Nat)) ∧ Below B w wr) (fun _ i _ => 32 - (intOf i).toNat)
  case atStart => exact ⟨0, by omega, rfl, hb2', hb1'', hbx, hbel3⟩
  case round =>
    obtain ⟨k, hk, rfl, hbr, hbr1, hbrg, hbel⟩ := hrel
    clear hb2' hb1'' hbx hbel3
    by_cases hlt : k < 32
    · have hfk := HF.out k
      have hc := hbrg.at k hlt
      have hcw := hbr.at k hlt
      have hfz := hbr.freeAt k hlt
      rw [if_neg (by omega)] at hcw
      go_wp2_with (go_at_call 33; refine (do_any g f HF.out (f k) hfk _ hbrg).mono ?_; rintro e w' ⟨rfl, rfl⟩)
      go_roundw
      case rel =>
        refine ⟨k + 1, by omega, by go_num, hbr.setTab k _ _ ?_ ?_, hbr1.other (by show gp ≠ B; omega) _, hbrg.other (by show gp ≠ g; omega) _, hbel.setCell (by show B ≤ gp; omega) _⟩
        · rw [if_pos (by omega)]; rfl
        · intro i _ hne
          by_cases h : i < k
          · rw [if_pos h, if_pos (by omega)]
          · rw [if_neg h, if_neg (by omega)]
      case measure => simp [intOf]; omega
    · obtain rfl : k = 32 := by omega
      have hbr' : Blk wr gp 51 (tab 32 fun j => .int .u32 (twiceF f j : Nat)) := hbr.congr (tab_congr fun j hj => by rw [if_pos hj])
      clear hbr hbrg
      go_wp2_with (first
        | (with_reducible refine wpList_load_tab (o := ⟨some 18, _, _, _, _, _⟩) rfl 51 _ rfl gp 51 rfl 32 _ _ hbr' Try.underlying51 rfl (by kernel_rfl) ?_)
        | (with_reducible refine wpList_store_tab (o := ⟨none, .store 51 (.tmp 2) (.tmp 18), _, _, _, _⟩) rfl 51 _ _ rfl B 51 32 _ _ rfl rfl hbr1 (by kernel_rfl) (fun _ => rfl) ?_))
      intro w4 hb4 ho4
      go_wp2_with fail
      refine bodyPost_ret (results_cell_tab rfl _ _ B 51 32 _ _ rfl hb4 Try.underlying51 rfl (by kernel_rfl)) rfl ⟨rfl, ?_⟩
      rw [HB.out]
      exact hbel.trans (ho4.below (Nat.le_refl _))
end Go.Proofs.Ytalfmnkkganimaa
