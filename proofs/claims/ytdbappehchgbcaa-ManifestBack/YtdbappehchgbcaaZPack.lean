/- The walks over package pack: number, U32; and the document's Num. -/
import Derived.Test.YtdbappehchgbcaaProg
import Derived.Test.YtdbappehchgbcaaZBase
import Derived.Deep.RegionWith
namespace Go.Proofs.Ytdbappehchgbcaa
open Go.RowKit

/-- A number's bytes, the lowest first. -/
def numAt (n j : Nat) : UInt8 := UInt8.ofNat (n / 2 ^ (8 * j) % 256)
def numL (n k : Nat) : List UInt8 := tab k (numAt n)
theorem numAt_toNat (n j : Nat) : (numAt n j).toNat = n / 2 ^ (8 * j) % 256 := by
  unfold numAt; simp
set_option maxHeartbeats 400000 in
theorem number_any (n : Nat) (hn : n < 18446744073709551616) (k : Nat) (hk : k ≤ 8) (w : World) :
    Calls Try.prog 55 #[.int .u64 n, .int .i64 k] w fun e w' => e = .returned (.string ⟨(numL n k).toArray⟩) ∧ Below w.heap.size w w' := by
  go_enter Try.func55, Try.ntmps55
  go_wp2_with (at_make; refine wpList_make_blk _ rfl _ _ 60 rfl 5 (.int .u8 0) 1 Try.underlying60 (by kernel_rfl) rfl k _ rfl rfl rfl (by omega) (by unfold maxLen; omega) ?_)
  intro w1 hb hbel hsz
  go_wp2
  go_loopw [6, 11] (fun _ i wr => ∃ m : Nat, m ≤ k ∧ i = .int .i64 m ∧ Blk wr w.heap.size 5 (tab k fun j => if j < m then .int .u8 (numAt n j).toNat else .int .u8 0) ∧ Below w.heap.size w wr) (fun _ i _ => k - (intOf i).toNat)
  case atStart => exact ⟨0, Nat.zero_le _, rfl, by simpa using hb, hbel⟩
  case round =>
    obtain ⟨m, hm, rfl, hbr, hbelr⟩ := hrel
    by_cases hlt : m < k
    · have hc := hbr.at m hlt
      have hf := hbr.freeAt m hlt
      rw [if_neg (by omega)] at hc
      clear hb hbel
      go_wp2
      go_roundw
      case rel =>
        exact ⟨m + 1, by omega, by go_num, hbr.setTab m _ _ (by rw [if_pos (by omega), numAt_toNat]; simp) (fun i _ hne => by by_cases h : i < m <;> simp [h, show (i < m + 1) = (i < m) from by simp; omega]), hbelr.setCell (Nat.le_refl _) _⟩
      case measure => simp [intOf]; omega
    · obtain rfl : m = k := by omega
      have hs := run_string_blk (P := Try.prog) wr 60 9 5 Try.underlying60 Try.underlying5 Try.underlying9 w.heap.size m m (numL n m) (tab_length _ _)
        (fun j hj => by
          have hj' : j < m := by simpa [numL, tab_length] using hj
          rw [hbr.at j hj', if_pos hj']
          simp [numL, tab])
      go_wp2
      go_ret
      exact ⟨rfl, hbelr⟩
set_option maxHeartbeats 400000 in
theorem U32_any (n : Nat) (hn : n < 4294967296) (w : World) :
    Calls Try.prog 24 #[.int .u32 n] w fun e w' => e = .returned (.string ⟨(numL n 4).toArray⟩) ∧ Below w.heap.size w w' := by
  go_enter Try.func24, Try.ntmps24
  have h := number_any n (by omega) 4 (by omega) w
  go_wp2_with (go_at_call 55; refine (number_any n (by omega) 4 (by omega) _).mono ?_; rintro e w' ⟨rfl, hb⟩)
  go_ret
  exact ⟨rfl, hb⟩
theorem numL_succ (n k : Nat) : numL n (k + 1) = numAt n 0 :: numL (n / 256) k := by
  apply List.ext_getElem?
  intro j
  cases j with
  | zero => simp [numL, tab]
  | succ j =>
    by_cases hj : j < k
    · simp only [numL, List.getElem?_cons_succ]
      rw [tab_get _ _ _ (by omega), tab_get _ _ _ hj]
      unfold numAt
      rw [show 8 * (j + 1) = 8 + 8 * j from by omega, Nat.pow_add, Nat.div_div_eq_div_mul]
    · simp [numL, tab, hj]
set_option maxHeartbeats 400000 in
theorem Num_any (k : Nat) : ∀ (n : Nat) (hn : n < 18446744073709551616) (x m : Int) (hx : x = n) (hm : m = k) (hk : k ≤ 8) (w : World),
    Calls Try.prog 40 #[.int .u64 x, .int .i64 m] w fun e w' => e = .returned (.string ⟨(numL n k).toArray⟩) ∧ Below w.heap.size w w' := by
  induction k with
  | zero =>
    intro n hn x m hx hm hk w
    subst hm hx
    go_enter Try.func40, Try.ntmps40
    go_wp2_with fail
    go_ret
    exact ⟨rfl, Below.refl _ _⟩
  | succ k ih =>
    intro n hn x m hx hm hk w
    subst hm hx
    have hs : ∀ (W : World) (g : Nat), W.cell? ⟨g, 0, none⟩ = some (.int .u8 ((n : Int) % 256)) → (convert 60 9 (.slice (some ⟨g, 0, none⟩) 1 1)).run Try.prog W = .ok (.string ⟨[numAt n 0].toArray⟩) W := fun W g h =>
      run_string_blk (P := Try.prog) W 60 9 5 Try.underlying60 Try.underlying5 Try.underlying9 g 1 1 [numAt n 0] rfl
        (fun j hj => by
          have hj' : j = 0 := by simpa using hj
          subst hj'
          rw [h]
          simp [numAt_toNat])
    have hk8 : (k : Int) ≤ 7 := by omega
    have e1 : (n : Int).tmod 256 = (n : Int) % 256 := Int.tmod_eq_emod_of_nonneg (by omega)
    have e2 : IntKind.u8.wrap ((n : Int) % 256) = (n : Int) % 256 := IntWalk.u8_in _ (by omega)
    have e3 : IntKind.u64.wrap ((n : Int) / 256) = (n : Int) / 256 := IntWalk.u64_in _ (by omega)
    have e4 : IntKind.i64.wrap (k : Int) = k := IntWalk.i64_in _ (by omega)
    have hcat : (⟨[numAt n 0].toArray⟩ : ByteArray) ++ ⟨(numL (n / 256) k).toArray⟩ = ⟨(numL n (k + 1)).toArray⟩ := by rw [ByteArray.mk_append_mk, numL_succ]; rfl
    have hlen : (numL (n / 256) k).length ≤ 8 := by rw [numL, tab_length]; omega
    go_enter Try.func40, Try.ntmps40
    go_wp2_with fail
    go_region_with (go_at_call 40; refine (ih (n / 256) (by omega) _ _ (by omega) (by omega) (by omega) _).mono ?_; rintro e w' ⟨rfl, hb⟩; obtain ⟨hcc, hff⟩ := bcell hb)
    all_goals
      go_wp2
      go_ret
      refine ⟨rfl, ?_⟩
      (repeat (first | exact Below.refl _ _ | assumption | refine kp_drew ?_ | refine kp_drewN ?_ | refine kp_alloc ?_ | refine kp_step ?_ (by assumption)))
end Go.Proofs.Ytdbappehchgbcaa
