/- The walks: Chunks of box and of the document; the document's Same. -/
import Derived.Test.YtdhdminocboipaaZBoxK
namespace Go.Proofs.Ytdhdminocboipaa
open Go.RowKit

def chunksL (s : List UInt8) (n : Nat) : List (List UInt8) := tab n (chunkL s)
theorem chunksL_snoc (s : List UInt8) (n : Nat) : chunksL s (n + 1) = chunksL s n ++ [chunkL s n] := by simp [chunksL, tab, List.range_succ]
theorem chunksL_len (s : List UInt8) (n : Nat) : (chunksL s n).length = n := tab_length _ _
/-- Head and chunks are right. -/
def allOk (s : List UInt8) : Prop := headOk s ∧ ∀ i, i < cntP s → crcOk s i
theorem BChunks_any (s : List UInt8) (hs : s.length ≤ 1000000) (w : World) :
    Calls Try.prog 20 #[txV s] w fun e w' => (allOk s → ∃ ao cap, e = .returned (.tuple #[.slice ao (cntP s) cap, .int .i64 0]) ∧ NewRow w w' ao (cntP s) cap 9 1 ((chunksL s (cntP s)).map txV)) ∧ (¬ allOk s → e = .returned (.tuple #[.slice none 0 0, .int .i64 110]) ∧ Below w.heap.size w w') := by
  refine sx_fn (S := SX) (M := []) (N := 40) (H0 := [.row none 0 0 9 1 []]) Try.func20 rfl rfl rfl ((Sat.nil _ _).nilRow 9 1) ?_
  ((try refine sx_use ?_); (repeat (refine SxNew.mk fun _ => ?_; (try refine sx_use ?_))))
  by_cases hok : headOk s
  · have hc := (headFacts hok).cnt
    refine SxCall.newRow (v := fun ao cap => .tuple #[hdV (idN s) ao (cntP s) cap, .int .i64 0]) (fun w _ => (BHead_any s hs w).mono fun e w' h => h.1 hok) fun ao cap => ?_
    ((try refine sx_use ?_); (repeat (refine SxNew.mk fun _ => ?_; (try refine sx_use ?_))))
    rename_i b
    refine SxCode.loop (σ := Nat × Option Addr × Nat) [21, 6] [22, 23, 7, 25, 26, 27, 28, 24, 29, 30, 8, 9, 31, 32, 33, 2, 3, 34, 35, 36, 37, 6, 38, 21] (fun x => [.int .i64 (x.1 : Nat), .slice x.2.1 x.1 x.2.2]) (fun x => [.blk b 36 [.int .u32 (idN s), .slice ao (cntP s) cap], .row ao (cntP s) cap 70 2 ((slP s (cntP s)).flatMap encS), .row x.2.1 x.1 x.2.2 9 1 ((chunksL s x.1).map txV)]) (fun x => x.1 ≤ cntP s ∧ ∀ i, i < x.1 → crcOk s i) (fun x => cntP s - x.1) (0, none, 0) [0, 1, 2] rfl rfl rfl rfl ⟨Nat.zero_le _, fun i h => by cases h⟩ ?_
    rintro ⟨k, bo, bc⟩ ⟨hk, hall⟩
    dsimp only at hk hall ⊢
    ((try refine sx_use ?_); (repeat (refine SxNew.mk fun _ => ?_; (try refine sx_use ?_))))
    refine SxIf.dec (fun h => ?_) (fun h => ?_)
    · have hlt : k < cntP s := by omega
      ((try refine sx_use ?_); (repeat (refine SxNew.mk fun _ => ?_; (try refine sx_use ?_))))
      have hS := fun (w : World) (h1 : cntP s ≤ cap) (hr : Rd w ao ((slH s).flatMap encS)) => slot_any s hs hok ao cap h1 k w hr
      rw [slotV_in s hlt] at hS
      by_cases hcr : crcOk s k
      · rw [if_pos hcr] at hS
        refine SxCall.quietS (fun w hs2 => hS w (row_cap (hs2.row 1 rfl)) (hs2.rowRd 1 rfl (by rw [flat_len encS 2 (fun _ => rfl), slH_len]; unfold maxLen; omega))) ?_
        ((try refine sx_use ?_); (repeat (refine SxNew.mk fun _ => ?_; (try refine sx_use ?_))))
        refine SxApp.mk 3 rfl 0 (.inr (.inr (.inr ⟨by decide, _, rfl⟩))) rfl rfl (by unfold maxLen; omega) (by omega) (cs' := (chunksL s (k + 1)).map txV) (by rw [chunksL_snoc, List.map_append]; rfl) fun ao' cap' => ?_
        ((try refine sx_use ?_); (repeat (refine SxNew.mk fun _ => ?_; (try refine sx_use ?_))))
        exact SxRound.mk (k + 1, ao', cap') [1, 2, 3] rfl rfl rfl ⟨hlt, fun i hi => by rcases Nat.lt_succ_iff_lt_or_eq.1 hi with h | h; exact hall i h; exact h ▸ hcr⟩ (by simp; omega)
      · rw [if_neg hcr] at hS
        have hbad : ¬ allOk s := fun ha => hcr (ha.2 k hlt)
        refine SxCall.quietS (fun w hs2 => hS w (row_cap (hs2.row 1 rfl)) (hs2.rowRd 1 rfl (by rw [flat_len encS 2 (fun _ => rfl), slH_len]; unfold maxLen; omega))) ?_
        ((try refine sx_use ?_); (repeat (refine SxNew.mk fun _ => ?_; (try refine sx_use ?_))))
        exact SxDone.mk fun w' hs => ⟨fun ha => absurd ha hbad, fun _ => ⟨rfl, hs.touch.below⟩⟩
    · obtain rfl : k = cntP s := by omega
      ((try refine sx_use ?_); (repeat (refine SxNew.mk fun _ => ?_; (try refine sx_use ?_))))
      exact SxDone.mk fun w' hs => ⟨fun _ => ⟨bo, bc, rfl, hs.newRow 2 rfl⟩, fun ha => absurd ⟨hok, hall⟩ ha⟩
  · have hbad : ¬ allOk s := fun ha => hok ha.1
    refine SxCall.quiet (fun w => (BHead_any s hs w).mono fun e w' h => h.2 hok) ?_
    ((try refine sx_use ?_); (repeat (refine SxNew.mk fun _ => ?_; (try refine sx_use ?_))))
    exact SxDone.mk fun w' hs => ⟨fun ha => absurd ha hbad, fun _ => ⟨rfl, hs.touch.below⟩⟩
theorem rchunkV_in (s : List UInt8) (hok : headOk s) {q : Nat} (h : q < cntP s) : rchunkV s q = if crcOk s q then (chunkL s q, true) else ([], false) := by
  unfold rchunkV chunkV
  rw [if_pos hok, slotV_in s h]
  split <;> rfl
def rchunksL (s : List UInt8) (k : Nat) (b : Bool) : List (List UInt8) := if b then chunksL s k else chunksL s (k - 1) ++ [[]]
theorem RChunks_any (s : List UInt8) (hs : s.length ≤ 1000000) (w : World) :
    Calls Try.prog 25 #[txV s] w fun e w' => (allOk s → ∃ ao cap, e = .returned (.tuple #[.slice ao (cntP s) cap, .bool true]) ∧ NewRow w w' ao (cntP s) cap 9 1 ((chunksL s (cntP s)).map txV)) ∧ (¬ allOk s → e = .returned (.tuple #[.slice none 0 0, .bool false]) ∧ Below w.heap.size w w') := by
  refine sx_fn (S := SX) (M := []) (N := 39) (H0 := [.row none 0 0 9 1 []]) Try.func25 rfl rfl rfl ((Sat.nil _ _).nilRow 9 1) ?_
  ((try refine sx_use ?_); (repeat (refine SxNew.mk fun _ => ?_; (try refine sx_use ?_))))
  by_cases hok : headOk s
  · have hc := (headFacts hok).cnt
    refine SxCall.newRow (v := fun ao cap => .tuple #[hdV (idN s) ao (cntP s) cap, .bool true]) (fun w _ => (RHead_any s hs w).mono fun e w' h => h.1 hok) fun ao cap => ?_
    ((try refine sx_use ?_); (repeat (refine SxNew.mk fun _ => ?_; (try refine sx_use ?_))))
    rename_i b
    refine SxCode.loop (σ := Nat × Bool × List (List UInt8) × Option Addr × Nat) [7, 5, 6] [15, 16, 17, 18, 19, 20, 21, 22, 26, 27, 28, 25, 29, 30, 8, 9, 31, 5, 32, 33, 34, 35, 6, 23, 24, 7] (fun x => [.int .i64 (x.1 : Nat), .bool x.2.1, .slice x.2.2.2.1 x.2.2.1.length x.2.2.2.2]) (fun x => [.blk b 36 [.int .u32 (idN s), .slice ao (cntP s) cap], .row ao (cntP s) cap 70 2 ((slP s (cntP s)).flatMap encS), .row x.2.2.2.1 x.2.2.1.length x.2.2.2.2 9 1 (x.2.2.1.map txV)]) (fun x => x.1 ≤ cntP s ∧ x.2.2.1.length = x.1 ∧ (x.2.1 = true → x.2.2.1 = chunksL s x.1 ∧ ∀ i, i < x.1 → crcOk s i) ∧ (x.2.1 = false → ¬ allOk s)) (fun x => cntP s - x.1) (0, true, [], none, 0) [0, 1, 2] rfl rfl rfl rfl ⟨Nat.zero_le _, rfl, fun _ => ⟨rfl, fun i h => by cases h⟩, fun h => by cases h⟩ ?_
    rintro ⟨k, t, xs, bo, bc⟩ ⟨hk, hxl, ht, hf⟩
    dsimp only at hk hxl ht hf ⊢
    ((try refine sx_use ?_); (repeat (refine SxNew.mk fun _ => ?_; (try refine sx_use ?_))))
    refine SxIf.dec (fun h => ?_) (fun h => ?_)
    · have hlt : k < cntP s := by omega
      ((try refine sx_use ?_); (repeat (refine SxNew.mk fun _ => ?_; (try refine sx_use ?_))))
      refine ⟨fun htt => ?_, fun htt => ?_⟩
      · obtain ⟨hx, hall⟩ := ht htt
        ((try refine sx_use ?_); (repeat (refine SxNew.mk fun _ => ?_; (try refine sx_use ?_))))
        have hS := fun (w : World) => RChunk_any s hs k w
        rw [rchunkV_in s hok hlt] at hS
        by_cases hcr : crcOk s k
        · rw [if_pos hcr] at hS
          refine SxCall.quiet hS ?_
          ((try refine sx_use ?_); (repeat (refine SxNew.mk fun _ => ?_; (try refine sx_use ?_))))
          refine SxApp.mk 3 rfl 0 (.inr (.inr (.inr ⟨by decide, _, rfl⟩))) rfl rfl (by unfold maxLen; omega) (by omega) (cs' := (xs ++ [chunkL s k]).map txV) (by rw [List.map_append]; rfl) fun ao' cap' => ?_
          ((try refine sx_use ?_); (repeat (refine SxNew.mk fun _ => ?_; (try refine sx_use ?_))))
          exact SxRound.mk (k + 1, true, xs ++ [chunkL s k], ao', cap') [1, 2, 3] (by simp only [List.length_append, List.length_singleton]; rfl) (by simp only [List.length_append, List.length_singleton]; rfl) rfl ⟨hlt, by simp [hxl], fun _ => ⟨by rw [chunksL_snoc, ← hx], fun i hi => by rcases Nat.lt_succ_iff_lt_or_eq.1 hi with h | h; exact hall i h; exact h ▸ hcr⟩, fun h => by cases h⟩ (by simp; omega)
        · rw [if_neg hcr] at hS
          have hbad : ¬ allOk s := fun ha => hcr (ha.2 k hlt)
          refine SxCall.quiet hS ?_
          ((try refine sx_use ?_); (repeat (refine SxNew.mk fun _ => ?_; (try refine sx_use ?_))))
          refine SxApp.mk 3 rfl 0 (.inr (.inr (.inr ⟨by decide, _, rfl⟩))) rfl rfl (by unfold maxLen; omega) (by omega) (cs' := (xs ++ [[]]).map txV) (by rw [List.map_append]; rfl) fun ao' cap' => ?_
          ((try refine sx_use ?_); (repeat (refine SxNew.mk fun _ => ?_; (try refine sx_use ?_))))
          exact SxRound.mk (k + 1, false, xs ++ [[]], ao', cap') [1, 2, 3] (by simp only [List.length_append, List.length_singleton]; rfl) (by simp only [List.length_append, List.length_singleton]; rfl) rfl ⟨hlt, by simp [hxl], (fun h => by cases h), fun _ => hbad⟩ (by simp; omega)
      · have hbad := hf htt
        subst htt
        ((try refine sx_use ?_); (repeat (refine SxNew.mk fun _ => ?_; (try refine sx_use ?_))))
        exact SxDone.mk fun w' hs => ⟨fun ha => absurd ha hbad, fun _ => ⟨rfl, hs.touch.below⟩⟩
    · obtain rfl : k = cntP s := by omega
      ((try refine sx_use ?_); (repeat (refine SxNew.mk fun _ => ?_; (try refine sx_use ?_))))
      refine SxIf.nt ⟨fun htt => ?_, fun htt => ?_⟩
      · obtain ⟨rfl, hall⟩ := ht htt
        ((try refine sx_use ?_); (repeat (refine SxNew.mk fun _ => ?_; (try refine sx_use ?_))))
        exact SxDone.mk fun w' hs => ⟨fun _ => ⟨bo, bc, by rw [hxl]; rfl, by rw [hxl] at hs; exact hs.newRow 2 rfl⟩, fun ha => absurd ⟨hok, hall⟩ ha⟩
      · have hbad := hf htt
        ((try refine sx_use ?_); (repeat (refine SxNew.mk fun _ => ?_; (try refine sx_use ?_))))
        exact SxDone.mk fun w' hs => ⟨fun ha => absurd ha hbad, fun _ => ⟨rfl, hs.touch.below⟩⟩
  · have hbad : ¬ allOk s := fun ha => hok ha.1
    refine SxCall.quiet (fun w => (RHead_any s hs w).mono fun e w' h => h.2 hok) ?_
    ((try refine sx_use ?_); (repeat (refine SxNew.mk fun _ => ?_; (try refine sx_use ?_))))
    rename_i b
    refine SxCode.loop (σ := Unit) [7, 5, 6] [15, 16, 17, 18, 19, 20, 21, 22, 26, 27, 28, 25, 29, 30, 8, 9, 31, 5, 32, 33, 34, 35, 6, 23, 24, 7] (fun _ => [.int .i64 0, .bool false, .slice none 0 0]) (fun _ => [.blk b 36 [.int .u32 0, .slice none 0 0]]) (fun _ => True) (fun _ => 0) () [0] rfl rfl rfl rfl trivial ?_
    rintro _ _
    ((try refine sx_use ?_); (repeat (refine SxNew.mk fun _ => ?_; (try refine sx_use ?_))))
    exact SxDone.mk fun w' hs => ⟨fun ha => absurd ha hbad, fun _ => ⟨rfl, hs.touch.below⟩⟩
/-- Are two heads the same? -/
def sameP (id id' : Int) (a b : List (Int × Int)) : Prop := id = id' ∧ a = b
instance (id id' : Int) (a b : List (Int × Int)) : Decidable (sameP id id' a b) := by unfold sameP; infer_instance
theorem slot_pair {sl : List (Int × Int)} {k : Nat} {x : Int × Int} (h : sl[k]? = some x) : ((sl.flatMap encS).drop (k * 2)).take 2 = [.int .i64 x.1, .int .u32 x.2] := flat_get encS 2 (fun _ => rfl) sl k x h
theorem RHSame_any (id id' : Int) (a b : List (Int × Int)) (ao bo : Option Addr) (ac bc : Nat) (w : World) (ha : Rd w ao (a.flatMap encS)) (hb : Rd w bo (b.flatMap encS)) (hal : a.length ≤ 1000000) :
    Calls Try.prog 21 #[hdV id ao a.length ac, hdV id' bo b.length bc] w fun e w' => e = .returned (.bool (decide (sameP id id' a b))) ∧ Below w.heap.size w w' := by
  have hno : ¬ sameP id id' a b → Ending.returned (.bool false) = .returned (.bool (decide (sameP id id' a b))) := fun h => by rw [decide_eq_false h]
  refine sx_fn (S := SX) (M := []) (N := 38) (H0 := [.rd ao (a.flatMap encS), .rd bo (b.flatMap encS)]) Try.func21 rfl rfl rfl (Sat.twoRd _ ha hb) ?_
  ((try refine sx_use ?_); (repeat (refine SxNew.mk fun _ => ?_; (try refine sx_use ?_))))
  refine SxIf.ne (fun h => ?_) (fun h => ?_)
  · ((try refine sx_use ?_); (repeat (refine SxNew.mk fun _ => ?_; (try refine sx_use ?_))))
    exact SxDone.mk fun w' hs => ⟨hno fun hh => h hh.1, hs.touch.below⟩
  ((try refine sx_use ?_); (repeat (refine SxNew.mk fun _ => ?_; (try refine sx_use ?_))))
  refine SxIf.ne (fun h2 => ?_) (fun h2 => ?_)
  · ((try refine sx_use ?_); (repeat (refine SxNew.mk fun _ => ?_; (try refine sx_use ?_))))
    exact SxDone.mk fun w' hs => ⟨hno fun hh => h2 (by rw [hh.2]), hs.touch.below⟩
  have hl : a.length = b.length := by omega
  ((try refine sx_use ?_); (repeat (refine SxNew.mk fun _ => ?_; (try refine sx_use ?_))))
  rename_i b1 b2
  refine SxCode.loop (σ := Nat) [5] [20, 21, 22, 23, 24, 27, 28, 29, 30, 31, 32, 33, 34, 35, 36, 37, 4, 25, 26, 5] (fun k => [.int .i64 (k : Nat)]) (fun _ => [.blk b2 36 [.int .u32 id', .slice bo b.length bc], .blk b1 36 [.int .u32 id, .slice ao a.length ac], .rd ao (a.flatMap encS), .rd bo (b.flatMap encS)]) (fun k => k ≤ a.length ∧ a.take k = b.take k) (fun k => a.length - k) 0 [0, 1, 2, 3] rfl rfl rfl rfl ⟨Nat.zero_le _, rfl⟩ ?_
  rintro k ⟨hk, he⟩
  ((try refine sx_use ?_); (repeat (refine SxNew.mk fun _ => ?_; (try refine sx_use ?_))))
  refine SxIf.dec (fun h3 => ?_) (fun h3 => ?_)
  · have hlt : k < a.length := by omega
    have hlt2 : k < b.length := by omega
    have hx : a[k]? = some a[k] := by simp [hlt]
    have hy : b[k]? = some b[k] := by simp [hlt2]
    generalize a[k] = x at hx
    generalize b[k] = y at hy
    ((try refine sx_use ?_); (repeat (refine SxNew.mk fun _ => ?_; (try refine sx_use ?_))))
    refine SxCode.drawAll rfl [] ?_
    ((try refine sx_use ?_); (repeat (refine SxNew.mk fun _ => ?_; (try refine sx_use ?_))))
    refine SxIA.rd 2 _ rfl k rfl hlt (by rw [flat_len encS 2 (fun _ => rfl)]; omega) fun g off ha => ?_
    ((try refine sx_use ?_); (repeat (refine SxNew.mk fun _ => ?_; (try refine sx_use ?_))))
    refine SxLdN.rd 2 rfl ha rfl rfl (slot_pair hx) ?_
    ((try refine sx_use ?_); (repeat (refine SxNew.mk fun _ => ?_; (try refine sx_use ?_))))
    refine SxIA.rd 3 _ rfl k rfl hlt2 (by rw [flat_len encS 2 (fun _ => rfl)]; omega) fun g off ha => ?_
    ((try refine sx_use ?_); (repeat (refine SxNew.mk fun _ => ?_; (try refine sx_use ?_))))
    refine SxLdN.rd 3 rfl ha rfl rfl (slot_pair hy) ?_
    ((try refine sx_use ?_); (repeat (refine SxNew.mk fun _ => ?_; (try refine sx_use ?_))))
    refine SxRun.ne 3 rfl (ks := [.int .i64, .int .u32]) rfl rfl (by kernel_rfl) rfl rfl rfl ?_
    ((try refine sx_use ?_); (repeat (refine SxNew.mk fun _ => ?_; (try refine sx_use ?_))))
    have hiff := cellsEq_iff (ks := [.int .i64, .int .u32]) (us := [.int .i64 x.1, .int .u32 x.2]) (vs := [.int .i64 y.1, .int .u32 y.2]) rfl rfl
    refine SxIf.nt ⟨fun hc => ?_, fun hc => ?_⟩
    · have hxy : x = y := by
        have := hiff.1 hc
        simp only [List.cons.injEq, Value.int.injEq, true_and, and_true] at this
        exact Prod.ext this.1 this.2
      ((try refine sx_use ?_); (repeat (refine SxNew.mk fun _ => ?_; (try refine sx_use ?_))))
      exact SxRound.mk (k + 1) [0, 1, 2, 3] rfl rfl rfl ⟨hlt, by rw [List.take_add_one, List.take_add_one, he, hx, hy, hxy]⟩ (by omega)
    · ((try refine sx_use ?_); (repeat (refine SxNew.mk fun _ => ?_; (try refine sx_use ?_))))
      refine SxDone.mk fun w' hs => ⟨hno fun hh => ?_, hs.touch.below⟩
      obtain ⟨_, rfl⟩ := hh
      have hxy := Option.some.inj (hx.symm.trans hy)
      subst hxy
      rw [hiff.2 rfl] at hc
      cases hc
  · obtain rfl : k = a.length := by omega
    rw [List.take_length, hl, List.take_length] at he
    ((try refine sx_use ?_); (repeat (refine SxNew.mk fun _ => ?_; (try refine sx_use ?_))))
    refine SxDone.mk fun w' hs => ⟨?_, hs.touch.below⟩
    rw [decide_eq_true (show sameP id id' a b from ⟨h, he⟩)]
    rfl
end Go.Proofs.Ytdhdminocboipaa
