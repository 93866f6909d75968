/- The law of layer 16: RecipeJoins: weights of texts one behind the other. -/
import Derived.Test.YtbbngmlgpjepnaaZRcO
import Derived.Test.YtbbngmlgpjepnaaZRcK
namespace Go.Proofs.Ytbbngmlgpjepnaa
open Go.RowKit

theorem wAt_left (a b : List UInt8) (j : Nat) : ∀ k, k ≤ a.length → wAt (a ++ b) j k = wAt a j k
  | 0, _ => rfl
  | k + 1, h => by
    rw [wAt_succ, wAt_succ, wAt_left a b j k (by omega)]
    congr 2
    rw [List.getD_eq_getElem?_getD, List.getD_eq_getElem?_getD, List.getElem?_append_left (by omega)]
theorem wAt_cat (a b : List UInt8) (j i : Nat) (hi : i < 4) (hj : j < 4) (he : (a.length + i) % 4 = j) : ∀ k, wAt (a ++ b) j (a.length + k) = wAt a j a.length + wAt b i k
  | 0 => by rw [Nat.add_zero, wAt_left a b j _ (Nat.le_refl _)]; show _ = _ + 0; omega
  | k + 1 => by
    rw [← Nat.add_assoc, wAt_succ, wAt_succ, wAt_cat a b j i hi hj he k, Int.add_assoc]
    congr 2
    have hg : (a ++ b).getD (a.length + k) 0 = b.getD k 0 := by
      rw [List.getD_eq_getElem?_getD, List.getD_eq_getElem?_getD, List.getElem?_append_right (by omega), Nat.add_sub_cancel_left]
    rw [hg]
    by_cases h : k % 4 = i
    · rw [if_pos h, if_pos (by omega)]
    · rw [if_neg h, if_neg (by omega)]
theorem cat_W (a b : List UInt8) : reW (a ++ b) (a ++ b).length = reW a a.length + (turnW (reW b b.length) (imW b b.length) (a.length % 4)).1 ∧ imW (a ++ b) (a ++ b).length = imW a a.length + (turnW (reW b b.length) (imW b b.length) (a.length % 4)).2 := by
  have hl : (a ++ b).length = a.length + b.length := List.length_append
  unfold reW imW
  rw [hl]
  have h4 : a.length % 4 = 0 ∨ a.length % 4 = 1 ∨ a.length % 4 = 2 ∨ a.length % 4 = 3 := by omega
  rcases h4 with h | h | h | h
  · rw [wAt_cat a b 0 0 (by omega) (by omega) (by omega), wAt_cat a b 1 1 (by omega) (by omega) (by omega), wAt_cat a b 2 2 (by omega) (by omega) (by omega), wAt_cat a b 3 3 (by omega) (by omega) (by omega), h]
    simp only [turnW]
    omega
  · rw [wAt_cat a b 0 3 (by omega) (by omega) (by omega), wAt_cat a b 1 0 (by omega) (by omega) (by omega), wAt_cat a b 2 1 (by omega) (by omega) (by omega), wAt_cat a b 3 2 (by omega) (by omega) (by omega), h]
    simp only [turnW]
    omega
  · rw [wAt_cat a b 0 2 (by omega) (by omega) (by omega), wAt_cat a b 1 3 (by omega) (by omega) (by omega), wAt_cat a b 2 0 (by omega) (by omega) (by omega), wAt_cat a b 3 1 (by omega) (by omega) (by omega), h]
    simp only [turnW]
    omega
  · rw [wAt_cat a b 0 1 (by omega) (by omega) (by omega), wAt_cat a b 1 2 (by omega) (by omega) (by omega), wAt_cat a b 2 3 (by omega) (by omega) (by omega), wAt_cat a b 3 0 (by omega) (by omega) (by omega), h]
    simp only [turnW]
    omega
/-- The part that is made of a text. -/
def partN : List UInt8 := [112, 97, 114, 116]
def wholeN : List UInt8 := [119, 104, 111, 108, 101]
def partR (s : List UInt8) (k : Nat) : Rc := ⟨partN, s.length, reW s s.length, imW s s.length, [(k : Int) + 1]⟩
def catS (ss : List ByteArray) (k : Nat) : List UInt8 := (ss.take k).flatMap fun s => cutL s.data.toList
theorem catS_succ {ss : List ByteArray} {k : Nat} {s : ByteArray} (h : ss[k]? = some s) : catS ss (k + 1) = catS ss k ++ cutL s.data.toList := by
  unfold catS
  rw [List.take_add_one, h, List.flatMap_append]
  simp
theorem catS_len (ss : List ByteArray) : ∀ k, (catS ss k).length ≤ 400 * k
  | 0 => by simp [catS]
  | k + 1 => by
    have ih := catS_len ss k
    cases h : ss[k]? with
    | none =>
      have : catS ss (k + 1) = catS ss k := by unfold catS; rw [List.take_add_one, h]; simp
      rw [this]; omega
    | some s =>
      rw [catS_succ h, List.length_append]
      have : (cutL s.data.toList).length ≤ 400 := by unfold cutL; rw [List.length_take]; omega
      omega
def cntL (k : Nat) : List Int := (List.range k).map fun i : Nat => (i : Int) + 1
theorem cntL_succ (k : Nat) : cntL (k + 1) = cntL k ++ [(k : Int) + 1] := by simp [cntL, List.range_succ]
theorem part_may (s : List UInt8) (hs : s.length ≤ 400) (k : Nat) (hk : k < 8) : (partR s k).may := by
  have h := reW_bd s s.length
  refine ⟨?_, ?_, ?_, ?_, ?_, ?_, ?_, ?_⟩
  · show (1 : Int) ≤ ((partN.length : Nat) : Int); decide
  · show ((partN.length : Nat) : Int) ≤ 48; decide
  · show [(k : Int) + 1].length ≤ 1024; simp
  · show (0 : Int) ≤ ((s.length : Nat) : Int); omega
  · show ((s.length : Nat) : Int) ≤ 1048576; omega
  · unfold prt; show _ ≤ reW s s.length ∧ reW s s.length < _; omega
  · unfold prt; show _ ≤ imW s s.length ∧ imW s s.length < _; omega
  · intro x hx
    have hx : x ∈ [(k : Int) + 1] := hx
    simp at hx
    unfold okId
    omega
/-- What is made so far. -/
structure Mk (ss : List ByteArray) (M : List Rl) : Prop where
  le : M.length ≤ 8
  may : allMay M
  st : jst M = ⟨reW (catS ss M.length) (catS ss M.length).length, imW (catS ss M.length) (catS ss M.length).length, (catS ss M.length).length, cntL M.length⟩
  ms : ∀ x ∈ M, x.1.ms.length = 1
  nm : ∀ x ∈ M, x.1.nm = partN
theorem Mk.nil (ss : List ByteArray) : Mk ss [] := ⟨Nat.zero_le _, fun x hx => by simp at hx, rfl, fun x hx => by simp at hx, fun x hx => by simp at hx⟩
theorem Mk.snoc {ss : List ByteArray} {M : List Rl} (h : Mk ss M) (hl : M.length < 8) {s : ByteArray} (hs : ss[M.length]? = some s) (ao : Option Addr) (cap : Nat) : Mk ss (M ++ [(partR (cutL s.data.toList) M.length, ao, cap)]) := by
  have hcl : (cutL s.data.toList).length ≤ 400 := by unfold cutL; rw [List.length_take]; omega
  refine ⟨by simp; omega, ?_, ?_, ?_, ?_⟩
  · intro x hx
    rcases List.mem_append.1 hx with hx | hx
    · exact h.may x hx
    · simp at hx; rw [hx]; exact part_may _ hcl _ hl
  · have hj : jst (M ++ [(partR (cutL s.data.toList) M.length, ao, cap)]) = jstep (jst M) (partR (cutL s.data.toList) M.length) := by
      unfold jst; rw [List.foldl_append]; rfl
    have hlen : (M ++ [(partR (cutL s.data.toList) M.length, ao, cap)]).length = M.length + 1 := by simp
    rw [hj, h.st, hlen, catS_succ hs, cntL_succ]
    obtain ⟨c1, c2⟩ := cat_W (catS ss M.length) (cutL s.data.toList)
    unfold jstep partR
    dsimp only
    rw [← c1, ← c2, List.length_append]
    rfl
  · intro x hx
    rcases List.mem_append.1 hx with hx | hx
    · exact h.ms x hx
    · simp at hx; rw [hx]; rfl
  · intro x hx
    rcases List.mem_append.1 hx with hx | hx
    · exact h.nm x hx
    · simp at hx; rw [hx]; rfl
theorem Mk.whole {ss : List ByteArray} {M : List Rl} (h : Mk ss M) : joinOk wholeN M ∧ fitsB (joinR wholeN M) (catS ss M.length) = true ∧ (joinR wholeN M).ms.length = M.length := by
  have hc := catS_len ss M.length
  have hb := reW_bd (catS ss M.length) (catS ss M.length).length
  have hle := h.le
  have hms : (joinR wholeN M).ms = cntL M.length := by unfold joinR; rw [h.st]
  have hre : (joinR wholeN M).re = reW (catS ss M.length) (catS ss M.length).length := by unfold joinR; rw [h.st]
  have him : (joinR wholeN M).im = imW (catS ss M.length) (catS ss M.length).length := by unfold joinR; rw [h.st]
  have hsz : (joinR wholeN M).sz = (catS ss M.length).length := by unfold joinR; rw [h.st]
  have hl : (cntL M.length).length = M.length := by simp [cntL]
  have hm : (joinR wholeN M).may := by
    unfold Rc.may
    rw [hms, hre, him, hsz]
    refine ⟨?_, ?_, ?_, ?_, ?_, ?_, ?_, ?_⟩
    · show (1 : Int) ≤ ((wholeN.length : Nat) : Int); decide
    · show ((wholeN.length : Nat) : Int) ≤ 48; decide
    · rw [hl]; omega
    · omega
    · omega
    · unfold prt; omega
    · unfold prt; omega
    · intro x hx
      simp [cntL] at hx
      obtain ⟨i, hi, rfl⟩ := hx
      unfold okId
      omega
  refine ⟨⟨h.may, hm⟩, ?_, by rw [hms, hl]⟩
  unfold fitsB
  rw [decide_eq_true hm, hsz, hre, him]
  simp
end Go.Proofs.Ytbbngmlgpjepnaa
