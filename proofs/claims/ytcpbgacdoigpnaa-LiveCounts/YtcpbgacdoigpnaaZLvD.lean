/- Layer 20: Boxes, Slots, Same of tables that somebody or nobody made; few. -/
import Derived.Test.YtcpbgacdoigpnaaZLvC
namespace Go.Proofs.Ytcpbgacdoigpnaa
open Go.RowKit

/-- A pointer to a table, with the counts of a list; nil: none. -/
def TV (w : World) (v : Value) (l : List Pl) : Prop := (v = .pointer none ∧ l = []) ∨ ∃ gt gm d, v = .pointer (some ⟨gt, 0, none⟩) ∧ TabR w gt gm ∧ MapT w gm d ∧ Tab d l
theorem TV.below {w w' : World} {v : Value} {l : List Pl} (h : TV w v l) (hb : Below w.heap.size w w') : TV w' v l := by
  rcases h with h | ⟨gt, gm, d, rfl, h1, h2, h3⟩
  · exact .inl h
  · exact .inr ⟨gt, gm, d, rfl, h1.kept hb, h2.kept plKey (Below.toGrown hb) (by simp), h3⟩
theorem Live_tv {v : Value} {l : List Pl} (hl : l.length ≤ 1000000) (w : World) (h : TV w v l) :
    Calls Try.prog 17 #[v] w fun e w' => ∃ ao' cap', e = .returned (.slice ao' (setP l).length cap') ∧ NewRow w w' ao' (setP l).length cap' 25 2 (plE.fl (setP l)) := by
  rcases h with ⟨rfl, rfl⟩ | ⟨gt, gm, d, rfl, h1, h2, h3⟩
  · have e : setP [] = [] := by rw [← setRP_eq]; rfl
    rw [e]
    refine sx_fn (S := SX) (M := []) (H0 := []) (N := 24) Try.func17 rfl rfl rfl (Sat.nil _ _) ?_
    ((try refine sx_use ?_); (repeat (refine SxNew.mk fun _ => ?_; (try refine sx_use ?_))))
    refine SxCall.quiet made_nil ?_
    ((try refine sx_use ?_); (repeat (refine SxNew.mk fun _ => ?_; (try refine sx_use ?_))))
    exact SxDone.mk fun w' hs => ⟨none, 0, rfl, NewRow.nil _ _ hs.touch.below⟩
  · exact Live_any gt gm d l h3 hl w h1 h2
theorem Count_tv {v : Value} {l : List Pl} (x : Pl) (w : World) (h : TV w v l) :
    Calls Try.prog 13 #[v, plV x] w fun e w' => e = .returned (.int .i64 (l.count x : Nat)) ∧ Below w.heap.size w w' := by
  rcases h with ⟨rfl, rfl⟩ | ⟨gt, gm, d, rfl, h1, h2, h3⟩
  · exact Count_nil w x
  · exact Count_any gt gm d l h3 x w h1 h2
/-- Boxes of places in order. -/
def boxStep (out : List Int) (p : Pl) : List Int := if out.getLast? = some p.bx then out else out ++ [p.bx]
def boxL (s : List Pl) : List Int := s.foldl boxStep []
theorem boxL_snoc (s : List Pl) (p : Pl) : boxL (s ++ [p]) = boxStep (boxL s) p := by unfold boxL; rw [List.foldl_append]; rfl
theorem boxL_last (s : List Pl) (p : Pl) : (boxL (s ++ [p])).getLast? = some p.bx := by
  rw [boxL_snoc]; unfold boxStep
  split
  · assumption
  · rw [List.getLast?_append]; rfl
theorem boxL_len (s : List Pl) : (boxL s).length ≤ s.length := by
  refine snoc_ind (P := fun s => (boxL s).length ≤ s.length) (Nat.le_refl _) (fun l x ih => ?_) s
  rw [boxL_snoc, List.length_append]
  unfold boxStep
  split
  · simp; omega
  · rw [List.length_append]; simp; omega
def slotL (s : List Pl) (b : Int) : List Int := (s.filter fun p => decide (p.bx = b)).map (·.sl)
theorem slotL_snoc (s : List Pl) (p : Pl) (b : Int) : slotL (s ++ [p]) b = slotL s b ++ (if p.bx = b then [p.sl] else []) := by
  unfold slotL
  rw [List.filter_append, List.map_append]
  congr 1
  by_cases h : p.bx = b
  · simp [h]
  · simp [h]
theorem slotL_len (s : List Pl) (b : Int) : (slotL s b).length ≤ s.length := by unfold slotL; rw [List.length_map]; exact List.length_filter_le _ _
def u32V (x : Int) : Value := .int .u32 x
def i64V (x : Int) : Value := .int .i64 x
theorem u32s_one : ∀ l : List Int, allOne (l.map u32V) = true
  | [] => rfl
  | _ :: l => u32s_one l
theorem i64s_one : ∀ l : List Int, allOne (l.map i64V) = true
  | [] => rfl
  | _ :: l => i64s_one l
set_option maxHeartbeats 4000000 in
theorem Boxes_tv {v : Value} {l : List Pl} (hl : l.length ≤ 1000000) (w : World) (h : TV w v l) :
    Calls Try.prog 18 #[v] w fun e w' => ∃ ao' cap', e = .returned (.slice ao' (boxL (setP l)).length cap') ∧ NewRow w w' ao' (boxL (setP l)).length cap' 23 1 ((boxL (setP l)).map u32V) := by
  have hsl : (setP l).length ≤ l.length := setS_len cfP l
  obtain ⟨s, hs⟩ : ∃ s, s = setP l := ⟨_, rfl⟩
  have hL := fun (w : World) (h : TV w v l) => Live_tv hl w h
  rw [← hs] at hsl hL ⊢
  refine sx_fn (S := SX) (M := []) (H0 := [.row none 0 0 23 1 []]) (N := 34) Try.func18 rfl rfl rfl (Sat.nilRow 23 1 (Sat.nil _ _)) ?_
  ((try refine sx_use ?_); (repeat (refine SxNew.mk fun _ => ?_; (try refine sx_use ?_))))
  refine SxCall.newRow (fun w1 hs => hL w1 (h.below hs.touch.below)) fun so sc => ?_
  ((try refine sx_use ?_); (repeat (refine SxNew.mk fun _ => ?_; (try refine sx_use ?_))))
  refine SxCode.loop (σ := Nat × Option Addr × Nat) [9, 3] [10, 11, 12, 5, 13, 14, 15, 16, 17, 18, 19, 20, 21, 22, 23, 24, 25, 26, 27, 28, 29, 30, 31, 3, 32, 9] (fun x => [.int .i64 (x.1 : Nat), .slice x.2.1 (boxL (s.take x.1)).length x.2.2]) (fun x => [.row so s.length sc 25 2 (plE.fl s), .row x.2.1 (boxL (s.take x.1)).length x.2.2 23 1 ((boxL (s.take x.1)).map u32V)]) (fun x => x.1 ≤ s.length) (fun x => s.length - x.1) (0, none, 0) [0, 1] rfl rfl rfl rfl (Nat.zero_le _) ?_
  rintro ⟨k, ro, rc⟩ hk
  dsimp only at hk ⊢
  have hbl := boxL_len (s.take k)
  rw [List.length_take] at hbl
  refine sx_base 0 rfl fun hso _ => ?_
  refine sx_base 1 rfl fun hro _ => ?_
  ((try refine sx_use ?_); (repeat (refine SxNew.mk fun _ => ?_; (try refine sx_use ?_))))
  refine SxIf.dec (fun h => ?_) (fun h => ?_)
  · have hlt : k < s.length := by omega
    obtain ⟨x, hx⟩ : ∃ x, s[k]? = some x := ⟨s[k], by simp [hlt]⟩
    have hsn : boxL (s.take (k + 1)) = boxStep (boxL (s.take k)) x := by rw [take_snocE hx, boxL_snoc]
    obtain ⟨gs, rfl⟩ := hso (by omega)
    ((try refine sx_use ?_); (repeat (refine SxNew.mk fun _ => ?_; (try refine sx_use ?_))))
    refine SxIA.row 0 _ _ _ rfl k rfl hlt fun g' hg' => ?_
    obtain rfl : gs = g' := by simpa using hg'
    ((try refine sx_use ?_); (repeat (refine SxNew.mk fun _ => ?_; (try refine sx_use ?_))))
    refine SxLdN.row 0 rfl rfl rfl (vs := plC x) rfl (rowPl_at hx) ?_
    ((try refine sx_use ?_); (repeat (refine SxNew.mk fun _ => ?_; (try refine sx_use ?_))))
    rename_i b5
    refine SxCode.drawAll rfl [] ?_
    ((try refine sx_use ?_); (repeat (refine SxNew.mk fun _ => ?_; (try refine sx_use ?_))))
    have app : ∀ (h0 : (boxL (s.take k)).getLast? ≠ some x.bx), boxL (s.take (k + 1)) = boxL (s.take k) ++ [x.bx] := fun h0 => by rw [hsn]; unfold boxStep; rw [if_neg h0]
    have put : ∀ (h0 : boxL (s.take (k + 1)) = boxL (s.take k) ++ [x.bx]), ((boxL (s.take k)).map u32V) ++ [.int .u32 x.bx] = (boxL (s.take (k + 1))).map u32V := fun h0 => by rw [h0, List.map_append]; rfl
    rcases List.eq_nil_or_concat (boxL (s.take k)) with h0 | ⟨out, y, h0⟩
    · have ha := app (by rw [h0]; simp)
      have hp := put ha
      have hl0 : (boxL (s.take k)).length = 0 := by rw [h0]; rfl
      refine SxIf.eqT (by rw [hl0]; rfl) ?_
      ((try refine sx_use ?_); (repeat (refine SxNew.mk fun _ => ?_; (try refine sx_use ?_))))
      refine SxApp.mk 3 rfl 0 (.inr (.inr (.inr ⟨by decide, _, rfl⟩))) (vs := [.int .u32 x.bx]) (m := 1) rfl rfl (by unfold maxLen; omega) (by omega) (cs' := (boxL (s.take (k + 1))).map u32V) hp fun ao' cap' => ?_
      ((try refine sx_use ?_); (repeat (refine SxNew.mk fun _ => ?_; (try refine sx_use ?_))))
      exact SxRound.mk (k + 1, ao', cap') [2, 3] (by dsimp only; rw [ha, List.length_append]; rfl) (by dsimp only; rw [ha, List.length_append]; rfl) rfl hlt (by dsimp only; omega)
    · rw [List.concat_eq_append] at h0
      have hl0 : (boxL (s.take k)).length = out.length + 1 := by rw [h0, List.length_append]; rfl
      have hcy : ((boxL (s.take k)).map u32V)[out.length]? = some (.int .u32 y) := by rw [h0, List.map_append, List.getElem?_append_right (by simp)]; simp; rfl
      have hlast : (boxL (s.take k)).getLast? = some y := by rw [h0]; simp
      obtain ⟨gr, rfl⟩ := hro (by omega)
      refine SxIf.eqF (by rw [hl0]; omega) ?_
      ((try refine sx_use ?_); (repeat (refine SxNew.mk fun _ => ?_; (try refine sx_use ?_))))
      (try refine SxRng.i64 (by omega) (by omega) ?_)
      (try ((try refine sx_use ?_); (repeat (refine SxNew.mk fun _ => ?_; (try refine sx_use ?_)))))
      refine SxIA.row 2 _ _ _ rfl out.length (by rw [hl0]; omega) (by rw [hl0]; omega) fun g' hg' => ?_
      obtain rfl : gr = g' := by simpa using hg'
      ((try refine sx_use ?_); (repeat (refine SxNew.mk fun _ => ?_; (try refine sx_use ?_))))
      refine SxLd.row 2 rfl rfl (j := out.length) (by omega) hcy ?_
      ((try refine sx_use ?_); (repeat (refine SxNew.mk fun _ => ?_; (try refine sx_use ?_))))
      refine SxIf.ne (fun h1 => ?_) (fun h1 => ?_)
      · have ha := app (by rw [hlast]; simpa using h1)
        have hp := put ha
        ((try refine sx_use ?_); (repeat (refine SxNew.mk fun _ => ?_; (try refine sx_use ?_))))
        refine SxApp.mk 3 rfl 0 (.inr (.inr (.inr ⟨by decide, _, rfl⟩))) (vs := [.int .u32 x.bx]) (m := 1) rfl rfl (by unfold maxLen; omega) (by omega) (cs' := (boxL (s.take (k + 1))).map u32V) hp fun ao' cap' => ?_
        ((try refine sx_use ?_); (repeat (refine SxNew.mk fun _ => ?_; (try refine sx_use ?_))))
        exact SxRound.mk (k + 1, ao', cap') [2, 3] (by dsimp only; rw [ha, List.length_append]; rfl) (by dsimp only; rw [ha, List.length_append]; rfl) rfl hlt (by dsimp only; omega)
      · have ha : boxL (s.take (k + 1)) = boxL (s.take k) := by rw [hsn]; unfold boxStep; rw [if_pos (by rw [hlast, h1])]
        ((try refine sx_use ?_); (repeat (refine SxNew.mk fun _ => ?_; (try refine sx_use ?_))))
        exact SxRound.mk (k + 1, some ⟨gr, 0, none⟩, rc) [1, 2] (by dsimp only; rw [ha]; rfl) (by dsimp only; rw [ha]; rfl) rfl hlt (by dsimp only; omega)
  · obtain rfl : k = s.length := by omega
    rw [List.take_length]
    ((try refine sx_use ?_); (repeat (refine SxNew.mk fun _ => ?_; (try refine sx_use ?_))))
    exact SxDone.mk fun w' hs => ⟨ro, rc, rfl, hs.newRow 1 rfl⟩
set_option maxHeartbeats 4000000 in
theorem Slots_tv {v : Value} {l : List Pl} (hl : l.length ≤ 1000000) (b : Int) (w : World) (h : TV w v l) :
    Calls Try.prog 19 #[v, .int .u32 b] w fun e w' => ∃ ao' cap', e = .returned (.slice ao' (slotL (setP l) b).length cap') ∧ NewRow w w' ao' (slotL (setP l) b).length cap' 3 1 ((slotL (setP l) b).map i64V) := by
  have hsl : (setP l).length ≤ l.length := setS_len cfP l
  obtain ⟨s, hs⟩ : ∃ s, s = setP l := ⟨_, rfl⟩
  have hL := fun (w : World) (h : TV w v l) => Live_tv hl w h
  rw [← hs] at hsl hL ⊢
  refine sx_fn (S := SX) (M := []) (H0 := [.row none 0 0 3 1 []]) (N := 26) Try.func19 rfl rfl rfl (Sat.nilRow 3 1 (Sat.nil _ _)) ?_
  ((try refine sx_use ?_); (repeat (refine SxNew.mk fun _ => ?_; (try refine sx_use ?_))))
  refine SxCall.newRow (fun w1 hs => hL w1 (h.below hs.touch.below)) fun so sc => ?_
  ((try refine sx_use ?_); (repeat (refine SxNew.mk fun _ => ?_; (try refine sx_use ?_))))
  refine SxCode.loop (σ := Nat × Option Addr × Nat) [11, 5] [12, 13, 14, 7, 15, 16, 17, 18, 19, 20, 21, 22, 23, 5, 24, 11] (fun x => [.int .i64 (x.1 : Nat), .slice x.2.1 (slotL (s.take x.1) b).length x.2.2]) (fun x => [.row so s.length sc 25 2 (plE.fl s), .row x.2.1 (slotL (s.take x.1) b).length x.2.2 3 1 ((slotL (s.take x.1) b).map i64V)]) (fun x => x.1 ≤ s.length) (fun x => s.length - x.1) (0, none, 0) [0, 1] rfl rfl rfl rfl (Nat.zero_le _) ?_
  rintro ⟨k, ro, rc⟩ hk
  dsimp only at hk ⊢
  have hbl := slotL_len (s.take k) b
  rw [List.length_take] at hbl
  refine sx_base 0 rfl fun hso _ => ?_
  ((try refine sx_use ?_); (repeat (refine SxNew.mk fun _ => ?_; (try refine sx_use ?_))))
  refine SxIf.dec (fun h => ?_) (fun h => ?_)
  · have hlt : k < s.length := by omega
    obtain ⟨x, hx⟩ : ∃ x, s[k]? = some x := ⟨s[k], by simp [hlt]⟩
    have hsn : slotL (s.take (k + 1)) b = slotL (s.take k) b ++ (if x.bx = b then [x.sl] else []) := by rw [take_snocE hx, slotL_snoc]
    obtain ⟨gs, rfl⟩ := hso (by omega)
    ((try refine sx_use ?_); (repeat (refine SxNew.mk fun _ => ?_; (try refine sx_use ?_))))
    refine SxIA.row 0 _ _ _ rfl k rfl hlt fun g' hg' => ?_
    obtain rfl : gs = g' := by simpa using hg'
    ((try refine sx_use ?_); (repeat (refine SxNew.mk fun _ => ?_; (try refine sx_use ?_))))
    refine SxLdN.row 0 rfl rfl rfl (vs := plC x) rfl (rowPl_at hx) ?_
    ((try refine sx_use ?_); (repeat (refine SxNew.mk fun _ => ?_; (try refine sx_use ?_))))
    refine SxIf.eq (fun h1 => ?_) (fun h1 => ?_)
    · rw [if_pos h1] at hsn
      ((try refine sx_use ?_); (repeat (refine SxNew.mk fun _ => ?_; (try refine sx_use ?_))))
      refine SxApp.mk 3 rfl 0 (.inr (.inr (.inr ⟨by decide, _, rfl⟩))) (vs := [.int .i64 x.sl]) (m := 1) rfl rfl (by unfold maxLen; omega) (by omega) (cs' := (slotL (s.take (k + 1)) b).map i64V) (by rw [hsn, List.map_append]; rfl) fun ao' cap' => ?_
      ((try refine sx_use ?_); (repeat (refine SxNew.mk fun _ => ?_; (try refine sx_use ?_))))
      exact SxRound.mk (k + 1, ao', cap') [2, 3] (by dsimp only; rw [hsn, List.length_append]; rfl) (by dsimp only; rw [hsn, List.length_append]; rfl) rfl hlt (by dsimp only; omega)
    · rw [if_neg h1, List.append_nil] at hsn
      ((try refine sx_use ?_); (repeat (refine SxNew.mk fun _ => ?_; (try refine sx_use ?_))))
      exact SxRound.mk (k + 1, ro, rc) [1, 2] (by dsimp only; rw [hsn]; rfl) (by dsimp only; rw [hsn]; rfl) rfl hlt (by dsimp only; omega)
  · obtain rfl : k = s.length := by omega
    rw [List.take_length]
    ((try refine sx_use ?_); (repeat (refine SxNew.mk fun _ => ?_; (try refine sx_use ?_))))
    exact SxDone.mk fun w' hs => ⟨ro, rc, rfl, hs.newRow 1 rfl⟩
theorem Same1_any {v v' : Value} {l l' : List Pl} (hl : l.length ≤ 1000000) (hl' : l'.length ≤ 1000000) (x : Pl) (g2 g3 : Nat) (w : World) (h2 : Rd w (some ⟨g2, 0, none⟩) [v]) (h3 : Rd w (some ⟨g3, 0, none⟩) [v']) (h : TV w v l) (h' : TV w v' l') :
    Calls Try.prog 32 #[.agg (plC x).toArray, .pointer (some ⟨g2, 0, none⟩), .pointer (some ⟨g3, 0, none⟩)] w fun e w' => e = .returned (.bool (!decide (l.count x = l'.count x))) ∧ Below w.heap.size w w' := by
  have c1 : l.count x ≤ l.length := List.count_le_length
  have c2 : l'.count x ≤ l'.length := List.count_le_length
  refine sx_fn (S := SX) (M := []) (H0 := [.rd (some ⟨g2, 0, none⟩) [v], .rd (some ⟨g3, 0, none⟩) [v']]) (N := 12) Try.func32 rfl rfl rfl (Sat.twoRd _ h2 h3) ?_
  ((try refine sx_use ?_); (repeat (refine SxNew.mk fun _ => ?_; (try refine sx_use ?_))))
  refine SxCode.drawAll rfl [] ?_
  ((try refine sx_use ?_); (repeat (refine SxNew.mk fun _ => ?_; (try refine sx_use ?_))))
  refine SxLd.rd 1 rfl rfl (j := 0) rfl rfl ?_
  ((try refine sx_use ?_); (repeat (refine SxNew.mk fun _ => ?_; (try refine sx_use ?_))))
  refine SxLd.rd 2 rfl rfl (j := 0) rfl rfl ?_
  ((try refine sx_use ?_); (repeat (refine SxNew.mk fun _ => ?_; (try refine sx_use ?_))))
  refine SxCall.quietS (fun w1 hs => Count_tv x w1 (h.below hs.touch.below)) ?_
  ((try refine sx_use ?_); (repeat (refine SxNew.mk fun _ => ?_; (try refine sx_use ?_))))
  refine SxCall.quietS (fun w1 hs => Count_tv x w1 (h'.below hs.touch.below)) ?_
  ((try refine sx_use ?_); (repeat (refine SxNew.mk fun _ => ?_; (try refine sx_use ?_))))
  refine SxDone.mk fun w' hs => ⟨?_, hs.touch.below⟩
  show Ending.returned (.bool (((l.count x : Nat) : Int) != ((l'.count x : Nat) : Int))) = _
  congr 2
  by_cases hc : l.count x = l'.count x
  · rw [hc, decide_eq_true rfl, bne_self_eq_false]; rfl
  · rw [decide_eq_false hc]; simpa using fun e => hc (by omega)
def sameE (g2 g3 : Nat) : Value := .func (.func 32) #[] #[.pointer (some ⟨g2, 0, none⟩), .pointer (some ⟨g3, 0, none⟩)]
theorem IndexS_any {v v' : Value} {l l' : List Pl} (hl : l.length ≤ 1000000) (hl' : l'.length ≤ 1000000) (s : List Pl) (so : Option Addr) (sc g2 g3 : Nat) (w : World) (hr : Rd w so (plE.fl s)) (h2 : Rd w (some ⟨g2, 0, none⟩) [v]) (h3 : Rd w (some ⟨g3, 0, none⟩) [v']) (ht : TV w v l) (ht' : TV w v' l') :
    Calls Try.prog 42 #[.slice so s.length sc, sameE g2 g3] w fun e w' => ∃ r : Int, (e = .returned (.int .i64 r) ∧ ((∀ p ∈ s, l.count p = l'.count p) → r = -1) ∧ (¬ (∀ p ∈ s, l.count p = l'.count p) → 0 ≤ r)) ∧ Below w.heap.size w w' := by
  have hlen : s.length * 2 ≤ maxLen := by have := hr.1; rw [rowPl_len] at this; exact this
  unfold maxLen at hlen
  refine sx_fn (S := SX) (M := []) (N := 19) (H0 := [.rd so (plE.fl s), .rd (some ⟨g2, 0, none⟩) [v], .rd (some ⟨g3, 0, none⟩) [v']]) Try.func42 rfl rfl rfl (Sat.cons_rd (Sat.twoRd _ h2 h3) hr (by intro i e g hi ho; match i, hi with | 0, hi => (cases hi; cases ho) | 1, hi => (cases hi; cases ho))) ?_
  ((try refine sx_use ?_); (repeat (refine SxNew.mk fun _ => ?_; (try refine sx_use ?_))))
  refine SxCode.loop (σ := Nat) [8] [9, 10, 5, 11, 12, 13, 14, 15, 16, 17, 4, 18, 8] (fun k => [.int .i64 (k : Nat)]) (fun _ => [.rd so (plE.fl s), .rd (some ⟨g2, 0, none⟩) [v], .rd (some ⟨g3, 0, none⟩) [v']]) (fun k => k ≤ s.length ∧ ∀ p ∈ s.take k, l.count p = l'.count p) (fun k => s.length - k) 0 [0, 1, 2] rfl rfl rfl rfl ⟨Nat.zero_le _, by intro x hx; simp at hx⟩ ?_
  rintro k ⟨hk, hall⟩
  ((try refine sx_use ?_); (repeat (refine SxNew.mk fun _ => ?_; (try refine sx_use ?_))))
  refine SxIf.dec (fun h => ?_) (fun h => ?_)
  · have hlt : k < s.length := by omega
    obtain ⟨x, hx⟩ : ∃ x, s[k]? = some x := ⟨s[k], by simp [hlt]⟩
    ((try refine sx_use ?_); (repeat (refine SxNew.mk fun _ => ?_; (try refine sx_use ?_))))
    refine SxIA.rd 0 _ rfl k rfl hlt (by rw [rowPl_len]; omega) fun g off ha => ?_
    ((try refine sx_use ?_); (repeat (refine SxNew.mk fun _ => ?_; (try refine sx_use ?_))))
    refine SxLdN.rd 0 rfl ha rfl (vs := plC x) rfl (rowPl_at hx) ?_
    ((try refine sx_use ?_); (repeat (refine SxNew.mk fun _ => ?_; (try refine sx_use ?_))))
    refine SxCall.quietS (fun w1 hs => Same1_any hl hl' x g2 g3 w1 (hs.rd 1 rfl) (hs.rd 2 rfl) (ht.below hs.touch.below) (ht'.below hs.touch.below)) ?_
    ((try refine sx_use ?_); (repeat (refine SxNew.mk fun _ => ?_; (try refine sx_use ?_))))
    refine SxIf.nt (SxIf.dec (fun h2 => ?_) (fun h2 => ?_))
    · ((try refine sx_use ?_); (repeat (refine SxNew.mk fun _ => ?_; (try refine sx_use ?_))))
      refine SxRound.mk (k + 1) [0, 1, 2] rfl rfl rfl ⟨hlt, ?_⟩ (by omega)
      intro y hy
      rw [take_snocE hx] at hy
      rcases List.mem_append.1 hy with h3 | h3
      · exact hall y h3
      · simp at h3; subst h3; exact h2
    · ((try refine sx_use ?_); (repeat (refine SxNew.mk fun _ => ?_; (try refine sx_use ?_))))
      exact SxDone.mk fun w' hs => ⟨_, ⟨rfl, fun h3 => absurd (h3 x (List.mem_of_getElem? hx)) h2, fun _ => by omega⟩, hs.touch.below⟩
  · obtain rfl : k = s.length := by omega
    rw [List.take_length] at hall
    ((try refine sx_use ?_); (repeat (refine SxNew.mk fun _ => ?_; (try refine sx_use ?_))))
    exact SxDone.mk fun w' hs => ⟨_, ⟨rfl, fun _ => rfl, fun h3 => absurd hall h3⟩, hs.touch.below⟩
theorem ContainsS_any {v v' : Value} {l l' : List Pl} (hl : l.length ≤ 1000000) (hl' : l'.length ≤ 1000000) (s : List Pl) (so : Option Addr) (sc g2 g3 : Nat) (w : World) (hr : Rd w so (plE.fl s)) (h2 : Rd w (some ⟨g2, 0, none⟩) [v]) (h3 : Rd w (some ⟨g3, 0, none⟩) [v']) (ht : TV w v l) (ht' : TV w v' l') :
    Calls Try.prog 31 #[.slice so s.length sc, sameE g2 g3] w fun e w' => e = .returned (.bool (!decide (∀ p ∈ s, l.count p = l'.count p))) ∧ Below w.heap.size w w' := by
  refine sx_fn (S := SX) (M := []) (N := 9) (H0 := [.rd so (plE.fl s), .rd (some ⟨g2, 0, none⟩) [v], .rd (some ⟨g3, 0, none⟩) [v']]) Try.func31 rfl rfl rfl (Sat.cons_rd (Sat.twoRd _ h2 h3) hr (by intro i e g hi ho; match i, hi with | 0, hi => (cases hi; cases ho) | 1, hi => (cases hi; cases ho))) ?_
  ((try refine sx_use ?_); (repeat (refine SxNew.mk fun _ => ?_; (try refine sx_use ?_))))
  refine SxCall.mk fun w hs => (IndexS_any hl hl' s so sc g2 g3 w (hs.rd 0 rfl) (hs.rd 1 rfl) (hs.rd 2 rfl) (ht.below hs.touch.below) (ht'.below hs.touch.below)).mono ?_
  rintro e w' ⟨r, ⟨rfl, h1, h2⟩, hb⟩
  refine ⟨_, _, rfl, hs.below hb, ?_⟩
  clear hb hs w'
  ((try refine sx_use ?_); (repeat (refine SxNew.mk fun _ => ?_; (try refine sx_use ?_))))
  refine SxDone.mk fun w' hs => ⟨?_, hs.touch.below⟩
  show Ending.returned (.bool (decide (r ≥ 0))) = _
  by_cases ha : ∀ p ∈ s, l.count p = l'.count p
  · rw [h1 ha, decide_eq_true ha]; rfl
  · rw [decide_eq_true (h2 ha), decide_eq_false ha]; rfl
theorem same_iff (l l' : List Pl) : (∀ p, l.count p = l'.count p) ↔ setP l = setP l' ∧ ∀ p ∈ setP l, l.count p = l'.count p := by
  constructor
  · intro h
    have hm : ∀ p, p ∈ l ↔ p ∈ l' := fun p => by rw [← List.count_pos_iff, ← List.count_pos_iff, h]
    refine ⟨?_, fun p _ => h p⟩
    exact setS_ext ltP_ord cfP_iff (setS_strict ltP_ord cfP_iff l') fun x => by rw [setS_mem, hm]
  · rintro ⟨h1, h2⟩ p
    by_cases hp : p ∈ l
    · exact h2 p ((setS_mem cfP l p).2 hp)
    · have hp' : p ∉ l' := fun h => hp ((setS_mem cfP l p).1 (by rw [show setS cfP l = setS cfP l' from h1]; exact (setS_mem cfP l' p).2 h))
      rw [List.count_eq_zero.2 hp, List.count_eq_zero.2 hp']
set_option maxHeartbeats 4000000 in
theorem Same_tv {v v' : Value} {l l' : List Pl} (hl : l.length ≤ 1000000) (hl' : l'.length ≤ 1000000) (w : World) (h : TV w v l) (h' : TV w v' l') :
    Calls Try.prog 16 #[v, v'] w fun e w' => ∃ b : Bool, e = .returned (.bool b) ∧ (b = true ↔ ∀ p, l.count p = l'.count p) ∧ Below w.heap.size w w' := by
  have e1 : (setP l).length ≤ l.length := setS_len cfP l
  have e2 : (setP l').length ≤ l'.length := setS_len cfP l'
  have hi := same_iff l l'
  have hv : ∃ a, v = .pointer a := by rcases h with ⟨rfl, _⟩ | ⟨gt, _, _, rfl, _⟩ <;> exact ⟨_, rfl⟩
  have hv' : ∃ a, v' = .pointer a := by rcases h' with ⟨rfl, _⟩ | ⟨gt, _, _, rfl, _⟩ <;> exact ⟨_, rfl⟩
  obtain ⟨pa, rfl⟩ := hv
  obtain ⟨pb, rfl⟩ := hv'
  refine sx_fn (S := SX) (M := []) (H0 := []) (N := 20) Try.func16 rfl rfl rfl (Sat.nil _ _) ?_
  ((try refine sx_use ?_); (repeat (refine SxNew.mk fun _ => ?_; (try refine sx_use ?_))))
  rename_i b2 b3
  refine SxCode.drawAll rfl [] ?_
  ((try refine sx_use ?_); (repeat (refine SxNew.mk fun _ => ?_; (try refine sx_use ?_))))
  refine SxCall.newRow (fun w1 hs => Live_tv hl w1 (h.below hs.touch.below)) fun so sc => ?_
  ((try refine sx_use ?_); (repeat (refine SxNew.mk fun _ => ?_; (try refine sx_use ?_))))
  refine SxCall.newRow (fun w1 hs => Live_tv hl' w1 (h'.below hs.touch.below)) fun ro rc => ?_
  ((try refine sx_use ?_); (repeat (refine SxNew.mk fun _ => ?_; (try refine sx_use ?_))))
  refine SxCall.quietS (fun w1 hs => EqualPl_any (setP l) (setP l') so ro sc rc w1 (hs.rowRd 1 rfl (by rw [rowPl_len]; unfold maxLen; omega)) (hs.rowRd 0 rfl (by rw [rowPl_len]; unfold maxLen; omega))) ?_
  ((try refine sx_use ?_); (repeat (refine SxNew.mk fun _ => ?_; (try refine sx_use ?_))))
  refine SxIf.dec (fun heq => ?_) (fun hne => ?_)
  · ((try refine sx_use ?_); (repeat (refine SxNew.mk fun _ => ?_; (try refine sx_use ?_))))
    refine SxCall.quietS (fun w1 hs => ContainsS_any hl hl' (setP l) so sc b2 b3 w1 (hs.rowRd 1 rfl (by rw [rowPl_len]; unfold maxLen; omega)) (Rd.of_blk (hs.blk 3 rfl) (by show 1 ≤ maxLen; decide)) (Rd.of_blk (hs.blk 2 rfl) (by show 1 ≤ maxLen; decide)) (h.below hs.touch.below) (h'.below hs.touch.below)) ?_
    ((try refine sx_use ?_); (repeat (refine SxNew.mk fun _ => ?_; (try refine sx_use ?_))))
    refine SxDone.mk fun w' hs => ⟨_, rfl, ?_, hs.touch.below⟩
    rw [hi, Bool.not_not, decide_eq_true_iff]
    exact ⟨fun h => ⟨heq, h⟩, fun h => h.2⟩
  · ((try refine sx_use ?_); (repeat (refine SxNew.mk fun _ => ?_; (try refine sx_use ?_))))
    refine SxDone.mk fun w' hs => ⟨_, rfl, ?_, hs.touch.below⟩
    rw [hi]
    exact ⟨fun h => absurd h (by decide), fun h => absurd h.1 hne⟩
end Go.Proofs.Ytcpbgacdoigpnaa
