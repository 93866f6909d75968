/- The walk of recipe.Join: recipes in a row, joined one behind the other. -/
import Derived.Test.YtbbngmlgpjepnaaZRcL
namespace Go.Proofs.Ytbbngmlgpjepnaa
open Go.RowKit

theorem Sat.learn {W : World} {H : Hp} {w : World} (hs : Sat W [] H w) {ao : Option Addr} {cs : List Value} (h : Rd W ao cs) : Sat W [] (.rd ao cs :: H) w := by
  refine hs.cons_rd (Ent.Holds.kept (e := .rd ao cs) h (Below.toGrown hs.touch.below) fun g hg => by cases hg) fun i e g hi hg hu => ?_
  have h1 := Ent.uses_lt (e := .rd ao cs) h hu
  rcases hs.own i e hi g hg with h2 | h2
  · omega
  · cases h2
theorem Sat.old {W : World} {H : Hp} {w : World} (hs : Sat W [] H w) {ao : Option Addr} {cs : List Value} (h : Rd W ao cs) : Rd w ao cs := (hs.learn h).rd 0 rfl
theorem SxCall.learn {S : Sx} {W : World} {f : Nat} {args : Array Value} {H : Hp} {A : Value → Hp → Prop} {v : Value} {ao : Option Addr} {cs : List Value} (hr : Rd W ao cs) (hc : ∀ w, Sat W [] H w → Calls S.P f args w fun e w' => e = .returned v ∧ Below w.heap.size w w') (h : A v (.rd ao cs :: H)) : SxCall S W [] f args H A :=
  SxCall.sat _ (fun w hs => (hc w hs).mono fun _ _ h => ⟨h.1, (hs.below h.2).learn hr⟩) h
/-- A recipe, where its numbers lie. -/
abbrev Rl := Rc × Option Addr × Nat
def rcC (x : Rl) : List Value := [.string ⟨x.1.nm.toArray⟩, .int .i64 x.1.sz, .int .i64 x.1.re, .int .i64 x.1.im, .slice x.2.1 x.1.ms.length x.2.2]
def rcs (l : List Rl) : List Value := l.flatMap rcC
theorem rcs_len : ∀ l : List Rl, (rcs l).length = 5 * l.length
  | [] => rfl
  | x :: l => by
    have := rcs_len l
    unfold rcs at this ⊢
    rw [List.flatMap_cons, List.length_append, this, List.length_cons]
    show 5 + _ = _
    omega
theorem rcs_drop : ∀ (l : List Rl) (k : Nat), (rcs l).drop (k * 5) = rcs (l.drop k)
  | [], k => by simp [rcs]
  | x :: l, 0 => by simp
  | x :: l, k + 1 => by
    have := rcs_drop l k
    rw [List.drop_succ_cons, ← this]
    unfold rcs
    rw [List.flatMap_cons, show (k + 1) * 5 = (rcC x).length + k * 5 by show _ = 5 + _; omega, ← List.drop_drop, List.drop_left]
theorem rcs_at {l : List Rl} {k : Nat} {x : Rl} (h : l[k]? = some x) : ((rcs l).drop (k * 5)).take 5 = rcC x := by
  rw [rcs_drop]
  obtain ⟨hk, he⟩ := List.getElem?_eq_some_iff.1 h
  rw [List.drop_eq_getElem_cons hk, he]
  rfl
theorem rcs_cell {l : List Rl} {k j : Nat} {x : Rl} {v : Value} (h : l[k]? = some x) (hj : (rcC x)[j]? = some v) : (rcs l)[k * 5 + j]? = some v := by
  have h5 : j < 5 := (List.getElem?_eq_some_iff.1 hj).1
  rw [← List.getElem?_drop, rcs_drop]
  obtain ⟨hk, he⟩ := List.getElem?_eq_some_iff.1 h
  rw [List.drop_eq_getElem_cons hk, he]
  unfold rcs
  rw [List.flatMap_cons, List.getElem?_append_left h5, hj]
theorem rcs_snoc {l : List Rl} {k : Nat} {x : Rl} (h : l[k]? = some x) : rcs (l.take (k + 1)) = rcs (l.take k) ++ rcC x := by
  unfold rcs
  rw [List.take_add_one, h, List.flatMap_append]
  simp
/-- What is joined so far. -/
structure Jn where
  A : Int
  B : Int
  n : Nat
  ms : List Int
def jstep (s : Jn) (r : Rc) : Jn := ⟨s.A + (turnW r.re r.im (s.n % 4)).1, s.B + (turnW r.re r.im (s.n % 4)).2, s.n + r.sz.toNat, s.ms ++ r.ms⟩
def jst (l : List Rl) : Jn := l.foldl (fun s x => jstep s x.1) ⟨0, 0, 0, []⟩
theorem jst_snoc {l : List Rl} {k : Nat} {x : Rl} (h : l[k]? = some x) : jst (l.take (k + 1)) = jstep (jst (l.take k)) x.1 := by
  unfold jst
  rw [List.take_add_one, h, List.foldl_append]
  rfl
def allMay (l : List Rl) : Prop := ∀ x ∈ l, x.1.may
theorem jst_bd : ∀ (k : Nat) (l : List Rl), k ≤ l.length → (∀ (i : Nat) (x : Rl), i < k → l[i]? = some x → x.1.may) → (jst (l.take k)).A.natAbs ≤ k * 2147483648 ∧ (jst (l.take k)).B.natAbs ≤ k * 2147483648 ∧ (jst (l.take k)).n ≤ k * 1048576 ∧ (jst (l.take k)).ms.length ≤ k * 1024
  | 0, l, _, _ => by rw [List.take_zero]; exact ⟨Nat.zero_le _, Nat.zero_le _, Nat.zero_le _, Nat.zero_le _⟩
  | k + 1, l, hk, h => by
    obtain ⟨x, hx⟩ : ∃ x, l[k]? = some x := ⟨l[k], by simp [show k < l.length by omega]⟩
    obtain ⟨h1, h2, h3, h4⟩ := jst_bd k l (by omega) fun i x hi hx => h i x (by omega) hx
    obtain ⟨g1, g2, g3, g4, g5, ⟨g6, g7⟩, ⟨g8, g9⟩, g10⟩ := h k x (by omega) hx
    have hb := turnW_bd x.1.re x.1.im ((jst (l.take k)).n % 4)
    rw [jst_snoc hx]
    simp only [jstep, List.length_append]
    omega
def joinR (nm : List UInt8) (l : List Rl) : Rc := ⟨nm, (jst l).n, (jst l).A, (jst l).B, (jst l).ms⟩
def joinOk (nm : List UInt8) (l : List Rl) : Prop := allMay l ∧ (joinR nm l).may
set_option maxHeartbeats 4000000 in
theorem Join_any (nm : List UInt8) (hnm : nm.length ≤ maxLen) (li : List Rl) (hli : li.length ≤ 100) (hnl : ∀ x ∈ li, x.1.nm.length ≤ maxLen) (hml : ∀ x ∈ li, x.1.ms.length ≤ 2000) (lo : Option Addr) (lc : Nat) (w : World) (hr : Rd w lo (rcs li)) (hR : ∀ x ∈ li, Rd w x.2.1 (x.1.ms.map u4V)) :
    Calls Try.prog 17 #[txV nm, .slice lo li.length lc] w fun e w' => (joinOk nm li → ∃ ao' cap', e = .returned (.tuple #[(joinR nm li).v ao' cap', .int .i64 0]) ∧ NewRow w w' ao' (joinR nm li).ms.length cap' 42 1 ((joinR nm li).ms.map u4V)) ∧ (¬ joinOk nm li → e = .returned (.tuple #[zrc.v none 0, .int .i64 1]) ∧ Below w.heap.size w w') := by
  have hlen := rcs_len li
  refine sx_fn (S := SX) (M := []) (N := 42) (H0 := [.row none 0 0 42 1 [], .rd lo (rcs li)]) Try.func17 rfl rfl rfl ((Sat.oneRd _ hr).nilRow 42 1) ?_
  ((try refine sx_use ?_); (repeat (refine SxNew.mk fun _ => ?_; (try refine sx_use ?_))))
  rename_i b4
  refine SxCode.loop (σ := Nat × Option Addr × Nat) [13, 6, 7, 8] [14, 15, 16, 10, 17, 18, 19, 20, 5, 21, 22, 23, 24, 25, 6, 26, 27, 28, 29, 7, 30, 31, 32, 33, 8, 34, 13] (fun s => [.int .i64 (s.1 : Nat), wv (jst (li.take s.1)).A (jst (li.take s.1)).B, .int .i64 ((jst (li.take s.1)).n : Nat), .slice s.2.1 (jst (li.take s.1)).ms.length s.2.2]) (fun s => [.row s.2.1 (jst (li.take s.1)).ms.length s.2.2 42 1 ((jst (li.take s.1)).ms.map u4V), .blk b4 28 (rcC (zrc, none, 0)), .rd lo (rcs li)]) (fun s => s.1 ≤ li.length ∧ ∀ (i : Nat) (x : Rl), i < s.1 → li[i]? = some x → x.1.may) (fun s => li.length - s.1) (0, none, 0) [1, 0, 2] rfl rfl rfl rfl ⟨Nat.zero_le _, fun i x hi => absurd hi (Nat.not_lt_zero _)⟩ ?_
  rintro ⟨k, ao, cap⟩ ⟨hk, hmay⟩
  dsimp only at hk hmay ⊢
  obtain ⟨hA, hB, hN, hM⟩ := jst_bd k li hk hmay
  ((try refine sx_use ?_); (repeat (refine SxNew.mk fun _ => ?_; (try refine sx_use ?_))))
  refine SxIf.dec (fun h => ?_) (fun h => ?_)
  · have hlt : k < li.length := by omega
    obtain ⟨x, hx⟩ : ∃ x, li[k]? = some x := ⟨li[k], by simp [hlt]⟩
    have hxm := List.mem_of_getElem? hx
    have hC := fun (w : World) (hs : Rd w x.2.1 (x.1.ms.map u4V)) => Check_any x.1.nm x.1.sz x.1.re x.1.im x.1.ms (hnl x hxm) x.2.1 x.2.2 w hs
    ((try refine sx_use ?_); (repeat (refine SxNew.mk fun _ => ?_; (try refine sx_use ?_))))
    refine SxIA.rd 2 _ rfl k rfl hlt (by rw [hlen]; omega) fun g off ha => ?_
    ((try refine sx_use ?_); (repeat (refine SxNew.mk fun _ => ?_; (try refine sx_use ?_))))
    refine SxLdN.rd 2 rfl ha rfl (vs := rcC x) rfl (rcs_at hx) ?_
    ((try refine sx_use ?_); (repeat (refine SxNew.mk fun _ => ?_; (try refine sx_use ?_))))
    by_cases hm : x.1.may
    · rw [show chkR x.1.nm.length x.1.sz x.1.re x.1.im x.1.ms = 0 from if_pos hm] at hC
      refine SxCall.learn (hR x hxm) (fun w hs => hC w (hs.old (hR x hxm))) ?_
      have hW := fun (w : World) (hs : Rd w x.2.1 (x.1.ms.map u4V)) => Weight_any x.1 (hnl x hxm) x.2.1 x.2.2 w hs
      rw [if_pos (show mayR x.1.nm.length x.1.sz x.1.re x.1.im x.1.ms from hm)] at hW
      obtain ⟨g1, g2, g3, g4, g5, ⟨g6, g7⟩, ⟨g8, g9⟩, g10⟩ := id hm
      have hbd := turnW_bd x.1.re x.1.im ((jst (li.take k)).n % 4)
      have hJ := jst_snoc hx
      obtain ⟨J, hJ0⟩ : ∃ J, J = jst (li.take k) := ⟨_, rfl⟩
      rw [← hJ0] at hJ hA hB hN hM hbd ⊢
      have hms := hml x hxm
      ((try refine sx_use ?_); (repeat (refine SxNew.mk fun _ => ?_; (try refine sx_use ?_))))
      refine SxCall.quietS (fun w hs => hW w (hs.old (hR x hxm))) ?_
      ((try refine sx_use ?_); (repeat (refine SxNew.mk fun _ => ?_; (try refine sx_use ?_))))
      refine SxCall.quiet (WJoin_any _ _ _ _ J.A J.B x.1.re x.1.im (isW_fI _ (by omega)) (isW_fI _ (by omega)) (isW_fI _ (by omega)) (isW_fI _ (by omega)) J.n (by omega) (by omega) (by omega)) ?_
      ((try refine sx_use ?_); (repeat (refine SxNew.mk fun _ => ?_; (try refine sx_use ?_))))
      refine SxApp.mk 2 rfl 0 (.inr (.inl rfl)) (by simp) (allOne_map u4V (fun _ => rfl) x.1.ms) (by unfold maxLen; omega) (by omega) (cs' := (J.ms ++ x.1.ms).map u4V) (by rw [List.map_append]) fun ao' cap' => ?_
      ((try refine sx_use ?_); (repeat (refine SxNew.mk fun _ => ?_; (try refine sx_use ?_))))
      refine SxRound.mk (k + 1, ao', cap') [2, 3, 4] ?_ ?_ rfl ⟨hlt, fun i y hi hy => ?_⟩ (by dsimp only; omega)
      · dsimp only
        rw [hJ]
        unfold jstep
        dsimp only
        rw [List.length_append, show ((J.n + x.1.sz.toNat : Nat) : Int) = J.n + x.1.sz by omega]
        rfl
      · dsimp only
        rw [hJ]
        unfold jstep
        dsimp only
        rw [List.length_append]
        rfl
      · rcases Nat.lt_succ_iff_lt_or_eq.1 hi with h1 | rfl
        · exact hmay i y h1 hy
        · rw [hx] at hy
          exact Option.some.inj hy ▸ hm
    · rw [show chkR x.1.nm.length x.1.sz x.1.re x.1.im x.1.ms = 1 from if_neg hm] at hC
      refine SxCall.learn (hR x hxm) (fun w hs => hC w (hs.old (hR x hxm))) ?_
      ((try refine sx_use ?_); (repeat (refine SxNew.mk fun _ => ?_; (try refine sx_use ?_))))
      exact SxDone.mk fun w' hs => ⟨fun h => absurd (h.1 x hxm) hm, fun _ => ⟨rfl, hs.touch.below⟩⟩
  · obtain rfl : k = li.length := by omega
    rw [List.take_length] at hA hB hN hM ⊢
    have hall : allMay li := fun x hx => by
      obtain ⟨i, hi, he⟩ := List.getElem_of_mem hx
      exact hmay i x hi (by rw [List.getElem?_eq_getElem hi, he])
    have hlm : ((jst li).ms.map u4V).length ≤ maxLen := by rw [List.length_map]; unfold maxLen; omega
    have hw := fun (w : World) (hs : Rd w ao ((jst li).ms.map u4V)) => weighed_any nm (jst li).n (fI (jst li).A) (fI (jst li).B) (jst li).A (jst li).B (isW_fI _ (by omega)) (isW_fI _ (by omega)) (jst li).ms hnm ao cap (by omega) w hs
    ((try refine sx_use ?_); (repeat (refine SxNew.mk fun _ => ?_; (try refine sx_use ?_))))
    by_cases hm : (joinR nm li).may
    · refine SxCall.newRow (v := fun ao' cap' => .tuple #[(joinR nm li).v ao' cap', .int .i64 0]) (fun w hs => (hw w (hs.rowRd 0 rfl hlm)).mono fun e w' h => h.1 hm) fun bo bcap => ?_
      ((try refine sx_use ?_); (repeat (refine SxNew.mk fun _ => ?_; (try refine sx_use ?_))))
      exact SxDone.mk fun w' hs => ⟨fun _ => ⟨bo, bcap, rfl, hs.newRow 0 rfl⟩, fun h => absurd ⟨hall, hm⟩ h⟩
    · refine SxCall.quietS (fun w hs => (hw w (hs.rowRd 0 rfl hlm)).mono fun e w' h => h.2 hm) ?_
      ((try refine sx_use ?_); (repeat (refine SxNew.mk fun _ => ?_; (try refine sx_use ?_))))
      exact SxDone.mk fun w' hs => ⟨fun h => absurd h.2 hm, fun _ => ⟨rfl, hs.touch.below⟩⟩
end Go.Proofs.Ytbbngmlgpjepnaa
