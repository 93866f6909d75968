/- Layer 19: at, whether a chunk is at a known place. -/
import Derived.Test.YtipmmknecadkkaaZMtB
namespace Go.Proofs.Ytipmmknecadkkaa
open Go.RowKit

set_option maxHeartbeats 4000000 in
theorem at2_any (q : Fq) (l : List Nat) (lo : Option Addr) (lc gm g1 g2 g3 : Nat) (kv : List (Value × Value)) (hlook : LookIs SX 49 kv (fqV q) false (.slice lo l.length lc)) (p : Nat → Bool) (w : World) (hm : MapH fqKey w gm kv) (hr : Rd w lo (natE.fl l))
    (hc : ∀ i ∈ l, ∀ w1, Below w.heap.size w w1 → Calls Try.prog 20 #[.int .i64 (i : Nat), .pointer (some ⟨g1, 0, none⟩), .pointer (some ⟨g2, 0, none⟩), .pointer (some ⟨g3, 0, none⟩)] w1 fun e w' => e = .returned (.bool (p i)) ∧ Below w1.heap.size w1 w') :
    Calls Try.prog 19 #[.map (some gm), fqV q, .func (.func 20) #[] #[.pointer (some ⟨g1, 0, none⟩), .pointer (some ⟨g2, 0, none⟩), .pointer (some ⟨g3, 0, none⟩)]] w fun e w' => e = .returned (.int .i64 (atL p l)) ∧ Below w.heap.size w w' := by
  have hlen : l.length * 1 ≤ maxLen := by have := hr.1; rw [natE_len] at this; exact this
  unfold maxLen at hlen
  refine sx_fn (S := SX) (M := []) (N := 22) (H0 := [mapR fqKey gm kv, .rd lo (natE.fl l)]) Try.func19 rfl rfl rfl (Sat.rdsM w [] _ fun j e hj => by
    match j, hj with
    | 0, hj => cases hj; exact ⟨rfl, hm⟩
    | 1, hj => cases hj; exact ⟨rfl, hr⟩) ?_
  ((try refine sx_use ?_); (repeat (refine SxNew.mk fun _ => ?_; (try refine sx_use ?_))))
  refine SxLdN.blk 0 rfl (vs := fqC q) (fqC_len q) (fqC_take q) ?_
  ((try refine sx_use ?_); (repeat (refine SxNew.mk fun _ => ?_; (try refine sx_use ?_))))
  refine SxSem.lookG fqKey rfl Try.underlying62 rfl rfl (IsMap.r fqKey (p := 1) rfl) (fqKey_ok q) hlook ?_
  ((try refine sx_use ?_); (repeat (refine SxNew.mk fun _ => ?_; (try refine sx_use ?_))))
  refine SxCode.loop (σ := Nat) [13, 6] [14, 15, 16, 8, 17, 18, 19, 20, 6, 21, 13] (fun k => [.int .i64 (k : Nat), .int .i64 0]) (fun _ => [.rd lo (natE.fl l)]) (fun k => k ≤ l.length ∧ ∀ (j : Nat) (y : Nat), j < k → l[j]? = some y → p y = false) (fun k => l.length - k) 0 [2] rfl rfl rfl rfl ⟨Nat.zero_le _, fun j y hj => absurd hj (Nat.not_lt_zero _)⟩ ?_
  rintro k ⟨hk, hall⟩
  ((try refine sx_use ?_); (repeat (refine SxNew.mk fun _ => ?_; (try refine sx_use ?_))))
  refine SxIf.dec (fun h => ?_) (fun h => ?_)
  · have hlt : k < l.length := by omega
    obtain ⟨x, hx⟩ : ∃ x, l[k]? = some x := ⟨l[k], by simp [hlt]⟩
    ((try refine sx_use ?_); (repeat (refine SxNew.mk fun _ => ?_; (try refine sx_use ?_))))
    refine SxIA.rd 0 _ rfl k rfl hlt (by rw [natE_len]; omega) fun g off ha => ?_
    ((try refine sx_use ?_); (repeat (refine SxNew.mk fun _ => ?_; (try refine sx_use ?_))))
    refine SxLd.rd 0 rfl ha rfl (j := k * 1) (natE_at hx) ?_
    ((try refine sx_use ?_); (repeat (refine SxNew.mk fun _ => ?_; (try refine sx_use ?_))))
    refine SxCall.quietS (fun w1 hs => hc x (List.mem_of_getElem? hx) w1 hs.touch.below) ?_
    ((try refine sx_use ?_); (repeat (refine SxNew.mk fun _ => ?_; (try refine sx_use ?_))))
    refine ⟨fun hp => ?_, fun hp => ?_⟩
    · have he : atL p l = (x : Nat) := by unfold atL; rw [find_at1 hall hx hp]
      ((try refine sx_use ?_); (repeat (refine SxNew.mk fun _ => ?_; (try refine sx_use ?_))))
      exact SxDone.mk fun w' hs => ⟨by rw [he]; rfl, hs.touch.below⟩
    · ((try refine sx_use ?_); (repeat (refine SxNew.mk fun _ => ?_; (try refine sx_use ?_))))
      refine SxRound.mk (k + 1) [0] rfl rfl rfl ⟨hlt, fun j y hj hy => ?_⟩ (by omega)
      rcases Nat.lt_succ_iff_lt_or_eq.1 hj with h2 | h2
      · exact hall j y h2 hy
      · subst h2
        obtain rfl := Option.some.inj (hx.symm.trans hy)
        exact hp
  · obtain rfl : k = l.length := by omega
    have he : atL p l = -1 := by
      unfold atL
      rw [List.find?_eq_none.2 fun x hx => by
        obtain ⟨j, hj⟩ := List.getElem?_of_mem hx
        rw [hall j x (List.getElem?_eq_some_iff.1 hj).1 hj]
        simp]
    ((try refine sx_use ?_); (repeat (refine SxNew.mk fun _ => ?_; (try refine sx_use ?_))))
    exact SxDone.mk fun w' hs => ⟨by rw [he]; rfl, hs.touch.below⟩
set_option maxHeartbeats 4000000 in
theorem at3_any (q : Fq) (l : List Nat) (lo : Option Addr) (lc gm g1 g2 : Nat) (kv : List (Value × Value)) (hlook : LookIs SX 49 kv (fqV q) false (.slice lo l.length lc)) (p : Nat → Bool) (w : World) (hm : MapH fqKey w gm kv) (hr : Rd w lo (natE.fl l))
    (hc : ∀ i ∈ l, ∀ w1, Below w.heap.size w w1 → Calls Try.prog 21 #[.int .i64 (i : Nat), .pointer (some ⟨g1, 0, none⟩), .pointer (some ⟨g2, 0, none⟩)] w1 fun e w' => e = .returned (.bool (p i)) ∧ Below w1.heap.size w1 w') :
    Calls Try.prog 19 #[.map (some gm), fqV q, .func (.func 21) #[] #[.pointer (some ⟨g1, 0, none⟩), .pointer (some ⟨g2, 0, none⟩)]] w fun e w' => e = .returned (.int .i64 (atL p l)) ∧ Below w.heap.size w w' := by
  have hlen : l.length * 1 ≤ maxLen := by have := hr.1; rw [natE_len] at this; exact this
  unfold maxLen at hlen
  refine sx_fn (S := SX) (M := []) (N := 22) (H0 := [mapR fqKey gm kv, .rd lo (natE.fl l)]) Try.func19 rfl rfl rfl (Sat.rdsM w [] _ fun j e hj => by
    match j, hj with
    | 0, hj => cases hj; exact ⟨rfl, hm⟩
    | 1, hj => cases hj; exact ⟨rfl, hr⟩) ?_
  ((try refine sx_use ?_); (repeat (refine SxNew.mk fun _ => ?_; (try refine sx_use ?_))))
  refine SxLdN.blk 0 rfl (vs := fqC q) (fqC_len q) (fqC_take q) ?_
  ((try refine sx_use ?_); (repeat (refine SxNew.mk fun _ => ?_; (try refine sx_use ?_))))
  refine SxSem.lookG fqKey rfl Try.underlying62 rfl rfl (IsMap.r fqKey (p := 1) rfl) (fqKey_ok q) hlook ?_
  ((try refine sx_use ?_); (repeat (refine SxNew.mk fun _ => ?_; (try refine sx_use ?_))))
  refine SxCode.loop (σ := Nat) [13, 6] [14, 15, 16, 8, 17, 18, 19, 20, 6, 21, 13] (fun k => [.int .i64 (k : Nat), .int .i64 0]) (fun _ => [.rd lo (natE.fl l)]) (fun k => k ≤ l.length ∧ ∀ (j : Nat) (y : Nat), j < k → l[j]? = some y → p y = false) (fun k => l.length - k) 0 [2] rfl rfl rfl rfl ⟨Nat.zero_le _, fun j y hj => absurd hj (Nat.not_lt_zero _)⟩ ?_
  rintro k ⟨hk, hall⟩
  ((try refine sx_use ?_); (repeat (refine SxNew.mk fun _ => ?_; (try refine sx_use ?_))))
  refine SxIf.dec (fun h => ?_) (fun h => ?_)
  · have hlt : k < l.length := by omega
    obtain ⟨x, hx⟩ : ∃ x, l[k]? = some x := ⟨l[k], by simp [hlt]⟩
    ((try refine sx_use ?_); (repeat (refine SxNew.mk fun _ => ?_; (try refine sx_use ?_))))
    refine SxIA.rd 0 _ rfl k rfl hlt (by rw [natE_len]; omega) fun g off ha => ?_
    ((try refine sx_use ?_); (repeat (refine SxNew.mk fun _ => ?_; (try refine sx_use ?_))))
    refine SxLd.rd 0 rfl ha rfl (j := k * 1) (natE_at hx) ?_
    ((try refine sx_use ?_); (repeat (refine SxNew.mk fun _ => ?_; (try refine sx_use ?_))))
    refine SxCall.quietS (fun w1 hs => hc x (List.mem_of_getElem? hx) w1 hs.touch.below) ?_
    ((try refine sx_use ?_); (repeat (refine SxNew.mk fun _ => ?_; (try refine sx_use ?_))))
    refine ⟨fun hp => ?_, fun hp => ?_⟩
    · have he : atL p l = (x : Nat) := by unfold atL; rw [find_at1 hall hx hp]
      ((try refine sx_use ?_); (repeat (refine SxNew.mk fun _ => ?_; (try refine sx_use ?_))))
      exact SxDone.mk fun w' hs => ⟨by rw [he]; rfl, hs.touch.below⟩
    · ((try refine sx_use ?_); (repeat (refine SxNew.mk fun _ => ?_; (try refine sx_use ?_))))
      refine SxRound.mk (k + 1) [0] rfl rfl rfl ⟨hlt, fun j y hj hy => ?_⟩ (by omega)
      rcases Nat.lt_succ_iff_lt_or_eq.1 hj with h2 | h2
      · exact hall j y h2 hy
      · subst h2
        obtain rfl := Option.some.inj (hx.symm.trans hy)
        exact hp
  · obtain rfl : k = l.length := by omega
    have he : atL p l = -1 := by
      unfold atL
      rw [List.find?_eq_none.2 fun x hx => by
        obtain ⟨j, hj⟩ := List.getElem?_of_mem hx
        rw [hall j x (List.getElem?_eq_some_iff.1 hj).1 hj]
        simp]
    ((try refine sx_use ?_); (repeat (refine SxNew.mk fun _ => ?_; (try refine sx_use ?_))))
    exact SxDone.mk fun w' hs => ⟨by rw [he]; rfl, hs.touch.below⟩
def byVal (gb : Nat) : Value := .func (.func 23) #[] #[.pointer (some ⟨gb, 0, none⟩)]
def byN : Nat := 23
def byArgs (gb : Nat) (e : En) : Array Value := #[.agg (enC e).toArray, .pointer (some ⟨gb, 0, none⟩)]
theorem enE_len1 (l : List En) : (enE.fl l).length = l.length * 35 := enE.fl_len l
theorem enE_at1 {l : List En} {k : Nat} {x : En} (h : l[k]? = some x) : ((enE.fl l).drop (k * 35)).take 35 = enC x := enE.fl_at h
theorem enE_cell1 {l : List En} {k j : Nat} {x : En} {v : Value} (h : l[k]? = some x) (hv : (enC x)[j]? = some v) : (enE.fl l)[k * 35 + j]? = some v := enE.fl_cell (j := j) h hv
def okT (e : En) (t : ByteArray × Bool) (c : ByteArray) : Bool := decide (e.ln = (c.size : Nat)) && (t.2 && decide (t.1 = c))
theorem strEq_dec (a b : ByteArray) : strEq a b = decide (a = b) := by
  by_cases he : a = b
  · rw [decide_eq_true he, he]; exact (strEq_iff _ _).2 rfl
  · rw [decide_eq_false he]
    cases hb : strEq a b with
    | false => rfl
    | true => exact absurd ((strEq_iff _ _).1 hb) he
set_option maxHeartbeats 4000000 in
theorem Seg2_any (es : List En) (t : ByteArray × Bool) (c : ByteArray) (i : Nat) (x : En) (hx : es[i]? = some x) (ko : Option Addr) (kc g1 g2 g3 gb : Nat) (w : World) (h1 : Rd w (some ⟨g1, 0, none⟩) [.slice ko es.length kc]) (h2 : Rd w (some ⟨g2, 0, none⟩) [.string c]) (h3 : Rd w (some ⟨g3, 0, none⟩) [byVal gb]) (hr : Rd w ko (enE.fl es))
    (hB : ∀ w1, Below w.heap.size w w1 → Calls Try.prog byN (byArgs gb x) w1 fun e w' => e = .returned (.tuple #[.string t.1, .bool t.2]) ∧ Below w1.heap.size w1 w') :
    Calls Try.prog 20 #[.int .i64 (i : Nat), .pointer (some ⟨g1, 0, none⟩), .pointer (some ⟨g2, 0, none⟩), .pointer (some ⟨g3, 0, none⟩)] w fun e w' => e = .returned (.bool (okT x t c)) ∧ Below w.heap.size w w' := by
  have hi := (List.getElem?_eq_some_iff.1 hx).1
  have hcl : es.length * 35 ≤ maxLen := by have := hr.1; rw [enE_len1] at this; exact this
  unfold maxLen at hcl
  refine sx_fn (S := SX) (M := []) (N := 31) (H0 := [.rd (some ⟨g1, 0, none⟩) [.slice ko es.length kc], .rd (some ⟨g2, 0, none⟩) [.string c], .rd (some ⟨g3, 0, none⟩) [byVal gb], .rd ko (enE.fl es)]) Try.func20 rfl rfl rfl (Sat.rdsM w [] _ fun j e hj => by
    match j, hj with
    | 0, hj => cases hj; exact ⟨rfl, h1⟩
    | 1, hj => cases hj; exact ⟨rfl, h2⟩
    | 2, hj => cases hj; exact ⟨rfl, h3⟩
    | 3, hj => cases hj; exact ⟨rfl, hr⟩) ?_
  ((try refine sx_use ?_); (repeat (refine SxNew.mk fun _ => ?_; (try refine sx_use ?_))))
  refine SxCode.drawAll rfl [] ?_
  ((try refine sx_use ?_); (repeat (refine SxNew.mk fun _ => ?_; (try refine sx_use ?_))))
  refine SxLd.rd 0 rfl rfl (j := 0) rfl rfl ?_
  ((try refine sx_use ?_); (repeat (refine SxNew.mk fun _ => ?_; (try refine sx_use ?_))))
  refine SxIA.rd 3 _ rfl i rfl hi (by rw [enE_len1]; omega) fun g off ha => ?_
  ((try refine sx_use ?_); (repeat (refine SxNew.mk fun _ => ?_; (try refine sx_use ?_))))
  refine SxLd.rd 3 rfl ha (by omega) (j := i * 35 + 32) (enE_cell1 hx (enC_tail x 0 _ rfl)) ?_
  ((try refine sx_use ?_); (repeat (refine SxNew.mk fun _ => ?_; (try refine sx_use ?_))))
  refine SxLd.rd 1 rfl rfl (j := 0) rfl rfl ?_
  ((try refine sx_use ?_); (repeat (refine SxNew.mk fun _ => ?_; (try refine sx_use ?_))))
  refine SxIf.ne (fun hne => ?_) (fun heq => ?_)
  · ((try refine sx_use ?_); (repeat (refine SxNew.mk fun _ => ?_; (try refine sx_use ?_))))
    exact SxDone.mk fun w' hs => ⟨by unfold okT; rw [decide_eq_false hne]; rfl, hs.touch.below⟩
  · ((try refine sx_use ?_); (repeat (refine SxNew.mk fun _ => ?_; (try refine sx_use ?_))))
    refine SxCode.drawAll rfl [] ?_
    ((try refine sx_use ?_); (repeat (refine SxNew.mk fun _ => ?_; (try refine sx_use ?_))))
    refine SxLd.rd 2 rfl rfl (j := 0) rfl rfl ?_
    ((try refine sx_use ?_); (repeat (refine SxNew.mk fun _ => ?_; (try refine sx_use ?_))))
    refine SxLd.rd 0 rfl rfl (j := 0) rfl rfl ?_
    ((try refine sx_use ?_); (repeat (refine SxNew.mk fun _ => ?_; (try refine sx_use ?_))))
    refine SxIA.rd 3 _ rfl i rfl hi (by rw [enE_len1]; omega) fun g off ha => ?_
    ((try refine sx_use ?_); (repeat (refine SxNew.mk fun _ => ?_; (try refine sx_use ?_))))
    refine SxLdN.rd 3 rfl ha rfl (vs := enC x) (enC_len x) (enE_at1 hx) ?_
    ((try refine sx_use ?_); (repeat (refine SxNew.mk fun _ => ?_; (try refine sx_use ?_))))
    refine SxCall.quietS (v := .tuple #[.string t.1, .bool t.2]) (fun w1 hs => hB w1 hs.touch.below) ?_
    ((try refine sx_use ?_); (repeat (refine SxNew.mk fun _ => ?_; (try refine sx_use ?_))))
    refine ⟨fun ht => ?_, fun ht => ?_⟩
    · ((try refine sx_use ?_); (repeat (refine SxNew.mk fun _ => ?_; (try refine sx_use ?_))))
      refine SxLd.rd 1 rfl rfl (j := 0) rfl rfl ?_
      ((try refine sx_use ?_); (repeat (refine SxNew.mk fun _ => ?_; (try refine sx_use ?_))))
      refine SxDone.mk fun w' hs => ⟨?_, hs.touch.below⟩
      show Ending.returned (.bool (strEq t.1 c)) = _
      unfold okT
      rw [decide_eq_true heq, ht, strEq_dec]; rfl
    · ((try refine sx_use ?_); (repeat (refine SxNew.mk fun _ => ?_; (try refine sx_use ?_))))
      exact SxDone.mk fun w' hs => ⟨by unfold okT; rw [ht, Bool.false_and, Bool.and_false]; rfl, hs.touch.below⟩
end Go.Proofs.Ytipmmknecadkkaa
