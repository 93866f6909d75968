/- Layer 19: the law's own: what is known, who tells it, what is few. -/
import Derived.Test.YtipmmknecadkkaaZMtI
import Derived.Test.YtipmmknecadkkaaZGen
import Derived.Test.YtipmmknecadkkaaZMtF
import Derived.Test.YtipmmknecadkkaaZMtG
import Derived.Test.YtipmmknecadkkaaZFrame
namespace Go.Proofs.Ytipmmknecadkkaa
open Go.RowKit

theorem enC_all (x : En) : ((enC x).drop 0).take 35 = enC x := by rw [List.drop_zero, List.take_of_length_le (by rw [enC_len]; exact Nat.le_refl _)]
/-- What is known, as it came in. -/
structure Kw where
  of_ : ByteArray
  s : ByteArray
  own : Bool
  has : Bool
  more : Int
  place : Nat
  m1 : -128 ≤ more
  m2 : more < 128
  pl : place < 256
instance : Inhabited Kw := ⟨⟨default, default, false, false, 0, 0, by decide, by decide, by decide⟩⟩
def kwC (k : Kw) : List Value := [.string k.of_, .string k.s, .bool k.own, .int .i8 k.more, .bool k.has, .int .u8 (k.place : Nat)]
def kwE : Enc Kw := ⟨kwC, 6, by decide, fun _ => rfl, fun _ => rfl⟩
theorem kwE_len (l : List Kw) : (kwE.fl l).length = l.length * 6 := kwE.fl_len l
theorem kw_cell {l : List Kw} {k : Nat} {x : Kw} (j : Nat) {v : Value} (h : l[k]? = some x) (hv : (kwC x)[j]? = some v) : (kwE.fl l)[k * 6 + j]? = some v := kwE.fl_cell (j := j) h hv
theorem open_kws {w : World} {d : Nat} {v : Value} (hv : FitK Try.prog w (d + 1) (.slice 60) v) : ∃ (ao : Option Addr) (n cap : Nat), v = .slice ao n cap ∧ n ≤ maxLen ∧ ∃ l : List Kw, l.length = min n 1000 ∧ Rd w ao (kwE.fl l) :=
  open_rows kwE (by show 6 ≤ 100; decide) [.str, .str, .bool, .int .i8, .bool, .int .u8] hv (by kernel_rfl) (by kernel_rfl) rfl fun cs h => by
    obtain ⟨hl, hf⟩ := h
    match cs, hl with
    | [a, b, c, x, y, z], _ =>
      obtain ⟨a, rfl, _⟩ := fitK_str (hf 0 _ _ rfl rfl)
      obtain ⟨b, rfl, _⟩ := fitK_str (hf 1 _ _ rfl rfl)
      obtain ⟨c, rfl⟩ := fitK_bool (hf 2 _ _ rfl rfl)
      obtain ⟨x, rfl, hx⟩ := fitK_int (hf 3 _ _ rfl rfl)
      obtain ⟨y, rfl⟩ := fitK_bool (hf 4 _ _ rfl rfl)
      obtain ⟨z, rfl, hz⟩ := fitK_int (hf 5 _ _ rfl rfl)
      obtain ⟨z, hz8, rfl⟩ := nat_u8 hz
      have hx1 : -128 ≤ x ∧ x < 128 := by
        have := wf_bd hx
        have h1 : IntKind.i8.min = -128 := rfl
        have h2 : IntKind.i8.max = 127 := rfl
        omega
      exact ⟨⟨a, b, c, y, x, z, hx1.1, hx1.2, hz8⟩, rfl⟩
def Kw.txt (k : Kw) : ByteArray := if k.own then k.s else k.of_
def Kw.en (k : Kw) (i : Nat) : En := ⟨(bFq k.txt).1, k.of_.size + k.more, k.place, i, (bFq k.txt).2⟩
def rksOf (l : List Kw) : List Rk := l.zipIdx.map fun x => ⟨x.1.en x.2, x.1.has, x.1.s⟩
theorem rksOf_len (l : List Kw) : (rksOf l).length = l.length := by unfold rksOf; rw [List.length_map, List.length_zipIdx]
theorem rksOf_snoc {l : List Kw} {k : Nat} {x : Kw} (h : l[k]? = some x) : rksOf (l.take (k + 1)) = rksOf (l.take k) ++ [⟨x.en k, x.has, x.s⟩] := by
  unfold rksOf
  rw [take_snocE h, List.zipIdx_append, List.map_append]
  have hk := (List.getElem?_eq_some_iff.1 h).1
  rw [List.length_take, Nat.min_eq_left (by omega)]
  simp
theorem rksOf_at {l : List Kw} {k : Nat} {x : Kw} (h : l[k]? = some x) : (rksOf l)[k]? = some ⟨x.en k, x.has, x.s⟩ := by
  unfold rksOf
  rw [List.getElem?_map, List.getElem?_zipIdx, h]
  simp
theorem knR_snoc {l : List Kw} {k : Nat} {x : Kw} (h : l[k]? = some x) : knR (rksOf (l.take (k + 1))) = knR (rksOf (l.take k)) ++ [x.en k] := by
  rw [rksOf_snoc h]; unfold knR; rw [List.map_append]; rfl
theorem knR_len (l : List Rk) : (knR l).length = l.length := List.length_map ..
set_option maxHeartbeats 8000000 in
theorem few19_any (cs : List ByteArray) (ks : List Kw) (n m : Nat) (hn : cs.length = min n 1000) (hm : ks.length = min m 1000) (ao bo : Option Addr) (ac bc : Nat) (w : World) (hr : Rd w ao (strE.fl cs)) (hk : Rd w bo (kwE.fl ks)) :
    Calls Try.prog 5 #[.slice ao n ac, .slice bo m bc] w fun e w' => ∃ v, e = .returned v ∧ (∃ b : Bool, v = .bool b ∧ (b = true → n ≤ 12 ∧ m ≤ 12 ∧ (∀ c ∈ cs, c.size ≤ 100) ∧ ∀ k ∈ ks, k.of_.size ≤ 100 ∧ k.s.size ≤ 100)) ∧ Below w.heap.size w w' := by
  refine sx_fn (S := SX) (M := []) (N := 57) (H0 := [.rd ao (strE.fl cs), .rd bo (kwE.fl ks)]) Try.func5 rfl rfl rfl (Sat.twoRd _ hr hk) ?_
  ((try refine sx_use ?_); (repeat (refine SxNew.mk fun _ => ?_; (try refine sx_use ?_))))
  refine SxCode.loop (σ := Nat) [5, 4] [7, 8, 9, 10, 11, 12, 13, 14, 17, 18, 19, 20, 21, 22, 4, 15, 16, 5] (fun k => [.int .i64 (k : Nat), .bool false]) (fun _ => [.rd ao (strE.fl cs), .rd bo (kwE.fl ks)]) (fun k => k ≤ n ∧ k ≤ 12 ∧ ∀ c ∈ cs.take k, c.size ≤ 100) (fun k => n - k) 0 [0, 1] rfl rfl rfl rfl ⟨Nat.zero_le _, by decide, by simp⟩ ?_
  rintro k ⟨hk1, hk2, hall⟩
  rcases (by omega : (k < n ∧ k < 12) ∨ (k < n ∧ ¬ k < 12) ∨ ¬ k < n) with ⟨h1, h2⟩ | ⟨h1, h2⟩ | h1
  · obtain ⟨x, hx⟩ : ∃ x, cs[k]? = some x := ⟨cs[k]'(by omega), by simp [show k < cs.length by omega]⟩
    ((try refine sx_use ?_); (repeat (refine SxNew.mk fun _ => ?_; (try refine sx_use ?_))))
    refine SxIA.rd 0 _ rfl k rfl h1 (by rw [strE_len]; omega) fun g off ha => ?_
    ((try refine sx_use ?_); (repeat (refine SxNew.mk fun _ => ?_; (try refine sx_use ?_))))
    refine SxLd.rd 0 rfl ha rfl (j := k * 1) (strE_at hx) ?_
    ((try refine sx_use ?_); (repeat (refine SxNew.mk fun _ => ?_; (try refine sx_use ?_))))
    refine SxIf.dec (fun h => ?_) (fun h => ?_)
    · ((try refine sx_use ?_); (repeat (refine SxNew.mk fun _ => ?_; (try refine sx_use ?_))))
      exact SxDone.mk fun w' hs => ⟨_, rfl, ⟨false, rfl, by simp⟩, hs.touch.below⟩
    · ((try refine sx_use ?_); (repeat (refine SxNew.mk fun _ => ?_; (try refine sx_use ?_))))
      exact SxRound.mk (k + 1) [0, 1] rfl rfl rfl ⟨h1, h2, by
        rw [take_snocE hx]
        intro c hc
        rcases List.mem_append.1 hc with h' | h'
        · exact hall c h'
        · simp at h'; subst h'; omega⟩ (by first | omega | (dsimp only; omega))
  all_goals
    ((try refine sx_use ?_); (repeat (refine SxNew.mk fun _ => ?_; (try refine sx_use ?_))))
    refine SxCode.loop (σ := Nat) [6, 4] [23, 24, 25, 26, 27, 28, 29, 30, 33, 34, 35, 36, 37, 38, 39, 40, 41, 42, 43, 44, 45, 46, 47, 48, 4, 31, 32, 6] (fun k => [.int .i64 (k : Nat), .bool false]) (fun _ => [.rd ao (strE.fl cs), .rd bo (kwE.fl ks)]) (fun k => k ≤ m ∧ k ≤ 12 ∧ ∀ c ∈ ks.take k, c.of_.size ≤ 100 ∧ c.s.size ≤ 100) (fun k => m - k) 0 [0, 1] rfl rfl rfl rfl ⟨Nat.zero_le _, by decide, by simp⟩ ?_
    rintro j ⟨hj1, hj2, hallj⟩
    rcases (by omega : (j < m ∧ j < 12) ∨ (j < m ∧ ¬ j < 12) ∨ ¬ j < m) with ⟨h3, h4⟩ | ⟨h3, h4⟩ | h3
    · obtain ⟨x, hx⟩ : ∃ x, ks[j]? = some x := ⟨ks[j]'(by omega), by simp [show j < ks.length by omega]⟩
      ((try refine sx_use ?_); (repeat (refine SxNew.mk fun _ => ?_; (try refine sx_use ?_))))
      refine SxIA.rd 1 _ rfl j rfl h3 (by rw [kwE_len]; omega) fun g off ha => ?_
      ((try refine sx_use ?_); (repeat (refine SxNew.mk fun _ => ?_; (try refine sx_use ?_))))
      refine SxLd.rd 1 rfl ha rfl (j := j * 6) (kw_cell 0 hx rfl) ?_
      ((try refine sx_use ?_); (repeat (refine SxNew.mk fun _ => ?_; (try refine sx_use ?_))))
      refine SxIf.dec (fun h => ?_) (fun h => ?_)
      · ((try refine sx_use ?_); (repeat (refine SxNew.mk fun _ => ?_; (try refine sx_use ?_))))
        exact SxDone.mk fun w' hs => ⟨_, rfl, ⟨false, rfl, by simp⟩, hs.touch.below⟩
      · ((try refine sx_use ?_); (repeat (refine SxNew.mk fun _ => ?_; (try refine sx_use ?_))))
        refine SxIA.rd 1 _ rfl j rfl h3 (by rw [kwE_len]; omega) fun g off ha => ?_
        ((try refine sx_use ?_); (repeat (refine SxNew.mk fun _ => ?_; (try refine sx_use ?_))))
        refine SxLd.rd 1 rfl ha (by omega) (j := j * 6 + 1) (kw_cell 1 hx rfl) ?_
        ((try refine sx_use ?_); (repeat (refine SxNew.mk fun _ => ?_; (try refine sx_use ?_))))
        refine SxIf.dec (fun h' => ?_) (fun h' => ?_)
        · ((try refine sx_use ?_); (repeat (refine SxNew.mk fun _ => ?_; (try refine sx_use ?_))))
          exact SxDone.mk fun w' hs => ⟨_, rfl, ⟨false, rfl, by simp⟩, hs.touch.below⟩
        · ((try refine sx_use ?_); (repeat (refine SxNew.mk fun _ => ?_; (try refine sx_use ?_))))
          exact SxRound.mk (j + 1) [0, 1] rfl rfl rfl ⟨h3, h4, by
            rw [take_snocE hx]
            intro c hc
            rcases List.mem_append.1 hc with h' | h'
            · exact hallj c h'
            · simp at h'; subst h'; omega⟩ (by first | omega | (dsimp only; omega))
    all_goals
      rcases (by omega : (n ≤ 12 ∧ m ≤ 12) ∨ (n ≤ 12 ∧ ¬ m ≤ 12) ∨ ¬ n ≤ 12) with ⟨h5, h6⟩ | ⟨h5, h6⟩ | h5
      all_goals
        first
          | (exfalso; omega)
          | (((try refine sx_use ?_); (repeat (refine SxNew.mk fun _ => ?_; (try refine sx_use ?_))))
             exact SxDone.mk fun w' hs => ⟨_, rfl, ⟨_, rfl, fun hb => by
               have h7 : n ≤ 12 ∧ m ≤ 12 := by first | exact ⟨h5, h6⟩ | (have := of_decide_eq_true hb; omega) | cases hb
               rw [List.take_of_length_le (by omega)] at hall
               rw [List.take_of_length_le (by omega)] at hallj
               exact ⟨h7.1, h7.2, hall, hallj⟩⟩, hs.touch.below⟩)
set_option maxHeartbeats 8000000 in
theorem known_any (l : List Kw) (hl : l.length ≤ 1000) (hs : ∀ k ∈ l, k.of_.size ≤ 100 ∧ k.s.size ≤ 100) (ao : Option Addr) (ac : Nat) (w : World) (hr : Rd w ao (kwE.fl l)) :
    Calls Try.prog 7 #[.slice ao l.length ac] w fun e w' => ∃ a1 c1 a2 c2, e = .returned (.tuple #[.slice a1 l.length c1, .slice a2 l.length c2]) ∧ NewRow w w' a1 l.length c1 43 37 (rkE.fl (rksOf l)) ∧ NewRow w w' a2 l.length c2 41 35 (enE.fl (knR (rksOf l))) := by
  refine sx_fn (S := SX) (M := []) (N := 75) (H0 := [.row none 0 0 43 37 [], .row none 0 0 41 35 [], .rd ao (kwE.fl l)]) Try.func7 rfl rfl rfl (((Sat.oneRd _ hr).nilRow 41 35).nilRow 43 37) ?_
  ((try refine sx_use ?_); (repeat (refine SxNew.mk fun _ => ?_; (try refine sx_use ?_))))
  refine SxCode.loop (σ := Nat × (Option Addr × Nat) × (Option Addr × Nat)) [6, 4, 5] [9, 10, 11, 12, 15, 16, 17, 18, 19, 20, 7, 21, 22, 23, 24, 25, 26, 27, 28, 29, 30, 31, 32, 33, 34, 35, 36, 37, 38, 39, 40, 41, 42, 43, 44, 45, 46, 47, 48, 49, 50, 51, 52, 53, 8, 54, 55, 56, 57, 58, 59, 60, 61, 62, 63, 64, 65, 66, 67, 68, 4, 69, 70, 71, 72, 5, 13, 14, 6] (fun x => [.int .i64 (x.1 : Nat), .slice x.2.1.1 x.1 x.2.1.2, .slice x.2.2.1 x.1 x.2.2.2]) (fun x => [.row x.2.1.1 x.1 x.2.1.2 43 37 (rkE.fl (rksOf (l.take x.1))), .row x.2.2.1 x.1 x.2.2.2 41 35 (enE.fl (knR (rksOf (l.take x.1)))), .rd ao (kwE.fl l)]) (fun x => x.1 ≤ l.length) (fun x => l.length - x.1) (0, (none, 0), (none, 0)) [0, 1, 2] rfl rfl rfl rfl (Nat.zero_le _) ?_
  rintro ⟨k, ⟨a1, c1⟩, ⟨a2, c2⟩⟩ hk
  dsimp only at hk ⊢
  ((try refine sx_use ?_); (repeat (refine SxNew.mk fun _ => ?_; (try refine sx_use ?_))))
  refine SxIf.dec (fun h => ?_) (fun h => ?_)
  · have hlt : k < l.length := by omega
    obtain ⟨x, hx⟩ : ∃ x, l[k]? = some x := ⟨l[k], by simp [hlt]⟩
    have hxs := hs x (List.mem_of_getElem? hx)
    have e1 := rksOf_snoc hx
    have e2 := knR_snoc hx
    have hm1 := x.m1
    have hm2 := x.m2
    have hpl := x.pl
    ((try refine sx_use ?_); (repeat (refine SxNew.mk fun _ => ?_; (try refine sx_use ?_))))
    refine SxIA.rd 2 _ rfl k rfl hlt (by rw [kwE_len]; omega) fun g off ha => ?_
    ((try refine sx_use ?_); (repeat (refine SxNew.mk fun _ => ?_; (try refine sx_use ?_))))
    refine SxLd.rd 2 rfl ha rfl (j := k * 6) (kw_cell 0 hx rfl) ?_
    ((try refine sx_use ?_); (repeat (refine SxNew.mk fun _ => ?_; (try refine sx_use ?_))))
    refine SxCall.rsumF x.of_ (by omega) ?_
    ((try refine sx_use ?_); (repeat (refine SxNew.mk fun _ => ?_; (try refine sx_use ?_))))
    refine SxSt.elem fqE (x := bFq x.of_) 0 rfl rfl ?_
    ((try refine sx_use ?_); (repeat (refine SxNew.mk fun _ => ?_; (try refine sx_use ?_))))
    refine SxIA.rd 3 _ rfl k rfl hlt (by rw [kwE_len]; omega) fun g off ha => ?_
    ((try refine sx_use ?_); (repeat (refine SxNew.mk fun _ => ?_; (try refine sx_use ?_))))
    refine SxLd.rd 3 rfl ha (by omega) (j := k * 6 + 2) (kw_cell 2 hx rfl) ?_
    ((try refine sx_use ?_); (repeat (refine SxNew.mk fun _ => ?_; (try refine sx_use ?_))))
    rename_i bf
    refine ⟨fun ho => ?_, fun ho => ?_⟩
    case' refine_1 =>
      have ht : x.txt = x.s := by unfold Kw.txt; rw [if_pos ho]
      ((try refine sx_use ?_); (repeat (refine SxNew.mk fun _ => ?_; (try refine sx_use ?_))))
      refine SxIA.rd 3 _ rfl k rfl hlt (by rw [kwE_len]; omega) fun g off ha => ?_
      ((try refine sx_use ?_); (repeat (refine SxNew.mk fun _ => ?_; (try refine sx_use ?_))))
      refine SxLd.rd 3 rfl ha (by omega) (j := k * 6 + 1) (kw_cell 1 hx rfl) ?_
      ((try refine sx_use ?_); (repeat (refine SxNew.mk fun _ => ?_; (try refine sx_use ?_))))
      refine SxCall.rsumF x.s (by omega) ?_
      ((try refine sx_use ?_); (repeat (refine SxNew.mk fun _ => ?_; (try refine sx_use ?_))))
      refine SxSt.elem fqE (x := bFq x.s) 0 rfl (fqE.len _) ?_
      rw [← ht]
    case' refine_2 =>
      have ht : x.txt = x.of_ := by unfold Kw.txt; rw [ho]; rfl
      rw [← ht]
    all_goals
      ((try refine sx_use ?_); (repeat (refine SxNew.mk fun _ => ?_; (try refine sx_use ?_))))
      refine SxCode.draw rfl [.blk bf 38 (fqC (bFq x.txt)), .rd ao (kwE.fl l)] [23] [0, 3] rfl rfl ?_
      ((try refine sx_use ?_); (repeat (refine SxNew.mk fun _ => ?_; (try refine sx_use ?_))))
      refine SxLdN.blk 0 rfl (vs := fqC (bFq x.txt)) (fqC_len _) (fqC_take _) ?_
      ((try refine sx_use ?_); (repeat (refine SxNew.mk fun _ => ?_; (try refine sx_use ?_))))
      refine SxIA.rd 1 _ rfl k rfl hlt (by rw [kwE_len]; omega) fun g off ha => ?_
      ((try refine sx_use ?_); (repeat (refine SxNew.mk fun _ => ?_; (try refine sx_use ?_))))
      refine SxLd.rd 1 rfl ha rfl (j := k * 6) (kw_cell 0 hx rfl) ?_
      ((try refine sx_use ?_); (repeat (refine SxNew.mk fun _ => ?_; (try refine sx_use ?_))))
      refine SxIA.rd 1 _ rfl k rfl hlt (by rw [kwE_len]; omega) fun g off ha => ?_
      ((try refine sx_use ?_); (repeat (refine SxNew.mk fun _ => ?_; (try refine sx_use ?_))))
      refine SxLd.rd 1 rfl ha (by omega) (j := k * 6 + 3) (kw_cell 3 hx rfl) ?_
      ((try refine sx_use ?_); (repeat (refine SxNew.mk fun _ => ?_; (try refine sx_use ?_))))
      refine SxIA.rd 1 _ rfl k rfl hlt (by rw [kwE_len]; omega) fun g off ha => ?_
      ((try refine sx_use ?_); (repeat (refine SxNew.mk fun _ => ?_; (try refine sx_use ?_))))
      refine SxLd.rd 1 rfl ha (by omega) (j := k * 6 + 5) (kw_cell 5 hx rfl) ?_
      ((try refine sx_use ?_); (repeat (refine SxNew.mk fun _ => ?_; (try refine sx_use ?_))))
      refine SxRng.u32 (by omega) (by omega) ?_
      ((try refine sx_use ?_); (repeat (refine SxNew.mk fun _ => ?_; (try refine sx_use ?_))))
      refine SxFill.first rfl (fqC_len _) rfl ?_
      refine SxFill.tail (fun i => match i with | 1 => some (0, 1) | 2 => some (1, 1) | 3 => some (2, 1) | _ => none) (fqC_len _) (by
        intro y hy
        simp only [List.mem_cons, List.not_mem_nil, or_false] at hy
        rcases hy with rfl | rfl | rfl <;> exact ⟨_, _, rfl, rfl⟩) ?_
      refine SxFill.ok rfl rfl ?_
      ((try refine sx_use ?_); (repeat (refine SxNew.mk fun _ => ?_; (try refine sx_use ?_))))
      refine SxStable.mk [1, 4] rfl rfl ?_
      ((try refine sx_use ?_); (repeat (refine SxNew.mk fun _ => ?_; (try refine sx_use ?_))))
      refine SxSt.elem enE (x := x.en k) 0 rfl rfl ?_
      ((try refine sx_use ?_); (repeat (refine SxNew.mk fun _ => ?_; (try refine sx_use ?_))))
      rename_i be
      refine SxCode.draw rfl [.blk be 41 (enC (x.en k)), .rd ao (kwE.fl l)] [] [0, 4] rfl rfl ?_
      ((try refine sx_use ?_); (repeat (refine SxNew.mk fun _ => ?_; (try refine sx_use ?_))))
      refine SxLdN.blk 0 rfl (vs := enC (x.en k)) (enC_len _) (enC_all _) ?_
      ((try refine sx_use ?_); (repeat (refine SxNew.mk fun _ => ?_; (try refine sx_use ?_))))
      refine SxIA.rd 1 _ rfl k rfl hlt (by rw [kwE_len]; omega) fun g off ha => ?_
      ((try refine sx_use ?_); (repeat (refine SxNew.mk fun _ => ?_; (try refine sx_use ?_))))
      refine SxLd.rd 1 rfl ha (by omega) (j := k * 6 + 4) (kw_cell 4 hx rfl) ?_
      ((try refine sx_use ?_); (repeat (refine SxNew.mk fun _ => ?_; (try refine sx_use ?_))))
      refine SxIA.rd 1 _ rfl k rfl hlt (by rw [kwE_len]; omega) fun g off ha => ?_
      ((try refine sx_use ?_); (repeat (refine SxNew.mk fun _ => ?_; (try refine sx_use ?_))))
      refine SxLd.rd 1 rfl ha (by omega) (j := k * 6 + 1) (kw_cell 1 hx rfl) ?_
      ((try refine sx_use ?_); (repeat (refine SxNew.mk fun _ => ?_; (try refine sx_use ?_))))
      refine SxFill.first rfl (enC_len _) rfl ?_
      refine SxFill.tail (fun i => match i with | 1 => some (0, 1) | 2 => some (1, 1) | _ => none) (enC_len _) (by
        intro y hy
        simp only [List.mem_cons, List.not_mem_nil, or_false] at hy
        rcases hy with rfl | rfl <;> exact ⟨_, _, rfl, rfl⟩) ?_
      refine SxFill.ok rfl rfl ?_
      ((try refine sx_use ?_); (repeat (refine SxNew.mk fun _ => ?_; (try refine sx_use ?_))))
      refine SxFill.one rfl (rkC_len ⟨x.en k, x.has, x.s⟩) ?_
      ((try refine sx_use ?_); (repeat (refine SxNew.mk fun _ => ?_; (try refine sx_use ?_))))
      refine SxStable.mk [1, 5] rfl rfl ?_
      ((try refine sx_use ?_); (repeat (refine SxNew.mk fun _ => ?_; (try refine sx_use ?_))))
      refine SxApp.mk 3 rfl 0 (.inr (.inr (.inr ⟨by decide, _, rfl⟩))) (vs := rkC ⟨x.en k, x.has, x.s⟩) (m := 1) (by rw [rkC_len]) (rkC_one _) (by unfold maxLen; omega) (by omega) (cs' := rkE.fl (rksOf (l.take (k + 1)))) (by rw [e1, rkE.fl_append, rkE.fl_one]; rfl) fun a1' c1' => ?_
      ((try refine sx_use ?_); (repeat (refine SxNew.mk fun _ => ?_; (try refine sx_use ?_))))
      refine SxStable.mk [1, 5] rfl rfl ?_
      ((try refine sx_use ?_); (repeat (refine SxNew.mk fun _ => ?_; (try refine sx_use ?_))))
      refine SxLdN.blk 1 rfl (vs := enC (x.en k)) (enC_len _) (enC_all _) ?_
      ((try refine sx_use ?_); (repeat (refine SxNew.mk fun _ => ?_; (try refine sx_use ?_))))
      refine SxFill.one rfl (enC_len _) ?_
      ((try refine sx_use ?_); (repeat (refine SxNew.mk fun _ => ?_; (try refine sx_use ?_))))
      refine SxApp.mk 5 rfl 0 (.inr (.inr (.inr ⟨by decide, _, rfl⟩))) (vs := enC (x.en k)) (m := 1) (by rw [enC_len]) (enC_one _) (by unfold maxLen; omega) (by omega) (cs' := enE.fl (knR (rksOf (l.take (k + 1))))) (by rw [e2, enE.fl_append, enE.fl_one]; rfl) fun a2' c2' => ?_
      ((try refine sx_use ?_); (repeat (refine SxNew.mk fun _ => ?_; (try refine sx_use ?_))))
      exact SxRound.mk (k + 1, (a1', c1'), (a2', c2')) [4, 5, 6] rfl rfl rfl hlt (by first | omega | (dsimp only; omega))
  · obtain rfl : k = l.length := by omega
    rw [List.take_length]
    ((try refine sx_use ?_); (repeat (refine SxNew.mk fun _ => ?_; (try refine sx_use ?_))))
    exact SxDone.mk fun w' hs => ⟨a1, c1, a2, c2, rfl, hs.newRow 0 rfl, hs.newRow 1 rfl⟩
/-- The teller. -/
theorem teller_any (ks : List Rk) (i : Nat) (e : En) (he : e.sl = i) (r : Rk) (hr : ks[i]? = some r) (ko : Option Addr) (kc gb : Nat) (w : World) (h1 : Rd w (some ⟨gb, 0, none⟩) [.slice ko ks.length kc]) (hk : Rd w ko (rkE.fl ks)) :
    Calls Try.prog byN (byArgs gb e) w fun en w' => en = .returned (.tuple #[.string (tlR ks i).1, .bool (tlR ks i).2]) ∧ Below w.heap.size w w' := by
  have hi := (List.getElem?_eq_some_iff.1 hr).1
  have hcl : ks.length * 37 ≤ maxLen := by have := hk.1; rw [rkE_len] at this; exact this
  unfold maxLen at hcl
  have hsl : (enC e)[34]? = some (.int .i64 (i : Nat)) := by rw [show (enC e)[34]? = some (.int .i64 e.sl) from enC_tail e 2 _ rfl, he]
  unfold byN byArgs
  refine sx_fn (S := SX) (M := []) (N := 30) (H0 := [.rd (some ⟨gb, 0, none⟩) [.slice ko ks.length kc], .rd ko (rkE.fl ks)]) Try.func23 rfl rfl rfl (Sat.twoRd _ h1 hk) ?_
  ((try refine sx_use ?_); (repeat (refine SxNew.mk fun _ => ?_; (try refine sx_use ?_))))
  refine SxLd.blk 0 rfl hsl ?_
  ((try refine sx_use ?_); (repeat (refine SxNew.mk fun _ => ?_; (try refine sx_use ?_))))
  refine SxLd.blk 0 rfl hsl ?_
  ((try refine sx_use ?_); (repeat (refine SxNew.mk fun _ => ?_; (try refine sx_use ?_))))
  refine SxLd.rd 1 rfl rfl (j := 0) rfl rfl ?_
  ((try refine sx_use ?_); (repeat (refine SxNew.mk fun _ => ?_; (try refine sx_use ?_))))
  refine SxLd.rd 1 rfl rfl (j := 0) rfl rfl ?_
  ((try refine sx_use ?_); (repeat (refine SxNew.mk fun _ => ?_; (try refine sx_use ?_))))
  refine SxLd.blk 0 rfl hsl ?_
  ((try refine sx_use ?_); (repeat (refine SxNew.mk fun _ => ?_; (try refine sx_use ?_))))
  refine SxIA.rd 2 _ rfl i rfl hi (by rw [rkE_len]; omega) fun g off ha => ?_
  ((try refine sx_use ?_); (repeat (refine SxNew.mk fun _ => ?_; (try refine sx_use ?_))))
  refine SxLd.rd 2 rfl ha (by omega) (j := i * 37 + 35) (rk_has hr) ?_
  ((try refine sx_use ?_); (repeat (refine SxNew.mk fun _ => ?_; (try refine sx_use ?_))))
  have ht : tlR ks i = (if r.has then r.s else ⟨#[]⟩, r.has) := by unfold tlR; rw [hr]
  rw [ht]
  refine SxIf.nt ⟨fun hg => ?_, fun hg => ?_⟩
  · ((try refine sx_use ?_); (repeat (refine SxNew.mk fun _ => ?_; (try refine sx_use ?_))))
    refine SxLd.rd 1 rfl rfl (j := 0) rfl rfl ?_
    ((try refine sx_use ?_); (repeat (refine SxNew.mk fun _ => ?_; (try refine sx_use ?_))))
    refine SxLd.blk 0 rfl hsl ?_
    ((try refine sx_use ?_); (repeat (refine SxNew.mk fun _ => ?_; (try refine sx_use ?_))))
    refine SxIA.rd 2 _ rfl i rfl hi (by rw [rkE_len]; omega) fun g off ha => ?_
    ((try refine sx_use ?_); (repeat (refine SxNew.mk fun _ => ?_; (try refine sx_use ?_))))
    refine SxLd.rd 2 rfl ha (by omega) (j := i * 37 + 36) (rk_s hr) ?_
    ((try refine sx_use ?_); (repeat (refine SxNew.mk fun _ => ?_; (try refine sx_use ?_))))
    exact SxDone.mk fun w' hs => ⟨by rw [hg]; rfl, hs.touch.below⟩
  · ((try refine sx_use ?_); (repeat (refine SxNew.mk fun _ => ?_; (try refine sx_use ?_))))
    exact SxDone.mk fun w' hs => ⟨by rw [hg]; rfl, hs.touch.below⟩
theorem teller_sat {W : World} {M : List Nat} {H : Hp} {w : World} (hs : Sat W M H w) (ao : Option Addr) (n c : Nat) : Calls Try.prog 9 #[.slice ao n c] w fun e w' => ∃ gb, e = .returned (byVal gb) ∧ Sat W M (.blk gb 26 [.slice ao n c] :: H) w' := by
  refine sx_fn (S := SX) (N := 4) Try.func9 rfl rfl rfl hs ?_
  ((try refine sx_use ?_); (repeat (refine SxNew.mk fun _ => ?_; (try refine sx_use ?_))))
  rename_i gb
  exact SxDone.mk fun w' hs => ⟨gb, rfl, hs⟩
theorem SxCall.teller19 {W : World} {M : List Nat} {H : Hp} {A : Value → Hp → Prop} {ao : Option Addr} {n c : Nat} (h : ∀ gb, A (byVal gb) (.blk gb 26 [.slice ao n c] :: H)) : SxCall SX W M 9 #[.slice ao n c] H A :=
  ⟨fun w hs => (teller_sat hs ao n c).mono fun e w' ⟨gb, h1, h2⟩ => ⟨_, _, h1, h2, h gb⟩⟩
/-- What was made is told. -/
theorem awake_doc : docF [⟨#[97]⟩, ⟨#[98]⟩, ⟨#[97]⟩] [] 3 = [(-1, -1), (-1, -1), (-1, 0)] := by decide
end Go.Proofs.Ytipmmknecadkkaa
