/- The walks of layer 7's order: which fingerprint is ahead. -/
import Derived.Test.YtdbappehchgbcaaGreatZHkB
import Derived.Lib.BytesEntry
import Derived.Laws.Externs
namespace Go.Proofs.YtdbappehchgbcaaGreat
open Go.RowKit

/-- Where two fingerprints differ first. -/
def dif (f g : List UInt8) : Option Nat := (List.range 32).find? fun i => f.getD i 0 != g.getD i 0
theorem dif_some {f g : List UInt8} {i : Nat} (hi : i < 32) (hne : f.getD i 0 ≠ g.getD i 0) (h : ∀ j, j < i → f.getD j 0 = g.getD j 0) : dif f g = some i := by
  unfold dif
  rw [List.find?_range_eq_some]
  exact ⟨by simpa using hne, List.mem_range.2 hi, fun j hj => by simpa using h j hj⟩
theorem dif_none {f g : List UInt8} (h : ∀ j, j < 32 → f.getD j 0 = g.getD j 0) : dif f g = none := by
  unfold dif
  rw [List.find?_range_eq_none]
  intro j hj
  simpa using h j hj
theorem dif_cases (f g : List UInt8) : (dif f g = none ∧ ∀ j, j < 32 → f.getD j 0 = g.getD j 0) ∨ ∃ i, dif f g = some i ∧ i < 32 ∧ f.getD i 0 ≠ g.getD i 0 ∧ ∀ j, j < i → f.getD j 0 = g.getD j 0 := by
  cases h : dif f g with
  | none =>
    left
    unfold dif at h
    rw [List.find?_range_eq_none] at h
    exact ⟨rfl, fun j hj => by simpa using h j hj⟩
  | some i =>
    right
    unfold dif at h
    rw [List.find?_range_eq_some] at h
    exact ⟨i, rfl, List.mem_range.1 h.2.1, by simpa using h.1, fun j hj => by simpa using h.2.2 j hj⟩
def lessF (f g : List UInt8) : Bool := match dif f g with | some i => decide ((f.getD i 0).toNat < (g.getD i 0).toNat) | none => false
def cmpF (f g : List UInt8) : Int := match dif f g with | some i => if (f.getD i 0).toNat < (g.getD i 0).toNat then -1 else 1 | none => 0
theorem eq_of_getD {f g : List UInt8} (hf : f.length = 32) (hg : g.length = 32) (h : ∀ j, j < 32 → f.getD j 0 = g.getD j 0) : f = g := by
  apply List.ext_getElem (by omega)
  intro i h1 h2
  have := h i (by omega)
  rw [List.getD_eq_getElem?_getD, List.getD_eq_getElem?_getD, List.getElem?_eq_getElem h1, List.getElem?_eq_getElem h2] at this
  exact this
theorem cmpF_self (f : List UInt8) : cmpF f f = 0 := by
  unfold cmpF
  rw [dif_none fun _ _ => rfl]
theorem cmpF_less (f g : List UInt8) : decide (cmpF f g < 0) = lessF f g := by
  unfold cmpF lessF
  cases dif f g with
  | none => rfl
  | some i =>
    by_cases h : (f.getD i 0).toNat < (g.getD i 0).toNat
    · simp only [if_pos h, decide_eq_true h]; decide
    · simp only [if_neg h, decide_eq_false h]; decide
theorem RLess_any (f g : List UInt8) (hf : f.length = 32) (hg : g.length = 32) (w : World) : Calls Tryz.prog 83 #[fpV f, fpV g] w fun e w' => e = .returned (.bool (lessF f g)) ∧ Below w.heap.size w w' := by
  refine sx_fn (S := SX) (M := []) (N := 24) (H0 := []) Tryz.func83 rfl rfl rfl (Sat.nil _ _) ?_
  ((try refine sx_use ?_); (repeat (refine SxNew.mk fun _ => ?_; (try refine sx_use ?_))))
  rename_i a b
  refine SxCode.loop (σ := Nat) [5] [6, 7, 10, 11, 12, 13, 14, 15, 16, 17, 18, 19, 20, 21, 22, 23, 4, 8, 9, 5] (fun k => [.int .i64 (k : Nat)]) (fun _ => [.blk b 39 (fpC g), .blk a 39 (fpC f)]) (fun k => k ≤ 32 ∧ ∀ j, j < k → f.getD j 0 = g.getD j 0) (fun k => 32 - k) 0 [0, 1] rfl rfl rfl rfl ⟨Nat.zero_le _, fun j hj => absurd hj (Nat.not_lt_zero _)⟩ ?_
  rintro k ⟨hk, he⟩
  dsimp only
  ((try refine sx_use ?_); (repeat (refine SxNew.mk fun _ => ?_; (try refine sx_use ?_))))
  refine SxIf.dec (fun h => ?_) (fun h => ?_)
  · have hlt : k < 32 := by omega
    ((try refine sx_use ?_); (repeat (refine SxNew.mk fun _ => ?_; (try refine sx_use ?_))))
    refine SxCode.drawAll rfl [] ?_
    ((try refine sx_use ?_); (repeat (refine SxNew.mk fun _ => ?_; (try refine sx_use ?_))))
    refine SxIdx.mk k rfl hlt ?_
    ((try refine sx_use ?_); (repeat (refine SxNew.mk fun _ => ?_; (try refine sx_use ?_))))
    refine SxLd.blk 1 rfl (v := bV (f.getD k 0)) (by rw [Nat.zero_add, Nat.mul_one]; exact fpC_get (by omega)) ?_
    ((try refine sx_use ?_); (repeat (refine SxNew.mk fun _ => ?_; (try refine sx_use ?_))))
    refine SxIdx.mk k rfl hlt ?_
    ((try refine sx_use ?_); (repeat (refine SxNew.mk fun _ => ?_; (try refine sx_use ?_))))
    refine SxLd.blk 0 rfl (v := bV (g.getD k 0)) (by rw [Nat.zero_add, Nat.mul_one]; exact fpC_get (by omega)) ?_
    ((try refine sx_use ?_); (repeat (refine SxNew.mk fun _ => ?_; (try refine sx_use ?_))))
    refine SxIf.ne (fun h1 => ?_) (fun h1 => ?_)
    · have hd := dif_some hlt (fun h => h1 (by rw [h])) he
      ((try refine sx_use ?_); (repeat (refine SxNew.mk fun _ => ?_; (try refine sx_use ?_))))
      refine SxCode.drawAll rfl [] ?_
      ((try refine sx_use ?_); (repeat (refine SxNew.mk fun _ => ?_; (try refine sx_use ?_))))
      refine SxIdx.mk k rfl hlt ?_
      ((try refine sx_use ?_); (repeat (refine SxNew.mk fun _ => ?_; (try refine sx_use ?_))))
      refine SxLd.blk 1 rfl (v := bV (f.getD k 0)) (by rw [Nat.zero_add, Nat.mul_one]; exact fpC_get (by omega)) ?_
      ((try refine sx_use ?_); (repeat (refine SxNew.mk fun _ => ?_; (try refine sx_use ?_))))
      refine SxIdx.mk k rfl hlt ?_
      ((try refine sx_use ?_); (repeat (refine SxNew.mk fun _ => ?_; (try refine sx_use ?_))))
      refine SxLd.blk 0 rfl (v := bV (g.getD k 0)) (by rw [Nat.zero_add, Nat.mul_one]; exact fpC_get (by omega)) ?_
      ((try refine sx_use ?_); (repeat (refine SxNew.mk fun _ => ?_; (try refine sx_use ?_))))
      exact SxDone.mk fun w' hs => ⟨by
        unfold lessF; rw [hd]
        show Ending.returned (.bool (decide (((f.getD k 0).toNat : Int) < ((g.getD k 0).toNat : Int)))) = _
        congr 2; simp only [decide_eq_decide]; omega, hs.touch.below⟩
    · have h2 : f.getD k 0 = g.getD k 0 := UInt8.toNat_inj.1 (by omega)
      ((try refine sx_use ?_); (repeat (refine SxNew.mk fun _ => ?_; (try refine sx_use ?_))))
      refine SxRound.mk (k + 1) [0, 1] rfl rfl rfl ⟨by omega, fun j hj => ?_⟩ (by omega)
      rcases Nat.lt_succ_iff_lt_or_eq.1 hj with h3 | rfl
      · exact he j h3
      · exact h2
  · obtain rfl : k = 32 := by omega
    ((try refine sx_use ?_); (repeat (refine SxNew.mk fun _ => ?_; (try refine sx_use ?_))))
    exact SxDone.mk fun w' hs => ⟨by unfold lessF; rw [dif_none he]; rfl, hs.touch.below⟩
theorem bang (f : List UInt8) (i : Nat) : (⟨f.toArray⟩ : ByteArray)[i]! = f.getD i 0 := by
  have hs : (⟨f.toArray⟩ : ByteArray).size = f.length := mkh_size f
  by_cases h : i < f.length
  · rw [getElem!_pos (⟨f.toArray⟩ : ByteArray) i (by rw [hs]; exact h), List.getD_eq_getElem?_getD, List.getElem?_eq_getElem h]
    rfl
  · rw [getElem!_neg (⟨f.toArray⟩ : ByteArray) i (by rw [hs]; exact h), List.getD_eq_getElem?_getD, List.getElem?_eq_none (by omega)]
    rfl
theorem ext_cmp {f g : List UInt8} (hf : f.length = 32) (hg : g.length = 32) : Extern.BytealgCompare.cmp ⟨f.toArray⟩ ⟨g.toArray⟩ = cmpF f g := by
  unfold Extern.BytealgCompare.cmp cmpF dif
  rw [mkh_size, mkh_size, hf, hg]
  simp only [bang]
  show (match (List.range 32).find? (fun i => f.getD i 0 != g.getD i 0) with | some i => _ | none => _) = _
  split
  · rename_i i hi
    simp only [UInt8.lt_iff_toNat_lt]
  · simp
theorem run_bytes {ao : Option Addr} {f : List UInt8} {n cap : Nat} (hn : n = f.length) {w : World} (hr : Rd w ao (fpC f)) : (Extern.Bytes.bytesOf (.slice ao n cap)).run Tryz.prog w = .ok ⟨f.toArray⟩ w := by
  subst hn
  cases ao with
  | none =>
    have : f = [] := by
      cases f with
      | nil => rfl
      | cons b f => obtain ⟨g, off, h, _⟩ := hr.2 (by simp [fpC]); cases h
    subst this
    rfl
  | some a =>
    have h := Go.Lib.run_loadBytesX (P := Tryz.prog) w (f.map fun b => (b.toNat : Int)) a .empty (fun j x hj => by
      rw [List.getElem?_map] at hj
      obtain ⟨b, hb, rfl⟩ := Option.map_eq_some_iff.1 hj
      have hl := (List.getElem?_eq_some_iff.1 hb).1
      obtain ⟨g, off, ha, _, hc⟩ := hr.2 (by rw [fpC_len]; omega)
      obtain rfl := Option.some.inj ha
      rw [Addr.add_lit, hc j (by rw [fpC_len]; exact hl)]
      unfold fpC
      rw [List.getElem?_map, hb]
      rfl)
    rw [List.length_map] at h
    show (Extern.Bytes.loadBytes a f.length .empty).run Tryz.prog w = _
    rw [h]
    congr 1
    have : Go.Lib.bytesOf (f.map fun b => (b.toNat : Int)) = f := by
      unfold Go.Lib.bytesOf
      rw [List.map_map]
      conv => rhs; rw [← List.map_id f]
      apply List.map_congr_left
      intro b _
      exact bV_nat b
    rw [this]
    apply ByteArray.ext
    simp
theorem BCmp_any (f g : List UInt8) (hf : f.length = 32) (hg : g.length = 32) (ao bo : Option Addr) (ac bc : Nat) (w : World) (ha : Rd w ao (fpC f)) (hb : Rd w bo (fpC g)) :
    Calls Tryz.prog 93 #[.slice ao 32 ac, .slice bo 32 bc] w fun e w' => e = .returned (.int .i64 (cmpF f g)) ∧ Below w.heap.size w w' := by
  refine sx_fn (S := SX) (M := []) (N := 8) (H0 := [.rd ao (fpC f), .rd bo (fpC g)]) Tryz.func93 rfl rfl rfl (Sat.twoRd _ ha hb) ?_
  ((try refine sx_use ?_); (repeat (refine SxNew.mk fun _ => ?_; (try refine sx_use ?_))))
  refine SxExt.mk (.int .i64 (cmpF f g)) (fun w hs => ?_) ?_
  · change Sem.run Tryz.prog _ _ = _
    rw [run_callFunc_extern (e := Extern.BytealgCompare.compare) Tryz.func105 (by kernel_rfl) (by kernel_rfl) (by kernel_rfl) (by kernel_rfl)]
    have e1 := run_bytes (cap := ac) hf.symm (hs.rd 0 rfl)
    have e2 := run_bytes (cap := bc) hg.symm (hs.rd 1 rfl)
    change (Sem.run Tryz.prog (do
      let x ← Extern.Bytes.bytesOf (.slice ao 32 ac)
      let y ← Extern.Bytes.bytesOf (.slice bo 32 bc)
      pure (goInt (Extern.BytealgCompare.cmp x y))) w).andThen _ = _
    simp only [Sem.run_bind, e1, e2, Result.andThen_ok, Sem.run_pure, ext_cmp hf hg, goInt]
  · ((try refine sx_use ?_); (repeat (refine SxNew.mk fun _ => ?_; (try refine sx_use ?_))))
    exact SxDone.mk fun w' hs => ⟨rfl, hs.touch.below⟩
end Go.Proofs.YtdbappehchgbcaaGreat
