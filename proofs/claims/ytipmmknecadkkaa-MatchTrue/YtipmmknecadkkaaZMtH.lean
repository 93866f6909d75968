/- Layer 19: the document's Find. -/
import Derived.Test.YtipmmknecadkkaaZMtE
namespace Go.Proofs.Ytipmmknecadkkaa
open Go.RowKit

/-- The first of some numbers of which something is so. -/
def fstI (p : Nat → Bool) (n : Nat) : Int := match (List.range n).find? p with
  | some i => (i : Nat)
  | none => -1
theorem fstI_zero (p : Nat → Bool) : fstI p 0 = -1 := rfl
theorem fstI_succ (p : Nat → Bool) (j : Nat) : fstI p (j + 1) = if fstI p j = -1 then (if p j then (j : Int) else -1) else fstI p j := by
  unfold fstI
  rw [List.range_succ, List.find?_append]
  cases h : (List.range j).find? p with
  | some i => simp only [Option.some_or]; rw [if_neg (by omega)]
  | none =>
    simp only [Option.none_or, if_true]
    by_cases hp : p j = true
    · rw [List.find?_cons_of_pos hp, if_pos hp]
    · rw [List.find?_cons_of_neg hp, if_neg hp]; rfl
theorem fstI_ge (p : Nat → Bool) (j : Nat) : -1 ≤ fstI p j := by unfold fstI; split <;> omega
theorem fstI_lt (p : Nat → Bool) (n : Nat) (h : 0 < n) : fstI p n < n := by
  unfold fstI
  split
  · rename_i i hi
    have := List.mem_of_find?_eq_some hi
    have := List.mem_range.1 this
    omega
  · omega
theorem fstI_stay (p : Nat → Bool) {j n : Nat} (hj : j ≤ n) (h : fstI p j ≠ -1) : fstI p n = fstI p j := by
  induction n with
  | zero => obtain rfl : j = 0 := by omega
            rfl
  | succ n ih =>
    by_cases he : j = n + 1
    · rw [he]
    · have := ih (by omega)
      rw [fstI_succ, if_neg (by rw [this]; exact h), this]
structure Rk where
  en : En
  has : Bool
  s : ByteArray
instance : Inhabited Rk := ⟨⟨default, false, default⟩⟩
def rkC (r : Rk) : List Value := enC r.en ++ [.bool r.has, .string r.s]
theorem rkC_len (r : Rk) : (rkC r).length = 37 := by unfold rkC; rw [List.length_append, enC_len]; rfl
theorem rkC_one (r : Rk) : allOne (rkC r) = true := by
  show allOne ((r.en.fp.map u8V ++ enT r.en.ln r.en.bx r.en.sl) ++ [.bool r.has, .string r.s]) = true
  rw [List.append_assoc, allOne_u8]; rfl
def rkE : Enc Rk := ⟨rkC, 37, by decide, rkC_len, rkC_one⟩
theorem rkE_len (l : List Rk) : (rkE.fl l).length = l.length * 37 := rkE.fl_len l
theorem rkE_at {l : List Rk} {k : Nat} {x : Rk} (h : l[k]? = some x) : ((rkE.fl l).drop (k * 37)).take 37 = rkC x := rkE.fl_at h
theorem rkC_head {r : Rk} {j : Nat} {v : Value} (h : (enC r.en)[j]? = some v) : (rkC r)[j]? = some v := by
  unfold rkC
  rw [List.getElem?_append_left (List.getElem?_eq_some_iff.1 h).1]; exact h
theorem rkC_tail (r : Rk) (j : Nat) : (rkC r)[35 + j]? = ([.bool r.has, .string r.s] : List Value)[j]? := by
  unfold rkC
  rw [List.getElem?_append_right (by rw [enC_len]; omega), enC_len, Nat.add_sub_cancel_left]
theorem rk_ln {l : List Rk} {k : Nat} {x : Rk} (h : l[k]? = some x) : (rkE.fl l)[k * 37 + 32]? = some (.int .i64 x.en.ln) := rkE.fl_cell (j := 32) h (rkC_head (enC_tail x.en 0 _ rfl))
theorem rk_sl {l : List Rk} {k : Nat} {x : Rk} (h : l[k]? = some x) : (rkE.fl l)[k * 37 + 34]? = some (.int .i64 x.en.sl) := rkE.fl_cell (j := 34) h (rkC_head (enC_tail x.en 2 _ rfl))
theorem rk_has {l : List Rk} {k : Nat} {x : Rk} (h : l[k]? = some x) : (rkE.fl l)[k * 37 + 35]? = some (.bool x.has) := rkE.fl_cell (j := 35) h (rkC_tail x 0)
theorem rk_s {l : List Rk} {k : Nat} {x : Rk} (h : l[k]? = some x) : (rkE.fl l)[k * 37 + 36]? = some (.string x.s) := rkE.fl_cell (j := 36) h (rkC_tail x 1)
theorem rk_fp {l : List Rk} {k : Nat} {x : Rk} (h : l[k]? = some x) : ((rkE.fl l).drop (k * 37)).take 32 = fqC x.en.fq := by
  have h1 := rkE_at h
  have h2 : ((rkE.fl l).drop (k * 37)).take 32 = (((rkE.fl l).drop (k * 37)).take 37).take 32 := by rw [List.take_take]; rfl
  rw [h2, h1]
  unfold rkC
  rw [List.take_append_of_le_length (by rw [enC_len]; decide)]
  have := enC_fq x.en
  rw [List.drop_zero] at this
  exact this
section
variable (cs : List ByteArray) (ks : List Rk)
def pR (c : ByteArray) (i : Nat) : Bool := match ks[i]? with
  | some r => decide (r.en.fq = bFq c) && (decide (r.en.ln = (c.size : Nat)) && (r.has && decide (r.s = c)))
  | none => false
def pW (out : List (Int × Int)) (c : ByteArray) (j : Nat) : Bool := match out[j]? with
  | some x => freshB x && decide (cs[j]? = some c)
  | none => false
def docF : Nat → List (Int × Int)
  | 0 => []
  | k + 1 => match cs[k]? with
    | some c => docF k ++ [(fstI (pR ks c) ks.length, if fstI (pR ks c) ks.length = -1 then fstI (pW cs (docF k) c) k else -1)]
    | none => docF k
theorem docF_succ {k : Nat} {c : ByteArray} (h : cs[k]? = some c) : docF cs ks (k + 1) = docF cs ks k ++ [(fstI (pR ks c) ks.length, if fstI (pR ks c) ks.length = -1 then fstI (pW cs (docF cs ks k) c) k else -1)] := by rw [docF, h]
theorem docF_len : ∀ k, k ≤ cs.length → (docF cs ks k).length = k
  | 0, _ => rfl
  | k + 1, h => by
    obtain ⟨c, hc⟩ : ∃ c, cs[k]? = some c := ⟨cs[k], by simp [show k < cs.length by omega]⟩
    rw [docF_succ cs ks hc, List.length_append, docF_len k (by omega)]; rfl
end
theorem RFps_any (cs : List ByteArray) (hl : cs.length ≤ 100000) (hs : ∀ c ∈ cs, c.size ≤ 900000) (ao : Option Addr) (ac : Nat) (w : World) (hr : Rd w ao (strE.fl cs)) :
    Calls Try.prog 28 #[.slice ao cs.length ac] w fun e w' => ∃ ao' cap', e = .returned (.slice ao' cs.length cap') ∧ NewRow w w' ao' cs.length cap' 38 32 (fqE.fl (cs.map bFq)) := by
  refine sx_fn (S := SX) (M := []) (N := 20) (H0 := [.row none 0 0 38 32 [], .rd ao (strE.fl cs)]) Try.func28 rfl rfl rfl ((Sat.oneRd _ hr).nilRow 38 32) ?_
  ((try refine sx_use ?_); (repeat (refine SxNew.mk fun _ => ?_; (try refine sx_use ?_))))
  refine SxCode.loop (σ := Nat × Option Addr × Nat) [4, 3] [5, 6, 7, 8, 11, 12, 13, 14, 15, 16, 17, 18, 3, 9, 10, 4] (fun x => [.int .i64 (x.1 : Nat), .slice x.2.1 x.1 x.2.2]) (fun x => [.row x.2.1 x.1 x.2.2 38 32 (fqE.fl ((cs.take x.1).map bFq)), .rd ao (strE.fl cs)]) (fun x => x.1 ≤ cs.length) (fun x => cs.length - x.1) (0, none, 0) [0, 1] rfl rfl rfl rfl (Nat.zero_le _) ?_
  rintro ⟨k, ro, rc⟩ hk
  dsimp only at hk ⊢
  ((try refine sx_use ?_); (repeat (refine SxNew.mk fun _ => ?_; (try refine sx_use ?_))))
  refine SxIf.dec (fun h => ?_) (fun h => ?_)
  · have hlt : k < cs.length := by omega
    obtain ⟨x, hx⟩ : ∃ x, cs[k]? = some x := ⟨cs[k], by simp [hlt]⟩
    have hxs := hs x (List.mem_of_getElem? hx)
    have hsm : (cs.take (k + 1)).map bFq = (cs.take k).map bFq ++ [bFq x] := by rw [take_snocE hx]; exact List.map_append
    ((try refine sx_use ?_); (repeat (refine SxNew.mk fun _ => ?_; (try refine sx_use ?_))))
    refine SxIA.rd 1 _ rfl k rfl hlt (by rw [strE_len]; omega) fun g off ha => ?_
    ((try refine sx_use ?_); (repeat (refine SxNew.mk fun _ => ?_; (try refine sx_use ?_))))
    refine SxLd.rd 1 rfl ha rfl (j := k * 1) (strE_at hx) ?_
    ((try refine sx_use ?_); (repeat (refine SxNew.mk fun _ => ?_; (try refine sx_use ?_))))
    refine SxCall.rsumF x hxs ?_
    ((try refine sx_use ?_); (repeat (refine SxNew.mk fun _ => ?_; (try refine sx_use ?_))))
    refine SxFill.one rfl (fqC_len _) ?_
    ((try refine sx_use ?_); (repeat (refine SxNew.mk fun _ => ?_; (try refine sx_use ?_))))
    refine SxApp.mk 1 rfl 0 (.inr (.inr (.inr ⟨by decide, _, rfl⟩))) (vs := fqC (bFq x)) (m := 1) (by rw [fqC_len]) (fqC_one _) (by unfold maxLen; omega) (by omega) (cs' := fqE.fl ((cs.take (k + 1)).map bFq)) (by rw [hsm, fqE.fl_append, fqE.fl_one]; rfl) fun ao' cap' => ?_
    ((try refine sx_use ?_); (repeat (refine SxNew.mk fun _ => ?_; (try refine sx_use ?_))))
    exact SxRound.mk (k + 1, ao', cap') [1, 2] rfl rfl rfl hlt (by dsimp only; omega)
  · obtain rfl : k = cs.length := by omega
    rw [List.take_length]
    ((try refine sx_use ?_); (repeat (refine SxNew.mk fun _ => ?_; (try refine sx_use ?_))))
    exact SxDone.mk fun w' hs => ⟨ro, rc, rfl, hs.newRow 0 rfl⟩
set_option maxHeartbeats 16000000 in
set_option maxRecDepth 20000 in
theorem RFind_any (cs : List ByteArray) (hcl : cs.length ≤ 100000) (ks : List Rk) (hkl : ks.length ≤ 100000) (so fo ko : Option Addr) (sc fc kc : Nat) (w : World) (hs : Rd w so (strE.fl cs)) (hf : Rd w fo (fqE.fl (cs.map bFq))) (hk : Rd w ko (rkE.fl ks)) :
    Calls Try.prog 27 #[.slice so cs.length sc, .slice fo cs.length fc, .slice ko ks.length kc] w fun e w' => ∃ ao' cap', e = .returned (.slice ao' cs.length cap') ∧ NewRow w w' ao' cs.length cap' 51 2 (fdE.fl (docF cs ks cs.length)) := by
  refine sx_fn (S := SX) (M := []) (N := 125) (H0 := [.row none 0 0 51 2 [], .rd so (strE.fl cs), .rd fo (fqE.fl (cs.map bFq)), .rd ko (rkE.fl ks)]) Try.func27 rfl rfl rfl (Sat.nilRow 51 2 (Sat.rdsM w [] _ fun j e hj => by
    match j, hj with
    | 0, hj => cases hj; exact ⟨rfl, hs⟩
    | 1, hj => cases hj; exact ⟨rfl, hf⟩
    | 2, hj => cases hj; exact ⟨rfl, hk⟩)) ?_
  ((try refine sx_use ?_); (repeat (refine SxNew.mk fun _ => ?_; (try refine sx_use ?_))))
  refine SxCode.loop (σ := Nat × Option Addr × Nat) [8, 7] [13, 14, 15, 16, 19, 9, 20, 21, 22, 23, 10, 11, 24, 25, 26, 27, 28, 29, 30, 31, 32, 35, 36, 37, 38, 39, 40, 41, 42, 43, 44, 45, 46, 47, 48, 49, 50, 51, 52, 53, 54, 55, 56, 57, 58, 59, 60, 61, 62, 63, 64, 65, 66, 67, 68, 69, 70, 71, 72, 73, 74, 75, 76, 77, 33, 34, 12, 78, 79, 80, 81, 82, 83, 84, 85, 86, 87, 88, 89, 90, 93, 94, 95, 96, 97, 98, 99, 100, 101, 102, 103, 104, 105, 106, 107, 108, 109, 110, 111, 112, 113, 114, 115, 116, 117, 118, 119, 91, 92, 120, 121, 122, 123, 7, 17, 18, 8] (fun x => [.int .i64 (x.1 : Nat), .slice x.2.1 x.1 x.2.2]) (fun x => [.row x.2.1 x.1 x.2.2 51 2 (fdE.fl (docF cs ks x.1)), .rd so (strE.fl cs), .rd fo (fqE.fl (cs.map bFq)), .rd ko (rkE.fl ks)]) (fun x => x.1 ≤ cs.length) (fun x => cs.length - x.1) (0, none, 0) [0, 1, 2, 3] rfl rfl rfl rfl (Nat.zero_le _) ?_
  rintro ⟨k, ro, rc⟩ hk2
  dsimp only at hk2 ⊢
  refine sx_base 0 rfl fun hro _ => ?_
  ((try refine sx_use ?_); (repeat (refine SxNew.mk fun _ => ?_; (try refine sx_use ?_))))
  refine SxIf.dec (fun h => ?_) (fun h => ?_)
  · have hlt : k < cs.length := by omega
    obtain ⟨c, hc⟩ : ∃ c, cs[k]? = some c := ⟨cs[k], by simp [hlt]⟩
    have hfc : (cs.map bFq)[k]? = some (bFq c) := by rw [List.getElem?_map, hc]; rfl
    have hds := docF_succ cs ks hc
    have hdl := docF_len cs ks k hk2
    obtain ⟨out, hout⟩ : ∃ out, out = docF cs ks k := ⟨_, rfl⟩
    rw [← hout] at hds hdl ⊢
    ((try refine sx_use ?_); (repeat (refine SxNew.mk fun _ => ?_; (try refine sx_use ?_))))
    refine SxIA.rd 3 _ rfl k rfl hlt (by rw [fqE_len, List.length_map]; omega) fun g off ha => ?_
    ((try refine sx_use ?_); (repeat (refine SxNew.mk fun _ => ?_; (try refine sx_use ?_))))
    refine SxLdN.rd 3 rfl ha rfl (vs := fqC (bFq c)) (fqC_len _) (fqE_at hfc) ?_
    ((try refine sx_use ?_); (repeat (refine SxNew.mk fun _ => ?_; (try refine sx_use ?_))))
    refine SxSt.elem fqE (x := bFq c) 0 rfl rfl ?_
    ((try refine sx_use ?_); (repeat (refine SxNew.mk fun _ => ?_; (try refine sx_use ?_))))
    rename_i bf bp
    refine SxCode.loop (σ := Nat) [11] [24, 25, 26, 27, 28, 29, 30, 31, 32, 35, 36, 37, 38, 39, 40, 41, 42, 43, 44, 45, 46, 47, 48, 49, 50, 51, 52, 53, 54, 55, 56, 57, 58, 59, 60, 61, 62, 63, 64, 65, 66, 67, 68, 69, 70, 71, 72, 73, 74, 75, 76, 77, 33, 34, 11] (fun j => [.int .i64 (j : Nat)]) (fun j => [.blk bp 38 (fqC (bFq c)), .blk bf 51 [.int .i64 (fstI (pR ks c) j), .int .i64 (-1)], .row ro k rc 51 2 (fdE.fl out), .rd so (strE.fl cs), .rd fo (fqE.fl (cs.map bFq)), .rd ko (rkE.fl ks)]) (fun j => j ≤ ks.length) (fun j => ks.length - j) 0 [0, 1, 2, 3, 4, 5] rfl rfl rfl rfl (Nat.zero_le _) ?_
    rintro j hj
    have hsu := fstI_succ (pR ks c) j
    by_cases hjl : j < ks.length ∧ fstI (pR ks c) j < 0
    · obtain ⟨hjl, hneg⟩ := hjl
      have hm1 : fstI (pR ks c) j = -1 := by have := fstI_ge (pR ks c) j; omega
      rw [if_pos hm1] at hsu
      obtain ⟨r, hr⟩ : ∃ r, ks[j]? = some r := ⟨ks[j], by simp [hjl]⟩
      have hp : pR ks c j = (decide (r.en.fq = bFq c) && (decide (r.en.ln = (c.size : Nat)) && (r.has && decide (r.s = c)))) := by unfold pR; rw [hr]
      have hno : pR ks c j = false → fstI (pR ks c) (j + 1) = fstI (pR ks c) j := fun h0 => by rw [hsu, h0, hm1]; rfl
      ((try refine sx_use ?_); (repeat (refine SxNew.mk fun _ => ?_; (try refine sx_use ?_))))
      refine SxCode.drawAll rfl [] ?_
      ((try refine sx_use ?_); (repeat (refine SxNew.mk fun _ => ?_; (try refine sx_use ?_))))
      refine SxIA.rd 5 _ rfl j rfl hjl (by rw [rkE_len]; omega) fun g off ha => ?_
      ((try refine sx_use ?_); (repeat (refine SxNew.mk fun _ => ?_; (try refine sx_use ?_))))
      refine SxLdN.rd 5 rfl ha (by omega) (j := j * 37) (vs := fqC r.en.fq) (fqC_len _) (rk_fp hr) ?_
      ((try refine sx_use ?_); (repeat (refine SxNew.mk fun _ => ?_; (try refine sx_use ?_))))
      refine SxLdN.blk 0 rfl (vs := fqC (bFq c)) (fqC_len _) (fqC_take _) ?_
      ((try refine sx_use ?_); (repeat (refine SxNew.mk fun _ => ?_; (try refine sx_use ?_))))
      refine SxRun.eqFq ?_
      ((try refine sx_use ?_); (repeat (refine SxNew.mk fun _ => ?_; (try refine sx_use ?_))))
      refine SxIf.dec (fun h1 => ?_) (fun h1 => ?_)
      · rw [decide_eq_true h1, Bool.true_and] at hp
        ((try refine sx_use ?_); (repeat (refine SxNew.mk fun _ => ?_; (try refine sx_use ?_))))
        refine SxIA.rd 5 _ rfl j rfl hjl (by rw [rkE_len]; omega) fun g off ha => ?_
        ((try refine sx_use ?_); (repeat (refine SxNew.mk fun _ => ?_; (try refine sx_use ?_))))
        refine SxLd.rd 5 rfl ha (by omega) (j := j * 37 + 32) (rk_ln hr) ?_
        ((try refine sx_use ?_); (repeat (refine SxNew.mk fun _ => ?_; (try refine sx_use ?_))))
        refine SxIA.rd 3 _ rfl k rfl hlt (by rw [strE_len]; omega) fun g off ha => ?_
        ((try refine sx_use ?_); (repeat (refine SxNew.mk fun _ => ?_; (try refine sx_use ?_))))
        refine SxLd.rd 3 rfl ha rfl (j := k * 1) (strE_at hc) ?_
        ((try refine sx_use ?_); (repeat (refine SxNew.mk fun _ => ?_; (try refine sx_use ?_))))
        refine SxIf.eq (fun h2 => ?_) (fun h2 => ?_)
        · rw [decide_eq_true h2, Bool.true_and] at hp
          ((try refine sx_use ?_); (repeat (refine SxNew.mk fun _ => ?_; (try refine sx_use ?_))))
          refine SxIA.rd 5 _ rfl j rfl hjl (by rw [rkE_len]; omega) fun g off ha => ?_
          ((try refine sx_use ?_); (repeat (refine SxNew.mk fun _ => ?_; (try refine sx_use ?_))))
          refine SxLd.rd 5 rfl ha (by omega) (j := j * 37 + 35) (rk_has hr) ?_
          ((try refine sx_use ?_); (repeat (refine SxNew.mk fun _ => ?_; (try refine sx_use ?_))))
          refine ⟨fun h3 => ?_, fun h3 => ?_⟩
          · rw [h3, Bool.true_and] at hp
            ((try refine sx_use ?_); (repeat (refine SxNew.mk fun _ => ?_; (try refine sx_use ?_))))
            refine SxIA.rd 5 _ rfl j rfl hjl (by rw [rkE_len]; omega) fun g off ha => ?_
            ((try refine sx_use ?_); (repeat (refine SxNew.mk fun _ => ?_; (try refine sx_use ?_))))
            refine SxLd.rd 5 rfl ha (by omega) (j := j * 37 + 36) (rk_s hr) ?_
            ((try refine sx_use ?_); (repeat (refine SxNew.mk fun _ => ?_; (try refine sx_use ?_))))
            refine SxIA.rd 3 _ rfl k rfl hlt (by rw [strE_len]; omega) fun g off ha => ?_
            ((try refine sx_use ?_); (repeat (refine SxNew.mk fun _ => ?_; (try refine sx_use ?_))))
            refine SxLd.rd 3 rfl ha rfl (j := k * 1) (strE_at hc) ?_
            ((try refine sx_use ?_); (repeat (refine SxNew.mk fun _ => ?_; (try refine sx_use ?_))))
            refine SxIf.str (fun h4 => ?_) (fun h4 => ?_)
            · rw [decide_eq_true h4] at hp
              rw [hp, if_pos rfl] at hsu
              ((try refine sx_use ?_); (repeat (refine SxNew.mk fun _ => ?_; (try refine sx_use ?_))))
              exact SxRound.mk (j + 1) [0, 1, 2, 3, 4, 5] rfl (by rw [hsu]; rfl) rfl hjl (by omega)
            · rw [decide_eq_false h4] at hp
              ((try refine sx_use ?_); (repeat (refine SxNew.mk fun _ => ?_; (try refine sx_use ?_))))
              exact SxRound.mk (j + 1) [0, 1, 2, 3, 4, 5] rfl (by rw [hno hp]; rfl) rfl hjl (by omega)
          · rw [h3, Bool.false_and] at hp
            ((try refine sx_use ?_); (repeat (refine SxNew.mk fun _ => ?_; (try refine sx_use ?_))))
            exact SxRound.mk (j + 1) [0, 1, 2, 3, 4, 5] rfl (by rw [hno hp]; rfl) rfl hjl (by omega)
        · rw [decide_eq_false h2, Bool.false_and] at hp
          ((try refine sx_use ?_); (repeat (refine SxNew.mk fun _ => ?_; (try refine sx_use ?_))))
          exact SxRound.mk (j + 1) [0, 1, 2, 3, 4, 5] rfl (by rw [hno hp]; rfl) rfl hjl (by omega)
      · rw [decide_eq_false h1, Bool.false_and] at hp
        ((try refine sx_use ?_); (repeat (refine SxNew.mk fun _ => ?_; (try refine sx_use ?_))))
        exact SxRound.mk (j + 1) [0, 1, 2, 3, 4, 5] rfl (by rw [hno hp]; rfl) rfl hjl (by omega)
    · have hend : fstI (pR ks c) j = fstI (pR ks c) ks.length := by
        by_cases h0 : j = ks.length
        · rw [h0]
        · exact (fstI_stay _ hj (by have := fstI_ge (pR ks c) j; omega)).symm
      rw [hend]
      obtain ⟨a, ha⟩ : ∃ a, a = fstI (pR ks c) ks.length := ⟨_, rfl⟩
      rw [← ha] at hds ⊢
      have hjl2 : ¬ (j < ks.length ∧ a < 0) := by rw [ha, ← hend]; exact hjl
      have hage : -1 ≤ a := by rw [ha]; exact fstI_ge _ _
      clear hjl hend hsu
      by_cases ha1 : a = -1
      · have hj0 : ¬ j < ks.length := fun hz => hjl2 ⟨hz, by omega⟩
        rw [if_pos ha1] at hds
        ((try refine sx_use ?_); (repeat (refine SxNew.mk fun _ => ?_; (try refine sx_use ?_))))
        refine SxCode.loop (σ := Nat) [12] [78, 79, 80, 81, 82, 83, 84, 85, 86, 87, 88, 89, 90, 93, 94, 95, 96, 97, 98, 99, 100, 101, 102, 103, 104, 105, 106, 107, 108, 109, 110, 111, 112, 113, 114, 115, 116, 117, 118, 119, 91, 92, 12] (fun j => [.int .i64 (j : Nat)]) (fun j => [.blk bf 51 [.int .i64 a, .int .i64 (fstI (pW cs out c) j)], .row ro k rc 51 2 (fdE.fl out), .rd so (strE.fl cs), .rd fo (fqE.fl (cs.map bFq)), .rd ko (rkE.fl ks)]) (fun j => j ≤ k) (fun j => k - j) 0 [1, 2, 3, 4, 5] rfl rfl rfl rfl (Nat.zero_le _) ?_
        rintro i hi
        have hsu := fstI_succ (pW cs out c) i
        by_cases hil : i < k ∧ fstI (pW cs out c) i < 0
        · obtain ⟨hil, hneg⟩ := hil
          have hm1 : fstI (pW cs out c) i = -1 := by have := fstI_ge (pW cs out c) i; omega
          rw [if_pos hm1] at hsu
          obtain ⟨x, hx⟩ : ∃ x, out[i]? = some x := ⟨out[i]'(by omega), by simp [show i < out.length by omega]⟩
          obtain ⟨d, hd⟩ : ∃ d, cs[i]? = some d := ⟨cs[i]'(by omega), by simp [show i < cs.length by omega]⟩
          have hp : pW cs out c i = ((decide (x.1 < 0) && decide (x.2 < 0)) && decide (d = c)) := by
            unfold pW
            rw [hx]
            show (freshB x && decide (cs[i]? = some c)) = _
            rw [hd]
            unfold freshB
            congr 1
            rw [decide_eq_decide]; simp
          have hno : pW cs out c i = false → fstI (pW cs out c) (i + 1) = fstI (pW cs out c) i := fun h0 => by rw [hsu, h0, hm1]; rfl
          obtain ⟨gr, rfl⟩ := hro (by omega)
          ((try refine sx_use ?_); (repeat (refine SxNew.mk fun _ => ?_; (try refine sx_use ?_))))
          refine SxCode.drawAll rfl [] ?_
          ((try refine sx_use ?_); (repeat (refine SxNew.mk fun _ => ?_; (try refine sx_use ?_))))
          refine SxIA.row 1 _ _ _ rfl i rfl hil fun g' hg' => ?_
          obtain rfl : gr = g' := by simpa using hg'
          ((try refine sx_use ?_); (repeat (refine SxNew.mk fun _ => ?_; (try refine sx_use ?_))))
          refine SxLd.row 1 rfl rfl (j := i * 2) (by omega) (v := .int .i64 x.1) (fdE.fl_cell (j := 0) hx rfl) ?_
          ((try refine sx_use ?_); (repeat (refine SxNew.mk fun _ => ?_; (try refine sx_use ?_))))
          refine SxIf.dec (fun h1 => ?_) (fun h1 => ?_)
          · rw [decide_eq_true h1, Bool.true_and] at hp
            ((try refine sx_use ?_); (repeat (refine SxNew.mk fun _ => ?_; (try refine sx_use ?_))))
            refine SxIA.row 1 _ _ _ rfl i rfl hil fun g' hg' => ?_
            obtain rfl : gr = g' := by simpa using hg'
            ((try refine sx_use ?_); (repeat (refine SxNew.mk fun _ => ?_; (try refine sx_use ?_))))
            refine SxLd.row 1 rfl rfl (j := i * 2 + 1) (by omega) (v := .int .i64 x.2) (fdE.fl_cell (j := 1) hx rfl) ?_
            ((try refine sx_use ?_); (repeat (refine SxNew.mk fun _ => ?_; (try refine sx_use ?_))))
            refine SxIf.dec (fun h2 => ?_) (fun h2 => ?_)
            · rw [decide_eq_true h2, Bool.true_and] at hp
              ((try refine sx_use ?_); (repeat (refine SxNew.mk fun _ => ?_; (try refine sx_use ?_))))
              refine SxIA.rd 2 _ rfl i rfl (by omega) (by rw [strE_len]; omega) fun g off ha => ?_
              ((try refine sx_use ?_); (repeat (refine SxNew.mk fun _ => ?_; (try refine sx_use ?_))))
              refine SxLd.rd 2 rfl ha rfl (j := i * 1) (strE_at hd) ?_
              ((try refine sx_use ?_); (repeat (refine SxNew.mk fun _ => ?_; (try refine sx_use ?_))))
              refine SxIA.rd 2 _ rfl k rfl (by omega) (by rw [strE_len]; omega) fun g off ha => ?_
              ((try refine sx_use ?_); (repeat (refine SxNew.mk fun _ => ?_; (try refine sx_use ?_))))
              refine SxLd.rd 2 rfl ha rfl (j := k * 1) (strE_at hc) ?_
              ((try refine sx_use ?_); (repeat (refine SxNew.mk fun _ => ?_; (try refine sx_use ?_))))
              refine SxIf.str (fun h4 => ?_) (fun h4 => ?_)
              · rw [decide_eq_true h4] at hp
                rw [hp, if_pos rfl] at hsu
                ((try refine sx_use ?_); (repeat (refine SxNew.mk fun _ => ?_; (try refine sx_use ?_))))
                exact SxRound.mk (i + 1) [0, 1, 2, 3, 4] rfl (by rw [hsu]; rfl) rfl hil (by omega)
              · rw [decide_eq_false h4] at hp
                ((try refine sx_use ?_); (repeat (refine SxNew.mk fun _ => ?_; (try refine sx_use ?_))))
                exact SxRound.mk (i + 1) [0, 1, 2, 3, 4] rfl (by rw [hno hp]; rfl) rfl hil (by omega)
            · rw [decide_eq_false h2, Bool.false_and] at hp
              ((try refine sx_use ?_); (repeat (refine SxNew.mk fun _ => ?_; (try refine sx_use ?_))))
              exact SxRound.mk (i + 1) [0, 1, 2, 3, 4] rfl (by rw [hno hp]; rfl) rfl hil (by omega)
          · rw [decide_eq_false h1, Bool.false_and, Bool.false_and] at hp
            ((try refine sx_use ?_); (repeat (refine SxNew.mk fun _ => ?_; (try refine sx_use ?_))))
            exact SxRound.mk (i + 1) [0, 1, 2, 3, 4] rfl (by rw [hno hp]; rfl) rfl hil (by omega)
        · have hend : fstI (pW cs out c) i = fstI (pW cs out c) k := by
            by_cases h0 : i = k
            · rw [h0]
            · exact (fstI_stay _ hi (by have := fstI_ge (pW cs out c) i; omega)).symm
          rw [hend]
          obtain ⟨b, hb⟩ : ∃ b, b = fstI (pW cs out c) k := ⟨_, rfl⟩
          rw [← hb] at hds ⊢
          have hil2 : ¬ (i < k ∧ b < 0) := by rw [hb, ← hend]; exact hil
          clear hil hend hsu
          by_cases hi0 : i < k
          case' pos =>
            ((try refine sx_use ?_); (repeat (refine SxNew.mk fun _ => ?_; (try refine sx_use ?_))))
          case' neg =>
            ((try refine sx_use ?_); (repeat (refine SxNew.mk fun _ => ?_; (try refine sx_use ?_))))
          all_goals
            ((try refine sx_use ?_); (repeat (refine SxNew.mk fun _ => ?_; (try refine sx_use ?_))))
            refine SxApp.mk 2 rfl 0 (.inr (.inr (.inr ⟨by decide, _, rfl⟩))) (vs := fdC (a, b)) (m := 1) rfl rfl (by unfold maxLen; omega) (by omega) (cs' := fdE.fl (docF cs ks (k + 1))) (by rw [hds, fdE.fl_append, fdE.fl_one]; rfl) fun ao' cap' => ?_
            ((try refine sx_use ?_); (repeat (refine SxNew.mk fun _ => ?_; (try refine sx_use ?_))))
            exact SxRound.mk (k + 1, ao', cap') [2, 3, 4, 5] rfl rfl rfl hlt (by dsimp only; omega)
      · rw [if_neg ha1] at hds
        by_cases hj0 : j < ks.length
        case' pos => ((try refine sx_use ?_); (repeat (refine SxNew.mk fun _ => ?_; (try refine sx_use ?_))))
        case' neg => ((try refine sx_use ?_); (repeat (refine SxNew.mk fun _ => ?_; (try refine sx_use ?_))))
        all_goals
          refine SxCode.loop (σ := Nat) [12] [78, 79, 80, 81, 82, 83, 84, 85, 86, 87, 88, 89, 90, 93, 94, 95, 96, 97, 98, 99, 100, 101, 102, 103, 104, 105, 106, 107, 108, 109, 110, 111, 112, 113, 114, 115, 116, 117, 118, 119, 91, 92, 12] (fun j => [.int .i64 (j : Nat)]) (fun j => [.blk bf 51 [.int .i64 a, .int .i64 (-1)], .row ro k rc 51 2 (fdE.fl out), .rd so (strE.fl cs), .rd fo (fqE.fl (cs.map bFq)), .rd ko (rkE.fl ks)]) (fun j => j ≤ k) (fun j => k - j) 0 [1, 2, 3, 4, 5] rfl rfl rfl rfl (Nat.zero_le _) ?_
          rintro i hi
          by_cases hi0 : i < k
          case' pos =>
            ((try refine sx_use ?_); (repeat (refine SxNew.mk fun _ => ?_; (try refine sx_use ?_))))
          case' neg =>
            ((try refine sx_use ?_); (repeat (refine SxNew.mk fun _ => ?_; (try refine sx_use ?_))))
          all_goals
            ((try refine sx_use ?_); (repeat (refine SxNew.mk fun _ => ?_; (try refine sx_use ?_))))
            refine SxApp.mk 2 rfl 0 (.inr (.inr (.inr ⟨by decide, _, rfl⟩))) (vs := fdC (a, -1)) (m := 1) rfl rfl (by unfold maxLen; omega) (by omega) (cs' := fdE.fl (docF cs ks (k + 1))) (by rw [hds, fdE.fl_append, fdE.fl_one]; rfl) fun ao' cap' => ?_
            ((try refine sx_use ?_); (repeat (refine SxNew.mk fun _ => ?_; (try refine sx_use ?_))))
            exact SxRound.mk (k + 1, ao', cap') [2, 3, 4, 5] rfl rfl rfl hlt (by dsimp only; omega)
  · obtain rfl : k = cs.length := by omega
    ((try refine sx_use ?_); (repeat (refine SxNew.mk fun _ => ?_; (try refine sx_use ?_))))
    exact SxDone.mk fun w' hs => ⟨ro, rc, rfl, hs.newRow 0 rfl⟩
end Go.Proofs.Ytipmmknecadkkaa
