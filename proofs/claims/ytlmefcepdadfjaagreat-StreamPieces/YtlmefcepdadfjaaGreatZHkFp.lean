/- Texts of this claim, one behind the other. -/
import Derived.Test.YtlmefcepdadfjaaGreatZMtE
import Derived.Test.YtlmefcepdadfjaaGreatZStA
import Derived.Test.YtlmefcepdadfjaaGreatZCutA
import Derived.Test.YtlmefcepdadfjaaGreatZGen
/- Layer 19: the document's Find. -/
namespace Go.Proofs.YtlmefcepdadfjaaGreat
open Go.RowKit

def fstI (p : Nat → Bool) (n : Nat) : Int := match (List.range n).find? p with
  | some i => (i : Nat)
  | none => -1
theorem fstI_succ (p : Nat → Bool) (j : Nat) : fstI p (j + 1) = if fstI p j = -1 then (if p j then (j : Int) else -1) else fstI p j := by
  unfold fstI
  rw [List.range_succ, List.find?_append]
  cases h : (List.range j).find? p with
  | some i => simp only [Option.some_or]; rw [if_neg (by omega)]
  | none =>
    simp only [Option.none_or, if_true]
    by_cases hp : p j = true
    · rw [List.find?_cons_of_pos hp, if_pos hp]
    · rw [List.find?_cons_of_neg hp, if_neg hp]; rfl
theorem fstI_ge (p : Nat → Bool) (j : Nat) : -1 ≤ fstI p j := by unfold fstI; split <;> omega
theorem fstI_stay (p : Nat → Bool) {j n : Nat} (hj : j ≤ n) (h : fstI p j ≠ -1) : fstI p n = fstI p j := by
  induction n with
  | zero => obtain rfl : j = 0 := by omega
            rfl
  | succ n ih =>
    by_cases he : j = n + 1
    · rw [he]
    · have := ih (by omega)
      rw [fstI_succ, if_neg (by rw [this]; exact h), this]
structure Rk where
  en : En
  has : Bool
  s : ByteArray
instance : Inhabited Rk := ⟨⟨default, false, default⟩⟩
def rkC (r : Rk) : List Value := enC r.en ++ [.bool r.has, .string r.s]
theorem rkC_len (r : Rk) : (rkC r).length = 37 := by unfold rkC; rw [List.length_append, enC_len]; rfl
theorem rkC_one (r : Rk) : allOne (rkC r) = true := by
  show allOne ((r.en.fp.map u8V ++ enT r.en.ln r.en.bx r.en.sl) ++ [.bool r.has, .string r.s]) = true
  rw [List.append_assoc, allOne_u8]; rfl
def rkE : Enc Rk := ⟨rkC, 37, by decide, rkC_len, rkC_one⟩
theorem rkE_len (l : List Rk) : (rkE.fl l).length = l.length * 37 := rkE.fl_len l
theorem rkE_at {l : List Rk} {k : Nat} {x : Rk} (h : l[k]? = some x) : ((rkE.fl l).drop (k * 37)).take 37 = rkC x := rkE.fl_at h
theorem rkC_head {r : Rk} {j : Nat} {v : Value} (h : (enC r.en)[j]? = some v) : (rkC r)[j]? = some v := by
  unfold rkC
  rw [List.getElem?_append_left (List.getElem?_eq_some_iff.1 h).1]; exact h
theorem rkC_tail (r : Rk) (j : Nat) : (rkC r)[35 + j]? = ([.bool r.has, .string r.s] : List Value)[j]? := by
  unfold rkC
  rw [List.getElem?_append_right (by rw [enC_len]; omega), enC_len, Nat.add_sub_cancel_left]
theorem rk_ln {l : List Rk} {k : Nat} {x : Rk} (h : l[k]? = some x) : (rkE.fl l)[k * 37 + 32]? = some (.int .i64 x.en.ln) := rkE.fl_cell (j := 32) h (rkC_head (enC_tail x.en 0 _ rfl))
theorem rk_sl {l : List Rk} {k : Nat} {x : Rk} (h : l[k]? = some x) : (rkE.fl l)[k * 37 + 34]? = some (.int .i64 x.en.sl) := rkE.fl_cell (j := 34) h (rkC_head (enC_tail x.en 2 _ rfl))
theorem rk_has {l : List Rk} {k : Nat} {x : Rk} (h : l[k]? = some x) : (rkE.fl l)[k * 37 + 35]? = some (.bool x.has) := rkE.fl_cell (j := 35) h (rkC_tail x 0)
theorem rk_s {l : List Rk} {k : Nat} {x : Rk} (h : l[k]? = some x) : (rkE.fl l)[k * 37 + 36]? = some (.string x.s) := rkE.fl_cell (j := 36) h (rkC_tail x 1)
theorem rk_fp {l : List Rk} {k : Nat} {x : Rk} (h : l[k]? = some x) : ((rkE.fl l).drop (k * 37)).take 32 = fqC x.en.fq := by
  have h1 := rkE_at h
  have h2 : ((rkE.fl l).drop (k * 37)).take 32 = (((rkE.fl l).drop (k * 37)).take 37).take 32 := by rw [List.take_take]; rfl
  rw [h2, h1]
  unfold rkC
  rw [List.take_append_of_le_length (by rw [enC_len]; decide)]
  have := enC_fq x.en
  rw [List.drop_zero] at this
  exact this
section
variable (cs : List ByteArray) (ks : List Rk)
def pR (c : ByteArray) (i : Nat) : Bool := match ks[i]? with
  | some r => decide (r.en.fq = bFq c) && (decide (r.en.ln = (c.size : Nat)) && (r.has && decide (r.s = c)))
  | none => false
def pW (out : List (Int × Int)) (c : ByteArray) (j : Nat) : Bool := match out[j]? with
  | some x => freshB x && decide (cs[j]? = some c)
  | none => false
def docF : Nat → List (Int × Int)
  | 0 => []
  | k + 1 => match cs[k]? with
    | some c => docF k ++ [(fstI (pR ks c) ks.length, if fstI (pR ks c) ks.length = -1 then fstI (pW cs (docF k) c) k else -1)]
    | none => docF k
theorem docF_succ {k : Nat} {c : ByteArray} (h : cs[k]? = some c) : docF cs ks (k + 1) = docF cs ks k ++ [(fstI (pR ks c) ks.length, if fstI (pR ks c) ks.length = -1 then fstI (pW cs (docF cs ks k) c) k else -1)] := by rw [docF, h]
theorem docF_len : ∀ k, k ≤ cs.length → (docF cs ks k).length = k
  | 0, _ => rfl
  | k + 1, h => by
    obtain ⟨c, hc⟩ : ∃ c, cs[k]? = some c := ⟨cs[k], by simp [show k < cs.length by omega]⟩
    rw [docF_succ cs ks hc, List.length_append, docF_len k (by omega)]; rfl
end
theorem RFps_any (cs : List ByteArray) (hl : cs.length ≤ 100000) (hs : ∀ c ∈ cs, c.size ≤ 900000) (ao : Option Addr) (ac : Nat) (w : World) (hr : Rd w ao (strE.fl cs)) :
    Calls Tryz.prog 54 #[.slice ao cs.length ac] w fun e w' => ∃ ao' cap', e = .returned (.slice ao' cs.length cap') ∧ NewRow w w' ao' cs.length cap' 69 32 (fqE.fl (cs.map bFq)) := by
  refine sx_fn (S := SX) (M := []) (N := 20) (H0 := [.row none 0 0 69 32 [], .rd ao (strE.fl cs)]) Tryz.func54 rfl rfl rfl ((Sat.oneRd _ hr).nilRow 69 32) ?_
  ((try refine sU ?_);repeat(refine sN fun _=>?_;try refine sU ?_))
  refine SxCode.loop (σ := Nat × Option Addr × Nat) [4, 3] [5, 6, 7, 8, 11, 12, 13, 14, 15, 16, 17, 18, 3, 9, 10, 4] (fun x => [.int .i64 (x.1 : Nat), .slice x.2.1 x.1 x.2.2]) (fun x => [.row x.2.1 x.1 x.2.2 69 32 (fqE.fl ((cs.take x.1).map bFq)), .rd ao (strE.fl cs)]) (fun x => x.1 ≤ cs.length) (fun x => cs.length - x.1) (0, none, 0) [0, 1] rfl rfl rfl rfl (Nat.zero_le _) ?_
  rintro ⟨k, ro, rc⟩ hk
  dsimp only at hk ⊢
  ((try refine sU ?_);repeat(refine sN fun _=>?_;try refine sU ?_))
  refine SxIf.dec (fun h => ?_) (fun h => ?_)
  · have hlt : k < cs.length := by omega
    obtain ⟨x, hx⟩ : ∃ x, cs[k]? = some x := ⟨cs[k], by simp [hlt]⟩
    have hxs := hs x (List.mem_of_getElem? hx)
    have hsm : (cs.take (k + 1)).map bFq = (cs.take k).map bFq ++ [bFq x] := by rw [take_snocE hx]; exact List.map_append
    ((try refine sU ?_);repeat(refine sN fun _=>?_;try refine sU ?_))
    refine SxIA.rd 1 _ rfl k rfl hlt (by rw [strE_len]; omega) fun g off ha => ?_
    ((try refine sU ?_);repeat(refine sN fun _=>?_;try refine sU ?_))
    refine SxLd.rd 1 rfl ha rfl (j := k * 1) (strE_at hx) ?_
    ((try refine sU ?_);repeat(refine sN fun _=>?_;try refine sU ?_))
    refine SxCall.rsumF x hxs ?_
    ((try refine sU ?_);repeat(refine sN fun _=>?_;try refine sU ?_))
    refine SxFill.one rfl (fqC_len _) ?_
    ((try refine sU ?_);repeat(refine sN fun _=>?_;try refine sU ?_))
    refine SxApp.mk 1 rfl 0 (.inr (.inr (.inr ⟨by decide, _, rfl⟩))) (vs := fqC (bFq x)) (m := 1) (by rw [fqC_len]) (fqC_one _) (by unfold maxLen; omega) (by omega) (cs' := fqE.fl ((cs.take (k + 1)).map bFq)) (by rw [hsm, fqE.fl_append, fqE.fl_one]; rfl) fun ao' cap' => ?_
    ((try refine sU ?_);repeat(refine sN fun _=>?_;try refine sU ?_))
    exact SxRound.mk (k + 1, ao', cap') [1, 2] rfl rfl rfl hlt (by dsimp only; omega)
  · obtain rfl : k = cs.length := by omega
    rw [List.take_length]
    ((try refine sU ?_);repeat(refine sN fun _=>?_;try refine sU ?_))
    exact SxDone.mk fun w' hs => ⟨ro, rc, rfl, hs.newRow 0 rfl⟩
set_option maxHeartbeats 16000000 in
set_option maxRecDepth 20000 in
theorem RFind_any (cs : List ByteArray) (hcl : cs.length ≤ 100000) (ks : List Rk) (hkl : ks.length ≤ 100000) (so fo ko : Option Addr) (sc fc kc : Nat) (w : World) (hs : Rd w so (strE.fl cs)) (hf : Rd w fo (fqE.fl (cs.map bFq))) (hk : Rd w ko (rkE.fl ks)) :
    Calls Tryz.prog 84 #[.slice so cs.length sc, .slice fo cs.length fc, .slice ko ks.length kc] w fun e w' => ∃ ao' cap', e = .returned (.slice ao' cs.length cap') ∧ NewRow w w' ao' cs.length cap' 147 2 (fdE.fl (docF cs ks cs.length)) := by
  refine sx_fn (S := SX) (M := []) (N := 125) (H0 := [.row none 0 0 147 2 [], .rd so (strE.fl cs), .rd fo (fqE.fl (cs.map bFq)), .rd ko (rkE.fl ks)]) Tryz.func84 rfl rfl rfl (Sat.nilRow 147 2 (Sat.rdsM w [] _ fun j e hj => by
    match j, hj with
    | 0, hj => cases hj; exact ⟨rfl, hs⟩
    | 1, hj => cases hj; exact ⟨rfl, hf⟩
    | 2, hj => cases hj; exact ⟨rfl, hk⟩)) ?_
  ((try refine sU ?_);repeat(refine sN fun _=>?_;try refine sU ?_))
  refine SxCode.loop (σ := Nat × Option Addr × Nat) [8, 7] [13, 14, 15, 16, 19, 9, 20, 21, 22, 23, 10, 11, 24, 25, 26, 27, 28, 29, 30, 31, 32, 35, 36, 37, 38, 39, 40, 41, 42, 43, 44, 45, 46, 47, 48, 49, 50, 51, 52, 53, 54, 55, 56, 57, 58, 59, 60, 61, 62, 63, 64, 65, 66, 67, 68, 69, 70, 71, 72, 73, 74, 75, 76, 77, 33, 34, 12, 78, 79, 80, 81, 82, 83, 84, 85, 86, 87, 88, 89, 90, 93, 94, 95, 96, 97, 98, 99, 100, 101, 102, 103, 104, 105, 106, 107, 108, 109, 110, 111, 112, 113, 114, 115, 116, 117, 118, 119, 91, 92, 120, 121, 122, 123, 7, 17, 18, 8] (fun x => [.int .i64 (x.1 : Nat), .slice x.2.1 x.1 x.2.2]) (fun x => [.row x.2.1 x.1 x.2.2 147 2 (fdE.fl (docF cs ks x.1)), .rd so (strE.fl cs), .rd fo (fqE.fl (cs.map bFq)), .rd ko (rkE.fl ks)]) (fun x => x.1 ≤ cs.length) (fun x => cs.length - x.1) (0, none, 0) [0, 1, 2, 3] rfl rfl rfl rfl (Nat.zero_le _) ?_
  rintro ⟨k, ro, rc⟩ hk2
  dsimp only at hk2 ⊢
  refine sx_base 0 rfl fun hro _ => ?_
  ((try refine sU ?_);repeat(refine sN fun _=>?_;try refine sU ?_))
  refine SxIf.dec (fun h => ?_) (fun h => ?_)
  · have hlt : k < cs.length := by omega
    obtain ⟨c, hc⟩ : ∃ c, cs[k]? = some c := ⟨cs[k], by simp [hlt]⟩
    have hfc : (cs.map bFq)[k]? = some (bFq c) := by rw [List.getElem?_map, hc]; rfl
    have hds := docF_succ cs ks hc
    have hdl := docF_len cs ks k hk2
    obtain ⟨out, hout⟩ : ∃ out, out = docF cs ks k := ⟨_, rfl⟩
    rw [← hout] at hds hdl ⊢
    ((try refine sU ?_);repeat(refine sN fun _=>?_;try refine sU ?_))
    refine SxIA.rd 3 _ rfl k rfl hlt (by rw [fqE_len, List.length_map]; omega) fun g off ha => ?_
    ((try refine sU ?_);repeat(refine sN fun _=>?_;try refine sU ?_))
    refine SxLdN.rd 3 rfl ha rfl (vs := fqC (bFq c)) (fqC_len _) (fqE_at hfc) ?_
    ((try refine sU ?_);repeat(refine sN fun _=>?_;try refine sU ?_))
    refine SxSt.elem fqE (x := bFq c) 0 rfl rfl ?_
    ((try refine sU ?_);repeat(refine sN fun _=>?_;try refine sU ?_))
    rename_i bf bp
    refine SxCode.loop (σ := Nat) [11] [24, 25, 26, 27, 28, 29, 30, 31, 32, 35, 36, 37, 38, 39, 40, 41, 42, 43, 44, 45, 46, 47, 48, 49, 50, 51, 52, 53, 54, 55, 56, 57, 58, 59, 60, 61, 62, 63, 64, 65, 66, 67, 68, 69, 70, 71, 72, 73, 74, 75, 76, 77, 33, 34, 11] (fun j => [.int .i64 (j : Nat)]) (fun j => [.blk bp 69 (fqC (bFq c)), .blk bf 147 [.int .i64 (fstI (pR ks c) j), .int .i64 (-1)], .row ro k rc 147 2 (fdE.fl out), .rd so (strE.fl cs), .rd fo (fqE.fl (cs.map bFq)), .rd ko (rkE.fl ks)]) (fun j => j ≤ ks.length) (fun j => ks.length - j) 0 [0, 1, 2, 3, 4, 5] rfl rfl rfl rfl (Nat.zero_le _) ?_
    rintro j hj
    have hsu := fstI_succ (pR ks c) j
    by_cases hjl : j < ks.length ∧ fstI (pR ks c) j < 0
    · obtain ⟨hjl, hneg⟩ := hjl
      have hm1 : fstI (pR ks c) j = -1 := by have := fstI_ge (pR ks c) j; omega
      rw [if_pos hm1] at hsu
      obtain ⟨r, hr⟩ : ∃ r, ks[j]? = some r := ⟨ks[j], by simp [hjl]⟩
      have hp : pR ks c j = (decide (r.en.fq = bFq c) && (decide (r.en.ln = (c.size : Nat)) && (r.has && decide (r.s = c)))) := by unfold pR; rw [hr]
      have hno : pR ks c j = false → fstI (pR ks c) (j + 1) = fstI (pR ks c) j := fun h0 => by rw [hsu, h0, hm1]; rfl
      ((try refine sU ?_);repeat(refine sN fun _=>?_;try refine sU ?_))
      refine SxCode.drawAll rfl [] ?_
      ((try refine sU ?_);repeat(refine sN fun _=>?_;try refine sU ?_))
      refine SxIA.rd 5 _ rfl j rfl hjl (by rw [rkE_len]; omega) fun g off ha => ?_
      ((try refine sU ?_);repeat(refine sN fun _=>?_;try refine sU ?_))
      refine SxLdN.rd 5 rfl ha (by omega) (j := j * 37) (vs := fqC r.en.fq) (fqC_len _) (rk_fp hr) ?_
      ((try refine sU ?_);repeat(refine sN fun _=>?_;try refine sU ?_))
      refine SxLdN.blk 0 rfl (vs := fqC (bFq c)) (fqC_len _) (fqC_take _) ?_
      ((try refine sU ?_);repeat(refine sN fun _=>?_;try refine sU ?_))
      refine SxRun.eqFq ?_
      ((try refine sU ?_);repeat(refine sN fun _=>?_;try refine sU ?_))
      refine SxIf.dec (fun h1 => ?_) (fun h1 => ?_)
      · rw [decide_eq_true h1, Bool.true_and] at hp
        ((try refine sU ?_);repeat(refine sN fun _=>?_;try refine sU ?_))
        refine SxIA.rd 5 _ rfl j rfl hjl (by rw [rkE_len]; omega) fun g off ha => ?_
        ((try refine sU ?_);repeat(refine sN fun _=>?_;try refine sU ?_))
        refine SxLd.rd 5 rfl ha (by omega) (j := j * 37 + 32) (rk_ln hr) ?_
        ((try refine sU ?_);repeat(refine sN fun _=>?_;try refine sU ?_))
        refine SxIA.rd 3 _ rfl k rfl hlt (by rw [strE_len]; omega) fun g off ha => ?_
        ((try refine sU ?_);repeat(refine sN fun _=>?_;try refine sU ?_))
        refine SxLd.rd 3 rfl ha rfl (j := k * 1) (strE_at hc) ?_
        ((try refine sU ?_);repeat(refine sN fun _=>?_;try refine sU ?_))
        refine SxIf.eq (fun h2 => ?_) (fun h2 => ?_)
        · rw [decide_eq_true h2, Bool.true_and] at hp
          ((try refine sU ?_);repeat(refine sN fun _=>?_;try refine sU ?_))
          refine SxIA.rd 5 _ rfl j rfl hjl (by rw [rkE_len]; omega) fun g off ha => ?_
          ((try refine sU ?_);repeat(refine sN fun _=>?_;try refine sU ?_))
          refine SxLd.rd 5 rfl ha (by omega) (j := j * 37 + 35) (rk_has hr) ?_
          ((try refine sU ?_);repeat(refine sN fun _=>?_;try refine sU ?_))
          refine ⟨fun h3 => ?_, fun h3 => ?_⟩
          · rw [h3, Bool.true_and] at hp
            ((try refine sU ?_);repeat(refine sN fun _=>?_;try refine sU ?_))
            refine SxIA.rd 5 _ rfl j rfl hjl (by rw [rkE_len]; omega) fun g off ha => ?_
            ((try refine sU ?_);repeat(refine sN fun _=>?_;try refine sU ?_))
            refine SxLd.rd 5 rfl ha (by omega) (j := j * 37 + 36) (rk_s hr) ?_
            ((try refine sU ?_);repeat(refine sN fun _=>?_;try refine sU ?_))
            refine SxIA.rd 3 _ rfl k rfl hlt (by rw [strE_len]; omega) fun g off ha => ?_
            ((try refine sU ?_);repeat(refine sN fun _=>?_;try refine sU ?_))
            refine SxLd.rd 3 rfl ha rfl (j := k * 1) (strE_at hc) ?_
            ((try refine sU ?_);repeat(refine sN fun _=>?_;try refine sU ?_))
            refine SxIf.str (fun h4 => ?_) (fun h4 => ?_)
            · rw [decide_eq_true h4] at hp
              rw [hp, if_pos rfl] at hsu
              ((try refine sU ?_);repeat(refine sN fun _=>?_;try refine sU ?_))
              exact SxRound.mk (j + 1) [0, 1, 2, 3, 4, 5] rfl (by rw [hsu]; rfl) rfl hjl (by omega)
            · rw [decide_eq_false h4] at hp
              ((try refine sU ?_);repeat(refine sN fun _=>?_;try refine sU ?_))
              exact SxRound.mk (j + 1) [0, 1, 2, 3, 4, 5] rfl (by rw [hno hp]; rfl) rfl hjl (by omega)
          · rw [h3, Bool.false_and] at hp
            ((try refine sU ?_);repeat(refine sN fun _=>?_;try refine sU ?_))
            exact SxRound.mk (j + 1) [0, 1, 2, 3, 4, 5] rfl (by rw [hno hp]; rfl) rfl hjl (by omega)
        · rw [decide_eq_false h2, Bool.false_and] at hp
          ((try refine sU ?_);repeat(refine sN fun _=>?_;try refine sU ?_))
          exact SxRound.mk (j + 1) [0, 1, 2, 3, 4, 5] rfl (by rw [hno hp]; rfl) rfl hjl (by omega)
      · rw [decide_eq_false h1, Bool.false_and] at hp
        ((try refine sU ?_);repeat(refine sN fun _=>?_;try refine sU ?_))
        exact SxRound.mk (j + 1) [0, 1, 2, 3, 4, 5] rfl (by rw [hno hp]; rfl) rfl hjl (by omega)
    · have hend : fstI (pR ks c) j = fstI (pR ks c) ks.length := by
        by_cases h0 : j = ks.length
        · rw [h0]
        · exact (fstI_stay _ hj (by have := fstI_ge (pR ks c) j; omega)).symm
      rw [hend]
      obtain ⟨a, ha⟩ : ∃ a, a = fstI (pR ks c) ks.length := ⟨_, rfl⟩
      rw [← ha] at hds ⊢
      have hjl2 : ¬ (j < ks.length ∧ a < 0) := by rw [ha, ← hend]; exact hjl
      have hage : -1 ≤ a := by rw [ha]; exact fstI_ge _ _
      clear hjl hend hsu
      by_cases ha1 : a = -1
      · have hj0 : ¬ j < ks.length := fun hz => hjl2 ⟨hz, by omega⟩
        rw [if_pos ha1] at hds
        ((try refine sU ?_);repeat(refine sN fun _=>?_;try refine sU ?_))
        refine SxCode.loop (σ := Nat) [12] [78, 79, 80, 81, 82, 83, 84, 85, 86, 87, 88, 89, 90, 93, 94, 95, 96, 97, 98, 99, 100, 101, 102, 103, 104, 105, 106, 107, 108, 109, 110, 111, 112, 113, 114, 115, 116, 117, 118, 119, 91, 92, 12] (fun j => [.int .i64 (j : Nat)]) (fun j => [.blk bf 147 [.int .i64 a, .int .i64 (fstI (pW cs out c) j)], .row ro k rc 147 2 (fdE.fl out), .rd so (strE.fl cs), .rd fo (fqE.fl (cs.map bFq)), .rd ko (rkE.fl ks)]) (fun j => j ≤ k) (fun j => k - j) 0 [1, 2, 3, 4, 5] rfl rfl rfl rfl (Nat.zero_le _) ?_
        rintro i hi
        have hsu := fstI_succ (pW cs out c) i
        by_cases hil : i < k ∧ fstI (pW cs out c) i < 0
        · obtain ⟨hil, hneg⟩ := hil
          have hm1 : fstI (pW cs out c) i = -1 := by have := fstI_ge (pW cs out c) i; omega
          rw [if_pos hm1] at hsu
          obtain ⟨x, hx⟩ : ∃ x, out[i]? = some x := ⟨out[i]'(by omega), by simp [show i < out.length by omega]⟩
          obtain ⟨d, hd⟩ : ∃ d, cs[i]? = some d := ⟨cs[i]'(by omega), by simp [show i < cs.length by omega]⟩
          have hp : pW cs out c i = ((decide (x.1 < 0) && decide (x.2 < 0)) && decide (d = c)) := by
            unfold pW
            rw [hx]
            show (freshB x && decide (cs[i]? = some c)) = _
            rw [hd]
            unfold freshB
            congr 1
            rw [decide_eq_decide]; simp
          have hno : pW cs out c i = false → fstI (pW cs out c) (i + 1) = fstI (pW cs out c) i := fun h0 => by rw [hsu, h0, hm1]; rfl
          obtain ⟨gr, rfl⟩ := hro (by omega)
          ((try refine sU ?_);repeat(refine sN fun _=>?_;try refine sU ?_))
          refine SxCode.drawAll rfl [] ?_
          ((try refine sU ?_);repeat(refine sN fun _=>?_;try refine sU ?_))
          refine SxIA.row 1 _ _ _ rfl i rfl hil fun g' hg' => ?_
          obtain rfl : gr = g' := by simpa using hg'
          ((try refine sU ?_);repeat(refine sN fun _=>?_;try refine sU ?_))
          refine SxLd.row 1 rfl rfl (j := i * 2) (by omega) (v := .int .i64 x.1) (fdE.fl_cell (j := 0) hx rfl) ?_
          ((try refine sU ?_);repeat(refine sN fun _=>?_;try refine sU ?_))
          refine SxIf.dec (fun h1 => ?_) (fun h1 => ?_)
          · rw [decide_eq_true h1, Bool.true_and] at hp
            ((try refine sU ?_);repeat(refine sN fun _=>?_;try refine sU ?_))
            refine SxIA.row 1 _ _ _ rfl i rfl hil fun g' hg' => ?_
            obtain rfl : gr = g' := by simpa using hg'
            ((try refine sU ?_);repeat(refine sN fun _=>?_;try refine sU ?_))
            refine SxLd.row 1 rfl rfl (j := i * 2 + 1) (by omega) (v := .int .i64 x.2) (fdE.fl_cell (j := 1) hx rfl) ?_
            ((try refine sU ?_);repeat(refine sN fun _=>?_;try refine sU ?_))
            refine SxIf.dec (fun h2 => ?_) (fun h2 => ?_)
            · rw [decide_eq_true h2, Bool.true_and] at hp
              ((try refine sU ?_);repeat(refine sN fun _=>?_;try refine sU ?_))
              refine SxIA.rd 2 _ rfl i rfl (by omega) (by rw [strE_len]; omega) fun g off ha => ?_
              ((try refine sU ?_);repeat(refine sN fun _=>?_;try refine sU ?_))
              refine SxLd.rd 2 rfl ha rfl (j := i * 1) (strE_at hd) ?_
              ((try refine sU ?_);repeat(refine sN fun _=>?_;try refine sU ?_))
              refine SxIA.rd 2 _ rfl k rfl (by omega) (by rw [strE_len]; omega) fun g off ha => ?_
              ((try refine sU ?_);repeat(refine sN fun _=>?_;try refine sU ?_))
              refine SxLd.rd 2 rfl ha rfl (j := k * 1) (strE_at hc) ?_
              ((try refine sU ?_);repeat(refine sN fun _=>?_;try refine sU ?_))
              refine SxIf.str (fun h4 => ?_) (fun h4 => ?_)
              · rw [decide_eq_true h4] at hp
                rw [hp, if_pos rfl] at hsu
                ((try refine sU ?_);repeat(refine sN fun _=>?_;try refine sU ?_))
                exact SxRound.mk (i + 1) [0, 1, 2, 3, 4] rfl (by rw [hsu]; rfl) rfl hil (by omega)
              · rw [decide_eq_false h4] at hp
                ((try refine sU ?_);repeat(refine sN fun _=>?_;try refine sU ?_))
                exact SxRound.mk (i + 1) [0, 1, 2, 3, 4] rfl (by rw [hno hp]; rfl) rfl hil (by omega)
            · rw [decide_eq_false h2, Bool.false_and] at hp
              ((try refine sU ?_);repeat(refine sN fun _=>?_;try refine sU ?_))
              exact SxRound.mk (i + 1) [0, 1, 2, 3, 4] rfl (by rw [hno hp]; rfl) rfl hil (by omega)
          · rw [decide_eq_false h1, Bool.false_and, Bool.false_and] at hp
            ((try refine sU ?_);repeat(refine sN fun _=>?_;try refine sU ?_))
            exact SxRound.mk (i + 1) [0, 1, 2, 3, 4] rfl (by rw [hno hp]; rfl) rfl hil (by omega)
        · have hend : fstI (pW cs out c) i = fstI (pW cs out c) k := by
            by_cases h0 : i = k
            · rw [h0]
            · exact (fstI_stay _ hi (by have := fstI_ge (pW cs out c) i; omega)).symm
          rw [hend]
          obtain ⟨b, hb⟩ : ∃ b, b = fstI (pW cs out c) k := ⟨_, rfl⟩
          rw [← hb] at hds ⊢
          have hil2 : ¬ (i < k ∧ b < 0) := by rw [hb, ← hend]; exact hil
          clear hil hend hsu
          by_cases hi0 : i < k
          case' pos =>
            ((try refine sU ?_);repeat(refine sN fun _=>?_;try refine sU ?_))
          case' neg =>
            ((try refine sU ?_);repeat(refine sN fun _=>?_;try refine sU ?_))
          all_goals
            ((try refine sU ?_);repeat(refine sN fun _=>?_;try refine sU ?_))
            refine SxApp.mk 2 rfl 0 (.inr (.inr (.inr ⟨by decide, _, rfl⟩))) (vs := fdC (a, b)) (m := 1) rfl rfl (by unfold maxLen; omega) (by omega) (cs' := fdE.fl (docF cs ks (k + 1))) (by rw [hds, fdE.fl_append, fdE.fl_one]; rfl) fun ao' cap' => ?_
            ((try refine sU ?_);repeat(refine sN fun _=>?_;try refine sU ?_))
            exact SxRound.mk (k + 1, ao', cap') [2, 3, 4, 5] rfl rfl rfl hlt (by dsimp only; omega)
      · rw [if_neg ha1] at hds
        by_cases hj0 : j < ks.length
        case' pos => ((try refine sU ?_);repeat(refine sN fun _=>?_;try refine sU ?_))
        case' neg => ((try refine sU ?_);repeat(refine sN fun _=>?_;try refine sU ?_))
        all_goals
          refine SxCode.loop (σ := Nat) [12] [78, 79, 80, 81, 82, 83, 84, 85, 86, 87, 88, 89, 90, 93, 94, 95, 96, 97, 98, 99, 100, 101, 102, 103, 104, 105, 106, 107, 108, 109, 110, 111, 112, 113, 114, 115, 116, 117, 118, 119, 91, 92, 12] (fun j => [.int .i64 (j : Nat)]) (fun j => [.blk bf 147 [.int .i64 a, .int .i64 (-1)], .row ro k rc 147 2 (fdE.fl out), .rd so (strE.fl cs), .rd fo (fqE.fl (cs.map bFq)), .rd ko (rkE.fl ks)]) (fun j => j ≤ k) (fun j => k - j) 0 [1, 2, 3, 4, 5] rfl rfl rfl rfl (Nat.zero_le _) ?_
          rintro i hi
          by_cases hi0 : i < k
          case' pos =>
            ((try refine sU ?_);repeat(refine sN fun _=>?_;try refine sU ?_))
          case' neg =>
            ((try refine sU ?_);repeat(refine sN fun _=>?_;try refine sU ?_))
          all_goals
            ((try refine sU ?_);repeat(refine sN fun _=>?_;try refine sU ?_))
            refine SxApp.mk 2 rfl 0 (.inr (.inr (.inr ⟨by decide, _, rfl⟩))) (vs := fdC (a, -1)) (m := 1) rfl rfl (by unfold maxLen; omega) (by omega) (cs' := fdE.fl (docF cs ks (k + 1))) (by rw [hds, fdE.fl_append, fdE.fl_one]; rfl) fun ao' cap' => ?_
            ((try refine sU ?_);repeat(refine sN fun _=>?_;try refine sU ?_))
            exact SxRound.mk (k + 1, ao', cap') [2, 3, 4, 5] rfl rfl rfl hlt (by dsimp only; omega)
  · obtain rfl : k = cs.length := by omega
    ((try refine sU ?_);repeat(refine sN fun _=>?_;try refine sU ?_))
    exact SxDone.mk fun w' hs => ⟨ro, rc, rfl, hs.newRow 0 rfl⟩
end Go.Proofs.YtlmefcepdadfjaaGreat
/- Layer 8: the first segment, of the program and of the document. -/
namespace Go.Proofs.YtlmefcepdadfjaaGreat
open Go.RowKit

def firstN (p : Nat → Bool) (n : Nat) : Nat := match (List.range n).find? p with
  | some i => i + 1
  | none => 0
theorem firstN_none {p : Nat → Bool} {n : Nat} (h : ∀ i, i < n → p i = false) : firstN p n = 0 := by
  unfold firstN
  rw [List.find?_eq_none.2 fun x hx => by rw [h x (List.mem_range.1 hx)]; simp]
theorem firstN_some {p : Nat → Bool} {n j : Nat} (hj : j < n) (hp : p j = true) (h : ∀ i, i < j → p i = false) : firstN p n = j + 1 := by
  unfold firstN
  have : (List.range n).find? p = some j := by
    rw [List.find?_range_eq_some]
    exact ⟨hp, List.mem_range.2 hj, fun i hi => by rw [h i hi]; rfl⟩
  rw [this]
theorem firstN_le (p : Nat → Bool) (n : Nat) : firstN p n ≤ n := by
  unfold firstN
  split
  · rename_i i hi
    exact List.mem_range.1 (List.mem_of_find?_eq_some hi)
  · omega
theorem splice_all {vs cs : List Value} (h : vs.length = cs.length) : splice 0 vs cs = vs := by
  unfold splice
  rw [List.take_zero, List.nil_append, Nat.zero_add, List.drop_of_length_le (by omega), List.append_nil]
def fqAt (l : List Fq) (i : Nat) : List UInt8 := ((l[i]?).map Subtype.val).getD []
theorem fqAt_of {l : List Fq} {i : Nat} {x : Fq} (h : l[i]? = some x) : fqAt l i = x.1 := by unfold fqAt; rw [h]; rfl
def segN (c : Nat → Int) (l : List Fq) : Nat := if segC c = true then firstN (fun i => endC c i (fqAt l i)) l.length else 0
set_option maxHeartbeats 4000000 in
theorem SCut_any (c : Nat → Int) (l : List Fq) (hl : l.length ≤ 100000) (ao : Option Addr) (ac : Nat) (w : World) (hr : Rd w ao (fqE.fl l)) :
    Calls Tryz.prog 67 #[.slice ao l.length ac, confA c] w fun e w' => e = .returned (.int .i64 (segN c l : Nat)) ∧ Below w.heap.size w w' := by
  refine sx_fn (S := SX) (M := []) (N := 27) (H0 := [.rd ao (fqE.fl l)]) Tryz.func67 rfl rfl rfl (Sat.oneRd _ hr) ?_
  ((try refine sU ?_);repeat(refine sN fun _=>?_;try refine sU ?_))
  refine SxCall.quiet (SMay_any c) ?_
  ((try refine sU ?_);repeat(refine sN fun _=>?_;try refine sU ?_))
  refine SxIf.nt ⟨fun hc => ?_, fun hc => ?_⟩
  · ((try refine sU ?_);repeat(refine sN fun _=>?_;try refine sU ?_))
    refine SxCall.mk fun w hs => (ender_sat hs c).mono ?_
    rintro e w' ⟨g, rfl, hs'⟩
    refine ⟨_, _, rfl, hs', ?_⟩
    ((try refine sU ?_);repeat(refine sN fun _=>?_;try refine sU ?_))
    refine SxCode.loop (σ := Nat) [15, 4] [16, 17, 18, 19, 7, 6, 20, 21, 22, 23, 24, 25, 4, 26, 15] (fun k => [.int .i64 (k : Nat), .int .i64 0]) (fun _ => [.blk g 23 (tab 13 (confV c)), .rd ao (fqE.fl l)]) (fun k => k ≤ l.length ∧ ∀ i, i < k → endC c i (fqAt l i) = false) (fun k => l.length - k) 0 [0, 2] rfl rfl rfl rfl ⟨Nat.zero_le _, fun i hi => absurd hi (Nat.not_lt_zero _)⟩ ?_
    rintro k ⟨hk, hall⟩
    ((try refine sU ?_);repeat(refine sN fun _=>?_;try refine sU ?_))
    refine SxIf.dec (fun h => ?_) (fun h => ?_)
    · have hlt : k < l.length := by omega
      obtain ⟨x, hx⟩ : ∃ x, l[k]? = some x := ⟨l[k], by simp [hlt]⟩
      have hfx := fqAt_of hx
      ((try refine sU ?_);repeat(refine sN fun _=>?_;try refine sU ?_))
      refine SxIA.rd 1 _ rfl k rfl hlt (by rw [fqE_len]; omega) fun g1 off ha => ?_
      ((try refine sU ?_);repeat(refine sN fun _=>?_;try refine sU ?_))
      refine SxLdN.rd 1 rfl ha rfl (j := k * 32) (vs := fqC x) (fqC_len x) (fqE_at hx) ?_
      ((try refine sU ?_);repeat(refine sN fun _=>?_;try refine sU ?_))
      refine SxP.mk (by exact fqC_len x) ?_
      refine SxSt.blk 0 rfl (by show Nat.ble (0 + (fqC x).length) 32 = true; rw [fqC_len]; rfl) (fqC_one x) (cs' := fqC x) (splice_all (vs := fqC x) (fqC_len x)) ?_
      ((try refine sU ?_);repeat(refine sN fun _=>?_;try refine sU ?_))
      refine SxLdN.blk 0 rfl (vs := fqC x) (fqC_len x) (fqC_take x) ?_
      ((try refine sU ?_);repeat(refine sN fun _=>?_;try refine sU ?_))
      refine SxCall.quietS (fun w1 hs1 => ender1_any c hc k (by omega) x.1 x.2 g w1 (hs1.blk 1 rfl)) ?_
      ((try refine sU ?_);repeat(refine sN fun _=>?_;try refine sU ?_))
      refine ⟨fun hp => ?_, fun hp => ?_⟩
      · have he : segN c l = k + 1 := by
          unfold segN
          rw [if_pos hc]
          exact firstN_some hlt (by rw [hfx]; exact hp) hall
        ((try refine sU ?_);repeat(refine sN fun _=>?_;try refine sU ?_))
        exact SxDone.mk fun w' hs => ⟨by rw [he]; rfl, hs.touch.below⟩
      · ((try refine sU ?_);repeat(refine sN fun _=>?_;try refine sU ?_))
        refine SxRound.mk (k + 1) [1, 2] rfl rfl rfl ⟨hlt, fun i hi => ?_⟩ (by omega)
        rcases Nat.lt_succ_iff_lt_or_eq.1 hi with h2 | h2
        · exact hall i h2
        · subst h2
          rw [hfx]; exact hp
    · obtain rfl : k = l.length := by omega
      have he : segN c l = 0 := by unfold segN; rw [if_pos hc, firstN_none hall]
      ((try refine sU ?_);repeat(refine sN fun _=>?_;try refine sU ?_))
      exact SxDone.mk fun w' hs => ⟨by rw [he]; rfl, hs.touch.below⟩
  · have he : segN c l = 0 := by unfold segN; rw [hc]; rfl
    ((try refine sU ?_);repeat(refine sN fun _=>?_;try refine sU ?_))
    exact SxDone.mk fun w' hs => ⟨by rw [he]; rfl, hs.touch.below⟩
set_option maxHeartbeats 4000000 in
theorem RSCut_any (c : Nat → Int) (l : List Fq) (hl : l.length ≤ 100000) (ao : Option Addr) (ac : Nat) (w : World) (hr : Rd w ao (fqE.fl l)) :
    Calls Tryz.prog 55 #[.slice ao l.length ac, confA c] w fun e w' => e = .returned (.int .i64 (segN c l : Nat)) ∧ Below w.heap.size w w' := by
  refine sx_fn (S := SX) (M := []) (N := 35) (H0 := [.rd ao (fqE.fl l)]) Tryz.func55 rfl rfl rfl (Sat.oneRd _ hr) ?_
  ((try refine sU ?_);repeat(refine sN fun _=>?_;try refine sU ?_))
  refine SxCall.quiet (RSMay_any c) ?_
  ((try refine sU ?_);repeat(refine sN fun _=>?_;try refine sU ?_))
  refine SxIf.nt ⟨fun hc => ?_, fun hc => ?_⟩
  · have hc' : 1 ≤ c 4 ∧ c 4 ≤ c 5 ∧ c 5 ≤ 256 ∧ 1 ≤ c 6 ∧ c 6 ≤ 1048576 := by unfold segC at hc; exact of_decide_eq_true hc
    rename_i b
    ((try refine sU ?_);repeat(refine sN fun _=>?_;try refine sU ?_))
    refine SxCode.loop (σ := Int) [5, 4] [11, 12, 13, 14, 17, 18, 19, 20, 21, 22, 23, 24, 25, 26, 27, 28, 29, 30, 31, 32, 33, 34, 4, 15, 16, 5] (fun k => [.int .i64 k, .int .i64 0]) (fun _ => [.blk b 23 (tab 13 (confV c)), .rd ao (fqE.fl l)]) (fun k => c 4 ≤ k ∧ ∀ i : Nat, (i : Int) + 1 < k → endC c i (fqAt l i) = false) (fun k => (l.length + 1 - k).toNat) (c 4) [0, 1] rfl rfl rfl rfl ⟨by exact Int.le_refl _, fun i hi => ?_⟩ ?_
    · unfold endC
      rw [decide_eq_false_iff_not]
      have hi' : (i : Int) + 1 < c 4 := hi
      omega
    rintro k ⟨hk, hall⟩
    ((try refine sU ?_);repeat(refine sN fun _=>?_;try refine sU ?_))
    refine SxIf.dec (fun h => ?_) (fun h => ?_)
    · obtain ⟨j, rfl⟩ : ∃ j : Nat, k = (j : Int) + 1 := ⟨(k - 1).toNat, by omega⟩
      have hlt : j < l.length := by omega
      obtain ⟨x, hx⟩ : ∃ x, l[j]? = some x := ⟨l[j], by simp [hlt]⟩
      have hfx := fqAt_of hx
      have hall' : ∀ i, i < j → endC c i (fqAt l i) = false := fun i hi => hall i (by omega)
      have h6 : 1 ≤ c (nat_lit 6) ∧ c (nat_lit 6) ≤ 1048576 := ⟨hc'.2.2.2.1, hc'.2.2.2.2⟩
      have hbs : ((beV (x.1.take 4) : Nat) : Int) < 4294967296 := by
        have := beV_lt 4 x.1
        omega
      have hend : endC c j x.1 = true → segN c l = j + 1 := fun hp => by
        unfold segN
        rw [if_pos hc]
        exact firstN_some hlt (by rw [hfx]; exact hp) hall'
      by_cases h1 : (j : Int) + 1 = c 5
      · have h1' : (j : Int) + 1 = c (nat_lit 5) := h1
        have he := hend (by unfold endC; rw [decide_eq_true_iff]; exact .inl h1)
        ((try refine sU ?_);repeat(refine sN fun _=>?_;try refine sU ?_))
        refine SxCode.drawAll rfl [] ?_
        ((try refine sU ?_);repeat(refine sN fun _=>?_;try refine sU ?_))
        refine SxDone.mk fun w' hs => ⟨by rw [he]; rfl, hs.touch.below⟩
      · have h1' : ¬ (j : Int) + 1 = c (nat_lit 5) := h1
        ((try refine sU ?_);repeat(refine sN fun _=>?_;try refine sU ?_))
        refine SxCode.drawAll rfl [] ?_
        ((try refine sU ?_);repeat(refine sN fun _=>?_;try refine sU ?_))
        refine SxIA.rd 1 _ rfl j (by omega) hlt (by rw [fqE_len]; omega) fun g1 off ha => ?_
        ((try refine sU ?_);repeat(refine sN fun _=>?_;try refine sU ?_))
        refine SxLdN.rd 1 rfl ha rfl (j := j * 32) (vs := fqC x) (fqC_len x) (fqE_at hx) ?_
        ((try refine sU ?_);repeat(refine sN fun _=>?_;try refine sU ?_))
        refine SxCall.quiet (RNum_any x.1 x.2) ?_
        ((try refine sU ?_);repeat(refine sN fun _=>?_;try refine sU ?_))
        refine SxIf.eq (fun h2 => ?_) (fun h2 => ?_)
        · have h2' : ((beV (x.1.take 4) : Nat) : Int) % c 6 = 0 := h2
          have he := hend (by unfold endC; rw [decide_eq_true_iff]; exact .inr ⟨hk, h2'⟩)
          ((try refine sU ?_);repeat(refine sN fun _=>?_;try refine sU ?_))
          refine SxDone.mk fun w' hs => ⟨by rw [he]; rfl, hs.touch.below⟩
        · have h2' : ¬ ((beV (x.1.take 4) : Nat) : Int) % c 6 = 0 := h2
          ((try refine sU ?_);repeat(refine sN fun _=>?_;try refine sU ?_))
          refine SxRound.mk ((j : Int) + 1 + 1) [0, 1] rfl rfl rfl ⟨by omega, fun i hi => ?_⟩ (by omega)
          rcases Nat.lt_or_ge i j with h3 | h3
          · exact hall' i h3
          · obtain rfl : i = j := by omega
            rw [hfx]
            unfold endC
            rw [decide_eq_false_iff_not]
            rintro (h4 | ⟨_, h4⟩)
            · exact h1 h4
            · exact h2' h4
    · have he : segN c l = 0 := by
        unfold segN
        rw [if_pos hc, firstN_none fun i hi => hall i (by omega)]
      ((try refine sU ?_);repeat(refine sN fun _=>?_;try refine sU ?_))
      exact SxDone.mk fun w' hs => ⟨by rw [he]; rfl, hs.touch.below⟩
  · have he : segN c l = 0 := by unfold segN; rw [hc]; rfl
    ((try refine sU ?_);repeat(refine sN fun _=>?_;try refine sU ?_))
    exact SxDone.mk fun w' hs => ⟨by rw [he]; rfl, hs.touch.below⟩
end Go.Proofs.YtlmefcepdadfjaaGreat
/- Layer 19: what the program finds is what the document finds; what that is. -/
namespace Go.Proofs.YtlmefcepdadfjaaGreat
open Go.RowKit

theorem atL_snoc (p : Nat → Bool) (l : List Nat) (k : Nat) : atL p (l ++ [k]) = if atL p l = -1 then (if p k then (k : Int) else -1) else atL p l := by
  unfold atL
  rw [List.find?_append]
  cases h : l.find? p with
  | some i => simp only [Option.some_or]; rw [if_neg (by omega)]
  | none =>
    simp only [Option.none_or, if_true]
    by_cases hp : p k = true
    · rw [List.find?_cons_of_pos hp, if_pos hp]
    · rw [List.find?_cons_of_neg hp, if_neg hp]; rfl
def tlR (ks : List Rk) (i : Nat) : ByteArray × Bool := match ks[i]? with
  | some r => (if r.has then r.s else ⟨#[]⟩, r.has)
  | none => (⟨#[]⟩, false)
def knR (ks : List Rk) : List En := ks.map (·.en)
theorem atL_known (ks : List Rk) (c : ByteArray) : ∀ k, k ≤ ks.length → atL (pK (knR ks) (tlR ks) c) (idxs (psK ((knR ks).take k)) (bFq c)) = fstI (pR ks c) k
  | 0, _ => by rw [List.take_zero]; rfl
  | k + 1, h => by
    have ih := atL_known ks c k (by omega)
    obtain ⟨r, hr⟩ : ∃ r, ks[k]? = some r := ⟨ks[k], by simp [show k < ks.length by omega]⟩
    have hx : (knR ks)[k]? = some r.en := by unfold knR; rw [List.getElem?_map, hr]; rfl
    rw [psK_snoc hx, idxs_snoc, fstI_succ]
    have hp : pR ks c k = (decide (r.en.fq = bFq c) && (decide (r.en.ln = (c.size : Nat)) && (r.has && decide (r.s = c)))) := by unfold pR; rw [hr]
    have hq : pK (knR ks) (tlR ks) c k = (decide (r.en.ln = (c.size : Nat)) && (r.has && decide (r.s = c))) := by
      unfold pK
      rw [hx]
      show okT r.en (tlR ks k) c = _
      unfold okT tlR
      rw [hr]
      show (decide (r.en.ln = (c.size : Nat)) && (r.has && decide ((if r.has then r.s else (⟨#[]⟩ : ByteArray)) = c))) = _
      cases hh : r.has with
      | true => rfl
      | false => rfl
    by_cases he : r.en.fq = bFq c
    · rw [if_pos he, atL_snoc, ih, hp, decide_eq_true he, Bool.true_and, hq]
    · rw [if_neg he, List.append_nil, ih, hp, decide_eq_false he, Bool.false_and]
      by_cases h1 : fstI (pR ks c) k = -1
      · rw [if_pos h1, h1]; rfl
      · rw [if_neg h1]
section
variable (cs : List ByteArray) (ks : List Rk)
def xsG (tl : Nat → ByteArray × Bool) (kn : List En) (k : Nat) (c : ByteArray) : Int × Int :=
  (atL (pK kn tl c) (idxs (psK kn) (bFq c)), if atL (pK kn tl c) (idxs (psK kn) (bFq c)) = -1 then atL (pO cs c) (idxs (segG cs kn tl k).2 (bFq c)) else -1)
theorem segG_succ (tl : Nat → ByteArray × Bool) (kn : List En) {k : Nat} {c : ByteArray} (h : cs[k]? = some c) : segG cs kn tl (k + 1) = ((segG cs kn tl k).1 ++ [xsG cs tl kn k c], if freshB (xsG cs tl kn k c) then (segG cs kn tl k).2 ++ [(k, bFq c)] else (segG cs kn tl k).2) := by
  rw [segG, h]; rfl
theorem docF_stay {j : Nat} : ∀ (d : Nat), j < cs.length → j + 1 + d ≤ cs.length → (docF cs ks (j + 1 + d))[j]? = (docF cs ks (j + 1))[j]?
  | 0, _, _ => rfl
  | d + 1, h, h2 => by
    obtain ⟨c, hc⟩ : ∃ c, cs[j + 1 + d]? = some c := ⟨cs[j + 1 + d], by simp [show j + 1 + d < cs.length by omega]⟩
    have hl := docF_len cs ks (j + 1 + d) (by omega)
    rw [← Nat.add_assoc, docF_succ cs ks hc, List.getElem?_append_left (by omega), docF_stay d h (by omega)]
theorem docF_at {j k : Nat} (h : j < k) (hk : k ≤ cs.length) : (docF cs ks k)[j]? = (docF cs ks (j + 1))[j]? := by
  obtain ⟨d, rfl⟩ : ∃ d, k = j + 1 + d := ⟨k - (j + 1), by omega⟩
  exact docF_stay cs ks d (by omega) hk
theorem atL_own (c : ByteArray) (m : Nat) (hm : m ≤ cs.length) (hd : ∀ k, k ≤ m → (segG cs (knR ks) (tlR ks) k).1 = docF cs ks k) : ∀ j, j ≤ m → atL (pO cs c) (idxs (segG cs (knR ks) (tlR ks) j).2 (bFq c)) = fstI (pW cs (docF cs ks m) c) j
  | 0, _ => rfl
  | j + 1, h => by
    have ih := atL_own c m hm hd j (by omega)
    obtain ⟨d, hc⟩ : ∃ d, cs[j]? = some d := ⟨cs[j]'(by omega), by simp [show j < cs.length by omega]⟩
    have hs := segG_succ cs (tlR ks) (knR ks) hc
    have h1 := hd (j + 1) h
    have hx : (docF cs ks m)[j]? = some (xsG cs (tlR ks) (knR ks) j d) := by
      rw [docF_at cs ks (show j < m by omega) hm, ← h1, hs]
      dsimp only
      have hl := segG_len cs (knR ks) (tlR ks) j (by omega)
      rw [List.getElem?_append_right (by omega), hl, Nat.sub_self]; rfl
    rw [hs, fstI_succ]
    dsimp only
    have hp : pW cs (docF cs ks m) c j = (freshB (xsG cs (tlR ks) (knR ks) j d) && decide (d = c)) := by
      unfold pW
      rw [hx]
      show (freshB _ && decide (cs[j]? = some c)) = _
      rw [hc]
      congr 1
      rw [decide_eq_decide]; simp
    have hn : pW cs (docF cs ks m) c j = false → (if fstI (pW cs (docF cs ks m) c) j = -1 then (if pW cs (docF cs ks m) c j = true then (j : Int) else -1) else fstI (pW cs (docF cs ks m) c) j) = fstI (pW cs (docF cs ks m) c) j := fun h0 => by
      rw [h0]
      by_cases h2 : fstI (pW cs (docF cs ks m) c) j = -1
      · rw [if_pos h2, h2]; rfl
      · rw [if_neg h2]
    by_cases hf : freshB (xsG cs (tlR ks) (knR ks) j d) = true
    · rw [if_pos hf, idxs_snoc]
      rw [hf, Bool.true_and] at hp
      by_cases hq : bFq d = bFq c
      · rw [if_pos hq, atL_snoc, ih, hp]
        have : pO cs c j = decide (d = c) := by unfold pO; rw [hc, decide_eq_decide]; simp
        rw [this]
      · have hdc : d ≠ c := fun e => hq (by rw [e])
        rw [if_neg hq, List.append_nil, ih]
        rw [decide_eq_false hdc] at hp
        exact (hn hp).symm
    · rw [if_neg hf, ih]
      exact (hn (by rw [hp, Bool.eq_false_iff.2 hf]; rfl)).symm
theorem seg_doc : ∀ m, m ≤ cs.length → ∀ k, k ≤ m → (segG cs (knR ks) (tlR ks) k).1 = docF cs ks k
  | 0, _, k, hk => by obtain rfl : k = 0 := by omega
                      rfl
  | m + 1, hm, k, hk => by
    have ih := seg_doc m (by omega)
    by_cases h : k ≤ m
    · exact ih k h
    · obtain rfl : k = m + 1 := by omega
      obtain ⟨c, hc⟩ : ∃ c, cs[m]? = some c := ⟨cs[m]'(by omega), by simp [show m < cs.length by omega]⟩
      have hs := segG_succ cs (tlR ks) (knR ks) hc
      have ho := atL_own cs ks c m (by omega) ih m (Nat.le_refl _)
      have hk := atL_known ks c ks.length (Nat.le_refl _)
      have ht : (knR ks).take ks.length = knR ks := List.take_of_length_le (by unfold knR; rw [List.length_map]; exact Nat.le_refl _)
      rw [ht] at hk
      rw [hs, docF_succ cs ks hc]
      dsimp only
      unfold xsG
      rw [ih m (Nat.le_refl _), hk, ho]
theorem seg_docF : (segG cs (knR ks) (tlR ks) cs.length).1 = docF cs ks cs.length := seg_doc cs ks _ (Nat.le_refl _) _ (Nat.le_refl _)
end
end Go.Proofs.YtlmefcepdadfjaaGreat
/- Fingerprints as elements of rows. -/
namespace Go.Proofs.YtlmefcepdadfjaaGreat
open Go.RowKit

abbrev Fp := {f : List UInt8 // f.length = 32}
instance : Inhabited Fp := ⟨⟨List.replicate 32 0, rfl⟩⟩
theorem fpC_one : ∀ f : List UInt8, allOne (fpC f) = true
  | [] => rfl
  | _ :: f => fpC_one f
def fpE : Enc Fp := ⟨fun f => fpC f.1, 32, by decide, fun f => by rw [fpC_len, f.2], fun f => fpC_one f.1⟩
theorem SxRun.eqFp {x y : Fp} {o1 o2 : Operand} {A : Value → Prop} (h : A (.bool (decide (x = y)))) : SxRun SX.P (do eqGuard .eql 69 o1 o2 (fpV x.1) (fpV y.1); binOp .eql 69 (fpV x.1) (fpV y.1)) A :=
  SxRun.fpEq x.2 y.2 (by rw [show decide (x.1 = y.1) = decide (x = y) by rw [decide_eq_decide]; exact Subtype.ext_iff.symm]; exact h)
theorem SxRun.neFp {x y : Fp} {o1 o2 : Operand} {A : Value → Prop} (h : A (.bool (!decide (x = y)))) : SxRun SX.P (do eqGuard .neq 69 o1 o2 (fpV x.1) (fpV y.1); binOp .neq 69 (fpV x.1) (fpV y.1)) A :=
  SxRun.fpNe x.2 y.2 (by rw [show decide (x.1 = y.1) = decide (x = y) by rw [decide_eq_decide]; exact Subtype.ext_iff.symm]; exact h)
end Go.Proofs.YtlmefcepdadfjaaGreat
