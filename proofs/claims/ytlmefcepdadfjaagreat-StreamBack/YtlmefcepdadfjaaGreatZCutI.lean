/- Texts of this claim, one behind the other. -/
import Derived.Test.YtlmefcepdadfjaaGreatZMtE
import Derived.Test.YtlmefcepdadfjaaGreatZStA
import Derived.Deep.DeepCutAuto
import Derived.Test.YtlmefcepdadfjaaGreatZSxM
/- Layer 19: the document's Find. -/
namespace Go.Proofs.YtlmefcepdadfjaaGreat
open Go.RowKit

def fstI (p : Nat → Bool) (n : Nat) : Int := match (List.range n).find? p with
  | some i => (i : Nat)
  | none => -1
theorem fstI_succ (p : Nat → Bool) (j : Nat) : fstI p (j + 1) = if fstI p j = -1 then (if p j then (j : Int) else -1) else fstI p j := by
  unfold fstI
  rw [List.range_succ, List.find?_append]
  cases h : (List.range j).find? p with
  | some i => simp only [Option.some_or]; rw [if_neg (by omega)]
  | none =>
    simp only [Option.none_or, if_true]
    by_cases hp : p j = true
    · rw [List.find?_cons_of_pos hp, if_pos hp]
    · rw [List.find?_cons_of_neg hp, if_neg hp]; rfl
theorem fstI_ge (p : Nat → Bool) (j : Nat) : -1 ≤ fstI p j := by unfold fstI; split <;> omega
theorem fstI_lt (p : Nat → Bool) (n : Nat) (h : 0 < n) : fstI p n < n := by
  unfold fstI
  split
  · rename_i i hi
    have := List.mem_of_find?_eq_some hi
    have := List.mem_range.1 this
    omega
  · omega
structure Rk where
  en : En
  has : Bool
  s : ByteArray
instance : Inhabited Rk := ⟨⟨default, false, default⟩⟩
def rkC (r : Rk) : List Value := enC r.en ++ [.bool r.has, .string r.s]
theorem rkC_len (r : Rk) : (rkC r).length = 37 := by unfold rkC; rw [List.length_append, enC_len]; rfl
theorem rkC_one (r : Rk) : allOne (rkC r) = true := by
  show allOne ((r.en.fp.map u8V ++ enT r.en.ln r.en.bx r.en.sl) ++ [.bool r.has, .string r.s]) = true
  rw [List.append_assoc, allOne_u8]; rfl
def rkE : Enc Rk := ⟨rkC, 37, by decide, rkC_len, rkC_one⟩
theorem rkE_len (l : List Rk) : (rkE.fl l).length = l.length * 37 := rkE.fl_len l
theorem rkE_at {l : List Rk} {k : Nat} {x : Rk} (h : l[k]? = some x) : ((rkE.fl l).drop (k * 37)).take 37 = rkC x := rkE.fl_at h
theorem rkC_head {r : Rk} {j : Nat} {v : Value} (h : (enC r.en)[j]? = some v) : (rkC r)[j]? = some v := by
  unfold rkC
  rw [List.getElem?_append_left (List.getElem?_eq_some_iff.1 h).1]; exact h
theorem rkC_tail (r : Rk) (j : Nat) : (rkC r)[35 + j]? = ([.bool r.has, .string r.s] : List Value)[j]? := by
  unfold rkC
  rw [List.getElem?_append_right (by rw [enC_len]; omega), enC_len, Nat.add_sub_cancel_left]
theorem rk_fp {l : List Rk} {k : Nat} {x : Rk} (h : l[k]? = some x) : ((rkE.fl l).drop (k * 37)).take 32 = fqC x.en.fq := by
  have h1 := rkE_at h
  have h2 : ((rkE.fl l).drop (k * 37)).take 32 = (((rkE.fl l).drop (k * 37)).take 37).take 32 := by rw [List.take_take]; rfl
  rw [h2, h1]
  unfold rkC
  rw [List.take_append_of_le_length (by rw [enC_len]; decide)]
  have := enC_fq x.en
  rw [List.drop_zero] at this
  exact this
section
variable (cs : List ByteArray) (ks : List Rk)
def pR (c : ByteArray) (i : Nat) : Bool := match ks[i]? with
  | some r => decide (r.en.fq = bFq c) && (decide (r.en.ln = (c.size : Nat)) && (r.has && decide (r.s = c)))
  | none => false
def pW (out : List (Int × Int)) (c : ByteArray) (j : Nat) : Bool := match out[j]? with
  | some x => freshB x && decide (cs[j]? = some c)
  | none => false
def docF : Nat → List (Int × Int)
  | 0 => []
  | k + 1 => match cs[k]? with
    | some c => docF k ++ [(fstI (pR ks c) ks.length, if fstI (pR ks c) ks.length = -1 then fstI (pW cs (docF k) c) k else -1)]
    | none => docF k
theorem docF_succ {k : Nat} {c : ByteArray} (h : cs[k]? = some c) : docF cs ks (k + 1) = docF cs ks k ++ [(fstI (pR ks c) ks.length, if fstI (pR ks c) ks.length = -1 then fstI (pW cs (docF cs ks k) c) k else -1)] := by rw [docF, h]
theorem docF_len : ∀ k, k ≤ cs.length → (docF cs ks k).length = k
  | 0, _ => rfl
  | k + 1, h => by
    obtain ⟨c, hc⟩ : ∃ c, cs[k]? = some c := ⟨cs[k], by simp [show k < cs.length by omega]⟩
    rw [docF_succ cs ks hc, List.length_append, docF_len k (by omega)]; rfl
end
end Go.Proofs.YtlmefcepdadfjaaGreat
/- Layer 8: the first segment, of the program and of the document. -/
namespace Go.Proofs.YtlmefcepdadfjaaGreat
open Go.RowKit

def firstN (p : Nat → Bool) (n : Nat) : Nat := match (List.range n).find? p with
  | some i => i + 1
  | none => 0
theorem firstN_none {p : Nat → Bool} {n : Nat} (h : ∀ i, i < n → p i = false) : firstN p n = 0 := by
  unfold firstN
  rw [List.find?_eq_none.2 fun x hx => by rw [h x (List.mem_range.1 hx)]; simp]
theorem firstN_some {p : Nat → Bool} {n j : Nat} (hj : j < n) (hp : p j = true) (h : ∀ i, i < j → p i = false) : firstN p n = j + 1 := by
  unfold firstN
  have : (List.range n).find? p = some j := by
    rw [List.find?_range_eq_some]
    exact ⟨hp, List.mem_range.2 hj, fun i hi => by rw [h i hi]; rfl⟩
  rw [this]
theorem firstN_le (p : Nat → Bool) (n : Nat) : firstN p n ≤ n := by
  unfold firstN
  split
  · rename_i i hi
    exact List.mem_range.1 (List.mem_of_find?_eq_some hi)
  · omega
theorem splice_all {vs cs : List Value} (h : vs.length = cs.length) : splice 0 vs cs = vs := by
  unfold splice
  rw [List.take_zero, List.nil_append, Nat.zero_add, List.drop_of_length_le (by omega), List.append_nil]
def fqAt (l : List Fq) (i : Nat) : List UInt8 := ((l[i]?).map Subtype.val).getD []
theorem fqAt_of {l : List Fq} {i : Nat} {x : Fq} (h : l[i]? = some x) : fqAt l i = x.1 := by unfold fqAt; rw [h]; rfl
def segN (c : Nat → Int) (l : List Fq) : Nat := if segC c = true then firstN (fun i => endC c i (fqAt l i)) l.length else 0
set_option maxHeartbeats 4000000 in
theorem SCut_any (c : Nat → Int) (l : List Fq) (hl : l.length ≤ 100000) (ao : Option Addr) (ac : Nat) (w : World) (hr : Rd w ao (fqE.fl l)) :
    Calls Tryz.prog 67 #[.slice ao l.length ac, confA c] w fun e w' => e = .returned (.int .i64 (segN c l : Nat)) ∧ Below w.heap.size w w' := by
  refine sx_fn (S := SX) (M := []) (N := 27) (H0 := [.rd ao (fqE.fl l)]) Tryz.func67 rfl rfl rfl (Sat.oneRd _ hr) ?_
  ((try refine sU ?_);repeat(refine sN fun _=>?_;try refine sU ?_))
  refine SxCall.quiet (SMay_any c) ?_
  ((try refine sU ?_);repeat(refine sN fun _=>?_;try refine sU ?_))
  refine SxIf.nt ⟨fun hc => ?_, fun hc => ?_⟩
  · ((try refine sU ?_);repeat(refine sN fun _=>?_;try refine sU ?_))
    refine SxCall.mk fun w hs => (ender_sat hs c).mono ?_
    rintro e w' ⟨g, rfl, hs'⟩
    refine ⟨_, _, rfl, hs', ?_⟩
    ((try refine sU ?_);repeat(refine sN fun _=>?_;try refine sU ?_))
    refine SxCode.loop (σ := Nat) [15, 4] [16, 17, 18, 19, 7, 6, 20, 21, 22, 23, 24, 25, 4, 26, 15] (fun k => [.int .i64 (k : Nat), .int .i64 0]) (fun _ => [.blk g 23 (tab 13 (confV c)), .rd ao (fqE.fl l)]) (fun k => k ≤ l.length ∧ ∀ i, i < k → endC c i (fqAt l i) = false) (fun k => l.length - k) 0 [0, 2] rfl rfl rfl rfl ⟨Nat.zero_le _, fun i hi => absurd hi (Nat.not_lt_zero _)⟩ ?_
    rintro k ⟨hk, hall⟩
    ((try refine sU ?_);repeat(refine sN fun _=>?_;try refine sU ?_))
    refine SxIf.dec (fun h => ?_) (fun h => ?_)
    · have hlt : k < l.length := by omega
      obtain ⟨x, hx⟩ : ∃ x, l[k]? = some x := ⟨l[k], by simp [hlt]⟩
      have hfx := fqAt_of hx
      ((try refine sU ?_);repeat(refine sN fun _=>?_;try refine sU ?_))
      refine SxIA.rd 1 _ rfl k rfl hlt (by rw [fqE_len]; omega) fun g1 off ha => ?_
      ((try refine sU ?_);repeat(refine sN fun _=>?_;try refine sU ?_))
      refine SxLdN.rd 1 rfl ha rfl (j := k * 32) (vs := fqC x) (fqC_len x) (fqE_at hx) ?_
      ((try refine sU ?_);repeat(refine sN fun _=>?_;try refine sU ?_))
      refine SxP.mk (by exact fqC_len x) ?_
      refine SxSt.blk 0 rfl (by show Nat.ble (0 + (fqC x).length) 32 = true; rw [fqC_len]; rfl) (fqC_one x) (cs' := fqC x) (splice_all (vs := fqC x) (fqC_len x)) ?_
      ((try refine sU ?_);repeat(refine sN fun _=>?_;try refine sU ?_))
      refine SxLdN.blk 0 rfl (vs := fqC x) (fqC_len x) (fqC_take x) ?_
      ((try refine sU ?_);repeat(refine sN fun _=>?_;try refine sU ?_))
      refine SxCall.quietS (fun w1 hs1 => ender1_any c hc k (by omega) x.1 x.2 g w1 (hs1.blk 1 rfl)) ?_
      ((try refine sU ?_);repeat(refine sN fun _=>?_;try refine sU ?_))
      refine ⟨fun hp => ?_, fun hp => ?_⟩
      · have he : segN c l = k + 1 := by
          unfold segN
          rw [if_pos hc]
          exact firstN_some hlt (by rw [hfx]; exact hp) hall
        ((try refine sU ?_);repeat(refine sN fun _=>?_;try refine sU ?_))
        exact SxDone.mk fun w' hs => ⟨by rw [he]; rfl, hs.touch.below⟩
      · ((try refine sU ?_);repeat(refine sN fun _=>?_;try refine sU ?_))
        refine SxRound.mk (k + 1) [1, 2] rfl rfl rfl ⟨hlt, fun i hi => ?_⟩ (by omega)
        rcases Nat.lt_succ_iff_lt_or_eq.1 hi with h2 | h2
        · exact hall i h2
        · subst h2
          rw [hfx]; exact hp
    · obtain rfl : k = l.length := by omega
      have he : segN c l = 0 := by unfold segN; rw [if_pos hc, firstN_none hall]
      ((try refine sU ?_);repeat(refine sN fun _=>?_;try refine sU ?_))
      exact SxDone.mk fun w' hs => ⟨by rw [he]; rfl, hs.touch.below⟩
  · have he : segN c l = 0 := by unfold segN; rw [hc]; rfl
    ((try refine sU ?_);repeat(refine sN fun _=>?_;try refine sU ?_))
    exact SxDone.mk fun w' hs => ⟨by rw [he]; rfl, hs.touch.below⟩
end Go.Proofs.YtlmefcepdadfjaaGreat
/- The walk over the cutter's next: where the next chunk ends. -/
namespace Go.Proofs.YtlmefcepdadfjaaGreat
open Go.RowKit
set_option maxRecDepth 20000

structure Conf4 where
  mn : Nat
  mx : Nat
  md : Nat
  bd : Nat
def Conf4.ok (c : Conf4) : Prop := 1 ≤ c.mn ∧ c.mn ≤ c.mx ∧ c.mx ≤ 4096 ∧ 1 ≤ c.md ∧ c.md ≤ 1048576 ∧ 1 ≤ c.bd ∧ c.bd ≤ 1048576
def isP (l : List UInt8) (d k : Nat) : Bool := decide (rollL (l.take k) % d = d - 1)
def firstM (c : Conf4) (l : List UInt8) : Nat → Nat
  | 0 => 0
  | k + 1 => if firstM c l k ≠ 0 then firstM c l k else if c.mn ≤ k + 1 ∧ isP l c.md (k + 1) = true then k + 1 else 0
def lastB (c : Conf4) (l : List UInt8) : Nat → Nat
  | 0 => 0
  | k + 1 => if c.mn ≤ k + 1 ∧ isP l c.bd (k + 1) = true then k + 1 else lastB c l k
def cutN (c : Conf4) (l : List UInt8) : Nat :=
  if firstM c l (min l.length c.mx) ≠ 0 then firstM c l (min l.length c.mx) else if l.length < c.mx then 0 else if lastB c l c.mx ≠ 0 then lastB c l c.mx else c.mx
theorem lastB_le (c : Conf4) (l : List UInt8) (k : Nat) : lastB c l k ≤ k := by
  induction k with
  | zero => simp [lastB]
  | succ k ih => simp only [lastB]; split <;> omega
theorem firstM_le (c : Conf4) (l : List UInt8) (k : Nat) : firstM c l k ≤ k := by
  induction k with
  | zero => simp [firstM]
  | succ k ih => simp only [firstM]; split
                 · omega
                 · split <;> omega
theorem firstM_stay (c : Conf4) (l : List UInt8) (k m : Nat) (h : firstM c l k ≠ 0) (hm : k ≤ m) : firstM c l m = firstM c l k := by
  induction m with
  | zero => have : k = 0 := by omega
            subst this; rfl
  | succ m ih =>
    by_cases hk : k = m + 1
    · rw [hk]
    · have := ih (by omega)
      simp only [firstM]
      rw [this, if_pos h]
def cutAt (c : Nat → Int) (gr : Nat) (s : ByteArray) (at_ back : Nat) (j : Nat) : Value :=
  if j < 13 then confV c j else if j = 13 then .pointer (some ⟨gr, 0, none⟩) else if j = 14 then .string s else if j = 15 then .int .i64 (at_ : Nat) else .int .i64 (back : Nat)
structure Only2 (g h : Nat) (w w' : World) : Prop where
  os : w'.os = w.os
  tape : w'.tape = w.tape
  output : w'.output = w.output
  size : w'.heap.size = w.heap.size
  block : ∀ k, k ≠ g → k ≠ h → w'.heap[k]? = w.heap[k]?
section
variable {g h : Nat} {w w' w'' : World}
theorem Only2.refl : Only2 g h w w := ⟨rfl, rfl, rfl, rfl, fun _ _ _ => rfl⟩
theorem Only2.trans (a : Only2 g h w w') (b : Only2 g h w' w'') : Only2 g h w w'' := ⟨b.os.trans a.os, b.tape.trans a.tape, b.output.trans a.output, b.size.trans a.size, fun k h1 h2 => (b.block k h1 h2).trans (a.block k h1 h2)⟩
theorem Only.two (a : Only g w w') : Only2 g h w w' := ⟨a.os, a.tape, a.output, a.size, fun k h1 _ => a.block k h1⟩
theorem Only.two' (a : Only h w w') : Only2 g h w w' := ⟨a.os, a.tape, a.output, a.size, fun k _ h2 => a.block k h2⟩
theorem Only2.drewN (a : Only2 g h w w') (n : Nat) : Only2 g h w (w'.drewN n) := ⟨a.os, a.tape, a.output, a.size, a.block⟩
theorem Only2.below {B : Nat} (a : Only2 g h w w') (h1 : B ≤ g) (h2 : B ≤ h) : Below B w w' := ⟨a.os, a.tape, a.output, Nat.le_of_eq a.size.symm, fun k hk => a.block k (by omega) (by omega)⟩
end
def CutS (w : World) (g gr : Nat) (c : Nat → Int) (s : ByteArray) (at_ back : Nat) (l : List UInt8) : Prop :=
  Blk w g 161 (tab 17 (cutAt c gr s at_ back)) ∧ Blk w gr 204 (tab 18 (rollAt l)) ∧ g ≠ gr
def Looked (c : Conf4) (l : List UInt8) (at_ back : Nat) : Prop := firstM c l at_ = 0 ∧ back = lastB c l at_ ∧ at_ < c.mx ∧ at_ ≤ l.length
def Nexted (w w' : World) (g gr : Nat) (c : Nat → Int) (k : Conf4) (s : ByteArray) : Prop :=
  ∃ at_ back l, CutS w' g gr c s at_ back l ∧ Only2 g gr w w' ∧ (cutN k s.data.toList = 0 → at_ = s.size ∧ l = s.data.toList ∧ Looked k s.data.toList at_ back)
def conf_is (c : Nat → Int) (k : Conf4) : Prop := c 0 = (k.mn : Int) ∧ c 1 = (k.mx : Int) ∧ c 2 = (k.md : Int) ∧ c 3 = (k.bd : Int)
def JNext (g gr : Nat) (c : Nat → Int) (k : Conf4) (s : ByteArray) (w0 : World) (l : Nat) (a : Act) (w : World) : Prop :=
  ∃ u : Nat → Value, a = { tmps := #[.pointer (some ⟨g, 0, none⟩), undef, .int .i64 0, u 3, u 4, u 5, u 6, u 7, u 8, u 9, u 10, u 11, u 12, u 13, u 14, u 15, u 16, u 17, u 18, u 19, u 20, u 21, u 22, u 23, u 24, u 25, u 26, u 27, u 28, u 29, u 30, u 31, u 32, u 33, u 34, u 35, u 36, u 37, u 38, u 39, u 40, u 41, u 42, u 43, u 44, u 45, u 46, u 47, u 48, u 49, u 50, u 51, u 52, u 53, u 54, u 55, u 56, u 57, u 58, u 59, u 60, u 61, u 62, u 63, u 64, u 65, u 66, u 67, u 68, u 69, u 70, u 71, u 72, u 73, u 74, u 75, u 76, u 77, u 78, u 79, u 80, u 81, u 82, u 83, u 84, u 85, u 86, u 87, u 88, u 89, u 90, u 91, u 92, u 93, u 94, u 95, u 96], defers := [] } ∧
    ((l = 0 ∧ ∃ at_ back : Nat, CutS w g gr c s at_ back (s.data.toList.take at_) ∧ Looked k s.data.toList at_ back ∧ Only2 g gr w0 w) ∨
     (l = 1 ∧ u 3 = .int .i64 (cutN k s.data.toList : Nat) ∧ 0 < cutN k s.data.toList ∧ ∃ at_ back l, CutS w g gr c s at_ back l ∧ Only2 g gr w0 w))
theorem JNext_mk {g gr : Nat} {c : Nat → Int} {k : Conf4} {s : ByteArray} {w0 w : World} {l : Nat} (A : Array Value) (hA : A = #[.pointer (some ⟨g, 0, none⟩), undef, .int .i64 0, A.getD 3 undef, A.getD 4 undef, A.getD 5 undef, A.getD 6 undef, A.getD 7 undef, A.getD 8 undef, A.getD 9 undef, A.getD 10 undef, A.getD 11 undef, A.getD 12 undef, A.getD 13 undef, A.getD 14 undef, A.getD 15 undef, A.getD 16 undef, A.getD 17 undef, A.getD 18 undef, A.getD 19 undef, A.getD 20 undef, A.getD 21 undef, A.getD 22 undef, A.getD 23 undef, A.getD 24 undef, A.getD 25 undef, A.getD 26 undef, A.getD 27 undef, A.getD 28 undef, A.getD 29 undef, A.getD 30 undef, A.getD 31 undef, A.getD 32 undef, A.getD 33 undef, A.getD 34 undef, A.getD 35 undef, A.getD 36 undef, A.getD 37 undef, A.getD 38 undef, A.getD 39 undef, A.getD 40 undef, A.getD 41 undef, A.getD 42 undef, A.getD 43 undef, A.getD 44 undef, A.getD 45 undef, A.getD 46 undef, A.getD 47 undef, A.getD 48 undef, A.getD 49 undef, A.getD 50 undef, A.getD 51 undef, A.getD 52 undef, A.getD 53 undef, A.getD 54 undef, A.getD 55 undef, A.getD 56 undef, A.getD 57 undef, A.getD 58 undef, A.getD 59 undef, A.getD 60 undef, A.getD 61 undef, A.getD 62 undef, A.getD 63 undef, A.getD 64 undef, A.getD 65 undef, A.getD 66 undef, A.getD 67 undef, A.getD 68 undef, A.getD 69 undef, A.getD 70 undef, A.getD 71 undef, A.getD 72 undef, A.getD 73 undef, A.getD 74 undef, A.getD 75 undef, A.getD 76 undef, A.getD 77 undef, A.getD 78 undef, A.getD 79 undef, A.getD 80 undef, A.getD 81 undef, A.getD 82 undef, A.getD 83 undef, A.getD 84 undef, A.getD 85 undef, A.getD 86 undef, A.getD 87 undef, A.getD 88 undef, A.getD 89 undef, A.getD 90 undef, A.getD 91 undef, A.getD 92 undef, A.getD 93 undef, A.getD 94 undef, A.getD 95 undef, A.getD 96 undef])
    (h : (l = 0 ∧ ∃ at_ back : Nat, CutS w g gr c s at_ back (s.data.toList.take at_) ∧ Looked k s.data.toList at_ back ∧ Only2 g gr w0 w) ∨
     (l = 1 ∧ A.getD 3 undef = .int .i64 (cutN k s.data.toList : Nat) ∧ 0 < cutN k s.data.toList ∧ ∃ at_ back l, CutS w g gr c s at_ back l ∧ Only2 g gr w0 w)) : JNext g gr c k s w0 l { tmps := A, defers := [] } w :=
  ⟨fun i => A.getD i undef, congrArg (fun t => ({ tmps := t, defers := [] } : Act)) hA, h⟩
def muNext (g n l : Nat) (w : World) : Nat := match w.cell? ⟨g, 15, none⟩ with | some (.int _ x) => 2 * (n + 1 - x.toNat) + 1 - l | _ => 0
theorem muNext_at {g n l at_ : Nat} {w : World} (h : w.cell? ⟨g, 15, none⟩ = some (.int .i64 (at_ : Nat))) : muNext g n l w = 2 * (n + 1 - at_) + 1 - l := by
  unfold muNext; rw [h]; simp
theorem cutN_more (k : Conf4) (l : List UInt8) (back : Nat) (h : Looked k l l.length back) : cutN k l = 0 := by
  obtain ⟨h1, _, h3, _⟩ := h
  unfold cutN
  rw [show min l.length k.mx = l.length by omega, h1, if_neg (by simp), if_pos h3]
theorem cutN_main (k : Conf4) (l : List UInt8) (p : Nat) (h : firstM k l p = p) (hp : 0 < p) (h1 : p ≤ l.length) (h2 : p ≤ k.mx) : cutN k l = p := by
  have := firstM_stay k l p (min l.length k.mx) (by omega) (by omega)
  unfold cutN
  rw [this, h, if_pos (by omega)]
theorem cutN_full (k : Conf4) (l : List UInt8) (h : firstM k l k.mx = 0) (h1 : k.mx ≤ l.length) : cutN k l = if lastB k l k.mx ≠ 0 then lastB k l k.mx else k.mx := by
  unfold cutN
  rw [show min l.length k.mx = k.mx by omega, h, if_neg (by simp), if_neg (by omega)]
theorem isP_iff (l : List UInt8) (d n : Nat) (hd : 1 ≤ d) : isP l d n = ((rollL (l.take n) : Int) % (d : Int) == (d : Int) - 1) := by
  unfold isP
  rw [Bool.eq_iff_iff, decide_eq_true_iff, beq_iff_eq, ← Int.natCast_emod]
  omega
set_option maxHeartbeats 4000000 in
set_option maxRecDepth 100000 in
theorem next_any (g gr : Nat) (c : Nat → Int) (k : Conf4) (hk : k.ok) (hc : conf_is c k) (s : ByteArray) (hs : s.size ≤ 1000000) (at_ back : Nat) (w : World) (hst : CutS w g gr c s at_ back (s.data.toList.take at_)) (hlk : Looked k s.data.toList at_ back) :
    Calls Tryz.prog 93 #[.pointer (some ⟨g, 0, none⟩)] w fun e w' => e = .returned (.int .i64 (cutN k s.data.toList : Nat)) ∧ Nexted w w' g gr c k s := by
  have hsl : s.data.toList.length = s.size := by simp
  go_enter Tryz.func93, Tryz.ntmps93
  go_wp2_with fail
  refine wp_scope_l0 (fun _ => rfl) (JNext g gr c k s w) (fun l a w' => muNext g s.size l w') ?_ ?_ ?_
  · go_wp2_with fail
    exact JNext_mk _ rfl (.inl ⟨rfl, at_, back, hst, hlk, Only2.refl⟩)
  · intro a w1 hj
    obtain ⟨u, rfl, hj⟩ := hj
    rcases hj with ⟨_, at1, back1, ⟨hb1, hr1, hgg⟩, hlk1, ho1⟩ | ⟨h01, _⟩
    · have cAt : w1.cell? ⟨g, 15, none⟩ = some (.int .i64 (at1 : Nat)) := hb1.at 15 (by omega)
      have cLeft : w1.cell? ⟨g, 14, none⟩ = some (.string s) := hb1.at 14 (by omega)
      have hmu := muNext_at (g := g) (n := s.size) (l := 0) cAt
      have HMU := Go.Lib.hid hmu
      have HSL := Go.Lib.hid hsl
      clear hmu hsl
      by_cases hend : at1 = s.size
      · have hbe : ((at1 : Int) == (s.size : Int)) = true := by rw [beq_iff_eq]; omega
        have HE := Go.Lib.hid hend; clear hend
        have HLK := Go.Lib.hid hlk1; clear hlk1
        go_wp2_with fail
        go_quiet (fail)
        go_wp2_with fail
        apply jumps_ret
        go_ret
        have hz := cutN_more k s.data.toList back1 (by rw [HSL.out, ← HE.out]; exact HLK.out)
        refine ⟨ret_int (by rw [hz]; rfl), at1, back1, s.data.toList.take at1, ⟨hb1, hr1, hgg⟩, ho1.drewN _, fun _ => ⟨HE.out, ?_, HLK.out⟩⟩
        rw [HE.out, List.take_of_length_le (by rw [HSL.out]; exact Nat.le_refl _)]
      · have hbe : ((at1 : Int) == (s.size : Int)) = false := by rw [beq_eq_false_iff_ne]; omega
        have hlt : at1 < s.size := by have := hlk1.2.2.2; have := HSL.out; omega
        have cRoll : w1.cell? ⟨g, 13, none⟩ = some (.pointer (some ⟨gr, 0, none⟩)) := hb1.at 13 (by omega)
        have hlen : (s.data.toList.take at1).length ≤ 1000000 := by rw [List.length_take]; omega
        have hts := take_snoc s at1 hlt
        have HTS := Go.Lib.hid hts
        have HLK := Go.Lib.hid hlk1
        clear hts hlk1 hend
        go_wp2_with fail
        go_quiet (fail)
        go_upto_region 4 with fail
        go_cut [4] (fun h wx => h = .int .i64 (rollL (s.data.toList.take (at1 + 1)) : Nat) ∧ Blk wx gr 204 (tab 18 (rollAt (s.data.toList.take (at1 + 1)))) ∧ Only gr w1 wx)
        case first =>
          have hr := rollL_lt (s.data.toList.take (at1 + 1))
          have hr' : rollL (s.data.toList.take (at1 + 1)) < 4294967296 := by omega
          have hwr : IntKind.i64.wrap (rollL (s.data.toList.take (at1 + 1)) : Int) = (rollL (s.data.toList.take (at1 + 1)) : Int) := IntWalk.i64_in _ (by omega)
          clear hr
          go_region_with (go_at_call 115; refine (Push_any gr _ hlen s[at1] _ (by exact hr1)).mono ?_; rw [← HTS.out]; rintro e w2 ⟨rfl, hr2, ho2⟩)
          all_goals
            go_wp2_with fail
            go_meet
            exact ⟨rfl, hr2, ⟨ho2.os, ho2.tape, ho2.output, ho2.size, ho2.block⟩⟩
        case rest =>
          obtain ⟨rfl, hr2, ho2⟩ := hcut
          have hb2 := ho2.other hb1 hgg
          have ho12 := ho1.trans ho2.two'
          obtain ⟨hk1, hk2, hk3, hk4, hk5, hk6, hk7⟩ := hk
          obtain ⟨hc0, hc1, hc2, hc3⟩ := hc
          have hh := rollL_lt (s.data.toList.take (at1 + 1))
          have hPm := isP_iff s.data.toList k.md (at1 + 1) hk4
          have hPb := isP_iff s.data.toList k.bd (at1 + 1) hk6
          obtain ⟨hm1, hl1, hlt1, hle1⟩ := HLK.out
          have hM : firstM k s.data.toList (at1 + 1) = if k.mn ≤ at1 + 1 ∧ isP s.data.toList k.md (at1 + 1) = true then at1 + 1 else 0 := by simp only [firstM, hm1]; simp
          have hB : lastB k s.data.toList (at1 + 1) = if k.mn ≤ at1 + 1 ∧ isP s.data.toList k.bd (at1 + 1) = true then at1 + 1 else back1 := by simp only [lastB, hl1]
          have d0 : wc.cell? ⟨g, 0, none⟩ = some (.int .i64 (k.mn : Nat)) := by rw [hb2.at 0 (by omega), ← hc0]; rfl
          have d1 : wc.cell? ⟨g, 1, none⟩ = some (.int .i64 (k.mx : Nat)) := by rw [hb2.at 1 (by omega), ← hc1]; rfl
          have d2 : wc.cell? ⟨g, 2, none⟩ = some (.int .i64 (k.md : Nat)) := by rw [hb2.at 2 (by omega), ← hc2]; rfl
          have d3 : wc.cell? ⟨g, 3, none⟩ = some (.int .i64 (k.bd : Nat)) := by rw [hb2.at 3 (by omega), ← hc3]; rfl
          have dAt : wc.cell? ⟨g, 15, none⟩ = some (.int .i64 (at1 : Nat)) := hb2.at 15 (by omega)
          have dBk : wc.cell? ⟨g, 16, none⟩ = some (.int .i64 (back1 : Nat)) := hb2.at 16 (by omega)
          have fAt := hb2.freeAt 15 (by omega)
          have fBk := hb2.freeAt 16 (by omega)
          have hbl := lastB_le k s.data.toList at1
          have hcut1 : ∀ b : Nat, (((tab 17 (cutAt c gr s at1 back1)).set 15 (.int .i64 (at1 + 1 : Nat))).set 16 (.int .i64 (b : Nat))) = tab 17 (cutAt c gr s (at1 + 1) b) := by
            intro b
            rw [tab_set, tab_set]
            refine tab_congr fun j hj => ?_
            unfold cutAt
            by_cases h16 : j = 16
            · subst h16; rfl
            · by_cases h15 : j = 15
              · subst h15; rfl
              · rw [if_neg h16, if_neg h15]
                by_cases h13 : j < 13
                · simp [h13]
                · by_cases h14 : j = 13
                  · simp [h14]
                  · have : j = 14 := by omega
                    subst this; rfl
          have hcut0 : ((tab 17 (cutAt c gr s at1 back1)).set 15 (.int .i64 (at1 + 1 : Nat))) = tab 17 (cutAt c gr s (at1 + 1) back1) := by
            rw [← hcut1 back1, tab_set, tab_set]
            refine tab_congr fun j hj => ?_
            by_cases h16 : j = 16
            · subst h16; rfl
            · rw [if_neg h16]
          have HC1 := Go.Lib.hid hcut1; have HC0 := Go.Lib.hid hcut0; have HM := Go.Lib.hid hM; have HB := Go.Lib.hid hB
          have HR2 := Go.Lib.hid hr2; have HB2 := Go.Lib.hid hb2; have HO := Go.Lib.hid ho12
          have HLL := Go.Lib.hid (show Looked k s.data.toList at1 back1 from HLK.out)
          have hbk : (back1 : Int) ≤ 1000000 := by omega
          clear hcut1 hcut0 hM hB hb1 hr1 hr2 hb2 ho1 ho2 ho12 hm1 hl1 hbl cAt cLeft cRoll hlen hst hlk
          generalize hH : rollL (s.data.toList.take (at1 + 1)) = h at hh hPm hPb
          clear hH
          generalize isP s.data.toList k.md (at1 + 1) = pm at hPm HM
          generalize isP s.data.toList k.bd (at1 + 1) = pb at hPb HB
          have hM0 : ∀ b : Bool, Hid (b = false → firstM k s.data.toList (at1 + 1) = 0 → True) := fun _ _ _ => trivial
          by_cases hmin : at1 + 1 < k.mn
          · go_wp2_with fail
            go_step3
            have hb3 := (HB2.out.set 15 (.int .i64 (at1 + 1 : Nat))).congr HC0.out
            refine ⟨JNext_mk _ rfl (.inl ⟨rfl, at1 + 1, back1, ⟨hb3, HR2.out.other hgg _, hgg⟩, ⟨?_, ?_, ?_, ?_⟩, HO.out.trans (Only.setCell 15 _).two⟩), ?_⟩
            · rw [HM.out, if_neg (by omega)]
            · rw [HB.out, if_neg (by omega)]
            · omega
            · have := HSL.out; omega
            · rw [HMU.out]
              have hm2 := muNext_at (g := g) (n := s.size) (l := 0) (hb3.at 15 (by omega))
              refine Nat.lt_of_le_of_lt (Nat.le_of_eq hm2) ?_
              omega
          · have hge : k.mn ≤ at1 + 1 := by omega
            have hlen : s.data.toList.length = s.size := HSL.out
            cases pm
            · rw [eq_comm] at hPm
              have hM2 : firstM k s.data.toList (at1 + 1) = 0 := by rw [HM.out, if_neg (by simp)]
              have HM2 := Go.Lib.hid hM2
              clear hM2 hlen
              cases pb
              · rw [eq_comm] at hPb
                have HB3 := Go.Lib.hid (show lastB k s.data.toList (at1 + 1) = back1 by rw [HB.out, if_neg (by simp)])
                by_cases hmx : at1 + 1 < k.mx
                · go_wp2_with fail
                  go_quiet (fail)
                  go_wp2_with fail
                  go_quiet (fail)
                  go_wp2_with fail
                  go_step3
                  have hb3 := (HB2.out.set 15 (.int .i64 (at1 + 1 : Nat))).congr HC0.out
                  refine ⟨JNext_mk _ rfl (.inl ⟨rfl, at1 + 1, back1, ⟨hb3, HR2.out.other hgg _, hgg⟩, ⟨HM2.out, HB3.out.symm, hmx, by have := HSL.out; omega⟩, HO.out.trans ((Only.setCell 15 _).two.drewN _)⟩), ?_⟩
                  rw [HMU.out]
                  have hm2 := muNext_at (g := g) (n := s.size) (l := 0) (hb3.at 15 (by omega))
                  refine Nat.lt_of_le_of_lt (Nat.le_of_eq hm2) ?_
                  omega
                · have hpx : at1 + 1 = k.mx := by omega
                  have hcf := cutN_full k s.data.toList (by rw [← hpx]; exact HM2.out) (by have := HSL.out; omega)
                  rw [← hpx, HB3.out] at hcf
                  have HCF := Go.Lib.hid hcf
                  clear hcf
                  by_cases hb0 : 0 < back1
                  · go_wp2_with fail
                    go_quiet (fail)
                    go_wp2_with fail
                    go_quiet (fail)
                    go_wp2_with fail
                    go_step3
                    go_wp2_with fail
                    apply jumps_ret
                    go_ret
                    refine ⟨ret_int (by rw [HCF.out, if_pos (by omega)]), at1 + 1, back1, s.data.toList.take (at1 + 1), ⟨(HB2.out.set 15 (.int .i64 (at1 + 1 : Nat))).congr HC0.out, HR2.out.other hgg _, hgg⟩, HO.out.trans ((Only.setCell 15 _).two.drewN _), fun h0 => ?_⟩
                    rw [HCF.out, if_pos (by omega)] at h0
                    omega
                  · go_wp2_with fail
                    go_quiet (fail)
                    go_wp2_with fail
                    go_quiet (fail)
                    go_wp2_with fail
                    go_step3
                    go_wp2_with fail
                    apply jumps_ret
                    go_ret
                    refine ⟨ret_int (by rw [HCF.out, if_neg (by omega)]; rfl), at1 + 1, back1, s.data.toList.take (at1 + 1), ⟨(HB2.out.set 15 (.int .i64 (at1 + 1 : Nat))).congr HC0.out, HR2.out.other hgg _, hgg⟩, HO.out.trans ((Only.setCell 15 _).two.drewN _), fun h0 => ?_⟩
                    rw [HCF.out, if_neg (by omega)] at h0
                    omega
              · rw [eq_comm] at hPb
                have HB3 := Go.Lib.hid (show lastB k s.data.toList (at1 + 1) = at1 + 1 by rw [HB.out, if_pos ⟨hge, rfl⟩])
                by_cases hmx : at1 + 1 < k.mx
                · go_wp2_with fail
                  go_quiet (fail)
                  go_wp2_with fail
                  go_quiet (fail)
                  go_wp2_with fail
                  go_step3
                  have hb3 := ((HB2.out.set 15 (.int .i64 (at1 + 1 : Nat))).set 16 (.int .i64 (at1 + 1 : Nat))).congr (HC1.out (at1 + 1))
                  refine ⟨JNext_mk _ rfl (.inl ⟨rfl, at1 + 1, at1 + 1, ⟨hb3, (HR2.out.other hgg _).other hgg _, hgg⟩, ⟨HM2.out, HB3.out.symm, hmx, by have := HSL.out; omega⟩, HO.out.trans (((Only.setCell 15 _).two.drewN _).trans (Only.setCell 16 _).two)⟩), ?_⟩
                  rw [HMU.out]
                  have hm2 := muNext_at (g := g) (n := s.size) (l := 0) (hb3.at 15 (by omega))
                  refine Nat.lt_of_le_of_lt (Nat.le_of_eq hm2) ?_
                  omega
                · have hpx : at1 + 1 = k.mx := by omega
                  have hcf := cutN_full k s.data.toList (by rw [← hpx]; exact HM2.out) (by have := HSL.out; omega)
                  rw [← hpx, HB3.out] at hcf
                  have HCF := Go.Lib.hid hcf
                  clear hcf
                  go_wp2_with fail
                  go_quiet (fail)
                  go_wp2_with fail
                  go_quiet (fail)
                  go_wp2_with fail
                  go_step3
                  go_wp2_with fail
                  apply jumps_ret
                  go_ret
                  refine ⟨ret_int (by rw [HCF.out, if_pos (by omega)]; rfl), at1 + 1, at1 + 1, s.data.toList.take (at1 + 1), ⟨((HB2.out.set 15 (.int .i64 (at1 + 1 : Nat))).set 16 (.int .i64 (at1 + 1 : Nat))).congr (HC1.out (at1 + 1)), (HR2.out.other hgg _).other hgg _, hgg⟩, HO.out.trans (((Only.setCell 15 _).two.drewN _).trans (Only.setCell 16 _).two), fun h0 => ?_⟩
                  rw [HCF.out, if_pos (by omega)] at h0
                  omega
            · rw [eq_comm] at hPm
              have hM2 : firstM k s.data.toList (at1 + 1) = at1 + 1 := by rw [HM.out, if_pos ⟨hge, rfl⟩]
              have hcm := cutN_main k s.data.toList (at1 + 1) hM2 (by omega) (by omega) (by omega)
              have HCM := Go.Lib.hid hcm
              clear hM2 hlen hcm
              go_wp2_with fail
              go_quiet (fail)
              go_wp2_with fail
              go_step3
              have hb3 := (HB2.out.set 15 (.int .i64 (at1 + 1 : Nat))).congr HC0.out
              refine ⟨JNext_mk _ rfl (.inr ⟨rfl, by rw [HCM.out]; rfl, by rw [HCM.out]; omega, at1 + 1, back1, s.data.toList.take (at1 + 1), ⟨hb3, HR2.out.other hgg _, hgg⟩, HO.out.trans ((Only.setCell 15 _).two.drewN _)⟩), ?_⟩
              rw [HMU.out]
              have hm2 := muNext_at (g := g) (n := s.size) (l := 1) (hb3.at 15 (by omega))
              refine Nat.lt_of_le_of_lt (Nat.le_of_eq hm2) ?_
              omega
    · exact absurd h01 (by decide)
  · intro l hl a w1 hj
    obtain ⟨u, rfl, hj⟩ := hj
    rcases hj with ⟨rfl, _⟩ | ⟨rfl, hu, hpos, at1, back1, l1, hst1, ho1⟩
    · exact absurd rfl hl
    · refine ⟨_, rfl, ?_⟩
      rw [hu]
      clear hu
      go_wp2_with fail
      apply jumps_ret
      go_ret
      exact ⟨rfl, at1, back1, l1, hst1, ho1, fun h0 => by omega⟩
end Go.Proofs.YtlmefcepdadfjaaGreat
/- The walks over the cutter's made, take and New. -/
namespace Go.Proofs.YtlmefcepdadfjaaGreat
open Go.RowKit
set_option maxRecDepth 20000

set_option maxRecDepth 20000

set_option maxHeartbeats 4000000 in
theorem New_no (c : Nat → Int) (hm : mayC c = false) (w : World) :
    Calls Tryz.prog 92 #[confA c] w fun e w' => e = .returned (.tuple #[.pointer none, .int .i64 1]) ∧ Below w.heap.size w w' := by
  unfold confA
  go_enter Tryz.func92, Tryz.ntmps92
  go_wp2_with (with_reducible refine wpList_box_tab (o := ⟨some 1, _, _, _, _, _⟩) rfl 23 _ rfl 13 (confV c) rfl ?_)
  intro w1 hb1 hbel1 hsz1
  go_wp2_with (first
    | (with_reducible refine wpList_load_tab (o := ⟨some 4, _, _, _, _, _⟩) rfl 23 _ rfl w.heap.size 23 rfl 13 (confV c) _ hb1 rfl rfl (by kernel_rfl) ?_)
    | (go_at_call 51; refine (May_any c _).mono ?_; rintro e w2 ⟨rfl, hbel2⟩))
  go_ret2
  exact ⟨rfl, kp_step hbel1 hbel2⟩
set_option maxHeartbeats 4000000 in
theorem New_any' (c : Nat → Int) (hm : mayC c = true) (w : World) :
    Calls Tryz.prog 92 #[confA c] w fun e w' => ∃ g gr, e = .returned (.tuple #[.pointer (some ⟨g, 0, none⟩), .int .i64 0]) ∧ CutS w' g gr c { data := #[] } 0 0 [] ∧ Below w.heap.size w w' ∧ w.heap.size ≤ g ∧ w.heap.size ≤ gr := by
  unfold confA
  go_enter Tryz.func92, Tryz.ntmps92
  go_wp2_with (with_reducible refine wpList_box_tab (o := ⟨some 1, _, _, _, _, _⟩) rfl 23 _ rfl 13 (confV c) rfl ?_)
  intro w1 hb1 hbel1 hsz1
  go_wp2_with (first
    | (with_reducible refine wpList_load_tab (o := ⟨some 4, _, _, _, _, _⟩) rfl 23 _ rfl w.heap.size 23 rfl 13 (confV c) _ hb1 rfl rfl (by kernel_rfl) ?_)
    | (go_at_call 51; refine (May_any c _).mono ?_; rintro e w2 ⟨rfl, hbel2⟩))
  have hb2 := hb1.kept hbel2
  have hbel12 := kp_step hbel1 hbel2
  have hsz2 := hbel2.size
  clear hb1 hbel1 hbel2
  have hlt2 : w.heap.size < w2.heap.size := by omega
  have c0 : w2.cell? ⟨w.heap.size, 0, none⟩ = some (.int .i64 (c 0)) := hb2.at 0 (by omega)
  have c1 : w2.cell? ⟨w.heap.size, 1, none⟩ = some (.int .i64 (c 1)) := hb2.at 1 (by omega)
  have c2 : w2.cell? ⟨w.heap.size, 2, none⟩ = some (.int .i64 (c 2)) := hb2.at 2 (by omega)
  have c3 : w2.cell? ⟨w.heap.size, 3, none⟩ = some (.int .i64 (c 3)) := hb2.at 3 (by omega)
  have c4 : w2.cell? ⟨w.heap.size, 4, none⟩ = some (.int .i64 (c 4)) := hb2.at 4 (by omega)
  have c5 : w2.cell? ⟨w.heap.size, 5, none⟩ = some (.int .i64 (c 5)) := hb2.at 5 (by omega)
  have c6 : w2.cell? ⟨w.heap.size, 6, none⟩ = some (.int .i64 (c 6)) := hb2.at 6 (by omega)
  have c7 : w2.cell? ⟨w.heap.size, 7, none⟩ = some (.int .i64 (c 7)) := hb2.at 7 (by omega)
  have c8 : w2.cell? ⟨w.heap.size, 8, none⟩ = some (.int .i64 (c 8)) := hb2.at 8 (by omega)
  have c9 : w2.cell? ⟨w.heap.size, 9, none⟩ = some (.int .i64 (c 9)) := hb2.at 9 (by omega)
  have c10 : w2.cell? ⟨w.heap.size, 10, none⟩ = some (.int .i64 (c 10)) := hb2.at 10 (by omega)
  have c11 : w2.cell? ⟨w.heap.size, 11, none⟩ = some (.int .i64 (c 11)) := hb2.at 11 (by omega)
  have c12 : w2.cell? ⟨w.heap.size, 12, none⟩ = some (.int .i64 (c 12)) := hb2.at 12 (by omega)
  go_region_with (go_at_call 114; refine (New_anyCt _).mono ?_; rintro e w3 ⟨rfl, hr3, hbel3⟩; obtain ⟨hcc, hff⟩ := bcell (W := w2) (w1 := w3) ⟨hbel3.os, hbel3.tape, hbel3.output, hbel3.size, hbel3.block⟩)
  all_goals
    go_wp2_with fail
    go_ret2
    have hl3 : w2.heap.size < w3.heap.size := hr3.lt
    have hbc : ∀ y : World, y.heap = w3.heap → Blk (y.alloc (.cells #[.int .i64 (c 0), .int .i64 (c 1), .int .i64 (c 2), .int .i64 (c 3), .int .i64 (c 4), .int .i64 (c 5), .int .i64 (c 6), .int .i64 (c 7), .int .i64 (c 8), .int .i64 (c 9), .int .i64 (c 10), .int .i64 (c 11), .int .i64 (c 12), .pointer (some ⟨w2.heap.size, 0, none⟩), .string { data := #[] }, .int .i64 0, .int .i64 0] 161)) w3.heap.size 161 (tab 17 (cutAt c w2.heap.size { data := #[] } 0 0)) := fun y hy => by
      rw [← hy]; exact (Blk.new y _ _).congr rfl
    refine ⟨w3.heap.size, w2.heap.size, rfl, ⟨hbc _ rfl, Blk.alloc hr3 _, by omega⟩, ?_, by omega, by omega⟩
    have hb3 : Below w.heap.size w w3 := kp_step hbel12 ⟨hbel3.os, hbel3.tape, hbel3.output, hbel3.size, hbel3.block⟩
    exact kp_alloc hb3
end Go.Proofs.YtlmefcepdadfjaaGreat
/- The walk over the cutter's Write. -/
namespace Go.Proofs.YtlmefcepdadfjaaGreat
open Go.RowKit
set_option maxRecDepth 20000

inductive Cuts (k : Conf4) (s : ByteArray) : List ByteArray → ByteArray → Prop
  | nil : Cuts k s [] s
  | snoc {cs : List ByteArray} {r : ByteArray} : Cuts k s cs r → 0 < cutN k r.data.toList → Cuts k s (cs ++ [r.extract 0 (cutN k r.data.toList)]) (r.extract (cutN k r.data.toList) r.size)
theorem cutN_le (k : Conf4) (l : List UInt8) : cutN k l ≤ l.length := by
  have h1 := firstM_le k l (min l.length k.mx)
  have h2 := lastB_le k l k.mx
  unfold cutN
  split
  · omega
  · split
    · omega
    · split <;> omega
theorem extract_size (r : ByteArray) (n : Nat) (_h : n ≤ r.size) : (r.extract n r.size).size = r.size - n := by simp
theorem Cuts.len {k : Conf4} {s r : ByteArray} {cs : List ByteArray} (h : Cuts k s cs r) : cs.length + r.size ≤ s.size := by
  induction h with
  | nil => simp
  | @snoc cs r h hn ih =>
    have hl := cutN_le k r.data.toList
    have he : r.data.toList.length = r.size := by simp
    rw [extract_size r _ (by omega), List.length_append]
    simp
    omega
theorem firstM_app (k : Conf4) (l r : List UInt8) (m : Nat) (h : m ≤ l.length) : firstM k (l ++ r) m = firstM k l m := by
  induction m with
  | zero => rfl
  | succ m ih =>
    have e : ∀ d, isP (l ++ r) d (m + 1) = isP l d (m + 1) := fun d => by unfold isP; rw [List.take_append_of_le_length h]
    simp only [firstM, e, ih (by omega)]
theorem lastB_app (k : Conf4) (l r : List UInt8) (m : Nat) (h : m ≤ l.length) : lastB k (l ++ r) m = lastB k l m := by
  induction m with
  | zero => rfl
  | succ m ih =>
    have e : ∀ d, isP (l ++ r) d (m + 1) = isP l d (m + 1) := fun d => by unfold isP; rw [List.take_append_of_le_length h]
    simp only [lastB, e, ih (by omega)]
theorem Looked.new (k : Conf4) (hk : k.ok) (l : List UInt8) : Looked k l 0 0 := ⟨rfl, rfl, by have := hk.1; have := hk.2.1; omega, Nat.zero_le _⟩
section
variable {B g h : Nat} {w w' w'' : World}
end
end Go.Proofs.YtlmefcepdadfjaaGreat
/- The walks over the cutter's End, Left, and package cut's Cut. -/
namespace Go.Proofs.YtlmefcepdadfjaaGreat
open Go.RowKit
set_option maxRecDepth 20000

theorem CutS.left {w : World} {g gr : Nat} {c : Nat → Int} {s0 : ByteArray} {a b : Nat} {l : List UInt8} (h : CutS w g gr c s0 a b l) (s : ByteArray) : CutS (w.setCell ⟨g, 14, none⟩ (.string s)) g gr c s a b l := by
  refine ⟨(h.1.set 14 (.string s)).congr ?_, h.2.1.other (fun e => h.2.2 e) _, h.2.2⟩
  rw [tab_set]
  refine tab_congr fun j hj => ?_
  unfold cutAt
  by_cases h14 : j = 14
  · subst h14; rfl
  · rw [if_neg h14]
    simp [h14]
set_option maxHeartbeats 4000000 in
theorem Cut_any (c : Nat → Int) (k : Conf4) (hk : k.ok) (hc : conf_is c k) (hm : mayC c = true) (s : ByteArray) (hs : s.size ≤ 1000000) (w : World) :
    Calls Tryz.prog 64 #[.string s, confA c] w fun e w' => e = .returned (.int .i64 (cutN k s.data.toList : Nat)) ∧ Below w.heap.size w w' := by
  unfold confA
  go_enter Tryz.func64, Tryz.ntmps64
  go_wp2_with (with_reducible refine wpList_box_tab (o := ⟨some 3, _, _, _, _, _⟩) rfl 23 _ rfl 13 (confV c) rfl ?_)
  intro w1 hb1 hbel1 hsz1
  go_wp2_with (first
    | (with_reducible refine wpList_load_tab (o := ⟨some 8, _, _, _, _, _⟩) rfl 23 _ rfl w.heap.size 23 rfl 13 (confV c) _ hb1 rfl rfl (by kernel_rfl) ?_)
    | (go_at_call 92; refine (New_any' c hm _).mono ?_; rintro e w2 ⟨g, gr, rfl, hst, hbel, hg1, hg2⟩; have c14 : w2.cell? ⟨g, 14, none⟩ = some (.string { data := #[] }) := hst.1.at 14 (by omega); have f14 := hst.1.freeAt 14 (by omega))
    | (go_at_call 93; refine (next_any g gr c k hk hc s hs 0 0 _ (hst.left s) (Looked.new k hk _)).mono ?_; rintro e w3 ⟨rfl, a3, b3, l3, hst3, ho3, hz3⟩))
  go_ret
  exact ⟨rfl, (kp_step hbel1 hbel).trans (((Only.setCell 14 _).below (by omega)).trans (ho3.below (by omega) (by omega)))⟩
end Go.Proofs.YtlmefcepdadfjaaGreat
/- The walk over package cut's Split. -/
namespace Go.Proofs.YtlmefcepdadfjaaGreat
open Go.RowKit
set_option maxRecDepth 20000

def lastOf (r : ByteArray) : List ByteArray := if r.size = 0 then [] else [r]
theorem size_none (r : ByteArray) (h : r.size = 0) : r = { data := #[] } := by
  apply ByteArray.ext
  exact Array.eq_empty_of_size_eq_zero h
end Go.Proofs.YtlmefcepdadfjaaGreat
/- Plain: the chunks of a whole text are told by the text. The walks over the document's All and Done. -/
namespace Go.Proofs.YtlmefcepdadfjaaGreat
open Go.RowKit
set_option maxRecDepth 20000

def Whole (k : Conf4) (s : ByteArray) (cs : List ByteArray) : Prop := ∃ c0 r, Cuts k s c0 r ∧ cutN k r.data.toList = 0 ∧ cs = c0 ++ lastOf r
inductive Falls (k : Conf4) : ByteArray → List ByteArray → ByteArray → Prop
  | nil {s : ByteArray} : cutN k s.data.toList = 0 → Falls k s [] s
  | cons {s : ByteArray} {cs : List ByteArray} {r : ByteArray} : 0 < cutN k s.data.toList → Falls k (s.extract (cutN k s.data.toList) s.size) cs r → Falls k s (s.extract 0 (cutN k s.data.toList) :: cs) r
theorem Cuts.falls {k : Conf4} {s r : ByteArray} {cs : List ByteArray} (h : Cuts k s cs r) : ∀ cs' r', Falls k r cs' r' → Falls k s (cs ++ cs') r' := by
  induction h with
  | nil => intro cs' r' hf; exact hf
  | snoc h hn ih =>
    intro cs' r' hf
    rw [List.append_assoc]
    exact ih _ _ (.cons hn hf)
theorem Falls.det {k : Conf4} {s r : ByteArray} {cs : List ByteArray} (h : Falls k s cs r) : ∀ {cs' r'}, Falls k s cs' r' → cs = cs' ∧ r = r' := by
  induction h with
  | nil hz =>
    intro cs' r' hf
    cases hf with
    | nil => exact ⟨rfl, rfl⟩
    | cons hp _ => omega
  | cons hp h ih =>
    intro cs' r' hf
    cases hf with
    | nil hz => omega
    | cons _ hf => exact ⟨by rw [(ih hf).1], (ih hf).2⟩
theorem Cuts.det {k : Conf4} {s r r' : ByteArray} {cs cs' : List ByteArray} (h : Cuts k s cs r) (hz : cutN k r.data.toList = 0) (h' : Cuts k s cs' r') (hz' : cutN k r'.data.toList = 0) : cs = cs' ∧ r = r' := by
  have a := h.falls [] r (.nil hz)
  have b := h'.falls [] r' (.nil hz')
  rw [List.append_nil] at a b
  exact a.det b
theorem Whole.det {k : Conf4} {s : ByteArray} {cs cs' : List ByteArray} (h : Whole k s cs) (h' : Whole k s cs') : cs = cs' := by
  obtain ⟨c0, r, h1, h2, rfl⟩ := h
  obtain ⟨c1, r1, h3, h4, rfl⟩ := h'
  obtain ⟨rfl, rfl⟩ := h1.det h2 h3 h4
  rfl
theorem Whole.len {k : Conf4} {s : ByteArray} {cs : List ByteArray} (h : Whole k s cs) : cs.length ≤ s.size := by
  obtain ⟨c0, r, h1, h2, rfl⟩ := h
  have := h1.len
  unfold lastOf
  split <;> simp <;> omega
theorem cutN_nil (k : Conf4) (hk : k.ok) : cutN k [] = 0 := by
  have := hk.1; have := hk.2.1
  unfold cutN
  simp [firstM]
  omega
end Go.Proofs.YtlmefcepdadfjaaGreat
