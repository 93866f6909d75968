/- Texts of this claim, one behind the other. -/
import Derived.Test.YtlmefcepdadfjaaGreatZCutI
import Derived.Deep.RegionHeld3
import Derived.Deep.MidRow
import Derived.Test.YtlmefcepdadfjaaGreatZOwnD
import Derived.Test.YtlmefcepdadfjaaGreatZDrawC
import Derived.Test.YtlmefcepdadfjaaGreatZStA
import Derived.Test.YtlmefcepdadfjaaGreatZGen
/- Plain: chunks are parts of the text, and how great they are. The walks over the document's Split and the package's All and Left. -/
namespace Go.Proofs.YtlmefcepdadfjaaGreat
open Go.RowKit
set_option maxRecDepth 20000

theorem firstM_ge (k : Conf4) (l : List UInt8) (m : Nat) (h : firstM k l m ≠ 0) : k.mn ≤ firstM k l m := by
  induction m with
  | zero => simp [firstM] at h
  | succ m ih =>
    simp only [firstM] at h ⊢
    split at h
    · rename_i h1; rw [if_pos h1]; exact ih h1
    · rename_i h1
      rw [if_neg h1]
      split at h
      · rename_i h2; rw [if_pos h2]; exact h2.1
      · exact absurd rfl h
theorem lastB_ge (k : Conf4) (l : List UInt8) (m : Nat) (h : lastB k l m ≠ 0) : k.mn ≤ lastB k l m := by
  induction m with
  | zero => simp [lastB] at h
  | succ m ih =>
    simp only [lastB] at h ⊢
    split at h
    · rename_i h1; rw [if_pos h1]; exact h1.1
    · rename_i h1; rw [if_neg h1]; exact ih h
theorem cutN_bd (k : Conf4) (hk : k.ok) (l : List UInt8) (h : 0 < cutN k l) : k.mn ≤ cutN k l ∧ cutN k l ≤ k.mx := by
  have h1 := firstM_le k l (min l.length k.mx)
  have h2 := lastB_le k l k.mx
  have h3 := firstM_ge k l (min l.length k.mx)
  have h4 := lastB_ge k l k.mx
  have h5 := hk.2.1
  unfold cutN at h ⊢
  split
  · rename_i h6; have := h3 h6; omega
  · rename_i h6
    rw [if_neg h6] at h
    split
    · rename_i h7; rw [if_pos h7] at h; omega
    · split
      · rename_i h8; have := h4 h8; omega
      · omega
theorem cutN_short (k : Conf4) (hk : k.ok) (l : List UInt8) (h : cutN k l = 0) : l.length < k.mx := by
  have h5 := hk.2.1; have h6 := hk.1
  unfold cutN at h
  split at h
  · omega
  · split at h
    · assumption
    · split at h <;> omega
theorem cutN_app (k : Conf4) (l r : List UInt8) (h : 0 < cutN k l) : cutN k (l ++ r) = cutN k l := by
  by_cases h1 : firstM k l (min l.length k.mx) ≠ 0
  · have h2 : cutN k l = firstM k l (min l.length k.mx) := by unfold cutN; rw [if_pos h1]
    have h3 : firstM k (l ++ r) (min l.length k.mx) = firstM k l (min l.length k.mx) := firstM_app k l r _ (by omega)
    have h4 := firstM_stay k (l ++ r) (min l.length k.mx) (min (l ++ r).length k.mx) (by rw [h3]; exact h1) (by rw [List.length_append]; omega)
    rw [h2]
    unfold cutN
    rw [h4, h3, if_pos h1]
  · have h2 : ¬ l.length < k.mx := by
      intro h2
      unfold cutN at h
      rw [if_neg h1, if_pos h2] at h
      omega
    have e1 : min l.length k.mx = k.mx := by omega
    have e2 : min (l ++ r).length k.mx = k.mx := by rw [List.length_append]; omega
    unfold cutN
    rw [e1] at h1 ⊢
    rw [e2, firstM_app k l r _ (by omega), lastB_app k l r _ (by omega), if_neg h1, if_neg h1, if_neg h2, if_neg (by rw [List.length_append]; omega)]
end Go.Proofs.YtlmefcepdadfjaaGreat
/- The walks where settings may not cut, and over a cutter that nobody made; the statement's small, few and awake. -/
namespace Go.Proofs.YtlmefcepdadfjaaGreat
open Go.RowKit
set_option maxRecDepth 20000

set_option maxHeartbeats 4000000 in
theorem Cut_no (c : Nat → Int) (hm : mayC c = false) (s : ByteArray) (w : World) :
    Calls Tryz.prog 64 #[.string s, confA c] w fun e w' => e = .returned (.int .i64 0) ∧ Below w.heap.size w w' := by
  unfold confA
  go_enter Tryz.func64, Tryz.ntmps64
  go_wp2_with (with_reducible refine wpList_box_tab (o := ⟨some 3, _, _, _, _, _⟩) rfl 23 _ rfl 13 (confV c) rfl ?_)
  intro w1 hb1 hbel1 hsz1
  go_wp2_with (first
    | (with_reducible refine wpList_load_tab (o := ⟨some 8, _, _, _, _, _⟩) rfl 23 _ rfl w.heap.size 23 rfl 13 (confV c) _ hb1 rfl rfl (by kernel_rfl) ?_)
    | (go_at_call 92; refine (New_no c hm _).mono ?_; rintro e w2 ⟨rfl, hbel⟩))
  go_ret
  exact ⟨rfl, kp_step hbel1 hbel⟩
end Go.Proofs.YtlmefcepdadfjaaGreat
/- The statement's awake; the statement CutFirst. -/
namespace Go.Proofs.YtlmefcepdadfjaaGreat
open Go.RowKit
set_option maxRecDepth 20000

theorem conf_of {c : Nat → Int} (hm : mayC c = true) : ∃ k : Conf4, k.ok ∧ conf_is c k := by
  rw [mayC_iff] at hm
  refine ⟨⟨(c 0).toNat, (c 1).toNat, (c 2).toNat, (c 3).toNat⟩, ?_, ?_⟩
  · unfold Conf4.ok; dsimp only; omega
  · unfold conf_is; dsimp only; omega
def cutC (c : Nat → Int) (s : ByteArray) : Nat := if mayC c = true then cutN ⟨(c 0).toNat, (c 1).toNat, (c 2).toNat, (c 3).toNat⟩ s.data.toList else 0
theorem conf4_of {c : Nat → Int} (hm : mayC c = true) : Conf4.ok ⟨(c 0).toNat, (c 1).toNat, (c 2).toNat, (c 3).toNat⟩ ∧ conf_is c ⟨(c 0).toNat, (c 1).toNat, (c 2).toNat, (c 3).toNat⟩ := by
  rw [mayC_iff] at hm
  refine ⟨?_, ?_⟩
  · unfold Conf4.ok; dsimp only; omega
  · unfold conf_is; dsimp only; omega
theorem Cut_all (c : Nat → Int) (s : ByteArray) (hs : s.size ≤ 1000000) (w : World) :
    Calls Tryz.prog 64 #[.string s, confA c] w fun e w' => e = .returned (.int .i64 (cutC c s : Nat)) ∧ Below w.heap.size w w' := by
  unfold cutC
  cases hm : mayC c
  · exact Cut_no c hm s w
  · exact Cut_any c _ (conf4_of hm).1 (conf4_of hm).2 hm s hs w
end Go.Proofs.YtlmefcepdadfjaaGreat
/- Layer 23: which settings may be, of the program and of the document. -/
namespace Go.Proofs.YtlmefcepdadfjaaGreat
open Go.RowKit

def conC (c : Nat → Int) : Bool := mayC c && segC c && inC (c 7) 0 32 && inC (c 8) 0 64 && inC (c 9) 0 64 && inC (c 10) 0 65536 && inC (c 11) 1 256 && inC (c 12) (c 1) 65536
set_option maxHeartbeats 4000000 in
theorem SCheck_any (c : Nat → Int) (w : World) : Calls Tryz.prog 22 #[confA c] w fun e w' => e = .returned (.int .i64 (if conC c then 0 else 230)) ∧ Below w.heap.size w w' := by
  refine sx_fn (S := SX) (M := []) (N := 55) (H0 := []) Tryz.func22 rfl rfl rfl (Sat.nil _ _) ?_
  ((try refine sU ?_);repeat(refine sN fun _=>?_;try refine sU ?_))
  repeat' ((first
    | refine SxCall.quiet (May_any c) ?_
    | refine SxCall.quiet (SMay_any c) ?_
    | refine SxCall.quiet (In_any _ _ _) ?_
    | refine SxIf.nt (SxIf.mk (fun hg => ?_) (fun hg => ?_))
    | refine SxIf.mk (fun hg => ?_) (fun hg => ?_)) <;> ((try refine sU ?_);repeat(refine sN fun _=>?_;try refine sU ?_)))
  all_goals
    refine SxDone.mk fun w' hs => ⟨?_, hs.touch.below⟩
    clear hs
    simp_all [conC, resV]
set_option maxHeartbeats 4000000 in
theorem RStMay_any (c : Nat → Int) (w : World) : Calls Tryz.prog 9 #[confA c] w fun e w' => e = .returned (.bool (conC c)) ∧ Below w.heap.size w w' := by
  refine sx_fn (S := SX) (M := []) (N := 74) (H0 := []) Tryz.func9 rfl rfl rfl (Sat.nil _ _) ?_
  ((try refine sU ?_);repeat(refine sN fun _=>?_;try refine sU ?_))
  repeat' ((first
    | refine SxCall.quiet (RIn_any _ _ _) ?_
    | refine SxIf.nt (SxIf.mk (fun hg => ?_) (fun hg => ?_))
    | refine SxIf.dec (fun hg => ?_) (fun hg => ?_)
    | refine SxIf.mk (fun hg => ?_) (fun hg => ?_)) <;> ((try refine sU ?_);repeat(refine sN fun _=>?_;try refine sU ?_)))
  all_goals
    refine SxDone.mk fun w' hs => ⟨?_, hs.touch.below⟩
    clear hs
    show Ending.returned (.bool _) = .returned (.bool _)
    congr 2
    rw [Bool.eq_iff_iff]
    simp only [conC, mayC, segC, inC, Bool.and_eq_true, decide_eq_true_eq, decide_eq_false_iff_not, gt_iff_lt, Bool.false_eq_true, false_iff] at *
    omega
end Go.Proofs.YtlmefcepdadfjaaGreat
/- Layer 23: New, Len, Mans, Fresh. -/
namespace Go.Proofs.YtlmefcepdadfjaaGreat
open Go.RowKit

theorem run_nilF2 {P : Program} (w : World) (n t : Nat) (ps rs : Array TypeId) (v : Bool) (h : P.underlying t = some (.func ps rs v)) : (Op.equalIn (n + 1) t .nilFunc .nilFunc).run P w = .ok true w := by
  simp [Op.equalIn, run_underlying h]
theorem SxRun.fNil2 {P : Program} {A : Value → Prop} {t : Nat} {x y : Operand} {ps rs : Array Nat} {v : Bool} (h : P.underlying t = some (.func ps rs v)) (hA : A (.bool true)) : SxRun P (do eqGuard .eql t x y .nilFunc .nilFunc; binOp .eql t .nilFunc .nilFunc) A := by
  refine ⟨_, fun w => ?_, hA⟩
  have h2 := run_nilF2 (P := P) w 9999 t ps rs v h
  simp only [eqGuard, binOp]
  simp [Op.equal, Op.maxDepth, h2]
theorem Sat.via {W : World} {M : List Nat} {H H' : Hp} {w : World} (hs : Sat W M H w) (f : Nat → Nat) (hf : ∀ i j, f i = f j → i = j) (h : ∀ i e, H'[i]? = some e → H[f i]? = some e) : Sat W M H' w :=
  ⟨hs.touch, fun i x hx => hs.holds (f i) x (h i x hx), fun i x hx => hs.own (f i) x (h i x hx), fun i j a b hij ha hb => hs.sep (f i) (f j) a b (fun he => hij (hf _ _ he)) (h i a ha) (h j b hb)⟩
theorem Sat.drop1 {W : World} {M : List Nat} {a b : Ent} {H : Hp} {w : World} (hs : Sat W M (a :: b :: H) w) : Sat W M (a :: H) w :=
  hs.via (fun i => match i with | 0 => 0 | i + 1 => i + 2) (fun i j h => by
    match i, j, h with
    | 0, 0, _ => rfl
    | 0, j + 1, h => exact absurd h (by simp)
    | i + 1, 0, h => exact absurd h (by simp)
    | i + 1, j + 1, h => simpa using h) fun i e h => by
    match i, h with
    | 0, h => exact h
    | i + 1, h => exact h
def smC (box man : Int) (mans boxes : Value) (last fresh : Int) (c : Nat → Int) (kn bt : Value) (left : ByteArray) (chunks fps wt : Value) (n : Int) : List Value :=
  [.int .u32 box, .int .u32 man, mans, boxes, .int .i64 last, .int .i64 fresh, confV c 0, confV c 1, confV c 2, confV c 3, confV c 4, confV c 5, confV c 6, confV c 7, confV c 8, confV c 9, confV c 10, confV c 11, confV c 12, kn, bt, .string left, chunks, fps, wt, .int .i64 n]
def nilS : Value := .slice none 0 0
def knN : Value := .func (.func 37) #[] #[]
def btN : Value := .func (.func 38) #[] #[]
theorem New1_any (ao : Option Addr) (n ac : Nat) (w : World) : Calls Tryz.prog 37 #[.slice ao n ac] w fun e w' => e = .returned nilS ∧ Below w.heap.size w w' := by
  refine sx_fn (S := SX) (M := []) (N := 3) (H0 := []) Tryz.func37 rfl rfl rfl (Sat.nil _ _) ?_
  ((try refine sU ?_);repeat(refine sN fun _=>?_;try refine sU ?_))
  exact SxDone.mk fun w' hs => ⟨rfl, hs.touch.below⟩
set_option maxHeartbeats 4000000 in
theorem SNew_nil_sat {W : World} {M : List Nat} {H : Hp} {w : World} (hs : Sat W M H w) (c : Nat → Int) (box man : Int) (hok : conC c = true) (hb : box ≠ 0) (hm : man ≠ 0) :
    Calls Tryz.prog 14 #[confA c, .int .u32 box, .int .u32 man, .nilFunc, .nilFunc] w fun e w' => ∃ g, e = .returned (.tuple #[.pointer (some ⟨g, 0, none⟩), .int .i64 0]) ∧ Sat W M (.blk g 101 (smC box man nilS nilS 0 0 c knN btN ⟨#[]⟩ nilS nilS (.complex .f64 0 0) 0) :: H) w' := by
  refine sx_fn (S := SX) (N := 35) Tryz.func14 rfl rfl rfl hs ?_
  ((try refine sU ?_);repeat(refine sN fun _=>?_;try refine sU ?_))
  refine SxCall.quiet (v := .int .i64 0) (fun w => by have := SCheck_any c w; rw [hok] at this; exact this) ?_
  ((try refine sU ?_);repeat(refine sN fun _=>?_;try refine sU ?_))
  refine SxRun.fNil2 Tryz.underlying39 ?_
  ((try refine sU ?_);repeat(refine sN fun _=>?_;try refine sU ?_))
  refine SxRun.fNil2 Tryz.underlying41 ?_
  ((try refine sU ?_);repeat(refine sN fun _=>?_;try refine sU ?_))
  exact SxDone.mk fun w' hs => ⟨_, rfl, hs.drop1⟩
theorem SLen_any (g : Nat) (box man last fresh n : Int) (mo bo : Option Addr) (mn mc bn bc : Nat) (c : Nat → Int) (kn bt ch fp wt : Value) (left : ByteArray) (w : World) (hb : Blk w g 101 (smC box man (.slice mo mn mc) (.slice bo bn bc) last fresh c kn bt left ch fp wt n)) :
    Calls Tryz.prog 23 #[.pointer (some ⟨g, 0, none⟩)] w fun e w' => e = .returned (.int .i64 n) ∧ Below w.heap.size w w' := by
  refine sx_fn (S := SX) (M := []) (N := 9) (H0 := [.rd (some ⟨g, 0, none⟩) (smC box man (.slice mo mn mc) (.slice bo bn bc) last fresh c kn bt left ch fp wt n)]) Tryz.func23 rfl rfl rfl (Sat.oneRd _ (Rd_blk hb (by simp [smC, maxLen]))) ?_
  ((try refine sU ?_);repeat(refine sN fun _=>?_;try refine sU ?_))
  refine SxRun.pEqNil Tryz.underlying44 ?_
  ((try refine sU ?_);repeat(refine sN fun _=>?_;try refine sU ?_))
  refine SxLd.rd 0 rfl rfl (j := 25) (v := .int .i64 n) rfl rfl ?_
  ((try refine sU ?_);repeat(refine sN fun _=>?_;try refine sU ?_))
  exact SxDone.mk fun w' hs => ⟨rfl, hs.touch.below⟩
end Go.Proofs.YtlmefcepdadfjaaGreat
/- Layer 23: rows of a number and a slice (manifests, new boxes); over$1. -/
namespace Go.Proofs.YtlmefcepdadfjaaGreat
open Go.RowKit

abbrev Mb := Int × Option Addr × Nat × Nat
def mbC (x : Mb) : List Value := [.int .u32 x.1, .slice x.2.1 x.2.2.1 x.2.2.2]
def mbE : Enc Mb := ⟨mbC, 2, by decide, fun _ => rfl, fun _ => rfl⟩
theorem mbE_len (l : List Mb) : (mbE.fl l).length = l.length * 2 := mbE.fl_len l
theorem past_any (a : Int) (n : Nat) (h0 : 0 ≤ a) (h1 : a < 4294967296) (hn : n ≤ 1000000000) (w : World) : Calls Tryz.prog 65 #[.int .u32 a, .int .i64 n] w fun e w' => e = .returned (.bool (decide (a + n > 4294967295))) ∧ Below w.heap.size w w' := by
  refine sx_fn (S := SX) (M := []) (N := 11) (H0 := []) Tryz.func65 rfl rfl rfl (Sat.nil _ _) ?_
  ((try refine sU ?_);repeat(refine sN fun _=>?_;try refine sU ?_))
  refine SxRng.u64 (by omega) (by omega) ?_
  ((try refine sU ?_);repeat(refine sN fun _=>?_;try refine sU ?_))
  refine SxRng.u64 (by omega) (by omega) ?_
  ((try refine sU ?_);repeat(refine sN fun _=>?_;try refine sU ?_))
  refine SxRng.u64 (by omega) (by omega) ?_
  ((try refine sU ?_);repeat(refine sN fun _=>?_;try refine sU ?_))
  exact SxDone.mk fun w' hs => ⟨rfl, hs.touch.below⟩
def overC (box man : Int) (mn bn : Nat) : Bool := decide ((mn : Int) > 1024) || (decide (box + bn > 4294967295) || decide (man + mn > 4294967295))
set_option maxHeartbeats 4000000 in
theorem Over_any (g : Nat) (box man last fresh : Int) (mo bo : Option Addr) (mn mc bn bc : Nat) (rest : List Value) (hb0 : 0 ≤ box) (hb1 : box < 4294967296) (hm0 : 0 ≤ man) (hm1 : man < 4294967296) (hmn : mn ≤ 1000000000) (hbn : bn ≤ 1000000000) (_hrest : rest.length ≤ 100) (w : World)
    (hr : Rd w (some ⟨g, 0, none⟩) ([.int .u32 box, .int .u32 man, .slice mo mn mc, .slice bo bn bc, .int .i64 last, .int .i64 fresh] ++ rest)) :
    Calls Tryz.prog 41 #[.pointer (some ⟨g, 0, none⟩)] w fun e w' => e = .returned (.bool (overC box man mn bn)) ∧ Below w.heap.size w w' := by
  refine sx_fn (S := SX) (M := []) (N := 36) (H0 := [.rd (some ⟨g, 0, none⟩) ([.int .u32 box, .int .u32 man, .slice mo mn mc, .slice bo bn bc, .int .i64 last, .int .i64 fresh] ++ rest)]) Tryz.func41 rfl rfl rfl (Sat.oneRd _ hr) ?_
  by_cases h1 : (mn : Int) > 1024
  · ((try refine sU ?_);repeat(refine sN fun _=>?_;try refine sU ?_))
    refine SxCode.drawAll rfl [] ?_
    ((try refine sU ?_);repeat(refine sN fun _=>?_;try refine sU ?_))
    refine SxLd.rd 0 rfl rfl (j := 2) (v := .slice mo mn mc) rfl rfl ?_
    ((try refine sU ?_);repeat(refine sN fun _=>?_;try refine sU ?_))
    exact SxDone.mk fun w' hs => ⟨by unfold overC; rw [decide_eq_true h1]; rfl, hs.touch.below⟩
  · ((try refine sU ?_);repeat(refine sN fun _=>?_;try refine sU ?_))
    refine SxCode.drawAll rfl [] ?_
    ((try refine sU ?_);repeat(refine sN fun _=>?_;try refine sU ?_))
    refine SxLd.rd 0 rfl rfl (j := 2) (v := .slice mo mn mc) rfl rfl ?_
    ((try refine sU ?_);repeat(refine sN fun _=>?_;try refine sU ?_))
    refine SxLd.rd 0 rfl rfl (j := 0) (v := .int .u32 box) rfl rfl ?_
    ((try refine sU ?_);repeat(refine sN fun _=>?_;try refine sU ?_))
    refine SxLd.rd 0 rfl rfl (j := 3) (v := .slice bo bn bc) rfl rfl ?_
    ((try refine sU ?_);repeat(refine sN fun _=>?_;try refine sU ?_))
    refine SxCall.quiet (past_any box bn hb0 hb1 hbn) ?_
    by_cases h2 : box + bn > 4294967295
    · ((try refine sU ?_);repeat(refine sN fun _=>?_;try refine sU ?_))
      exact SxDone.mk fun w' hs => ⟨by unfold overC; rw [decide_eq_false h1, decide_eq_true h2]; rfl, hs.touch.below⟩
    · ((try refine sU ?_);repeat(refine sN fun _=>?_;try refine sU ?_))
      refine SxLd.rd 0 rfl rfl (j := 1) (v := .int .u32 man) rfl rfl ?_
      ((try refine sU ?_);repeat(refine sN fun _=>?_;try refine sU ?_))
      refine SxLd.rd 0 rfl rfl (j := 2) (v := .slice mo mn mc) rfl rfl ?_
      ((try refine sU ?_);repeat(refine sN fun _=>?_;try refine sU ?_))
      refine SxCall.quiet (past_any man mn hm0 hm1 hmn) ?_
      ((try refine sU ?_);repeat(refine sN fun _=>?_;try refine sU ?_))
      exact SxDone.mk fun w' hs => ⟨by unfold overC; rw [decide_eq_false h1, decide_eq_false h2]; rfl, hs.touch.below⟩
end Go.Proofs.YtlmefcepdadfjaaGreat
/- Layer 23: slices.IndexFunc at new boxes; the box of an entry. -/
namespace Go.Proofs.YtlmefcepdadfjaaGreat
open Go.RowKit

theorem chunk1_any (x : Mb) (e : En) (g : Nat) (w : World) (hr : Rd w (some ⟨g, 0, none⟩) (enC e)) : Calls Tryz.prog 128 #[.agg (mbC x).toArray, .pointer (some ⟨g, 0, none⟩)] w fun r w' => r = .returned (.bool (x.1 == e.bx)) ∧ Below w.heap.size w w' := by
  refine sx_fn (S := SX) (M := []) (N := 9) (H0 := [.rd (some ⟨g, 0, none⟩) (enC e)]) Tryz.func128 rfl rfl rfl (Sat.oneRd _ hr) ?_
  ((try refine sU ?_);repeat(refine sN fun _=>?_;try refine sU ?_))
  refine SxLd.rd 1 rfl rfl (j := 32 + 1) (v := .int .u32 e.bx) rfl (enC_tail e 1 _ rfl) ?_
  ((try refine sU ?_);repeat(refine sN fun _=>?_;try refine sU ?_))
  exact SxDone.mk fun w' hs => ⟨rfl, hs.touch.below⟩
def boxI (l : List Mb) (b : Int) : Int := match (List.range l.length).find? (fun i => ((l[i]?).map Prod.fst) == some b) with
  | some i => (i : Nat)
  | none => -1
set_option maxHeartbeats 4000000 in
theorem BoxIdx_any (l : List Mb) (hl : l.length ≤ 1000000) (e : En) (ao : Option Addr) (ac g : Nat) (w : World) (hr : Rd w ao (mbE.fl l)) (he : Rd w (some ⟨g, 0, none⟩) (enC e)) :
    Calls Tryz.prog 127 #[.slice ao l.length ac, .func (.func 128) #[] #[.pointer (some ⟨g, 0, none⟩)]] w fun r w' => r = .returned (.int .i64 (boxI l e.bx)) ∧ Below w.heap.size w w' := by
  refine sx_fn (S := SX) (M := []) (N := 19) (H0 := [.rd ao (mbE.fl l), .rd (some ⟨g, 0, none⟩) (enC e)]) Tryz.func127 rfl rfl rfl (Sat.twoRd _ hr he) ?_
  ((try refine sU ?_);repeat(refine sN fun _=>?_;try refine sU ?_))
  refine SxCode.loop (σ := Nat) [8, 4] [9, 10, 5, 11, 12, 13, 14, 15, 16, 17, 4, 18, 8] (fun k => [.int .i64 (k : Nat), .int .i64 0]) (fun _ => [.rd ao (mbE.fl l), .rd (some ⟨g, 0, none⟩) (enC e)]) (fun k => k ≤ l.length ∧ ∀ i, i < k → (((l[i]?).map Prod.fst) == some e.bx) = false) (fun k => l.length - k) 0 [0, 1] rfl rfl rfl rfl ⟨Nat.zero_le _, fun i hi => absurd hi (Nat.not_lt_zero _)⟩ ?_
  rintro k ⟨hk, hall⟩
  ((try refine sU ?_);repeat(refine sN fun _=>?_;try refine sU ?_))
  refine SxIf.dec (fun h => ?_) (fun h => ?_)
  · have hlt : k < l.length := by omega
    obtain ⟨x, hx⟩ : ∃ x, l[k]? = some x := ⟨l[k], by simp [hlt]⟩
    ((try refine sU ?_);repeat(refine sN fun _=>?_;try refine sU ?_))
    refine SxIA.rd 0 _ rfl k rfl hlt (by rw [mbE_len]; omega) fun g1 off ha => ?_
    ((try refine sU ?_);repeat(refine sN fun _=>?_;try refine sU ?_))
    refine SxLdN.rd 0 rfl ha rfl (j := k * 2) (vs := mbC x) rfl (mbE.fl_at hx) ?_
    ((try refine sU ?_);repeat(refine sN fun _=>?_;try refine sU ?_))
    refine SxCall.quietS (fun w1 hs1 => chunk1_any x e g w1 (hs1.rd 1 rfl)) ?_
    ((try refine sU ?_);repeat(refine sN fun _=>?_;try refine sU ?_))
    refine SxIf.mk (fun hp => ?_) (fun hp => ?_)
    · have hb : boxI l e.bx = (k : Nat) := by
        unfold boxI
        have : (List.range l.length).find? (fun i => ((l[i]?).map Prod.fst) == some e.bx) = some k := by
          rw [List.find?_range_eq_some]
          exact ⟨by rw [hx]; simpa using hp, List.mem_range.2 hlt, fun i hi => by rw [hall i hi]; rfl⟩
        rw [this]
      ((try refine sU ?_);repeat(refine sN fun _=>?_;try refine sU ?_))
      exact SxDone.mk fun w' hs => ⟨by rw [hb]; rfl, hs.touch.below⟩
    · ((try refine sU ?_);repeat(refine sN fun _=>?_;try refine sU ?_))
      refine SxRound.mk (k + 1) [0, 1] rfl rfl rfl ⟨hlt, fun i hi => ?_⟩ (by omega)
      rcases Nat.lt_succ_iff_lt_or_eq.1 hi with h2 | h2
      · exact hall i h2
      · subst h2
        rw [hx]; simpa using hp
  · obtain rfl : k = l.length := by omega
    have hb : boxI l e.bx = -1 := by
      unfold boxI
      rw [List.find?_eq_none.2 fun x hx => by rw [hall x (List.mem_range.1 hx)]; simp]
    ((try refine sU ?_);repeat(refine sN fun _=>?_;try refine sU ?_))
    exact SxDone.mk fun w' hs => ⟨by rw [hb]; rfl, hs.touch.below⟩
end Go.Proofs.YtlmefcepdadfjaaGreat
/- Layer 19: what the program finds is what the document finds; what that is. -/
namespace Go.Proofs.YtlmefcepdadfjaaGreat
open Go.RowKit

theorem atL_snoc (p : Nat → Bool) (l : List Nat) (k : Nat) : atL p (l ++ [k]) = if atL p l = -1 then (if p k then (k : Int) else -1) else atL p l := by
  unfold atL
  rw [List.find?_append]
  cases h : l.find? p with
  | some i => simp only [Option.some_or]; rw [if_neg (by omega)]
  | none =>
    simp only [Option.none_or, if_true]
    by_cases hp : p k = true
    · rw [List.find?_cons_of_pos hp, if_pos hp]
    · rw [List.find?_cons_of_neg hp, if_neg hp]; rfl
def tlR (ks : List Rk) (i : Nat) : ByteArray × Bool := match ks[i]? with
  | some r => (if r.has then r.s else ⟨#[]⟩, r.has)
  | none => (⟨#[]⟩, false)
def knR (ks : List Rk) : List En := ks.map (·.en)
theorem atL_known (ks : List Rk) (c : ByteArray) : ∀ k, k ≤ ks.length → atL (pK (knR ks) (tlR ks) c) (idxs (psK ((knR ks).take k)) (bFq c)) = fstI (pR ks c) k
  | 0, _ => by rw [List.take_zero]; rfl
  | k + 1, h => by
    have ih := atL_known ks c k (by omega)
    obtain ⟨r, hr⟩ : ∃ r, ks[k]? = some r := ⟨ks[k], by simp [show k < ks.length by omega]⟩
    have hx : (knR ks)[k]? = some r.en := by unfold knR; rw [List.getElem?_map, hr]; rfl
    rw [psK_snoc hx, idxs_snoc, fstI_succ]
    have hp : pR ks c k = (decide (r.en.fq = bFq c) && (decide (r.en.ln = (c.size : Nat)) && (r.has && decide (r.s = c)))) := by unfold pR; rw [hr]
    have hq : pK (knR ks) (tlR ks) c k = (decide (r.en.ln = (c.size : Nat)) && (r.has && decide (r.s = c))) := by
      unfold pK
      rw [hx]
      show okT r.en (tlR ks k) c = _
      unfold okT tlR
      rw [hr]
      show (decide (r.en.ln = (c.size : Nat)) && (r.has && decide ((if r.has then r.s else (⟨#[]⟩ : ByteArray)) = c))) = _
      cases hh : r.has with
      | true => rfl
      | false => rfl
    by_cases he : r.en.fq = bFq c
    · rw [if_pos he, atL_snoc, ih, hp, decide_eq_true he, Bool.true_and, hq]
    · rw [if_neg he, List.append_nil, ih, hp, decide_eq_false he, Bool.false_and]
      by_cases h1 : fstI (pR ks c) k = -1
      · rw [if_pos h1, h1]; rfl
      · rw [if_neg h1]
section
variable (cs : List ByteArray) (ks : List Rk)
def xsG (tl : Nat → ByteArray × Bool) (kn : List En) (k : Nat) (c : ByteArray) : Int × Int :=
  (atL (pK kn tl c) (idxs (psK kn) (bFq c)), if atL (pK kn tl c) (idxs (psK kn) (bFq c)) = -1 then atL (pO cs c) (idxs (segG cs kn tl k).2 (bFq c)) else -1)
theorem segG_succ (tl : Nat → ByteArray × Bool) (kn : List En) {k : Nat} {c : ByteArray} (h : cs[k]? = some c) : segG cs kn tl (k + 1) = ((segG cs kn tl k).1 ++ [xsG cs tl kn k c], if freshB (xsG cs tl kn k c) then (segG cs kn tl k).2 ++ [(k, bFq c)] else (segG cs kn tl k).2) := by
  rw [segG, h]; rfl
theorem docF_stay {j : Nat} : ∀ (d : Nat), j < cs.length → j + 1 + d ≤ cs.length → (docF cs ks (j + 1 + d))[j]? = (docF cs ks (j + 1))[j]?
  | 0, _, _ => rfl
  | d + 1, h, h2 => by
    obtain ⟨c, hc⟩ : ∃ c, cs[j + 1 + d]? = some c := ⟨cs[j + 1 + d], by simp [show j + 1 + d < cs.length by omega]⟩
    have hl := docF_len cs ks (j + 1 + d) (by omega)
    rw [← Nat.add_assoc, docF_succ cs ks hc, List.getElem?_append_left (by omega), docF_stay d h (by omega)]
theorem docF_at {j k : Nat} (h : j < k) (hk : k ≤ cs.length) : (docF cs ks k)[j]? = (docF cs ks (j + 1))[j]? := by
  obtain ⟨d, rfl⟩ : ∃ d, k = j + 1 + d := ⟨k - (j + 1), by omega⟩
  exact docF_stay cs ks d (by omega) hk
theorem docF_last {j : Nat} {c : ByteArray} (hc : cs[j]? = some c) : (docF cs ks (j + 1))[j]? = some (fstI (pR ks c) ks.length, if fstI (pR ks c) ks.length = -1 then fstI (pW cs (docF cs ks j) c) j else -1) := by
  have hj := (List.getElem?_eq_some_iff.1 hc).1
  have hl := docF_len cs ks j (by omega)
  rw [docF_succ cs ks hc, List.getElem?_append_right (by omega), hl, Nat.sub_self]; rfl
theorem atL_own (c : ByteArray) (m : Nat) (hm : m ≤ cs.length) (hd : ∀ k, k ≤ m → (segG cs (knR ks) (tlR ks) k).1 = docF cs ks k) : ∀ j, j ≤ m → atL (pO cs c) (idxs (segG cs (knR ks) (tlR ks) j).2 (bFq c)) = fstI (pW cs (docF cs ks m) c) j
  | 0, _ => rfl
  | j + 1, h => by
    have ih := atL_own c m hm hd j (by omega)
    obtain ⟨d, hc⟩ : ∃ d, cs[j]? = some d := ⟨cs[j]'(by omega), by simp [show j < cs.length by omega]⟩
    have hs := segG_succ cs (tlR ks) (knR ks) hc
    have h1 := hd (j + 1) h
    have hx : (docF cs ks m)[j]? = some (xsG cs (tlR ks) (knR ks) j d) := by
      rw [docF_at cs ks (show j < m by omega) hm, ← h1, hs]
      dsimp only
      have hl := segG_len cs (knR ks) (tlR ks) j (by omega)
      rw [List.getElem?_append_right (by omega), hl, Nat.sub_self]; rfl
    rw [hs, fstI_succ]
    dsimp only
    have hp : pW cs (docF cs ks m) c j = (freshB (xsG cs (tlR ks) (knR ks) j d) && decide (d = c)) := by
      unfold pW
      rw [hx]
      show (freshB _ && decide (cs[j]? = some c)) = _
      rw [hc]
      congr 1
      rw [decide_eq_decide]; simp
    have hn : pW cs (docF cs ks m) c j = false → (if fstI (pW cs (docF cs ks m) c) j = -1 then (if pW cs (docF cs ks m) c j = true then (j : Int) else -1) else fstI (pW cs (docF cs ks m) c) j) = fstI (pW cs (docF cs ks m) c) j := fun h0 => by
      rw [h0]
      by_cases h2 : fstI (pW cs (docF cs ks m) c) j = -1
      · rw [if_pos h2, h2]; rfl
      · rw [if_neg h2]
    by_cases hf : freshB (xsG cs (tlR ks) (knR ks) j d) = true
    · rw [if_pos hf, idxs_snoc]
      rw [hf, Bool.true_and] at hp
      by_cases hq : bFq d = bFq c
      · rw [if_pos hq, atL_snoc, ih, hp]
        have : pO cs c j = decide (d = c) := by unfold pO; rw [hc, decide_eq_decide]; simp
        rw [this]
      · have hdc : d ≠ c := fun e => hq (by rw [e])
        rw [if_neg hq, List.append_nil, ih]
        rw [decide_eq_false hdc] at hp
        exact (hn hp).symm
    · rw [if_neg hf, ih]
      exact (hn (by rw [hp, Bool.eq_false_iff.2 hf]; rfl)).symm
theorem seg_doc : ∀ m, m ≤ cs.length → ∀ k, k ≤ m → (segG cs (knR ks) (tlR ks) k).1 = docF cs ks k
  | 0, _, k, hk => by obtain rfl : k = 0 := by omega
                      rfl
  | m + 1, hm, k, hk => by
    have ih := seg_doc m (by omega)
    by_cases h : k ≤ m
    · exact ih k h
    · obtain rfl : k = m + 1 := by omega
      obtain ⟨c, hc⟩ : ∃ c, cs[m]? = some c := ⟨cs[m]'(by omega), by simp [show m < cs.length by omega]⟩
      have hs := segG_succ cs (tlR ks) (knR ks) hc
      have ho := atL_own cs ks c m (by omega) ih m (Nat.le_refl _)
      have hk := atL_known ks c ks.length (Nat.le_refl _)
      have ht : (knR ks).take ks.length = knR ks := List.take_of_length_le (by unfold knR; rw [List.length_map]; exact Nat.le_refl _)
      rw [ht] at hk
      rw [hs, docF_succ cs ks hc]
      dsimp only
      unfold xsG
      rw [ih m (Nat.le_refl _), hk, ho]
theorem seg_docF : (segG cs (knR ks) (tlR ks) cs.length).1 = docF cs ks cs.length := seg_doc cs ks _ (Nat.le_refl _) _ (Nat.le_refl _)
structure Fnd (i : Nat) (c : ByteArray) (x : Int × Int) : Prop where
  k1 : -1 ≤ x.1
  k2 : x.1 < ks.length ∨ x.1 = -1
  o1 : -1 ≤ x.2
  o2 : x.2 < i
  one : 0 ≤ x.1 → x.2 < 0
  known : ∀ a : Nat, x.1 = a → pR ks c a = true
  own : ∀ b : Nat, x.2 = b → pW cs (docF cs ks cs.length) c b = true
  no : x.1 < 0 → ∀ a : Nat, a < ks.length → pR ks c a = false
  fresh : x.1 < 0 → x.2 < 0 → ∀ b : Nat, b < i → pW cs (docF cs ks cs.length) c b = false
end
theorem fstI_is {p : Nat → Bool} {n : Nat} {a : Nat} (h : fstI p n = a) : p a = true ∧ a < n := by
  unfold fstI at h
  split at h
  · rename_i i hi
    obtain rfl : i = a := by omega
    exact ⟨by have := List.find?_some hi; simpa using this, List.mem_range.1 (List.mem_of_find?_eq_some hi)⟩
  · omega
theorem fstI_no {p : Nat → Bool} {n : Nat} (h : fstI p n < 0) {a : Nat} (ha : a < n) : p a = false := by
  unfold fstI at h
  split at h
  · omega
  · rename_i hi
    have := List.find?_eq_none.1 hi a (List.mem_range.2 ha)
    simpa using this
theorem fstI_bnd (p : Nat → Bool) (n : Nat) : fstI p n < n ∨ fstI p n = -1 := by
  by_cases h : 0 < n
  · exact .inl (fstI_lt p n h)
  · obtain rfl : n = 0 := by omega
    exact .inr rfl
theorem fnd_of (cs : List ByteArray) (ks : List Rk) {i : Nat} {c : ByteArray} (hc : cs[i]? = some c) {x : Int × Int} (hx : (docF cs ks cs.length)[i]? = some x) : Fnd cs ks i c x := by
  have hi := (List.getElem?_eq_some_iff.1 hc).1
  rw [docF_at cs ks hi (Nat.le_refl _), docF_last cs ks hc] at hx
  simp only [Option.some.injEq] at hx
  have hw : ∀ b, b < i → pW cs (docF cs ks i) c b = pW cs (docF cs ks cs.length) c b := fun b hb => by
    unfold pW
    rw [docF_at cs ks hb (by omega), docF_at cs ks (show b < cs.length by omega) (Nat.le_refl _)]
  have hg := fstI_ge (pR ks c) ks.length
  have hg2 := fstI_ge (pW cs (docF cs ks i) c) i
  have hb := fstI_bnd (pR ks c) ks.length
  have hb2 := fstI_bnd (pW cs (docF cs ks i) c) i
  subst hx
  refine ⟨hg, hb, ?_, ?_, ?_, ?_, ?_, ?_, ?_⟩
  · dsimp only; split <;> omega
  · dsimp only; split <;> omega
  · intro h; dsimp only at h ⊢; rw [if_neg (by omega)]; decide
  · intro a ha; exact (fstI_is ha).1
  · intro b hb
    dsimp only at hb
    split at hb
    · have := fstI_is hb
      rw [← hw b this.2]; exact this.1
    · omega
  · intro h a ha; exact fstI_no h ha
  · intro h h2 b hb
    dsimp only at h h2
    rw [if_pos (by omega)] at h2
    rw [← hw b hb]
    exact fstI_no h2 hb
end Go.Proofs.YtlmefcepdadfjaaGreat
/- Fingerprints as elements of rows. -/
namespace Go.Proofs.YtlmefcepdadfjaaGreat
open Go.RowKit

abbrev Fp := {f : List UInt8 // f.length = 32}
instance : Inhabited Fp := ⟨⟨List.replicate 32 0, rfl⟩⟩
theorem fpC_one : ∀ f : List UInt8, allOne (fpC f) = true
  | [] => rfl
  | _ :: f => fpC_one f
def fpE : Enc Fp := ⟨fun f => fpC f.1, 32, by decide, fun f => by rw [fpC_len, f.2], fun f => fpC_one f.1⟩
theorem SxRun.eqFp {x y : Fp} {o1 o2 : Operand} {A : Value → Prop} (h : A (.bool (decide (x = y)))) : SxRun SX.P (do eqGuard .eql 69 o1 o2 (fpV x.1) (fpV y.1); binOp .eql 69 (fpV x.1) (fpV y.1)) A :=
  SxRun.fpEq x.2 y.2 (by rw [show decide (x.1 = y.1) = decide (x = y) by rw [decide_eq_decide]; exact Subtype.ext_iff.symm]; exact h)
theorem SxRun.neFp {x y : Fp} {o1 o2 : Operand} {A : Value → Prop} (h : A (.bool (!decide (x = y)))) : SxRun SX.P (do eqGuard .neq 69 o1 o2 (fpV x.1) (fpV y.1); binOp .neq 69 (fpV x.1) (fpV y.1)) A :=
  SxRun.fpNe x.2 y.2 (by rw [show decide (x.1 = y.1) = decide (x = y) by rw [decide_eq_decide]; exact Subtype.ext_iff.symm]; exact h)
end Go.Proofs.YtlmefcepdadfjaaGreat
/- Package slices at api.Fp. -/
namespace Go.Proofs.YtlmefcepdadfjaaGreat
open Go.RowKit

theorem rowFp_at {l : List Fp} {k : Nat} {x : Fp} (h : l[k]? = some x) : ((fpE.fl l).drop (k * 32)).take 32 = fpE.enc x := fpE.fl_at h
theorem rowFp_all (x : Fp) : ((fpE.enc x).drop 0).take 32 = fpE.enc x := by
  have h : (fpE.enc x).length ≤ 32 := Nat.le_of_eq (fpE.len x)
  rw [List.drop_zero, List.take_of_length_le h]
theorem rowFp_len (l : List Fp) : (fpE.fl l).length = l.length * 32 := fpE.fl_len l
theorem CloneFp_any (l : List Fp) (ao : Option Addr) (cap : Nat) (hl : l.length ≤ 1000000) (w : World) (hr : Rd w ao (fpE.fl l)) :
    Calls Tryz.prog 61 #[.slice ao l.length cap] w fun e w' => ∃ ao' cap', e = .returned (.slice ao' l.length cap') ∧ NewRow w w' ao' l.length cap' 69 32 (fpE.fl l) := by
  refine sx_fn (S := SX) (M := []) (N := 8) (H0 := [.row none 0 0 69 32 [], .rd ao (fpE.fl l)]) Tryz.func61 rfl rfl rfl ((Sat.oneRd _ hr).nilRow 69 32) ?_
  ((try refine sU ?_);repeat(refine sN fun _=>?_;try refine sU ?_))
  refine SxRun.sEqNil Tryz.underlying95 ?_
  cases ao with
  | none =>
    have h0 : l = [] := by
      cases l with
      | nil => rfl
      | cons x l => obtain ⟨g, off, h, _⟩ := hr.2 (fpE.fl_ne (by simp)); cases h
    subst h0
    ((try refine sU ?_);repeat(refine sN fun _=>?_;try refine sU ?_))
    exact SxDone.mk fun w' hs => ⟨none, 0, rfl, hs.newRow 0 rfl⟩
  | some a =>
    ((try refine sU ?_);repeat(refine sN fun _=>?_;try refine sU ?_))
    refine SxApp.mk 0 rfl 2 (.inr (.inl rfl)) (rowFp_len l) (fpE.fl_allOne l) (by unfold maxLen; omega) (by omega) rfl fun ao' cap' => ?_
    ((try refine sU ?_);repeat(refine sN fun _=>?_;try refine sU ?_))
    exact SxDone.mk fun w' hs => ⟨ao', cap', by rw [Nat.zero_add]; rfl, by have := hs.newRow 0 rfl; rw [Nat.zero_add] at this; exact this⟩
theorem CompactFp_sat {W : World} {M : List Nat} {H : Hp} {w : World} (hs : Sat W M H w) (p : Nat) {ao : Option Addr} {cap : Nat} {l : List Fp} (hl : l.length ≤ 1000000) (hp : H[p]? = some (.row ao l.length cap 69 32 (fpE.fl l))) :
    Calls Tryz.prog 126 #[.slice ao l.length cap] w fun e w' => e = .returned (.slice ao (dd l).length cap) ∧ Sat W M (H.set p (.row ao (dd l).length cap 69 32 (fpE.fl (dd l)))) w' := by
  have hrow := hs.row p hp
  by_cases hn : l.length < 2
  · have hdd : dd l = l := by
      match l, hn with
      | [], _ => rfl
      | [x], _ => rfl
    rw [hdd, setH_same hp]
    refine sx_fn (S := SX) (N := 61) Tryz.func126 rfl rfl rfl hs ?_
    ((try refine sU ?_);repeat(refine sN fun _=>?_;try refine sU ?_))
    exact SxDone.mk fun w' hs => ⟨rfl, hs⟩
  obtain ⟨g, rfl, hcap⟩ : ∃ g, ao = some ⟨g, 0, none⟩ ∧ l.length ≤ cap := by
    rcases hrow.2 with ⟨h, h0⟩ | ⟨g, c, cur, hv, _, _, hnc, _⟩
    · omega
    · simp only [Value.slice.injEq, true_and] at hv
      obtain ⟨rfl, rfl⟩ := hv
      exact ⟨g, rfl, hnc⟩
  have hp0 : ∀ e', (H.set p e')[p]? = some e' := fun e' => setH_get hp
  have hd1 : dd (l.take 1) = l.take 1 := by
    clear hp hrow hcap
    cases l with
    | nil => rfl
    | cons x r => rfl
  refine sx_fn (S := SX) (N := 61) Tryz.func126 rfl rfl rfl hs ?_
  ((try refine sU ?_);repeat(refine sN fun _=>?_;try refine sU ?_))
  refine SxCode.loop (σ := Nat) [3] [10, 11, 12, 13, 16, 17, 18, 19, 20, 21, 22, 23, 24, 25, 26, 27, 28, 4, 5, 29, 30, 31, 32, 35, 36, 37, 38, 39, 40, 41, 42, 43, 44, 45, 46, 47, 48, 49, 50, 51, 52, 53, 3, 33, 34, 54, 55, 56, 57, 58, 59, 2, 14, 15] (fun k => [.int .i64 (k : Nat)]) (fun _ => H) (fun k => 1 ≤ k ∧ k ≤ l.length ∧ dd (l.take k) = l.take k) (fun k => l.length - k) 1 (allI H) rfl rfl (pickH_all H) (nodupB_all H) ⟨Nat.le_refl _, by omega, hd1⟩ ?_
  rintro k ⟨hk1, hk, hd⟩
  ((try refine sU ?_);repeat(refine sN fun _=>?_;try refine sU ?_))
  refine SxIf.dec (fun h => ?_) (fun h => ?_)
  · have hlt : k < l.length := by omega
    obtain ⟨j, rfl⟩ : ∃ j, k = j + 1 := ⟨k - 1, by omega⟩
    obtain ⟨x, hx⟩ : ∃ x, l[j + 1]? = some x := ⟨l[j + 1], by simp [hlt]⟩
    obtain ⟨a, ha⟩ : ∃ a, l[j]? = some a := ⟨l[j], by simp [show j < l.length by omega]⟩
    have hdt := dd_take ha hx
    ((try refine sU ?_);repeat(refine sN fun _=>?_;try refine sU ?_))
    refine SxCode.drawAll rfl [] ?_
    ((try refine sU ?_);repeat(refine sN fun _=>?_;try refine sU ?_))
    refine SxIA.row p _ _ _ hp (j + 1) rfl hlt fun g' hg' => ?_
    obtain rfl : g = g' := by simpa using hg'
    ((try refine sU ?_);repeat(refine sN fun _=>?_;try refine sU ?_))
    refine SxLdN.row p hp rfl rfl (vs := fpE.enc x) (fpE.len x) (rowFp_at hx) ?_
    ((try refine sU ?_);repeat(refine sN fun _=>?_;try refine sU ?_))
    refine SxIA.row p _ _ _ hp j (by omega) (by omega) fun g' hg' => ?_
    obtain rfl : g = g' := by simpa using hg'
    ((try refine sU ?_);repeat(refine sN fun _=>?_;try refine sU ?_))
    refine SxLdN.row p hp rfl rfl (vs := fpE.enc a) (fpE.len a) (rowFp_at ha) ?_
    ((try refine sU ?_);repeat(refine sN fun _=>?_;try refine sU ?_))
    refine SxRun.eqFp (x := x) (y := a) ?_
    ((try refine sU ?_);repeat(refine sN fun _=>?_;try refine sU ?_))
    refine SxIf.dec (fun h1 => ?_) (fun h1 => ?_)
    · rw [if_pos h1.symm] at hdt
      ((try refine sU ?_);repeat(refine sN fun _=>?_;try refine sU ?_))
      refine SxBnd.mk (j + 1) l.length rfl rfl (by omega) (by omega) fun ao' h2 h3 => ?_
      have h4 := h2 (by omega)
      subst h4
      ((try refine sU ?_);repeat(refine sN fun _=>?_;try refine sU ?_))
      refine SxCode.loop (σ := Nat × Nat × List Fp) [5, 3] [29, 30, 31, 32, 35, 36, 37, 38, 39, 40, 41, 42, 43, 44, 45, 46, 47, 48, 49, 50, 51, 52, 53, 3, 33, 34, 5] (fun s => [.int .i64 (s.1 : Nat), .int .i64 (s.2.1 : Nat)]) (fun s => H.set p (.row (some ⟨g, 0, none⟩) l.length cap 69 32 (fpE.fl s.2.2)))
        (fun s => 1 ≤ s.1 ∧ j + 1 + s.1 ≤ l.length ∧ 1 ≤ s.2.1 ∧ s.2.1 ≤ j + s.1 ∧ s.2.2.length = l.length ∧ s.2.2.take s.2.1 = dd (l.take (j + 1 + s.1)) ∧ ∀ i, s.2.1 ≤ i → s.2.2[i]? = l[i]?)
        (fun s => l.length - s.1) (1, j + 1, l) (allI H) rfl rfl (by rw [pickH_all, setH_same hp]) (nodupB_all H) ⟨Nat.le_refl _, by dsimp only; omega, by dsimp only; omega, by dsimp only; omega, rfl, by dsimp only; rw [show j + 1 + 1 = j + 2 by omega, hdt, hd], fun i _ => rfl⟩ ?_
      rintro ⟨k2, kk, m⟩ ⟨i1, i2, i3, i4, i5, i6, i7⟩
      dsimp only at i1 i2 i3 i4 i5 i6 i7 ⊢
      ((try refine sU ?_);repeat(refine sN fun _=>?_;try refine sU ?_))
      refine SxIf.dec (fun h5 => ?_) (fun h5 => ?_)
      · have hlt2 : j + 1 + k2 < l.length := by omega
        obtain ⟨y, hy⟩ : ∃ y, l[j + 1 + k2]? = some y := ⟨l[j + 1 + k2], by simp [hlt2]⟩
        obtain ⟨b, hb⟩ : ∃ b, l[j + k2]? = some b := ⟨l[j + k2], by simp [show j + k2 < l.length by omega]⟩
        have hdt2 := dd_take (k := j + k2) hb (by rw [show j + k2 + 1 = j + 1 + k2 by omega]; exact hy)
        rw [show j + k2 + 2 = j + 1 + (k2 + 1) by omega, show j + k2 + 1 = j + 1 + k2 by omega, ← i6] at hdt2
        have hmy : m[j + 1 + k2]? = some y := by rw [i7 _ (by omega)]; exact hy
        have hmb : m[j + k2]? = some b := by rw [i7 _ (by omega)]; exact hb
        ((try refine sU ?_);repeat(refine sN fun _=>?_;try refine sU ?_))
        refine SxCode.drawAll rfl [] ?_
        ((try refine sU ?_);repeat(refine sN fun _=>?_;try refine sU ?_))
        refine SxIA.ptr g (0 + (j + 1) * 32) rfl k2 rfl (by omega) ?_
        ((try refine sU ?_);repeat(refine sN fun _=>?_;try refine sU ?_))
        refine SxLdN.row p (hp0 _) rfl (j := (j + 1 + k2) * 32) (by omega) (vs := fpE.enc y) (fpE.len y) (rowFp_at hmy) ?_
        ((try refine sU ?_);repeat(refine sN fun _=>?_;try refine sU ?_))
        refine SxIA.ptr g (0 + (j + 1) * 32) rfl (k2 - 1) (by omega) (by omega) ?_
        ((try refine sU ?_);repeat(refine sN fun _=>?_;try refine sU ?_))
        refine SxLdN.row p (hp0 _) rfl (j := (j + k2) * 32) (by omega) (vs := fpE.enc b) (fpE.len b) (rowFp_at hmb) ?_
        ((try refine sU ?_);repeat(refine sN fun _=>?_;try refine sU ?_))
        refine SxRun.neFp (x := y) (y := b) ?_
        ((try refine sU ?_);repeat(refine sN fun _=>?_;try refine sU ?_))
        refine SxIf.nt (SxIf.dec (fun h6 => ?_) (fun h6 => ?_))
        · rw [if_pos h6.symm] at hdt2
          ((try refine sU ?_);repeat(refine sN fun _=>?_;try refine sU ?_))
          exact SxRound.mk (k2 + 1, kk, m) (allI _) rfl (pickH_all _) (nodupB_all _) ⟨by dsimp only; omega, by dsimp only; omega, i3, by dsimp only; omega, i5, hdt2.symm, i7⟩ (by dsimp only; omega)
        · rw [if_neg fun e => h6 e.symm] at hdt2
          ((try refine sU ?_);repeat(refine sN fun _=>?_;try refine sU ?_))
          refine SxIA.ptr g (0 + (j + 1) * 32) rfl k2 rfl (by omega) ?_
          ((try refine sU ?_);repeat(refine sN fun _=>?_;try refine sU ?_))
          refine SxLdN.row p (hp0 _) rfl (j := (j + 1 + k2) * 32) (by omega) (vs := fpE.enc y) (fpE.len y) (rowFp_at hmy) ?_
          ((try refine sU ?_);repeat(refine sN fun _=>?_;try refine sU ?_))
          refine SxIA.row p _ _ _ (hp0 _) kk rfl (by omega) fun g' hg' => ?_
          obtain rfl : g = g' := by simpa using hg'
          ((try refine sU ?_);repeat(refine sN fun _=>?_;try refine sU ?_))
          refine SxP.mk (by show (fpE.enc y).toArray.size = 32; rw [List.size_toArray]; exact fpE.len y) ?_
          refine SxSt.row p (hp0 _) rfl (j := kk * 32) rfl (by
            have h7 := rowFp_len m
            have h8 := fpE.len y
            show kk * 32 + (fpE.enc y).length ≤ _
            rw [h7, h8, i5]
            show kk * 32 + 32 ≤ _
            omega) (fpE.one y) (cs' := fpE.fl (m.set kk y)) (fpE.fl_set (by omega)) ?_
          rw [setH_set]
          ((try refine sU ?_);repeat(refine sN fun _=>?_;try refine sU ?_))
          refine SxRound.mk (k2 + 1, kk + 1, m.set kk y) (allI _) rfl (pickH_all _) (nodupB_all _) ⟨by dsimp only; omega, by dsimp only; omega, by dsimp only; omega, by dsimp only; omega, by dsimp only; rw [List.length_set, i5], ?_, ?_⟩ (by dsimp only; omega)
          · dsimp only
            rw [List.take_add_one, List.getElem?_set_self (by omega), List.take_set_of_le (Nat.le_refl _), hdt2]
            rfl
          · dsimp only
            intro i hi
            rw [List.getElem?_set_ne (by omega)]
            exact i7 i (by omega)
      · obtain rfl : k2 = l.length - (j + 1) := by omega
        rw [show j + 1 + (l.length - (j + 1)) = l.length by omega, List.take_length] at i6
        have hkk : kk = (dd l).length := by rw [← i6, List.length_take]; omega
        ((try refine sU ?_);repeat(refine sN fun _=>?_;try refine sU ?_))
        refine SxBnd.mk kk l.length rfl rfl (by omega) (by omega) fun ao' h6 h7 => ?_
        have h8 := h6 (by omega)
        subst h8
        ((try refine sU ?_);repeat(refine sN fun _=>?_;try refine sU ?_))
        refine SxSem.clear rfl rfl Tryz.underlying95 rfl rfl rfl (by decide) ⟨fun h9 => by omega, fun h9 => ⟨g, 0 + kk * 32, by rw [Option.map_some, Addr.add_lit], ?_⟩⟩
        refine SxSt.row p (hp0 _) rfl (j := kk * 32) rfl ?_ ?_ rfl ?_
        · have h7 := rowFp_len m
          have h8 := zerosL_length (List.replicate 32 (.int .u8 0)) (l.length - kk)
          rw [List.length_replicate] at h8
          show kk * 32 + (zerosL (List.replicate 32 (.int .u8 0)) (l.length - kk)).length ≤ _
          rw [h7, i5, h8]
          have : kk * 32 + (l.length - kk) * 32 = l.length * 32 := by rw [← Nat.add_mul]; congr 1; omega
          omega
        · exact allOne_zeros (by rfl) _
        · rw [setH_set]
          ((try refine sU ?_);repeat(refine sN fun _=>?_;try refine sU ?_))
          refine SxBnd.mk 0 kk rfl rfl (by omega) (by omega) fun ao' h6 h7 => ?_
          have h8 := h6 (by omega)
          subst h8
          ((try refine sU ?_);repeat(refine sN fun _=>?_;try refine sU ?_))
          refine SxDone.mk fun w' hs => ?_
          have h9 := hs.cut (m := kk) (hp0 _) (by omega)
          rw [setH_set] at h9
          have e1 : (splice (kk * 32) (zerosL (List.replicate 32 (.int .u8 0)) (l.length - kk)) (fpE.fl m)).take (kk * 32) = fpE.fl (dd l) := by
            have h10 := fpE.fl_take m kk
            unfold splice
            rw [List.append_assoc, List.take_left' (by rw [List.length_take, rowFp_len, i5]; have := Nat.mul_le_mul_right 32 (show kk ≤ l.length by omega); omega), ← i6]
            exact h10
          rw [hkk] at h9 e1 ⊢
          refine ⟨rfl, ?_⟩
          rw [← e1]
          exact h9
    · rw [if_neg fun e => h1 e.symm] at hdt
      ((try refine sU ?_);repeat(refine sN fun _=>?_;try refine sU ?_))
      exact SxRound.mk (j + 2) (allI _) rfl (pickH_all _) (nodupB_all _) ⟨by omega, by omega, by rw [hdt, hd]; exact (take_snocE hx).symm⟩ (by omega)
  · obtain rfl : k = l.length := by omega
    rw [List.take_length] at hd
    ((try refine sU ?_);repeat(refine sN fun _=>?_;try refine sU ?_))
    refine SxDone.mk fun w' hs => ?_
    rw [hd, setH_same hp]
    exact ⟨rfl, hs⟩
end Go.Proofs.YtlmefcepdadfjaaGreat
