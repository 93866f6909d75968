/- Texts of this claim, one behind the other. -/
import Derived.Shelf.SlSortCmp.NoneTotal
import Derived.Test.YtlmefcepdadfjaaGreatProg
import Derived.Test.YtlmefcepdadfjaaGreatZSlFp
import Derived.Test.YtlmefcepdadfjaaGreatZSxO
import Derived.Test.YtlmefcepdadfjaaGreatZCutI
import Derived.ArgAppend
import Derived.Test.YtlmefcepdadfjaaGreatZGen
import Derived.Test.YtlmefcepdadfjaaGreatZMtB
/- The library's functions of one sort at this program: written by a tool of the kit. -/
namespace Go.Proofs
open Go.Shelf
def Tryz.layFp_ren : Go.Shelf.Ren := ⟨fun | 6 => 123 | 15 => 143 | 14 => 142 | 28 => 157 | 29 => 158 | 20 => 149 | 21 => 150 | 22 => 151 | 23 => 152 | 24 => 153 | 25 => 154 | 26 => 155 | 27 => 156 | 46 => 169 | 47 => 170 | 48 => 171 | 49 => 172 | 50 => 173 | 57 => 180 | n => n, fun | 22 => 95 | 24 => 69 | 25 => 194 | 3 => 3 | 39 => 114 | 0 => 0 | 53 => 24 | 55 => 119 | 4 => 4 | 46 => 224 | 45 => 223 | 50 => 228 | 5 => 5 | 9 => 9 | 66 => 247 | 70 => 250 | 76 => 257 | 77 => 81 | n => n, fun | n => n⟩
theorem Tryz.layFp : Go.Proofs.SlLaysF0.n6 Tryz.prog Tryz.layFp_ren := {
  mixed := by kernel_rfl
  f6 := ⟨Tryz.f123.name, by decide, Tryz.func123.trans (congrArg some (by kernel_rfl))⟩
  f14 := ⟨Tryz.f142.name, by decide, Tryz.func142.trans (congrArg some (by kernel_rfl))⟩
  f15 := Tryz.func143.trans (congrArg some (by kernel_rfl))
  f20 := ⟨Tryz.f149.name, by decide, Tryz.func149.trans (congrArg some (by kernel_rfl))⟩
  f21 := ⟨Tryz.f150.name, by decide, Tryz.func150.trans (congrArg some (by kernel_rfl))⟩
  f22 := ⟨Tryz.f151.name, by decide, Tryz.func151.trans (congrArg some (by kernel_rfl))⟩
  f23 := ⟨Tryz.f152.name, by decide, Tryz.func152.trans (congrArg some (by kernel_rfl))⟩
  f24 := ⟨Tryz.f153.name, by decide, Tryz.func153.trans (congrArg some (by kernel_rfl))⟩
  f25 := ⟨Tryz.f154.name, by decide, Tryz.func154.trans (congrArg some (by kernel_rfl))⟩
  f26 := ⟨Tryz.f155.name, by decide, Tryz.func155.trans (congrArg some (by kernel_rfl))⟩
  f27 := ⟨Tryz.f156.name, by decide, Tryz.func156.trans (congrArg some (by kernel_rfl))⟩
  f28 := Tryz.func157.trans (congrArg some (by kernel_rfl))
  f29 := Tryz.func158.trans (congrArg some (by kernel_rfl))
  f46 := ⟨Tryz.f169.name, by decide, Tryz.func169.trans (congrArg some (by kernel_rfl))⟩
  f47 := Tryz.func170.trans (congrArg some (by kernel_rfl))
  f48 := Tryz.func171.trans (congrArg some (by kernel_rfl))
  f49 := ⟨Tryz.f172.name, by decide, Tryz.func172.trans (congrArg some (by kernel_rfl))⟩
  f50 := ⟨Tryz.f173.name, by decide, Tryz.func173.trans (congrArg some (by kernel_rfl))⟩
  f57 := ⟨Tryz.f180.name, by decide, Tryz.func180.trans (congrArg some (by kernel_rfl))⟩
  t0 := Tryz.underlying0
  a0 := Tryz.isAgg0
  z0 := Tryz.sizeOf0
  v0 := Tryz.zeroValue0
  t3 := Tryz.underlying3
  a3 := Tryz.isAgg3
  z3 := Tryz.sizeOf3
  v3 := Tryz.zeroValue3
  t4 := Tryz.underlying4
  a4 := Tryz.isAgg4
  z4 := Tryz.sizeOf4
  v4 := Tryz.zeroValue4
  t5 := Tryz.underlying5
  a5 := Tryz.isAgg5
  z5 := Tryz.sizeOf5
  v5 := Tryz.zeroValue5
  t9 := Tryz.underlying9
  a9 := Tryz.isAgg9
  z9 := Tryz.sizeOf9
  v9 := Tryz.zeroValue9
  t22 := Tryz.underlying95
  a22 := Tryz.isAgg95
  z22 := Tryz.sizeOf95
  v22 := Tryz.zeroValue95
  t25 := Tryz.underlying194
  a25 := Tryz.isAgg194
  z25 := Tryz.sizeOf194
  v25 := Tryz.zeroValue194
  t39 := Tryz.underlying114
  a39 := Tryz.isAgg114
  z39 := Tryz.sizeOf114
  v39 := Tryz.zeroValue114
  t45 := Tryz.underlying223
  a45 := Tryz.isAgg223
  z45 := Tryz.sizeOf223
  v45 := Tryz.zeroValue223
  t46 := Tryz.underlying224
  a46 := Tryz.isAgg224
  z46 := Tryz.sizeOf224
  v46 := Tryz.zeroValue224
  t50 := Tryz.underlying228
  a50 := Tryz.isAgg228
  z50 := Tryz.sizeOf228
  v50 := Tryz.zeroValue228
  t53 := Tryz.underlying24
  a53 := Tryz.isAgg24
  z53 := Tryz.sizeOf24
  v53 := Tryz.zeroValue24
  t55 := Tryz.underlying119
  a55 := Tryz.isAgg119
  z55 := Tryz.sizeOf119
  v55 := Tryz.zeroValue119
  t66 := Tryz.underlying247
  a66 := Tryz.isAgg247
  z66 := Tryz.sizeOf247
  v66 := Tryz.zeroValue247
  t70 := Tryz.underlying250
  a70 := Tryz.isAgg250
  z70 := Tryz.sizeOf250
  v70 := Tryz.zeroValue250
  t76 := Tryz.underlying257
  a76 := Tryz.isAgg257
  z76 := Tryz.sizeOf257
  v76 := Tryz.zeroValue257
  t77 := Tryz.underlying81
  a77 := Tryz.isAgg81
  z77 := Tryz.sizeOf81
  v77 := Tryz.zeroValue81 }
end Go.Proofs
/- The walks of layer 7: sets. -/
namespace Go.Proofs.YtlmefcepdadfjaaGreat
open Go.RowKit Go.Sort Go.Shelf

def ltF (f g : Fp) : Prop := ∃ i, i < 32 ∧ (∀ j, j < i → f.1.getD j 0 = g.1.getD j 0) ∧ (f.1.getD i 0).toNat < (g.1.getD i 0).toNat
theorem ltF_ord : Ordr ltF where
  irr := fun x ⟨i, _, _, h⟩ => Nat.lt_irrefl _ h
  tr := fun x y z ⟨i, hi, h1, h2⟩ ⟨j, hj, h3, h4⟩ => by
    rcases Nat.lt_trichotomy i j with h | h | h
    · exact ⟨i, hi, fun k hk => (h1 k hk).trans (h3 k (by omega)), by rw [← h3 i h]; exact h2⟩
    · subst h; exact ⟨i, hi, fun k hk => (h1 k hk).trans (h3 k hk), Nat.lt_trans h2 h4⟩
    · exact ⟨j, hj, fun k hk => (h1 k (by omega)).trans (h3 k hk), by rw [h1 j h]; exact h4⟩
  tri := fun x y h1 h2 => by
    have key : ∀ n, n ≤ 32 → ∀ j, j < n → x.1.getD j 0 = y.1.getD j 0 := by
      intro n
      induction n with
      | zero => intro _ j hj; omega
      | succ n ih =>
        intro hn j hj
        have ih := ih (by omega)
        rcases Nat.lt_succ_iff_lt_or_eq.1 hj with h | h
        · exact ih j h
        · subst h
          rcases Nat.lt_trichotomy (x.1.getD j 0).toNat (y.1.getD j 0).toNat with h3 | h3 | h3
          · exact absurd ⟨j, by omega, ih, h3⟩ h1
          · exact UInt8.toNat_inj.1 h3
          · exact absurd ⟨j, by omega, fun k hk => (ih k hk).symm, h3⟩ h2
    exact Subtype.ext (eq_of_getD x.2 y.2 fun j hj => key 32 (Nat.le_refl _) j hj)
def cfF (f g : Fp) : Int := cmpF f.1 g.1
def ltbF (f g : Fp) : Bool := lessF f.1 g.1
theorem ltbF_iff (f g : Fp) : ltbF f g = true ↔ ltF f g := by
  unfold ltbF lessF
  rcases dif_cases f.1 g.1 with ⟨hd, h0⟩ | ⟨i, hd, h1, h2, h3⟩
  · rw [hd]
    simp only [Bool.false_eq_true, false_iff]
    rintro ⟨i, hi, _, h⟩
    rw [h0 i hi] at h
    exact Nat.lt_irrefl _ h
  · rw [hd]
    simp only [decide_eq_true_eq]
    constructor
    · intro h; exact ⟨i, h1, h3, h⟩
    · rintro ⟨j, hj, h4, h5⟩
      rcases Nat.lt_trichotomy i j with h | h | h
      · exact absurd (h4 i h) h2
      · subst h; exact h5
      · rw [h3 j h] at h5; exact absurd h5 (Nat.lt_irrefl _)
theorem cfF_iff (f g : Fp) : cfF f g < 0 ↔ ltF f g := by
  rw [← ltbF_iff]
  unfold ltbF cfF
  rw [← cmpF_less, decide_eq_true_iff]
abbrev setF7 (l : List Fp) : List Fp := setS cfF l
theorem HSet_any (l : List Fp) (hl : l.length ≤ 1000000) (ao : Option Addr) (cap : Nat) (w : World) (hr : Rd w ao (fpE.fl l)) :
    Calls Tryz.prog 97 #[.slice ao l.length cap] w fun e w' => ∃ ao' cap', e = .returned (.slice ao' (setF7 l).length cap') ∧ NewRow w w' ao' (setF7 l).length cap' 69 32 (fpE.fl (setF7 l)) := by
  refine sx_fn (S := SX) (M := []) (N := 10) (H0 := [.rd ao (fpE.fl l)]) Tryz.func97 rfl rfl rfl (Sat.oneRd _ hr) ?_
  ((try refine sU ?_);repeat(refine sN fun _=>?_;try refine sU ?_))
  refine SxCall.newRow (fun w hs => (CloneFp_any l ao cap hl w (hs.rd 0 rfl)).mono fun e w' ⟨ao', cap', h1, h2⟩ => ⟨ao', cap', h1, h2⟩) fun ao' cap' => ?_
  ((try refine sU ?_);repeat(refine sN fun _=>?_;try refine sU ?_))
  refine SxCall.sort (S := SX) (cf := cfF) (g := 124) (cb := #[]) (l := l) (n := l.length) Tryz.layFp fpE Tryz.isAgg69 Tryz.sizeOf69 (cmpOk_of ltF_ord cfF_iff) (enters_of Tryz.func124 (by kernel_rfl) rfl) 0 rfl (by omega) (fun x y w w' _ _ => Set1_any x.1 y.1 x.2 y.2 w') ?_
  ((try refine sU ?_);repeat(refine sN fun _=>?_;try refine sU ?_))
  have e : l.length = (sorted cfF l).length := (sorted_len cfF l).symm
  rw [e]
  refine SxCall.mk fun w hs => (CompactFp_sat hs 0 (by rw [sorted_len]; exact hl) rfl).mono fun en w' he => ⟨_, _, he.1, he.2, ?_⟩
  ((try refine sU ?_);repeat(refine sN fun _=>?_;try refine sU ?_))
  exact SxDone.mk fun w' hs => ⟨ao', cap', rfl, hs.newRow 0 rfl⟩
end Go.Proofs.YtlmefcepdadfjaaGreat
/- The walks of layer 7: the document's sets. -/
namespace Go.Proofs.YtlmefcepdadfjaaGreat
open Go.RowKit

theorem RHas_any (l : List Fp) (x : Fp) (ao : Option Addr) (cap : Nat) (w : World) (hr : Rd w ao (fpE.fl l)) :
    Calls Tryz.prog 58 #[.slice ao l.length cap, fpV x.1] w fun e w' => e = .returned (.bool (decide (x ∈ l))) ∧ Below w.heap.size w w' := by
  have hlen : l.length * 32 ≤ maxLen := by have := hr.1; rw [rowFp_len] at this; exact this
  unfold maxLen at hlen
  refine sx_fn (S := SX) (M := []) (N := 18) (H0 := [.rd ao (fpE.fl l)]) Tryz.func58 rfl rfl rfl (Sat.oneRd _ hr) ?_
  ((try refine sU ?_);repeat(refine sN fun _=>?_;try refine sU ?_))
  rename_i b
  refine SxCode.loop (σ := Nat) [5] [6, 7, 8, 9, 12, 13, 14, 15, 16, 17, 4, 10, 11, 5] (fun k => [.int .i64 (k : Nat)]) (fun _ => [.blk b 69 (fpE.enc x), .rd ao (fpE.fl l)]) (fun k => k ≤ l.length ∧ x ∉ l.take k) (fun k => l.length - k) 0 [0, 1] rfl rfl rfl rfl ⟨Nat.zero_le _, by simp⟩ ?_
  rintro k ⟨hk, hno⟩
  ((try refine sU ?_);repeat(refine sN fun _=>?_;try refine sU ?_))
  refine SxIf.dec (fun h => ?_) (fun h => ?_)
  · have hlt : k < l.length := by omega
    obtain ⟨y, hy⟩ : ∃ y, l[k]? = some y := ⟨l[k], by simp [hlt]⟩
    ((try refine sU ?_);repeat(refine sN fun _=>?_;try refine sU ?_))
    refine SxCode.drawAll rfl [] ?_
    ((try refine sU ?_);repeat(refine sN fun _=>?_;try refine sU ?_))
    refine SxIA.rd 1 _ rfl k rfl hlt (by rw [rowFp_len]; omega) fun g off ha => ?_
    ((try refine sU ?_);repeat(refine sN fun _=>?_;try refine sU ?_))
    refine SxLdN.rd 1 rfl ha rfl (vs := fpE.enc y) (fpE.len y) (rowFp_at hy) ?_
    ((try refine sU ?_);repeat(refine sN fun _=>?_;try refine sU ?_))
    refine SxLdN.blk 0 rfl (vs := fpE.enc x) (fpE.len x) (rowFp_all x) ?_
    ((try refine sU ?_);repeat(refine sN fun _=>?_;try refine sU ?_))
    refine SxRun.eqFp (x := y) (y := x) ?_
    ((try refine sU ?_);repeat(refine sN fun _=>?_;try refine sU ?_))
    refine SxIf.dec (fun h1 => ?_) (fun h1 => ?_)
    · ((try refine sU ?_);repeat(refine sN fun _=>?_;try refine sU ?_))
      exact SxDone.mk fun w' hs => ⟨by rw [decide_eq_true (h1 ▸ List.mem_of_getElem? hy)]; rfl, hs.touch.below⟩
    · ((try refine sU ?_);repeat(refine sN fun _=>?_;try refine sU ?_))
      exact SxRound.mk (k + 1) [0, 1] rfl rfl rfl ⟨hlt, fun h2 => by
        rw [take_snocE hy, List.mem_append, List.mem_singleton] at h2
        exact h2.elim hno fun e => h1 e.symm⟩ (by omega)
  · obtain rfl : k = l.length := by omega
    rw [List.take_length] at hno
    ((try refine sU ?_);repeat(refine sN fun _=>?_;try refine sU ?_))
    exact SxDone.mk fun w' hs => ⟨by rw [decide_eq_false hno]; rfl, hs.touch.below⟩
end Go.Proofs.YtlmefcepdadfjaaGreat
/- The walks of layer 7: hooks of lists; what lists have in common. -/
namespace Go.Proofs.YtlmefcepdadfjaaGreat
open Go.RowKit

theorem filter_snoc {α : Type} (p : α → Bool) {l : List α} {i : Nat} {x : α} (h : l[i]? = some x) : (l.take (i + 1)).filter p = if p x = true then (l.take i).filter p ++ [x] else (l.take i).filter p := by
  rw [take_snocE h, List.filter_append]
  by_cases hp : p x = true
  · rw [if_pos hp, List.filter_cons_of_pos hp]; rfl
  · rw [if_neg hp, List.filter_cons_of_neg hp, List.filter_nil, List.append_nil]
theorem filter_len {α : Type} (p : α → Bool) (l : List α) (i : Nat) : ((l.take i).filter p).length ≤ i := by
  have h := List.length_filter_le p (l.take i)
  rw [List.length_take] at h
  omega
end Go.Proofs.YtlmefcepdadfjaaGreat
/- The walks of layer 7: split, Common, Minus, Of. -/
namespace Go.Proofs.YtlmefcepdadfjaaGreat
open Go.RowKit

theorem setF7_len (l : List Fp) : (setF7 l).length ≤ l.length := setS_len cfF l
set_option maxHeartbeats 1000000 in
theorem hOf_any (l : List Fp) (hl : l.length ≤ 1000000) (ao : Option Addr) (cap : Nat) (n : Int) (w : World) (hr : Rd w ao (fpE.fl l)) :
    Calls Tryz.prog 68 #[.slice ao l.length cap, .int .i64 n] w fun e w' => ∃ ao' cap', e = .returned (.slice ao' (setF7 (l.filter fun x => isF x.1 n)).length cap') ∧ NewRow w w' ao' (setF7 (l.filter fun x => isF x.1 n)).length cap' 69 32 (fpE.fl (setF7 (l.filter fun x => isF x.1 n))) := by
  refine sx_fn (S := SX) (M := []) (N := 27) (H0 := [.row none 0 0 69 32 [], .rd ao (fpE.fl l)]) Tryz.func68 rfl rfl rfl (Sat.nilRow 69 32 (Sat.oneRd _ hr)) ?_
  ((try refine sU ?_);repeat(refine sN fun _=>?_;try refine sU ?_))
  refine SxCall.mk fun w hs => (hooks_sat hs n).mono ?_
  rintro e w' ⟨g, rfl, hs'⟩
  refine ⟨_, _, rfl, hs', ?_⟩
  ((try refine sU ?_);repeat(refine sN fun _=>?_;try refine sU ?_))
  refine SxCode.loop (σ := Nat × Option Addr × Nat) [13, 6] [14, 15, 16, 8, 17, 18, 19, 20, 21, 22, 23, 6, 24, 13] (fun s => [.int .i64 (s.1 : Nat), .slice s.2.1 ((l.take s.1).filter fun x => isF x.1 n).length s.2.2]) (fun s => [.blk g 3 [.int .i64 (clampN n)], .row s.2.1 ((l.take s.1).filter fun x => isF x.1 n).length s.2.2 69 32 (fpE.fl ((l.take s.1).filter fun x => isF x.1 n)), .rd ao (fpE.fl l)])
    (fun s => s.1 ≤ l.length) (fun s => l.length - s.1) (0, none, 0) [0, 1, 2] rfl rfl rfl rfl (Nat.zero_le _) ?_
  rintro ⟨i, oo, oc⟩ hi
  dsimp only at hi ⊢
  have hon := filter_len (fun x : Fp => isF x.1 n) l i
  obtain ⟨o, ho⟩ : ∃ o, o = (l.take i).filter fun x => isF x.1 n := ⟨_, rfl⟩
  rw [← ho] at hon ⊢
  ((try refine sU ?_);repeat(refine sN fun _=>?_;try refine sU ?_))
  refine SxIf.dec (fun h => ?_) (fun h => ?_)
  · have hlt : i < l.length := by omega
    obtain ⟨x, hx⟩ : ∃ x, l[i]? = some x := ⟨l[i], by simp [hlt]⟩
    have hsn := filter_snoc (fun x : Fp => isF x.1 n) hx
    rw [← ho] at hsn
    ((try refine sU ?_);repeat(refine sN fun _=>?_;try refine sU ?_))
    refine SxIA.rd 2 _ rfl i rfl hlt (by rw [rowFp_len]; omega) fun g off ha => ?_
    ((try refine sU ?_);repeat(refine sN fun _=>?_;try refine sU ?_))
    refine SxLdN.rd 2 rfl ha rfl (vs := fpE.enc x) (fpE.len x) (rowFp_at hx) ?_
    ((try refine sU ?_);repeat(refine sN fun _=>?_;try refine sU ?_))
    refine SxSt.elem fpE (x := x) 0 rfl rfl ?_
    ((try refine sU ?_);repeat(refine sN fun _=>?_;try refine sU ?_))
    refine SxLdN.blk 0 rfl (vs := fpE.enc x) (fpE.len x) (rowFp_all x) ?_
    ((try refine sU ?_);repeat(refine sN fun _=>?_;try refine sU ?_))
    refine SxCall.quietS (fun w hs => hooks1_any x.1 x.2 _ (clampN n) w (hs.blk 1 rfl)) ?_
    ((try refine sU ?_);repeat(refine sN fun _=>?_;try refine sU ?_))
    refine SxIf.dec (fun h1 => ?_) (fun h1 => ?_)
    · rw [if_pos (show isF x.1 n = true from decide_eq_true h1)] at hsn
      ((try refine sU ?_);repeat(refine sN fun _=>?_;try refine sU ?_))
      refine SxLdN.blk 0 rfl (vs := fpE.enc x) (fpE.len x) (rowFp_all x) ?_
      ((try refine sU ?_);repeat(refine sN fun _=>?_;try refine sU ?_))
      refine SxFill.one rfl (fpE.len x) ?_
      ((try refine sU ?_);repeat(refine sN fun _=>?_;try refine sU ?_))
      refine SxApp.mk 3 rfl 0 (.inr (.inr (.inr ⟨by decide, _, rfl⟩))) (m := 1) (by show (fpE.enc x).length = 1 * 32; exact fpE.len x) (fpE.one x) (by unfold maxLen; omega) (by omega) (cs' := fpE.fl (o ++ [x])) (by rw [fpE.fl_append, fpE.fl_one]; rfl) fun x3 c3 => ?_
      ((try refine sU ?_);repeat(refine sN fun _=>?_;try refine sU ?_))
      exact SxRound.mk (i + 1, x3, c3) [2, 3, 4] (by dsimp only; rw [hsn, List.length_append]; rfl) (by dsimp only; rw [hsn, List.length_append]; rfl) rfl hlt (by dsimp only; omega)
    · rw [if_neg (show ¬ isF x.1 n = true by rw [show isF x.1 n = false from decide_eq_false h1]; simp)] at hsn
      ((try refine sU ?_);repeat(refine sN fun _=>?_;try refine sU ?_))
      exact SxRound.mk (i + 1, oo, oc) [1, 2, 3] (by dsimp only; rw [hsn]; rfl) (by dsimp only; rw [hsn]; rfl) rfl hlt (by dsimp only; omega)
  · obtain rfl : i = l.length := by omega
    rw [List.take_length] at ho
    subst ho
    have hfl := List.length_filter_le (fun x : Fp => isF x.1 n) l
    ((try refine sU ?_);repeat(refine sN fun _=>?_;try refine sU ?_))
    refine SxCall.newRow (fun w hs => HSet_any (l.filter fun x => isF x.1 n) (by omega) oo oc w (hs.rowRd 1 rfl (by rw [rowFp_len]; unfold maxLen; omega))) fun ao' cap' => ?_
    ((try refine sU ?_);repeat(refine sN fun _=>?_;try refine sU ?_))
    exact SxDone.mk fun w' hs => ⟨ao', cap', rfl, hs.newRow 0 rfl⟩
end Go.Proofs.YtlmefcepdadfjaaGreat
/- Layer 23: what is laid, as plain lists; chunk by chunk is the same as all at once. -/
namespace Go.Proofs.YtlmefcepdadfjaaGreat
open Go.RowKit

abbrev Bx := Int × List ByteArray
abbrev Mn := Int × List En
def szB (l : List ByteArray) : Nat := (l.map ByteArray.size).sum
theorem szB_snoc (l : List ByteArray) (s : ByteArray) : szB (l ++ [s]) = szB l + s.size := by simp [szB]
theorem szB_app (l m : List ByteArray) : szB (l ++ m) = szB l + szB m := by simp [szB]
def bytesG (G : List (List Rk)) (b s : Int) : ByteArray × Bool := match G.flatten.find? (fun r => r.en.bx == b && r.en.sl == s) with
  | some r => (r.s, r.has)
  | none => (⟨#[]⟩, false)
def hasK (hooks : List Fq) (g : List Rk) : Bool := g.any fun r => decide (r.en.fq ∈ hooks)
def knownG (G : List (List Rk)) (hooks : List Fq) : List Rk := (G.filter (hasK hooks)).flatten
def chunkP (bs : List Bx) (b s : Int) : ByteArray × Bool × Bool := match bs.find? (fun x => x.1 == b) with
  | none => (⟨#[]⟩, false, false)
  | some x => if 0 ≤ s ∧ s < x.2.length then (x.2.getD s.toNat ⟨#[]⟩, true, true) else (⟨#[]⟩, true, false)
def toldP (G : List (List Rk)) (bs : List Bx) (e : En) : ByteArray × Bool :=
  if (chunkP bs e.bx e.sl).2.1 then ((chunkP bs e.bx e.sl).1, (chunkP bs e.bx e.sl).2.2) else bytesG G e.bx e.sl
def aheadP (ms : List Mn) : List En := (ms.getLast?.map (·.2)).getD []
def hkS (l : List Fq) (n : Int) : List Fq := setF7 (l.filter fun x => isF x.1 n)
section
variable (c : Nat → Int) (box man : Int) (G : List (List Rk))
def fitsB (b : Bx) (s : ByteArray) : Bool := decide ((b.2.length : Int) < c 11 ∧ (szB b.2 : Int) + s.size ≤ c 12)
def putP (bs : List Bx) (s : ByteArray) : List Bx × Int × Int := match bs.getLast? with
  | some b => if fitsB c b s then (bs.dropLast ++ [(b.1, b.2 ++ [s])], b.1, b.2.length) else (bs ++ [((box + bs.length) % 4294967296, [s])], (box + bs.length) % 4294967296, 0)
  | none => (bs ++ [((box + bs.length) % 4294967296, [s])], (box + bs.length) % 4294967296, 0)
def plcOf (kn es : List En) (f : Int × Int) : Option (Int × Int) :=
  if 0 ≤ f.1 then (kn[f.1.toNat]?).map fun e => (e.bx, e.sl) else if 0 ≤ f.2 then (es[f.2.toNat]?).map fun e => (e.bx, e.sl) else none
def mkEn (s : ByteArray) (p : Int × Int) : En := ⟨(bFq s).1, (s.size : Nat), p.1, p.2, (bFq s).2⟩
def layStep (kn : List En) (st : List Bx × List En) (x : ByteArray × (Int × Int)) : List Bx × List En := match plcOf kn st.2 x.2 with
  | some p => (st.1, st.2 ++ [mkEn x.1 p])
  | none => ((putP c box st.1 x.1).1, st.2 ++ [mkEn x.1 (putP c box st.1 x.1).2])
structure Ls where
  ms : List Mn
  bs : List Bx
def knL (σ : Ls) (cs : List ByteArray) : List En := knR (knownG G (hkS (cs.map bFq) (c 7))) ++ aheadP σ.ms
def tlL (kn : List En) (bs : List Bx) (i : Nat) : ByteArray × Bool := match kn[i]? with
  | some e => toldP G bs e
  | none => (⟨#[]⟩, false)
def fsL (σ : Ls) (cs : List ByteArray) : List (Int × Int) := (segG cs (knL c G σ cs) (tlL G (knL c G σ cs) σ.bs) cs.length).1
def layP (σ : Ls) (cs : List ByteArray) : Ls :=
  ⟨σ.ms ++ [((man + σ.ms.length) % 4294967296, ((cs.zip (fsL c G σ cs)).foldl (layStep c box (knL c G σ cs)) (σ.bs, [])).2)], ((cs.zip (fsL c G σ cs)).foldl (layStep c box (knL c G σ cs)) (σ.bs, [])).1⟩
def feedP (σ : Ls × List ByteArray) (x : ByteArray) : Ls × List ByteArray :=
  if segN c ((σ.2 ++ [x]).map bFq) = 0 then (σ.1, σ.2 ++ [x]) else (layP c box man G σ.1 ((σ.2 ++ [x]).take (segN c ((σ.2 ++ [x]).map bFq))), (σ.2 ++ [x]).drop (segN c ((σ.2 ++ [x]).map bFq)))
def ls0 : Ls × List ByteArray := (⟨[], []⟩, [])
def laidP (cs : List ByteArray) : Ls × List ByteArray := cs.foldl (feedP c box man G) ls0
def lastP (σ : Ls × List ByteArray) : Ls := if σ.2 = [] then σ.1 else layP c box man G σ.1 σ.2
end
theorem firstN_zero {p : Nat → Bool} {n : Nat} : firstN p n = 0 ↔ ∀ i, i < n → p i = false := by
  refine ⟨fun h i hi => ?_, firstN_none⟩
  unfold firstN at h
  split at h
  · omega
  · rename_i h2
    have := List.find?_eq_none.1 h2 i (List.mem_range.2 hi)
    simpa using this
theorem firstN_succ {p : Nat → Bool} {n j : Nat} (h : firstN p n = j + 1) : j < n ∧ p j = true ∧ ∀ i, i < j → p i = false := by
  unfold firstN at h
  split at h
  · rename_i i hi
    obtain rfl : i = j := by omega
    rw [List.find?_range_eq_some] at hi
    exact ⟨List.mem_range.1 hi.2.1, hi.1, fun k hk => by have := hi.2.2 k hk; simpa using this⟩
  · omega
section
variable {c : Nat → Int} (hc : segC c = true)
theorem segN_zero {l : List Fq} (hc : segC c = true) : segN c l = 0 ↔ ∀ i, i < l.length → endC c i (fqAt l i) = false := by
  unfold segN; rw [if_pos hc]; exact firstN_zero
theorem segN_le (c : Nat → Int) (l : List Fq) : segN c l ≤ l.length := by
  unfold segN
  split
  · exact firstN_le _ _
  · omega
theorem fqAt_take {l : List Fq} {n i : Nat} (h : i < n) : fqAt (l.take n) i = fqAt l i := by unfold fqAt; rw [List.getElem?_take, if_pos h]
theorem segN_pos {l : List Fq} {n : Nat} (hc : segC c = true) (h : segN c l = n + 1) : segN c (l.take (n + 1)) = n + 1 ∧ ∀ m, m ≤ n → segN c (l.take m) = 0 := by
  have h0 := h
  unfold segN at h
  rw [if_pos hc] at h
  obtain ⟨h1, h2, h3⟩ := firstN_succ h
  refine ⟨?_, fun m hm => (segN_zero hc).2 fun i hi => ?_⟩
  · unfold segN
    rw [if_pos hc]
    refine firstN_some (by rw [List.length_take]; omega) ?_ fun i hi => ?_
    · rw [fqAt_take (by omega)]; exact h2
    · rw [fqAt_take (by omega)]; exact h3 i hi
  · rw [List.length_take] at hi
    rw [fqAt_take (by omega)]; exact h3 i (by omega)
theorem segN_pre {l : List Fq} (hc : segC c = true) (h : segN c l = 0) (m : Nat) : segN c (l.take m) = 0 := (segN_zero hc).2 fun i hi => by
  rw [List.length_take] at hi
  rw [fqAt_take (by omega)]; exact (segN_zero hc).1 h i (by omega)
theorem segN_snoc {l : List Fq} {x : Fq} (hc : segC c = true) (h : segN c l = 0) : segN c (l ++ [x]) = 0 ∨ segN c (l ++ [x]) = l.length + 1 := by
  cases hn : segN c (l ++ [x]) with
  | zero => exact .inl rfl
  | succ n =>
    have hle := segN_le c (l ++ [x])
    rw [List.length_append, hn] at hle
    simp at hle
    rcases Nat.lt_or_ge n l.length with h1 | h1
    · have := (segN_pos hc hn).1
      rw [List.take_append_of_le_length (by omega), segN_pre hc h] at this
      omega
    · right; omega
theorem segN_nil (c : Nat → Int) : segN c [] = 0 := by have := segN_le c []; simpa using this
variable {box man : Int} {G : List (List Rk)}
theorem laidP_snoc (cs : List ByteArray) (x : ByteArray) : laidP c box man G (cs ++ [x]) = feedP c box man G (laidP c box man G cs) x := by unfold laidP; rw [List.foldl_append]; rfl
theorem map_snocF (l : List ByteArray) (x : ByteArray) : (l ++ [x]).map bFq = l.map bFq ++ [bFq x] := by rw [List.map_append]; rfl
theorem feedP_eq (hc : segC c = true) {σ : Ls × List ByteArray} (hz : segN c (σ.2.map bFq) = 0) (x : ByteArray) :
    (segN c ((σ.2 ++ [x]).map bFq) = 0 ∧ feedP c box man G σ x = (σ.1, σ.2 ++ [x])) ∨ (segN c ((σ.2 ++ [x]).map bFq) = σ.2.length + 1 ∧ feedP c box man G σ x = (layP c box man G σ.1 (σ.2 ++ [x]), [])) := by
  have hs := segN_snoc (x := bFq x) hc hz
  rw [← map_snocF, List.length_map] at hs
  rcases hs with h | h
  · exact .inl ⟨h, by unfold feedP; rw [if_pos h]⟩
  · refine .inr ⟨h, ?_⟩
    unfold feedP
    rw [if_neg (by omega), h, List.take_of_length_le (by simp), List.drop_of_length_le (by simp)]
theorem laidP_zero (hc : segC c = true) (cs : List ByteArray) : segN c ((laidP c box man G cs).2.map bFq) = 0 := by
  refine snoc_ind (P := fun cs => segN c ((laidP c box man G cs).2.map bFq) = 0) (segN_nil c) (fun l x ih => ?_) cs
  rw [laidP_snoc]
  rcases feedP_eq (box := box) (man := man) (G := G) hc ih x with ⟨h, e⟩ | ⟨h, e⟩
  · rw [e]; exact h
  · rw [e]; exact segN_nil c
end
end Go.Proofs.YtlmefcepdadfjaaGreat
/- Rows of the call's own that lie at any place of their block: s[n:], append. No program is named here. -/
namespace Go.Proofs.YtlmefcepdadfjaaGreat
open Go.RowKit

def offB (ao : Option Addr) (cap : Nat) : Option Nat := if cap = 0 then none else ao.map (·.block)
def offR (ao : Option Addr) (n cap e k : Nat) (cs : List Value) : GEnt where
  own := offB ao cap
  uses := fun g => offB ao cap = some g
  holds := fun w => cs.length = n * k ∧ n ≤ cap ∧ cap ≤ maxLen ∧ (0 < cap → ∃ g off cur, ao = some ⟨g, off, none⟩ ∧ w.heap[g]? = some (.cells cur e (0, 0)) ∧ off + cap * k ≤ cur.size ∧ (cur.toList.drop off).take (n * k) = cs)
  own_uses := fun _ h => h
  uses_lt := fun w g h hu => by
    unfold offB at hu
    split at hu
    · cases hu
    · rename_i hc
      obtain ⟨g', off, cur, rfl, hh, _⟩ := h.2.2.2 (by omega)
      simp only [Option.map_some, Option.some.injEq] at hu
      subst hu
      exact (Array.getElem?_eq_some_iff.1 hh).1
  kept := fun w w' row h hg hr => by
    refine ⟨h.1, h.2.1, h.2.2.1, fun hc => ?_⟩
    obtain ⟨g, off, cur, rfl, hh, h2⟩ := h.2.2.2 hc
    refine ⟨g, off, cur, rfl, ?_, h2⟩
    rw [hg.block g (Array.getElem?_eq_some_iff.1 hh).1 fun he => hr g he.symm (by unfold offB; rw [if_neg (by omega)]; rfl)]
    exact hh
section
variable {W : World} {M : List Nat} {H : Hp} {w : World} {ao : Option Addr} {n cap e k : Nat} {cs : List Value}
theorem offR.rd (h : (offR ao n cap e k cs).holds w) (hm : cs.length ≤ maxLen) : Rd w ao cs := by
  refine ⟨hm, fun hp => ?_⟩
  have hc : 0 < cap := by
    rcases Nat.eq_zero_or_pos cap with h0 | h0
    · have h1 := h.1
      have h2 := h.2.1
      obtain rfl : n = 0 := by omega
      rw [Nat.zero_mul] at h1; omega
    · exact h0
  obtain ⟨g, off, cur, rfl, hh, h2, h3⟩ := h.2.2.2 hc
  refine ⟨g, off, rfl, (Array.getElem?_eq_some_iff.1 hh).1, fun j hj => ?_⟩
  rw [← h3, List.getElem?_take, if_pos (by have := h.1; omega), List.getElem?_drop, Array.getElem?_toList]
  simp [World.cell?, hh]
theorem Sat.offRd (hs : Sat W M H w) (p : Nat) (hp : H[p]? = some (.gen (offR ao n cap e k cs))) (hm : cs.length ≤ maxLen) : Rd w ao cs := offR.rd (hs.holds p _ hp) hm
theorem Weak.toOff (p : Nat) (hp : H[p]? = some (.row ao n cap e k cs)) : Weak H (H.set p (.gen (offR ao n cap e k cs))) := fun W M w hs => by
  have hr := hs.row p hp
  refine hs.set hp (grown_refl w _) (e' := .gen (offR ao n cap e k cs)) ?_ fun g hg => .inl ?_
  · rcases hr.2 with ⟨hv, h0⟩ | ⟨g, c, cur, hv, _, hh, hnc, hcm, hs2, ht⟩
    · simp only [Value.slice.injEq] at hv
      refine ⟨hr.1, by omega, by unfold maxLen; omega, fun h => by omega⟩
    · simp only [Value.slice.injEq, true_and] at hv
      obtain ⟨rfl, rfl⟩ := hv
      exact ⟨hr.1, hnc, hcm, fun _ => ⟨g, 0, cur, rfl, hh, by omega, by rw [List.drop_zero]; exact ht⟩⟩
  · have hg' : offB ao cap = some g := hg
    unfold offB at hg'
    split at hg'
    · cases hg'
    · exact hg'
theorem Weak.offRest {ao' : Option Addr} (p : Nat) (hp : H[p]? = some (.gen (offR ao n cap e k cs))) (h1 : n < cap → ao' = ao.map (·.add (n * k))) : Weak H (H.set p (.gen (offR ao' 0 (cap - n) e k []))) := fun W M w hs => by
  have hh : (offR ao n cap e k cs).holds w := hs.holds p _ hp
  refine hs.set hp (grown_refl w _) (e' := .gen (offR ao' 0 (cap - n) e k [])) ?_ fun g hg => .inl ?_
  · refine ⟨by simp, Nat.zero_le _, by have := hh.2.2.1; omega, fun hc => ?_⟩
    obtain ⟨g, off, cur, rfl, h2, h3, _⟩ := hh.2.2.2 (by omega)
    refine ⟨g, off + n * k, cur, by rw [h1 (by omega)]; simp [Addr.add_lit], h2, ?_, by simp⟩
    have : n * k + (cap - n) * k = cap * k := by rw [← Nat.add_mul]; congr 1; omega
    omega
  · have hg' : offB ao' (cap - n) = some g := hg
    show offB ao cap = some g
    unfold offB at hg' ⊢
    split at hg'
    · cases hg'
    · rename_i hc
      rw [if_neg (by omega)]
      obtain ⟨g2, off, cur, rfl, _⟩ := hh.2.2.2 (by omega)
      rw [h1 (by omega)] at hg'
      simpa [Addr.add_lit] using hg'
theorem SxApp.off {bytes : Nat} {xo : Option Addr} {m xcap : Nat} {A : Option Addr → Nat → Hp → Prop} {vs cs' : List Value} (p : Nat) (hp : H[p]? = some (.gen (offR ao n cap e k cs))) (hx : ∀ W M w, Sat W M H w → Rd w xo vs) (h0 : 0 < m) (hm : vs.length = m * k) (h1 : allOne vs = true) (h63 : n + m ≤ maxLen) (hb : (n + m) * bytes ≤ 140737488355328)
    (hc : cs ++ vs = cs') (h : ∀ ao' cap', A ao' cap' (H.set p (.gen (offR ao' (n + m) cap' e k cs')))) : SxApp H ao n cap e k bytes xo m xcap A := by
  refine .sem fun P W M w t ty x z hs ht hi hz hk hby hzk hk0 => ?_
  subst hk
  subst hby
  have hh : (offR ao n cap e x.size cs).holds w := hs.holds p _ hp
  replace h1 := allOne_mem h1
  have hpos : 0 < vs.length := by rw [hm]; exact Nat.mul_pos h0 hk0
  obtain ⟨gx, ox, hxo, hgx, hcx⟩ := (hx W M w hs).2 hpos
  have hnews : ∀ j u, vs[j]? = some u → w.cell? ((⟨gx, ox, none⟩ : Addr).add j) = some u := fun j u hj => by
    rw [Addr.add_lit, hcx j (List.getElem?_eq_some_iff.1 hj).1, hj]
  subst hxo
  by_cases hr : n + m ≤ cap
  · obtain ⟨g, off, cur, rfl, h2, h3, h4⟩ := hh.2.2.2 (by omega)
    have hfit : n * x.size + vs.length ≤ cap * x.size := by rw [hm, ← Nat.add_mul]; exact Nat.mul_le_mul_right _ hr
    have hdl : off + n * x.size + vs.length ≤ cur.size := by omega
    have hd : off + (n * x.size + vs.length) ≤ cur.size := by omega
    obtain ⟨w', cur', hrun, hb', hc', ho⟩ := run_storeCells_raw (P := P) g (off + n * x.size) e 0 0 vs 0 cur w h2 (.inl (Nat.le_refl _)) (by simpa using hdl) h1
    have hfc := run_firstCells_some (P := P) w x.size m ⟨gx, ox, none⟩ m xcap vs hm hnews
    have hown : (Ent.gen (offR (some ⟨g, off, none⟩) n cap e x.size cs)).own = some g := by
      show offB (some ⟨g, off, none⟩) cap = some g
      unfold offB; rw [if_neg (by omega)]; rfl
    refine ⟨_, cap, _, w', h _ cap, ?_, hs.set hp (by rw [hown]; exact Only.toGrown ho) (e' := .gen (offR (some ⟨g, off, none⟩) (n + m) cap e x.size cs')) ⟨?_, hr, hh.2.2.1, fun _ => ⟨g, off, cur', rfl, hb', ?_, ?_⟩⟩ fun g hg => .inl hg⟩
    · simp [Builtin.append_, run_underlying ht, sizeOf, typeInfo, hi, Builtin.lenOf, hr, hfc, Addr.add_lit, hrun]
    · rw [← hc, List.length_append, hh.1, hm, Nat.add_mul]
    · rw [← Array.length_toList, hc', splice_length _ _ _ (by simpa using hdl), Array.length_toList]
      exact h3
    · rw [hc', Nat.add_zero, ← hc, ← h4, Nat.add_mul, ← hm]
      unfold splice
      have hl : off + n * x.size ≤ cur.toList.length := by simp; omega
      rw [List.append_assoc, List.drop_append_of_le_length (by rw [List.length_take]; omega), List.drop_take, Nat.add_sub_cancel_left]
      have e1 : ((cur.toList.drop off).take (n * x.size)).length = n * x.size := by rw [List.length_take, List.length_drop]; omega
      rw [List.take_append, e1, Nat.add_sub_cancel_left, List.take_of_length_le (by rw [e1]; omega), List.take_left']
      rfl
  · have hsome : ∃ v' w', (Builtin.append_ #[t, t] ty #[.slice ao n cap, .slice (some ⟨gx, ox, none⟩) m xcap]).run P w = .ok v' w' ∧ w'.ownsRow w.heap.size e x.size v' (n + m) (cs ++ vs) ∧ w.grownBy w' none := by
      cases hao : ao with
      | none =>
        have hn0 : n = 0 ∧ cap = 0 := by
          rcases Nat.eq_zero_or_pos cap with h5 | h5
          · have := hh.2.1; exact ⟨by omega, h5⟩
          · obtain ⟨g, off, cur, h6, _⟩ := hh.2.2.2 h5
            rw [hao] at h6; cases h6
        obtain ⟨rfl, rfl⟩ := hn0
        have hcs : cs = [] := List.eq_nil_of_length_eq_zero (by simpa using hh.1)
        subst hcs
        obtain ⟨v', w', hrun, r1, r2, _⟩ := run_append_own (P := P) w w.heap.size t ty e x z x.size x.bytes ht hi hz rfl rfl hzk hk0 (.slice none 0 0) 0 [] (World.ownsRow_nil w _ e x.size) ⟨gx, ox, none⟩ m xcap vs hm hnews h1 h63 hb (Nat.le_refl _)
        exact ⟨v', w', hrun, r1, r2⟩
      | some b =>
        refine run_append_arg_grows (P := P) w t ty e x z x.size x.bytes ht hi hz rfl rfl hzk hk0 b n cap cs hh.1 (fun j u hj => ?_) ⟨gx, ox, none⟩ m xcap vs hm hnews (by omega) h63 hb
        have hjl := (List.getElem?_eq_some_iff.1 hj).1
        have hc0 : 0 < cap := by
          rcases Nat.eq_zero_or_pos cap with h5 | h5
          · have h6 := hh.1
            have h7 := hh.2.1
            obtain rfl : n = 0 := by omega
            rw [Nat.zero_mul] at h6; omega
          · exact h5
        obtain ⟨g, off, cur, h6, h2, _, h4⟩ := hh.2.2.2 hc0
        rw [hao] at h6
        obtain rfl := Option.some.inj h6
        rw [Addr.add_lit, ← hj, ← h4, List.getElem?_take, if_pos (by have := hh.1; omega), List.getElem?_drop, Array.getElem?_toList]
        simp [World.cell?, h2]
    obtain ⟨v', w', hrun, r1, r2⟩ := hsome
    rcases r1.2 with ⟨rfl, h5⟩ | ⟨g, c, cur, rfl, hg, hh2, hnc, hcm, hsz, htk⟩
    · omega
    · have hgr : w.grownBy w' (Ent.gen (offR ao n cap e x.size cs)).own := ⟨r2.os, r2.tape, r2.output, r2.size, fun i hi _ => r2.block i hi (by simp)⟩
      refine ⟨_, c, _, w', h _ c, hrun, hs.set hp hgr (e' := .gen (offR (some ⟨g, 0, none⟩) (n + m) c e x.size cs')) ⟨?_, hnc, hcm, fun _ => ⟨g, 0, cur, rfl, hh2, by omega, by rw [List.drop_zero, ← hc]; exact htk⟩⟩ fun g' hg' => .inr ?_⟩
      · rw [← hc]; exact r1.1
      · have hg2 : offB (some ⟨g, 0, none⟩) c = some g' := hg'
        unfold offB at hg2
        split at hg2
        · cases hg2
        · simp only [Option.map_some, Option.some.injEq] at hg2
          omega
end
end Go.Proofs.YtlmefcepdadfjaaGreat
/- Cells of many places that are read: one entry for all. No program is named here. -/
namespace Go.Proofs.YtlmefcepdadfjaaGreat
open Go.RowKit

abbrev RdL := List (Option Addr × List Value)
def rdsG (L : RdL) : GEnt where
  own := none
  uses := fun g => ∃ x ∈ L, (Ent.rd x.1 x.2).uses g
  holds := fun w => ∀ x ∈ L, Rd w x.1 x.2
  own_uses := fun _ h => (by cases h)
  uses_lt := fun w g h ⟨x, hx, hu⟩ => Ent.uses_lt (e := .rd x.1 x.2) (h x hx) hu
  kept := fun w w' row h hg hr x hx => Ent.Holds.kept (e := .rd x.1 x.2) (h x hx) hg fun g hrow hu => hr g hrow ⟨x, hx, hu⟩
def RdAll (w : World) (L : RdL) : Prop := ∀ x ∈ L, Rd w x.1 x.2
section
variable {W : World} {M : List Nat} {H : Hp} {w w' : World} {L : RdL} {ao : Option Addr} {cs : List Value}
theorem RdAll.kept (h : RdAll w L) (hb : Below w.heap.size w w') : RdAll w' L := fun x hx => (h x hx).kept hb
theorem RdAll.nil (w : World) : RdAll w [] := fun x hx => by cases hx
theorem RdAll.cons (h : Rd w ao cs) (hL : RdAll w L) : RdAll w ((ao, cs) :: L) := fun x hx => by
  rcases List.mem_cons.1 hx with rfl | hx
  · exact h
  · exact hL x hx
theorem RdAll.head {x : Option Addr × List Value} (h : RdAll w (x :: L)) : Rd w x.1 x.2 := h x (List.mem_cons_self ..)
theorem RdAll.tail {x : Option Addr × List Value} (h : RdAll w (x :: L)) : RdAll w L := fun y hy => h y (List.mem_cons_of_mem _ hy)
theorem RdAll.app {K : RdL} (h : RdAll w L) (hk : RdAll w K) : RdAll w (L ++ K) := fun x hx => (List.mem_append.1 hx).elim (h x) (hk x)
theorem RdAll.sub {K : RdL} (h : RdAll w L) (hk : ∀ x ∈ K, x ∈ L) : RdAll w K := fun x hx => h x (hk x hx)
theorem Sat.rds1 (hs : Sat W M H w) (p : Nat) (hp : H[p]? = some (.gen (rdsG L))) : RdAll w L := hs.holds p _ hp
theorem Sat.rdIn (hs : Sat W M H w) (p : Nat) (hp : H[p]? = some (.gen (rdsG L))) (hm : (ao, cs) ∈ L) : Rd w ao cs := hs.rds1 p hp _ hm
theorem SxIA.of {n k : Nat} {i : Int} {A : Nat → Nat → Prop} (p : Nat) (hp : H[p]? = some (.gen (rdsG L))) (hm : (ao, cs) ∈ L) (j : Nat) (h : i = j) (hj : j < n) (hc : j * k < cs.length) (h' : ∀ g off, ao = some ⟨g, off, none⟩ → A g (off + j * k)) : SxIA H ao n k i A :=
  .any cs (fun _ _ _ hs => hs.rdIn p hp hm) j h hj hc h'
theorem SxLd.of {g off : Nat} {A : Value → Prop} (p : Nat) (hp : H[p]? = some (.gen (rdsG L))) (hm : (ao, cs) ∈ L) {o : Nat} (ha : ao = some ⟨g, o, none⟩) {j : Nat} (hj : off = o + j) {v : Value} (hv : cs[j]? = some v) (h' : A v) : SxLd H g off A :=
  .from_ (fun _ _ _ hs => hs.rdIn p hp hm) ha hj hv h'
theorem SxLdN.of {g off n : Nat} {A : List Value → Prop} (p : Nat) (hp : H[p]? = some (.gen (rdsG L))) (hm : (ao, cs) ∈ L) {o : Nat} (ha : ao = some ⟨g, o, none⟩) {j : Nat} (hj : off = o + j) {vs : List Value} (hl : vs.length = n) (hv : (cs.drop j).take n = vs) (h' : A vs) : SxLdN H g off n A :=
  .from_ (fun _ _ _ hs => hs.rdIn p hp hm) ha hj hl hv h'
theorem Sat.reader (hs : Sat W M H w) (x : GEnt) (hx : x.own = none) (ks : List Nat) {H' : Hp} (hk : pickH H ks = some H') (hn : nodupB ks = true) (hh : x.holds w) (hu : ∀ g, x.uses g → ∃ j e, j ∉ ks ∧ H[j]? = some e ∧ e.uses g) : Sat W M (.gen x :: H') w := by
  have hs' := hs.pick hk hn
  refine ⟨hs'.touch, fun i e hi => ?_, fun i e hi g hg => ?_, fun i j a b hij hi hj g hg hu' => ?_⟩
  · cases i with
    | zero => simp at hi; subst hi; exact hh
    | succ i => exact hs'.holds i e (by simpa using hi)
  · cases i with
    | zero => simp at hi; subst hi; rw [show (Ent.gen x).own = x.own from rfl, hx] at hg; cases hg
    | succ i => exact hs'.own i e (by simpa using hi) g hg
  · cases i with
    | zero => simp at hi; subst hi; rw [show (Ent.gen x).own = x.own from rfl, hx] at hg; cases hg
    | succ i =>
      cases j with
      | zero =>
        simp at hj
        subst hj
        obtain ⟨m, e, hm, he, hue⟩ := hu g hu'
        obtain ⟨k, hki, hka⟩ := pickH_get hk i a (by simpa using hi)
        have hkm : k ∈ ks := List.mem_of_getElem? hki
        exact hs.sep k m a e (fun h => hm (h ▸ hkm)) hka he g hg hue
      | succ j => exact hs'.sep i j a b (by omega) (by simpa using hi) (by simpa using hj) g hg hu'
def dvE {α : Type} : Enc (Drow α) := ⟨fun d => [d.v], 1, by decide, fun _ => rfl, fun _ => rfl⟩
theorem dvE_len {α : Type} (ds : List (Drow α)) : ((dvE (α := α)).fl ds).length = ds.length * 1 := (dvE (α := α)).fl_len ds
theorem dvE_at {α : Type} {ds : List (Drow α)} {k : Nat} {d : Drow α} (h : ds[k]? = some d) : ((dvE (α := α)).fl ds)[k * 1]? = some d.v := (dvE (α := α)).fl_cell (j := 0) h rfl
theorem SxCode.wk {S : Sx} {N : Nat} {F : Fr} {H' : Hp} {c : Code} {Q : Exit → Fr → Hp → Prop} (hw : Weak H H') (h : SxCode S W M N c Q F H') : SxCode S W M N c Q F H :=
  ⟨fun a w ha hs => match h with | ⟨h⟩ => h a w ha (hw _ _ _ hs)⟩
theorem Weak.rds0 (H : Hp) : Weak H (.gen (rdsG []) :: H) := fun _ _ _ hs =>
  hs.cons ⟨rfl, rfl, rfl, Nat.le_refl _, fun _ _ _ => rfl⟩ (e := .gen (rdsG [])) (fun x hx => by cases hx) (fun g hg => by obtain ⟨x, hx, _⟩ := hg; cases hx)
theorem Weak.subRds {K : RdL} (p : Nat) (hp : H[p]? = some (.gen (rdsG L))) (hk : ∀ x ∈ K, x ∈ L) : Weak H (.gen (rdsG K) :: H) := fun W M w hs => by
  have hu : ∀ g, (Ent.gen (rdsG K)).uses g → (Ent.gen (rdsG L)).uses g := fun g hg => by
    obtain ⟨x, hx, hu⟩ := hg
    exact ⟨x, hk x hx, hu⟩
  refine ⟨hs.touch, fun i e hi => ?_, fun i e hi g hg => ?_, fun i j a b hij hi hj g hg hu' => ?_⟩
  · cases i with
    | zero => simp at hi; subst hi; exact (hs.rds1 p hp).sub hk
    | succ i => exact hs.holds i e (by simpa using hi)
  · cases i with
    | zero => simp at hi; subst hi; cases hg
    | succ i => exact hs.own i e (by simpa using hi) g hg
  · cases i with
    | zero => simp at hi; subst hi; cases hg
    | succ i =>
      cases j with
      | zero =>
        simp at hj
        subst hj
        have hi' : H[i]? = some a := by simpa using hi
        by_cases hip : i = p
        · subst hip
          rw [hp] at hi'
          obtain rfl := Option.some.inj hi'
          cases hg
        · exact hs.sep i p a _ hip hi' hp g hg (hu g hu')
      | succ j => exact hs.sep i j a b (by omega) (by simpa using hi) (by simpa using hj) g hg hu'
end
end Go.Proofs.YtlmefcepdadfjaaGreat
/- Package slices at string. -/
namespace Go.Proofs.YtlmefcepdadfjaaGreat
open Go.RowKit

theorem rowSr_cell {l : List ByteArray} {k j : Nat} {x : ByteArray} {v : Value} (h : l[k]? = some x) (hj : (strE.enc x)[j]? = some v) : (strE.fl l)[k * 1 + j]? = some v := strE.fl_cell h hj
theorem rowSr_len (l : List ByteArray) : (strE.fl l).length = l.length * 1 := strE.fl_len l
theorem CloneSr_any (l : List ByteArray) (ao : Option Addr) (cap : Nat) (hl : l.length ≤ 1000000) (w : World) (hr : Rd w ao (strE.fl l)) :
    Calls Tryz.prog 60 #[.slice ao l.length cap] w fun e w' => ∃ ao' cap', e = .returned (.slice ao' l.length cap') ∧ NewRow w w' ao' l.length cap' 9 1 (strE.fl l) := by
  refine sx_fn (S := SX) (M := []) (N := 8) (H0 := [.row none 0 0 9 1 [], .rd ao (strE.fl l)]) Tryz.func60 rfl rfl rfl ((Sat.oneRd _ hr).nilRow 9 1) ?_
  ((try refine sU ?_);repeat(refine sN fun _=>?_;try refine sU ?_))
  refine SxRun.sEqNil Tryz.underlying26 ?_
  cases ao with
  | none =>
    have h0 : l = [] := by
      cases l with
      | nil => rfl
      | cons x l => obtain ⟨g, off, h, _⟩ := hr.2 (strE.fl_ne (by simp)); cases h
    subst h0
    ((try refine sU ?_);repeat(refine sN fun _=>?_;try refine sU ?_))
    exact SxDone.mk fun w' hs => ⟨none, 0, rfl, hs.newRow 0 rfl⟩
  | some a =>
    ((try refine sU ?_);repeat(refine sN fun _=>?_;try refine sU ?_))
    refine SxApp.mk 0 rfl 2 (.inr (.inl rfl)) (rowSr_len l) (strE.fl_allOne l) (by unfold maxLen; omega) (by omega) rfl fun ao' cap' => ?_
    ((try refine sU ?_);repeat(refine sN fun _=>?_;try refine sU ?_))
    exact SxDone.mk fun w' hs => ⟨ao', cap', by rw [Nat.zero_add]; rfl, by have := hs.newRow 0 rfl; rw [Nat.zero_add] at this; exact this⟩
end Go.Proofs.YtlmefcepdadfjaaGreat
