/- Texts of this claim, one behind the other. -/
import Derived.Test.YtlmefcepdadfjaaGreatZGen
import Derived.Test.YtlmefcepdadfjaaGreatZHkFp
import Derived.Shelf.SlSortCmp.NoneTotal
import Derived.Test.YtlmefcepdadfjaaGreatProg
import Derived.Test.YtlmefcepdadfjaaGreatZEnA
/- Package slices at api.Fp. -/
namespace Go.Proofs.YtlmefcepdadfjaaGreat
open Go.RowKit

theorem rowFp_at {l : List Fp} {k : Nat} {x : Fp} (h : l[k]? = some x) : ((fpE.fl l).drop (k * 32)).take 32 = fpE.enc x := fpE.fl_at h
theorem rowFp_all (x : Fp) : ((fpE.enc x).drop 0).take 32 = fpE.enc x := by
  have h : (fpE.enc x).length ≤ 32 := Nat.le_of_eq (fpE.len x)
  rw [List.drop_zero, List.take_of_length_le h]
theorem rowFp_len (l : List Fp) : (fpE.fl l).length = l.length * 32 := fpE.fl_len l
theorem CloneFp_any (l : List Fp) (ao : Option Addr) (cap : Nat) (hl : l.length ≤ 1000000) (w : World) (hr : Rd w ao (fpE.fl l)) :
    Calls Tryz.prog 61 #[.slice ao l.length cap] w fun e w' => ∃ ao' cap', e = .returned (.slice ao' l.length cap') ∧ NewRow w w' ao' l.length cap' 69 32 (fpE.fl l) := by
  refine sx_fn (S := SX) (M := []) (N := 8) (H0 := [.row none 0 0 69 32 [], .rd ao (fpE.fl l)]) Tryz.func61 rfl rfl rfl ((Sat.oneRd _ hr).nilRow 69 32) ?_
  ((try refine sU ?_);repeat(refine sN fun _=>?_;try refine sU ?_))
  refine SxRun.sEqNil Tryz.underlying95 ?_
  cases ao with
  | none =>
    have h0 : l = [] := by
      cases l with
      | nil => rfl
      | cons x l => obtain ⟨g, off, h, _⟩ := hr.2 (fpE.fl_ne (by simp)); cases h
    subst h0
    ((try refine sU ?_);repeat(refine sN fun _=>?_;try refine sU ?_))
    exact SxDone.mk fun w' hs => ⟨none, 0, rfl, hs.newRow 0 rfl⟩
  | some a =>
    ((try refine sU ?_);repeat(refine sN fun _=>?_;try refine sU ?_))
    refine SxApp.mk 0 rfl 2 (.inr (.inl rfl)) (rowFp_len l) (fpE.fl_allOne l) (by unfold maxLen; omega) (by omega) rfl fun ao' cap' => ?_
    ((try refine sU ?_);repeat(refine sN fun _=>?_;try refine sU ?_))
    exact SxDone.mk fun w' hs => ⟨ao', cap', by rw [Nat.zero_add]; rfl, by have := hs.newRow 0 rfl; rw [Nat.zero_add] at this; exact this⟩
theorem CompactFp_sat {W : World} {M : List Nat} {H : Hp} {w : World} (hs : Sat W M H w) (p : Nat) {ao : Option Addr} {cap : Nat} {l : List Fp} (hl : l.length ≤ 1000000) (hp : H[p]? = some (.row ao l.length cap 69 32 (fpE.fl l))) :
    Calls Tryz.prog 126 #[.slice ao l.length cap] w fun e w' => e = .returned (.slice ao (dd l).length cap) ∧ Sat W M (H.set p (.row ao (dd l).length cap 69 32 (fpE.fl (dd l)))) w' := by
  have hrow := hs.row p hp
  by_cases hn : l.length < 2
  · have hdd : dd l = l := by
      match l, hn with
      | [], _ => rfl
      | [x], _ => rfl
    rw [hdd, setH_same hp]
    refine sx_fn (S := SX) (N := 61) Tryz.func126 rfl rfl rfl hs ?_
    ((try refine sU ?_);repeat(refine sN fun _=>?_;try refine sU ?_))
    exact SxDone.mk fun w' hs => ⟨rfl, hs⟩
  obtain ⟨g, rfl, hcap⟩ : ∃ g, ao = some ⟨g, 0, none⟩ ∧ l.length ≤ cap := by
    rcases hrow.2 with ⟨h, h0⟩ | ⟨g, c, cur, hv, _, _, hnc, _⟩
    · omega
    · simp only [Value.slice.injEq, true_and] at hv
      obtain ⟨rfl, rfl⟩ := hv
      exact ⟨g, rfl, hnc⟩
  have hp0 : ∀ e', (H.set p e')[p]? = some e' := fun e' => setH_get hp
  have hd1 : dd (l.take 1) = l.take 1 := by
    clear hp hrow hcap
    cases l with
    | nil => rfl
    | cons x r => rfl
  refine sx_fn (S := SX) (N := 61) Tryz.func126 rfl rfl rfl hs ?_
  ((try refine sU ?_);repeat(refine sN fun _=>?_;try refine sU ?_))
  refine SxCode.loop (σ := Nat) [3] [10, 11, 12, 13, 16, 17, 18, 19, 20, 21, 22, 23, 24, 25, 26, 27, 28, 4, 5, 29, 30, 31, 32, 35, 36, 37, 38, 39, 40, 41, 42, 43, 44, 45, 46, 47, 48, 49, 50, 51, 52, 53, 3, 33, 34, 54, 55, 56, 57, 58, 59, 2, 14, 15] (fun k => [.int .i64 (k : Nat)]) (fun _ => H) (fun k => 1 ≤ k ∧ k ≤ l.length ∧ dd (l.take k) = l.take k) (fun k => l.length - k) 1 (allI H) rfl rfl (pickH_all H) (nodupB_all H) ⟨Nat.le_refl _, by omega, hd1⟩ ?_
  rintro k ⟨hk1, hk, hd⟩
  ((try refine sU ?_);repeat(refine sN fun _=>?_;try refine sU ?_))
  refine SxIf.dec (fun h => ?_) (fun h => ?_)
  · have hlt : k < l.length := by omega
    obtain ⟨j, rfl⟩ : ∃ j, k = j + 1 := ⟨k - 1, by omega⟩
    obtain ⟨x, hx⟩ : ∃ x, l[j + 1]? = some x := ⟨l[j + 1], by simp [hlt]⟩
    obtain ⟨a, ha⟩ : ∃ a, l[j]? = some a := ⟨l[j], by simp [show j < l.length by omega]⟩
    have hdt := dd_take ha hx
    ((try refine sU ?_);repeat(refine sN fun _=>?_;try refine sU ?_))
    refine SxCode.drawAll rfl [] ?_
    ((try refine sU ?_);repeat(refine sN fun _=>?_;try refine sU ?_))
    refine SxIA.row p _ _ _ hp (j + 1) rfl hlt fun g' hg' => ?_
    obtain rfl : g = g' := by simpa using hg'
    ((try refine sU ?_);repeat(refine sN fun _=>?_;try refine sU ?_))
    refine SxLdN.row p hp rfl rfl (vs := fpE.enc x) (fpE.len x) (rowFp_at hx) ?_
    ((try refine sU ?_);repeat(refine sN fun _=>?_;try refine sU ?_))
    refine SxIA.row p _ _ _ hp j (by omega) (by omega) fun g' hg' => ?_
    obtain rfl : g = g' := by simpa using hg'
    ((try refine sU ?_);repeat(refine sN fun _=>?_;try refine sU ?_))
    refine SxLdN.row p hp rfl rfl (vs := fpE.enc a) (fpE.len a) (rowFp_at ha) ?_
    ((try refine sU ?_);repeat(refine sN fun _=>?_;try refine sU ?_))
    refine SxRun.eqFp (x := x) (y := a) ?_
    ((try refine sU ?_);repeat(refine sN fun _=>?_;try refine sU ?_))
    refine SxIf.dec (fun h1 => ?_) (fun h1 => ?_)
    · rw [if_pos h1.symm] at hdt
      ((try refine sU ?_);repeat(refine sN fun _=>?_;try refine sU ?_))
      refine SxBnd.mk (j + 1) l.length rfl rfl (by omega) (by omega) fun ao' h2 h3 => ?_
      have h4 := h2 (by omega)
      subst h4
      ((try refine sU ?_);repeat(refine sN fun _=>?_;try refine sU ?_))
      refine SxCode.loop (σ := Nat × Nat × List Fp) [5, 3] [29, 30, 31, 32, 35, 36, 37, 38, 39, 40, 41, 42, 43, 44, 45, 46, 47, 48, 49, 50, 51, 52, 53, 3, 33, 34, 5] (fun s => [.int .i64 (s.1 : Nat), .int .i64 (s.2.1 : Nat)]) (fun s => H.set p (.row (some ⟨g, 0, none⟩) l.length cap 69 32 (fpE.fl s.2.2)))
        (fun s => 1 ≤ s.1 ∧ j + 1 + s.1 ≤ l.length ∧ 1 ≤ s.2.1 ∧ s.2.1 ≤ j + s.1 ∧ s.2.2.length = l.length ∧ s.2.2.take s.2.1 = dd (l.take (j + 1 + s.1)) ∧ ∀ i, s.2.1 ≤ i → s.2.2[i]? = l[i]?)
        (fun s => l.length - s.1) (1, j + 1, l) (allI H) rfl rfl (by rw [pickH_all, setH_same hp]) (nodupB_all H) ⟨Nat.le_refl _, by dsimp only; omega, by dsimp only; omega, by dsimp only; omega, rfl, by dsimp only; rw [show j + 1 + 1 = j + 2 by omega, hdt, hd], fun i _ => rfl⟩ ?_
      rintro ⟨k2, kk, m⟩ ⟨i1, i2, i3, i4, i5, i6, i7⟩
      dsimp only at i1 i2 i3 i4 i5 i6 i7 ⊢
      ((try refine sU ?_);repeat(refine sN fun _=>?_;try refine sU ?_))
      refine SxIf.dec (fun h5 => ?_) (fun h5 => ?_)
      · have hlt2 : j + 1 + k2 < l.length := by omega
        obtain ⟨y, hy⟩ : ∃ y, l[j + 1 + k2]? = some y := ⟨l[j + 1 + k2], by simp [hlt2]⟩
        obtain ⟨b, hb⟩ : ∃ b, l[j + k2]? = some b := ⟨l[j + k2], by simp [show j + k2 < l.length by omega]⟩
        have hdt2 := dd_take (k := j + k2) hb (by rw [show j + k2 + 1 = j + 1 + k2 by omega]; exact hy)
        rw [show j + k2 + 2 = j + 1 + (k2 + 1) by omega, show j + k2 + 1 = j + 1 + k2 by omega, ← i6] at hdt2
        have hmy : m[j + 1 + k2]? = some y := by rw [i7 _ (by omega)]; exact hy
        have hmb : m[j + k2]? = some b := by rw [i7 _ (by omega)]; exact hb
        ((try refine sU ?_);repeat(refine sN fun _=>?_;try refine sU ?_))
        refine SxCode.drawAll rfl [] ?_
        ((try refine sU ?_);repeat(refine sN fun _=>?_;try refine sU ?_))
        refine SxIA.ptr g (0 + (j + 1) * 32) rfl k2 rfl (by omega) ?_
        ((try refine sU ?_);repeat(refine sN fun _=>?_;try refine sU ?_))
        refine SxLdN.row p (hp0 _) rfl (j := (j + 1 + k2) * 32) (by omega) (vs := fpE.enc y) (fpE.len y) (rowFp_at hmy) ?_
        ((try refine sU ?_);repeat(refine sN fun _=>?_;try refine sU ?_))
        refine SxIA.ptr g (0 + (j + 1) * 32) rfl (k2 - 1) (by omega) (by omega) ?_
        ((try refine sU ?_);repeat(refine sN fun _=>?_;try refine sU ?_))
        refine SxLdN.row p (hp0 _) rfl (j := (j + k2) * 32) (by omega) (vs := fpE.enc b) (fpE.len b) (rowFp_at hmb) ?_
        ((try refine sU ?_);repeat(refine sN fun _=>?_;try refine sU ?_))
        refine SxRun.neFp (x := y) (y := b) ?_
        ((try refine sU ?_);repeat(refine sN fun _=>?_;try refine sU ?_))
        refine SxIf.nt (SxIf.dec (fun h6 => ?_) (fun h6 => ?_))
        · rw [if_pos h6.symm] at hdt2
          ((try refine sU ?_);repeat(refine sN fun _=>?_;try refine sU ?_))
          exact SxRound.mk (k2 + 1, kk, m) (allI _) rfl (pickH_all _) (nodupB_all _) ⟨by dsimp only; omega, by dsimp only; omega, i3, by dsimp only; omega, i5, hdt2.symm, i7⟩ (by dsimp only; omega)
        · rw [if_neg fun e => h6 e.symm] at hdt2
          ((try refine sU ?_);repeat(refine sN fun _=>?_;try refine sU ?_))
          refine SxIA.ptr g (0 + (j + 1) * 32) rfl k2 rfl (by omega) ?_
          ((try refine sU ?_);repeat(refine sN fun _=>?_;try refine sU ?_))
          refine SxLdN.row p (hp0 _) rfl (j := (j + 1 + k2) * 32) (by omega) (vs := fpE.enc y) (fpE.len y) (rowFp_at hmy) ?_
          ((try refine sU ?_);repeat(refine sN fun _=>?_;try refine sU ?_))
          refine SxIA.row p _ _ _ (hp0 _) kk rfl (by omega) fun g' hg' => ?_
          obtain rfl : g = g' := by simpa using hg'
          ((try refine sU ?_);repeat(refine sN fun _=>?_;try refine sU ?_))
          refine SxP.mk (by show (fpE.enc y).toArray.size = 32; rw [List.size_toArray]; exact fpE.len y) ?_
          refine SxSt.row p (hp0 _) rfl (j := kk * 32) rfl (by
            have h7 := rowFp_len m
            have h8 := fpE.len y
            show kk * 32 + (fpE.enc y).length ≤ _
            rw [h7, h8, i5]
            show kk * 32 + 32 ≤ _
            omega) (fpE.one y) (cs' := fpE.fl (m.set kk y)) (fpE.fl_set (by omega)) ?_
          rw [setH_set]
          ((try refine sU ?_);repeat(refine sN fun _=>?_;try refine sU ?_))
          refine SxRound.mk (k2 + 1, kk + 1, m.set kk y) (allI _) rfl (pickH_all _) (nodupB_all _) ⟨by dsimp only; omega, by dsimp only; omega, by dsimp only; omega, by dsimp only; omega, by dsimp only; rw [List.length_set, i5], ?_, ?_⟩ (by dsimp only; omega)
          · dsimp only
            rw [List.take_add_one, List.getElem?_set_self (by omega), List.take_set_of_le (Nat.le_refl _), hdt2]
            rfl
          · dsimp only
            intro i hi
            rw [List.getElem?_set_ne (by omega)]
            exact i7 i (by omega)
      · obtain rfl : k2 = l.length - (j + 1) := by omega
        rw [show j + 1 + (l.length - (j + 1)) = l.length by omega, List.take_length] at i6
        have hkk : kk = (dd l).length := by rw [← i6, List.length_take]; omega
        ((try refine sU ?_);repeat(refine sN fun _=>?_;try refine sU ?_))
        refine SxBnd.mk kk l.length rfl rfl (by omega) (by omega) fun ao' h6 h7 => ?_
        have h8 := h6 (by omega)
        subst h8
        ((try refine sU ?_);repeat(refine sN fun _=>?_;try refine sU ?_))
        refine SxSem.clear rfl rfl Tryz.underlying95 rfl rfl rfl (by decide) ⟨fun h9 => by omega, fun h9 => ⟨g, 0 + kk * 32, by rw [Option.map_some, Addr.add_lit], ?_⟩⟩
        refine SxSt.row p (hp0 _) rfl (j := kk * 32) rfl ?_ ?_ rfl ?_
        · have h7 := rowFp_len m
          have h8 := zerosL_length (List.replicate 32 (.int .u8 0)) (l.length - kk)
          rw [List.length_replicate] at h8
          show kk * 32 + (zerosL (List.replicate 32 (.int .u8 0)) (l.length - kk)).length ≤ _
          rw [h7, i5, h8]
          have : kk * 32 + (l.length - kk) * 32 = l.length * 32 := by rw [← Nat.add_mul]; congr 1; omega
          omega
        · exact allOne_zeros (by rfl) _
        · rw [setH_set]
          ((try refine sU ?_);repeat(refine sN fun _=>?_;try refine sU ?_))
          refine SxBnd.mk 0 kk rfl rfl (by omega) (by omega) fun ao' h6 h7 => ?_
          have h8 := h6 (by omega)
          subst h8
          ((try refine sU ?_);repeat(refine sN fun _=>?_;try refine sU ?_))
          refine SxDone.mk fun w' hs => ?_
          have h9 := hs.cut (m := kk) (hp0 _) (by omega)
          rw [setH_set] at h9
          have e1 : (splice (kk * 32) (zerosL (List.replicate 32 (.int .u8 0)) (l.length - kk)) (fpE.fl m)).take (kk * 32) = fpE.fl (dd l) := by
            have h10 := fpE.fl_take m kk
            unfold splice
            rw [List.append_assoc, List.take_left' (by rw [List.length_take, rowFp_len, i5]; have := Nat.mul_le_mul_right 32 (show kk ≤ l.length by omega); omega), ← i6]
            exact h10
          rw [hkk] at h9 e1 ⊢
          refine ⟨rfl, ?_⟩
          rw [← e1]
          exact h9
    · rw [if_neg fun e => h1 e.symm] at hdt
      ((try refine sU ?_);repeat(refine sN fun _=>?_;try refine sU ?_))
      exact SxRound.mk (j + 2) (allI _) rfl (pickH_all _) (nodupB_all _) ⟨by omega, by omega, by rw [hdt, hd]; exact (take_snocE hx).symm⟩ (by omega)
  · obtain rfl : k = l.length := by omega
    rw [List.take_length] at hd
    ((try refine sU ?_);repeat(refine sN fun _=>?_;try refine sU ?_))
    refine SxDone.mk fun w' hs => ?_
    rw [hd, setH_same hp]
    exact ⟨rfl, hs⟩
end Go.Proofs.YtlmefcepdadfjaaGreat
/- The library's functions of one sort at this program: written by a tool of the kit. -/
namespace Go.Proofs
open Go.Shelf
def Tryz.layFp_ren : Go.Shelf.Ren := ⟨fun | 6 => 123 | 15 => 143 | 14 => 142 | 28 => 157 | 29 => 158 | 20 => 149 | 21 => 150 | 22 => 151 | 23 => 152 | 24 => 153 | 25 => 154 | 26 => 155 | 27 => 156 | 46 => 169 | 47 => 170 | 48 => 171 | 49 => 172 | 50 => 173 | 57 => 180 | n => n, fun | 22 => 95 | 24 => 69 | 25 => 194 | 3 => 3 | 39 => 114 | 0 => 0 | 53 => 24 | 55 => 119 | 4 => 4 | 46 => 224 | 45 => 223 | 50 => 228 | 5 => 5 | 9 => 9 | 66 => 247 | 70 => 250 | 76 => 257 | 77 => 81 | n => n, fun | n => n⟩
theorem Tryz.layFp : Go.Proofs.SlLaysF0.n6 Tryz.prog Tryz.layFp_ren := {
  mixed := by kernel_rfl
  f6 := ⟨Tryz.f123.name, by decide, Tryz.func123.trans (congrArg some (by kernel_rfl))⟩
  f14 := ⟨Tryz.f142.name, by decide, Tryz.func142.trans (congrArg some (by kernel_rfl))⟩
  f15 := Tryz.func143.trans (congrArg some (by kernel_rfl))
  f20 := ⟨Tryz.f149.name, by decide, Tryz.func149.trans (congrArg some (by kernel_rfl))⟩
  f21 := ⟨Tryz.f150.name, by decide, Tryz.func150.trans (congrArg some (by kernel_rfl))⟩
  f22 := ⟨Tryz.f151.name, by decide, Tryz.func151.trans (congrArg some (by kernel_rfl))⟩
  f23 := ⟨Tryz.f152.name, by decide, Tryz.func152.trans (congrArg some (by kernel_rfl))⟩
  f24 := ⟨Tryz.f153.name, by decide, Tryz.func153.trans (congrArg some (by kernel_rfl))⟩
  f25 := ⟨Tryz.f154.name, by decide, Tryz.func154.trans (congrArg some (by kernel_rfl))⟩
  f26 := ⟨Tryz.f155.name, by decide, Tryz.func155.trans (congrArg some (by kernel_rfl))⟩
  f27 := ⟨Tryz.f156.name, by decide, Tryz.func156.trans (congrArg some (by kernel_rfl))⟩
  f28 := Tryz.func157.trans (congrArg some (by kernel_rfl))
  f29 := Tryz.func158.trans (congrArg some (by kernel_rfl))
  f46 := ⟨Tryz.f169.name, by decide, Tryz.func169.trans (congrArg some (by kernel_rfl))⟩
  f47 := Tryz.func170.trans (congrArg some (by kernel_rfl))
  f48 := Tryz.func171.trans (congrArg some (by kernel_rfl))
  f49 := ⟨Tryz.f172.name, by decide, Tryz.func172.trans (congrArg some (by kernel_rfl))⟩
  f50 := ⟨Tryz.f173.name, by decide, Tryz.func173.trans (congrArg some (by kernel_rfl))⟩
  f57 := ⟨Tryz.f180.name, by decide, Tryz.func180.trans (congrArg some (by kernel_rfl))⟩
  t0 := Tryz.underlying0
  a0 := Tryz.isAgg0
  z0 := Tryz.sizeOf0
  v0 := Tryz.zeroValue0
  t3 := Tryz.underlying3
  a3 := Tryz.isAgg3
  z3 := Tryz.sizeOf3
  v3 := Tryz.zeroValue3
  t4 := Tryz.underlying4
  a4 := Tryz.isAgg4
  z4 := Tryz.sizeOf4
  v4 := Tryz.zeroValue4
  t5 := Tryz.underlying5
  a5 := Tryz.isAgg5
  z5 := Tryz.sizeOf5
  v5 := Tryz.zeroValue5
  t9 := Tryz.underlying9
  a9 := Tryz.isAgg9
  z9 := Tryz.sizeOf9
  v9 := Tryz.zeroValue9
  t22 := Tryz.underlying95
  a22 := Tryz.isAgg95
  z22 := Tryz.sizeOf95
  v22 := Tryz.zeroValue95
  t25 := Tryz.underlying194
  a25 := Tryz.isAgg194
  z25 := Tryz.sizeOf194
  v25 := Tryz.zeroValue194
  t39 := Tryz.underlying114
  a39 := Tryz.isAgg114
  z39 := Tryz.sizeOf114
  v39 := Tryz.zeroValue114
  t45 := Tryz.underlying223
  a45 := Tryz.isAgg223
  z45 := Tryz.sizeOf223
  v45 := Tryz.zeroValue223
  t46 := Tryz.underlying224
  a46 := Tryz.isAgg224
  z46 := Tryz.sizeOf224
  v46 := Tryz.zeroValue224
  t50 := Tryz.underlying228
  a50 := Tryz.isAgg228
  z50 := Tryz.sizeOf228
  v50 := Tryz.zeroValue228
  t53 := Tryz.underlying24
  a53 := Tryz.isAgg24
  z53 := Tryz.sizeOf24
  v53 := Tryz.zeroValue24
  t55 := Tryz.underlying119
  a55 := Tryz.isAgg119
  z55 := Tryz.sizeOf119
  v55 := Tryz.zeroValue119
  t66 := Tryz.underlying247
  a66 := Tryz.isAgg247
  z66 := Tryz.sizeOf247
  v66 := Tryz.zeroValue247
  t70 := Tryz.underlying250
  a70 := Tryz.isAgg250
  z70 := Tryz.sizeOf250
  v70 := Tryz.zeroValue250
  t76 := Tryz.underlying257
  a76 := Tryz.isAgg257
  z76 := Tryz.sizeOf257
  v76 := Tryz.zeroValue257
  t77 := Tryz.underlying81
  a77 := Tryz.isAgg81
  z77 := Tryz.sizeOf81
  v77 := Tryz.zeroValue81 }
end Go.Proofs
/- The walks of layer 7: sets. -/
namespace Go.Proofs.YtlmefcepdadfjaaGreat
open Go.RowKit Go.Sort Go.Shelf

def ltF (f g : Fp) : Prop := ∃ i, i < 32 ∧ (∀ j, j < i → f.1.getD j 0 = g.1.getD j 0) ∧ (f.1.getD i 0).toNat < (g.1.getD i 0).toNat
theorem ltF_ord : Ordr ltF where
  irr := fun x ⟨i, _, _, h⟩ => Nat.lt_irrefl _ h
  tr := fun x y z ⟨i, hi, h1, h2⟩ ⟨j, hj, h3, h4⟩ => by
    rcases Nat.lt_trichotomy i j with h | h | h
    · exact ⟨i, hi, fun k hk => (h1 k hk).trans (h3 k (by omega)), by rw [← h3 i h]; exact h2⟩
    · subst h; exact ⟨i, hi, fun k hk => (h1 k hk).trans (h3 k hk), Nat.lt_trans h2 h4⟩
    · exact ⟨j, hj, fun k hk => (h1 k (by omega)).trans (h3 k hk), by rw [h1 j h]; exact h4⟩
  tri := fun x y h1 h2 => by
    have key : ∀ n, n ≤ 32 → ∀ j, j < n → x.1.getD j 0 = y.1.getD j 0 := by
      intro n
      induction n with
      | zero => intro _ j hj; omega
      | succ n ih =>
        intro hn j hj
        have ih := ih (by omega)
        rcases Nat.lt_succ_iff_lt_or_eq.1 hj with h | h
        · exact ih j h
        · subst h
          rcases Nat.lt_trichotomy (x.1.getD j 0).toNat (y.1.getD j 0).toNat with h3 | h3 | h3
          · exact absurd ⟨j, by omega, ih, h3⟩ h1
          · exact UInt8.toNat_inj.1 h3
          · exact absurd ⟨j, by omega, fun k hk => (ih k hk).symm, h3⟩ h2
    exact Subtype.ext (eq_of_getD x.2 y.2 fun j hj => key 32 (Nat.le_refl _) j hj)
def cfF (f g : Fp) : Int := cmpF f.1 g.1
def ltbF (f g : Fp) : Bool := lessF f.1 g.1
theorem ltbF_iff (f g : Fp) : ltbF f g = true ↔ ltF f g := by
  unfold ltbF lessF
  rcases dif_cases f.1 g.1 with ⟨hd, h0⟩ | ⟨i, hd, h1, h2, h3⟩
  · rw [hd]
    simp only [Bool.false_eq_true, false_iff]
    rintro ⟨i, hi, _, h⟩
    rw [h0 i hi] at h
    exact Nat.lt_irrefl _ h
  · rw [hd]
    simp only [decide_eq_true_eq]
    constructor
    · intro h; exact ⟨i, h1, h3, h⟩
    · rintro ⟨j, hj, h4, h5⟩
      rcases Nat.lt_trichotomy i j with h | h | h
      · exact absurd (h4 i h) h2
      · subst h; exact h5
      · rw [h3 j h] at h5; exact absurd h5 (Nat.lt_irrefl _)
theorem cfF_iff (f g : Fp) : cfF f g < 0 ↔ ltF f g := by
  rw [← ltbF_iff]
  unfold ltbF cfF
  rw [← cmpF_less, decide_eq_true_iff]
abbrev setF7 (l : List Fp) : List Fp := setS cfF l
theorem HSet_any (l : List Fp) (hl : l.length ≤ 1000000) (ao : Option Addr) (cap : Nat) (w : World) (hr : Rd w ao (fpE.fl l)) :
    Calls Tryz.prog 97 #[.slice ao l.length cap] w fun e w' => ∃ ao' cap', e = .returned (.slice ao' (setF7 l).length cap') ∧ NewRow w w' ao' (setF7 l).length cap' 69 32 (fpE.fl (setF7 l)) := by
  refine sx_fn (S := SX) (M := []) (N := 10) (H0 := [.rd ao (fpE.fl l)]) Tryz.func97 rfl rfl rfl (Sat.oneRd _ hr) ?_
  ((try refine sU ?_);repeat(refine sN fun _=>?_;try refine sU ?_))
  refine SxCall.newRow (fun w hs => (CloneFp_any l ao cap hl w (hs.rd 0 rfl)).mono fun e w' ⟨ao', cap', h1, h2⟩ => ⟨ao', cap', h1, h2⟩) fun ao' cap' => ?_
  ((try refine sU ?_);repeat(refine sN fun _=>?_;try refine sU ?_))
  refine SxCall.sort (S := SX) (cf := cfF) (g := 124) (cb := #[]) (l := l) (n := l.length) Tryz.layFp fpE Tryz.isAgg69 Tryz.sizeOf69 (cmpOk_of ltF_ord cfF_iff) (enters_of Tryz.func124 (by kernel_rfl) rfl) 0 rfl (by omega) (fun x y w w' _ _ => Set1_any x.1 y.1 x.2 y.2 w') ?_
  ((try refine sU ?_);repeat(refine sN fun _=>?_;try refine sU ?_))
  have e : l.length = (sorted cfF l).length := (sorted_len cfF l).symm
  rw [e]
  refine SxCall.mk fun w hs => (CompactFp_sat hs 0 (by rw [sorted_len]; exact hl) rfl).mono fun en w' he => ⟨_, _, he.1, he.2, ?_⟩
  ((try refine sU ?_);repeat(refine sN fun _=>?_;try refine sU ?_))
  exact SxDone.mk fun w' hs => ⟨ao', cap', rfl, hs.newRow 0 rfl⟩
end Go.Proofs.YtlmefcepdadfjaaGreat
/- The walks of layer 7: the document's sets. -/
namespace Go.Proofs.YtlmefcepdadfjaaGreat
open Go.RowKit

theorem RHas_any (l : List Fp) (x : Fp) (ao : Option Addr) (cap : Nat) (w : World) (hr : Rd w ao (fpE.fl l)) :
    Calls Tryz.prog 58 #[.slice ao l.length cap, fpV x.1] w fun e w' => e = .returned (.bool (decide (x ∈ l))) ∧ Below w.heap.size w w' := by
  have hlen : l.length * 32 ≤ maxLen := by have := hr.1; rw [rowFp_len] at this; exact this
  unfold maxLen at hlen
  refine sx_fn (S := SX) (M := []) (N := 18) (H0 := [.rd ao (fpE.fl l)]) Tryz.func58 rfl rfl rfl (Sat.oneRd _ hr) ?_
  ((try refine sU ?_);repeat(refine sN fun _=>?_;try refine sU ?_))
  rename_i b
  refine SxCode.loop (σ := Nat) [5] [6, 7, 8, 9, 12, 13, 14, 15, 16, 17, 4, 10, 11, 5] (fun k => [.int .i64 (k : Nat)]) (fun _ => [.blk b 69 (fpE.enc x), .rd ao (fpE.fl l)]) (fun k => k ≤ l.length ∧ x ∉ l.take k) (fun k => l.length - k) 0 [0, 1] rfl rfl rfl rfl ⟨Nat.zero_le _, by simp⟩ ?_
  rintro k ⟨hk, hno⟩
  ((try refine sU ?_);repeat(refine sN fun _=>?_;try refine sU ?_))
  refine SxIf.dec (fun h => ?_) (fun h => ?_)
  · have hlt : k < l.length := by omega
    obtain ⟨y, hy⟩ : ∃ y, l[k]? = some y := ⟨l[k], by simp [hlt]⟩
    ((try refine sU ?_);repeat(refine sN fun _=>?_;try refine sU ?_))
    refine SxCode.drawAll rfl [] ?_
    ((try refine sU ?_);repeat(refine sN fun _=>?_;try refine sU ?_))
    refine SxIA.rd 1 _ rfl k rfl hlt (by rw [rowFp_len]; omega) fun g off ha => ?_
    ((try refine sU ?_);repeat(refine sN fun _=>?_;try refine sU ?_))
    refine SxLdN.rd 1 rfl ha rfl (vs := fpE.enc y) (fpE.len y) (rowFp_at hy) ?_
    ((try refine sU ?_);repeat(refine sN fun _=>?_;try refine sU ?_))
    refine SxLdN.blk 0 rfl (vs := fpE.enc x) (fpE.len x) (rowFp_all x) ?_
    ((try refine sU ?_);repeat(refine sN fun _=>?_;try refine sU ?_))
    refine SxRun.eqFp (x := y) (y := x) ?_
    ((try refine sU ?_);repeat(refine sN fun _=>?_;try refine sU ?_))
    refine SxIf.dec (fun h1 => ?_) (fun h1 => ?_)
    · ((try refine sU ?_);repeat(refine sN fun _=>?_;try refine sU ?_))
      exact SxDone.mk fun w' hs => ⟨by rw [decide_eq_true (h1 ▸ List.mem_of_getElem? hy)]; rfl, hs.touch.below⟩
    · ((try refine sU ?_);repeat(refine sN fun _=>?_;try refine sU ?_))
      exact SxRound.mk (k + 1) [0, 1] rfl rfl rfl ⟨hlt, fun h2 => by
        rw [take_snocE hy, List.mem_append, List.mem_singleton] at h2
        exact h2.elim hno fun e => h1 e.symm⟩ (by omega)
  · obtain rfl : k = l.length := by omega
    rw [List.take_length] at hno
    ((try refine sU ?_);repeat(refine sN fun _=>?_;try refine sU ?_))
    exact SxDone.mk fun w' hs => ⟨by rw [decide_eq_false hno]; rfl, hs.touch.below⟩
abbrev setR7 (l : List Fp) : List Fp := setR ltbF l
theorem setR7_eq (l : List Fp) : setR7 l = setF7 l := (setS_R ltF_ord cfF_iff ltbF_iff l).symm
theorem takeWhile_at {α : Type} {p : α → Bool} {l : List α} {k : Nat} (h1 : ∀ j y, j < k → l[j]? = some y → p y = true) (h2 : ∀ y, l[k]? = some y → p y = false) (hk : k ≤ l.length) : l.takeWhile p = l.take k ∧ l.dropWhile p = l.drop k := by
  induction k generalizing l with
  | zero =>
    cases l with
    | nil => exact ⟨rfl, rfl⟩
    | cons y r =>
      have := h2 y rfl
      rw [List.takeWhile_cons_of_neg (by rw [this]; simp), List.dropWhile_cons_of_neg (by rw [this]; simp)]
      exact ⟨rfl, rfl⟩
  | succ k ih =>
    cases l with
    | nil => simp at hk
    | cons y r =>
      have hy := h1 0 y (by omega) rfl
      obtain ⟨e1, e2⟩ := ih (l := r) (fun j z hj hz => h1 (j + 1) z (by omega) (by simpa using hz)) (fun z hz => h2 z (by simpa using hz)) (by simpa using hk)
      rw [List.takeWhile_cons_of_pos hy, List.dropWhile_cons_of_pos hy, e1, e2]
      exact ⟨rfl, rfl⟩
set_option maxHeartbeats 2000000 in
theorem RSet_any (l : List Fp) (hl : l.length ≤ 1000000) (ao : Option Addr) (cap : Nat) (w : World) (hr : Rd w ao (fpE.fl l)) :
    Calls Tryz.prog 109 #[.slice ao l.length cap] w fun e w' => ∃ ao' cap', e = .returned (.slice ao' (setR7 l).length cap') ∧ NewRow w w' ao' (setR7 l).length cap' 69 32 (fpE.fl (setR7 l)) := by
  refine sx_fn (S := SX) (M := []) (N := 54) (H0 := [.row none 0 0 69 32 [], .rd ao (fpE.fl l)]) Tryz.func109 rfl rfl rfl ((Sat.oneRd _ hr).nilRow 69 32) ?_
  ((try refine sU ?_);repeat(refine sN fun _=>?_;try refine sU ?_))
  refine SxCode.loop (σ := Nat × Option Addr × Nat) [4, 3] [7, 8, 9, 10, 13, 14, 15, 16, 17, 18, 5, 19, 20, 21, 22, 23, 24, 25, 26, 27, 28, 29, 30, 31, 32, 33, 34, 35, 36, 37, 38, 39, 40, 6, 41, 42, 43, 44, 45, 46, 47, 48, 49, 50, 51, 52, 3, 11, 12, 4] (fun s => [.int .i64 (s.1 : Nat), .slice s.2.1 (setR7 (l.take s.1)).length s.2.2]) (fun s => [.row s.2.1 (setR7 (l.take s.1)).length s.2.2 69 32 (fpE.fl (setR7 (l.take s.1))), .rd ao (fpE.fl l)])
    (fun s => s.1 ≤ l.length) (fun s => l.length - s.1) (0, none, 0) [0, 1] rfl rfl rfl rfl (Nat.zero_le _) ?_
  rintro ⟨i, oo, oc⟩ hi
  dsimp only at hi ⊢
  have hon := setR_len ltbF (l.take i)
  rw [List.length_take] at hon
  obtain ⟨o, ho⟩ : ∃ o, o = setR7 (l.take i) := ⟨_, rfl⟩
  rw [← ho]
  have hon : o.length ≤ i := by rw [ho]; show (setR ltbF _).length ≤ _; omega
  refine sx_base 0 rfl fun hoo hoc => ?_
  ((try refine sU ?_);repeat(refine sN fun _=>?_;try refine sU ?_))
  refine SxIf.dec (fun h => ?_) (fun h => ?_)
  · have hlt : i < l.length := by omega
    obtain ⟨x, hx⟩ : ∃ x, l[i]? = some x := ⟨l[i], by simp [hlt]⟩
    have hsn : setR7 (l.take (i + 1)) = if x ∈ o then o else putIn ltbF x o := by
      rw [take_snocE hx]
      show setR ltbF _ = _
      rw [setR_snoc, show setR ltbF (l.take i) = o from ho.symm]
      congr 1
    ((try refine sU ?_);repeat(refine sN fun _=>?_;try refine sU ?_))
    refine SxIA.rd 1 _ rfl i rfl hlt (by rw [rowFp_len]; omega) fun g off ha => ?_
    ((try refine sU ?_);repeat(refine sN fun _=>?_;try refine sU ?_))
    refine SxLdN.rd 1 rfl ha rfl (vs := fpE.enc x) (fpE.len x) (rowFp_at hx) ?_
    ((try refine sU ?_);repeat(refine sN fun _=>?_;try refine sU ?_))
    refine SxCall.quietS (fun w hs => RHas_any o x oo oc w (hs.rowRd 0 rfl (by rw [rowFp_len]; unfold maxLen; omega))) ?_
    ((try refine sU ?_);repeat(refine sN fun _=>?_;try refine sU ?_))
    refine SxIf.dec (fun h1 => ?_) (fun h1 => ?_)
    · rw [if_pos h1] at hsn
      ((try refine sU ?_);repeat(refine sN fun _=>?_;try refine sU ?_))
      exact SxRound.mk (i + 1, oo, oc) [0, 1] (by dsimp only; rw [hsn]; rfl) (by dsimp only; rw [hsn]; rfl) rfl hlt (by dsimp only; omega)
    · rw [if_neg h1] at hsn
      ((try refine sU ?_);repeat(refine sN fun _=>?_;try refine sU ?_))
      refine SxCode.loop (σ := Nat) [5] [19, 20, 21, 22, 23, 24, 25, 26, 27, 28, 29, 30, 31, 32, 33, 34, 35, 5] (fun k => [.int .i64 (k : Nat)]) (fun _ => [.row oo o.length oc 69 32 (fpE.fl o), .rd ao (fpE.fl l)]) (fun k => k ≤ o.length ∧ ∀ j y, j < k → o[j]? = some y → ltbF y x = true) (fun k => o.length - k) 0 [0, 1] rfl rfl rfl rfl ⟨Nat.zero_le _, fun j y hj => absurd hj (Nat.not_lt_zero _)⟩ ?_
      rintro k ⟨hk, hall⟩
      have back : ∀ (hno : ∀ y, o[k]? = some y → ltbF y x = false), putIn ltbF x o = o.take k ++ x :: o.drop k := fun hno => by
        obtain ⟨e1, e2⟩ := takeWhile_at (p := fun y => ltbF y x) hall hno hk
        unfold putIn
        rw [e1, e2]
      have hln : ∀ hno : ∀ y, o[k]? = some y → ltbF y x = false, (setR7 (l.take (i + 1))).length = 0 + (k - 0) + 1 + (o.length - k) := fun hno => by
        rw [hsn, back hno, List.length_append, List.length_cons, List.length_take, List.length_drop]
        omega
      ((try refine sU ?_);repeat(refine sN fun _=>?_;try refine sU ?_))
      refine SxCode.drawAll rfl [] ?_
      ((try refine sU ?_);repeat(refine sN fun _=>?_;try refine sU ?_))
      refine SxIf.dec (fun h5 => ?_) (fun h5 => ?_)
      · have hkl : k < o.length := by omega
        obtain ⟨y, hy⟩ : ∃ y, o[k]? = some y := ⟨o[k], by simp [hkl]⟩
        obtain ⟨g, rfl⟩ := hoo (by omega)
        ((try refine sU ?_);repeat(refine sN fun _=>?_;try refine sU ?_))
        refine SxIA.row 0 _ _ _ rfl k rfl hkl fun g' hg' => ?_
        obtain rfl : g = g' := by simpa using hg'
        ((try refine sU ?_);repeat(refine sN fun _=>?_;try refine sU ?_))
        refine SxLdN.row 0 rfl rfl rfl (vs := fpE.enc y) (fpE.len y) (rowFp_at hy) ?_
        ((try refine sU ?_);repeat(refine sN fun _=>?_;try refine sU ?_))
        refine SxIA.rd 1 _ rfl i rfl hlt (by rw [rowFp_len]; omega) fun g off ha => ?_
        ((try refine sU ?_);repeat(refine sN fun _=>?_;try refine sU ?_))
        refine SxLdN.rd 1 rfl ha rfl (vs := fpE.enc x) (fpE.len x) (rowFp_at hx) ?_
        ((try refine sU ?_);repeat(refine sN fun _=>?_;try refine sU ?_))
        refine SxCall.quiet (RLess_any y.1 x.1 y.2 x.2) ?_
        ((try refine sU ?_);repeat(refine sN fun _=>?_;try refine sU ?_))
        refine ⟨fun hg => ?_, fun hg => ?_⟩
        · ((try refine sU ?_);repeat(refine sN fun _=>?_;try refine sU ?_))
          refine SxRound.mk (k + 1) [0, 1] rfl rfl rfl ⟨by omega, fun j z hj hz => ?_⟩ (by omega)
          rcases Nat.lt_succ_iff_lt_or_eq.1 hj with h6 | h6
          · exact hall j z h6 hz
          · subst h6
            obtain rfl := Option.some.inj (hy.symm.trans hz)
            exact hg
        · have hno : ∀ y, o[k]? = some y → ltbF y x = false := fun z hz => by
            obtain rfl := Option.some.inj (hy.symm.trans hz)
            exact hg
          ((try refine sU ?_);repeat(refine sN fun _=>?_;try refine sU ?_))
          refine SxBnd.mk 0 k rfl rfl (by omega) (by omega) fun o1 a1 a2 => ?_
          ((try refine sU ?_);repeat(refine sN fun _=>?_;try refine sU ?_))
          refine SxApp.from_ 0 rfl (vs := fpE.fl (o.take k)) (fun W M w hs => by
            have h8 := (hs.rowRd 1 rfl (by rw [rowFp_len]; unfold maxLen; omega)).sub (ao' := o1) 0 (k * 32) (fun hz => by
              rw [rowFp_len] at hz
              exact a1 (by omega))
            have h9 := fpE.fl_take o k
            rw [List.drop_zero, show (fpE.fl o).take (k * 32) = _ from h9] at h8
            exact h8) (by rw [rowFp_len, List.length_take, Nat.min_eq_left (by omega)]; rfl) (fpE.fl_allOne _) (by unfold maxLen; omega) (by omega) (cs' := fpE.fl (o.take k)) rfl fun x1 c1 => ?_
          ((try refine sU ?_);repeat(refine sN fun _=>?_;try refine sU ?_))
          refine SxIA.rd 2 _ rfl i rfl hlt (by rw [rowFp_len]; omega) fun g off ha => ?_
          ((try refine sU ?_);repeat(refine sN fun _=>?_;try refine sU ?_))
          refine SxLdN.rd 2 rfl ha rfl (vs := fpE.enc x) (fpE.len x) (rowFp_at hx) ?_
          ((try refine sU ?_);repeat(refine sN fun _=>?_;try refine sU ?_))
          refine SxFill.one rfl (fpE.len x) ?_
          ((try refine sU ?_);repeat(refine sN fun _=>?_;try refine sU ?_))
          refine SxApp.mk 1 rfl 0 (.inr (.inr (.inr ⟨by decide, _, rfl⟩))) (m := 1) (by show (fpE.enc x).length = 1 * 32; exact fpE.len x) (fpE.one x) (by unfold maxLen; omega) (by omega) (cs' := fpE.fl (o.take k ++ [x])) (by rw [fpE.fl_append, fpE.fl_one]; rfl) fun x2 c2 => ?_
          ((try refine sU ?_);repeat(refine sN fun _=>?_;try refine sU ?_))
          refine SxBnd.mk k o.length rfl rfl (by omega) (by omega) fun o2 b1 b2 => ?_
          ((try refine sU ?_);repeat(refine sN fun _=>?_;try refine sU ?_))
          refine SxApp.from_ 1 rfl (vs := fpE.fl (o.drop k)) (fun W M w hs => by
            have h8 := (hs.rowRd 2 rfl (by rw [rowFp_len]; unfold maxLen; omega)).sub (ao' := o2) (k * 32) (o.length * 32) (fun hz => by
              rw [rowFp_len] at hz
              exact b1 (by omega))
            have h9 := fpE.fl_drop o k
            rw [show (fpE.fl o).drop (k * 32) = _ from h9, List.take_of_length_le (by rw [rowFp_len, List.length_drop]; omega)] at h8
            exact h8) (by rw [rowFp_len, List.length_drop]) (fpE.fl_allOne _) (by unfold maxLen; omega) (by omega) (cs' := fpE.fl (putIn ltbF x o)) (by rw [← fpE.fl_append, back hno, List.append_assoc]; rfl) fun x3 c3 => ?_
          ((try refine sU ?_);repeat(refine sN fun _=>?_;try refine sU ?_))
          exact SxRound.mk (i + 1, x3, c3) [1, 3] (by dsimp only; rw [hln hno]; rfl) (by dsimp only; rw [hln hno, hsn]; rfl) rfl hlt (by dsimp only; omega)
      · have hno : ∀ y, o[k]? = some y → ltbF y x = false := fun z hz => by
          rw [List.getElem?_eq_none (by omega)] at hz
          cases hz
        ((try refine sU ?_);repeat(refine sN fun _=>?_;try refine sU ?_))
        refine SxBnd.mk 0 k rfl rfl (by omega) (by omega) fun o1 a1 a2 => ?_
        ((try refine sU ?_);repeat(refine sN fun _=>?_;try refine sU ?_))
        refine SxApp.from_ 0 rfl (vs := fpE.fl (o.take k)) (fun W M w hs => by
          have h8 := (hs.rowRd 1 rfl (by rw [rowFp_len]; unfold maxLen; omega)).sub (ao' := o1) 0 (k * 32) (fun hz => by
            rw [rowFp_len] at hz
            exact a1 (by omega))
          have h9 := fpE.fl_take o k
          rw [List.drop_zero, show (fpE.fl o).take (k * 32) = _ from h9] at h8
          exact h8) (by rw [rowFp_len, List.length_take, Nat.min_eq_left (by omega)]; rfl) (fpE.fl_allOne _) (by unfold maxLen; omega) (by omega) (cs' := fpE.fl (o.take k)) rfl fun x1 c1 => ?_
        ((try refine sU ?_);repeat(refine sN fun _=>?_;try refine sU ?_))
        refine SxIA.rd 2 _ rfl i rfl hlt (by rw [rowFp_len]; omega) fun g off ha => ?_
        ((try refine sU ?_);repeat(refine sN fun _=>?_;try refine sU ?_))
        refine SxLdN.rd 2 rfl ha rfl (vs := fpE.enc x) (fpE.len x) (rowFp_at hx) ?_
        ((try refine sU ?_);repeat(refine sN fun _=>?_;try refine sU ?_))
        refine SxFill.one rfl (fpE.len x) ?_
        ((try refine sU ?_);repeat(refine sN fun _=>?_;try refine sU ?_))
        refine SxApp.mk 1 rfl 0 (.inr (.inr (.inr ⟨by decide, _, rfl⟩))) (m := 1) (by show (fpE.enc x).length = 1 * 32; exact fpE.len x) (fpE.one x) (by unfold maxLen; omega) (by omega) (cs' := fpE.fl (o.take k ++ [x])) (by rw [fpE.fl_append, fpE.fl_one]; rfl) fun x2 c2 => ?_
        ((try refine sU ?_);repeat(refine sN fun _=>?_;try refine sU ?_))
        refine SxBnd.mk k o.length rfl rfl (by omega) (by omega) fun o2 b1 b2 => ?_
        ((try refine sU ?_);repeat(refine sN fun _=>?_;try refine sU ?_))
        refine SxApp.from_ 1 rfl (vs := fpE.fl (o.drop k)) (fun W M w hs => by
          have h8 := (hs.rowRd 2 rfl (by rw [rowFp_len]; unfold maxLen; omega)).sub (ao' := o2) (k * 32) (o.length * 32) (fun hz => by
            rw [rowFp_len] at hz
            exact b1 (by omega))
          have h9 := fpE.fl_drop o k
          rw [show (fpE.fl o).drop (k * 32) = _ from h9, List.take_of_length_le (by rw [rowFp_len, List.length_drop]; omega)] at h8
          exact h8) (by rw [rowFp_len, List.length_drop]) (fpE.fl_allOne _) (by unfold maxLen; omega) (by omega) (cs' := fpE.fl (putIn ltbF x o)) (by rw [← fpE.fl_append, back hno, List.append_assoc]; rfl) fun x3 c3 => ?_
        ((try refine sU ?_);repeat(refine sN fun _=>?_;try refine sU ?_))
        exact SxRound.mk (i + 1, x3, c3) [1, 3] (by dsimp only; rw [hln hno]; rfl) (by dsimp only; rw [hln hno, hsn]; rfl) rfl hlt (by dsimp only; omega)
  · obtain rfl : i = l.length := by omega
    rw [List.take_length] at ho
    subst ho
    ((try refine sU ?_);repeat(refine sN fun _=>?_;try refine sU ?_))
    exact SxDone.mk fun w' hs => ⟨oo, oc, rfl, hs.newRow 0 rfl⟩
end Go.Proofs.YtlmefcepdadfjaaGreat
/- The walks of layer 7: hooks of lists; what lists have in common. -/
namespace Go.Proofs.YtlmefcepdadfjaaGreat
open Go.RowKit

theorem filter_snoc {α : Type} (p : α → Bool) {l : List α} {i : Nat} {x : α} (h : l[i]? = some x) : (l.take (i + 1)).filter p = if p x = true then (l.take i).filter p ++ [x] else (l.take i).filter p := by
  rw [take_snocE h, List.filter_append]
  by_cases hp : p x = true
  · rw [if_pos hp, List.filter_cons_of_pos hp]; rfl
  · rw [if_neg hp, List.filter_cons_of_neg hp, List.filter_nil, List.append_nil]
theorem filter_len {α : Type} (p : α → Bool) (l : List α) (i : Nat) : ((l.take i).filter p).length ≤ i := by
  have h := List.length_filter_le p (l.take i)
  rw [List.length_take] at h
  omega
set_option maxHeartbeats 1000000 in
theorem ROf_any (l : List Fp) (hl : l.length ≤ 1000000) (ao : Option Addr) (cap : Nat) (n : Int) (w : World) (hr : Rd w ao (fpE.fl l)) :
    Calls Tryz.prog 82 #[.slice ao l.length cap, .int .i64 n] w fun e w' => ∃ ao' cap', e = .returned (.slice ao' (setR7 (l.filter (fun x => isF x.1 n))).length cap') ∧ NewRow w w' ao' (setR7 (l.filter (fun x => isF x.1 n))).length cap' 69 32 (fpE.fl (setR7 (l.filter (fun x => isF x.1 n)))) := by
  refine sx_fn (S := SX) (M := []) (N := 28) (H0 := .row none 0 0 69 32 [] :: [.rd ao (fpE.fl l)]) Tryz.func82 rfl rfl rfl (Sat.nilRow 69 32 (Sat.oneRd _ hr)) ?_
  ((try refine sU ?_);repeat(refine sN fun _=>?_;try refine sU ?_))
  refine SxCode.loop (σ := Nat × Option Addr × Nat) [6, 5] [7, 8, 9, 10, 13, 14, 15, 16, 17, 18, 19, 20, 21, 22, 23, 24, 25, 5, 11, 12, 6] (fun s => [.int .i64 (s.1 : Nat), .slice s.2.1 ((l.take s.1).filter (fun x => isF x.1 n)).length s.2.2]) (fun s => .row s.2.1 ((l.take s.1).filter (fun x => isF x.1 n)).length s.2.2 69 32 (fpE.fl ((l.take s.1).filter (fun x => isF x.1 n))) :: [.rd ao (fpE.fl l)])
    (fun s => s.1 ≤ l.length) (fun s => l.length - s.1) (0, none, 0) [0, 1] rfl rfl rfl rfl (Nat.zero_le _) ?_
  rintro ⟨i, oo, oc⟩ hi
  dsimp only at hi ⊢
  have hon := filter_len (fun x => isF x.1 n) l i
  obtain ⟨o, ho⟩ : ∃ o, o = (l.take i).filter (fun x => isF x.1 n) := ⟨_, rfl⟩
  rw [← ho] at hon ⊢
  ((try refine sU ?_);repeat(refine sN fun _=>?_;try refine sU ?_))
  refine SxIf.dec (fun h => ?_) (fun h => ?_)
  · have hlt : i < l.length := by omega
    obtain ⟨x, hx⟩ : ∃ x, l[i]? = some x := ⟨l[i], by simp [hlt]⟩
    have hsn := filter_snoc (fun x => isF x.1 n) hx
    rw [← ho] at hsn
    ((try refine sU ?_);repeat(refine sN fun _=>?_;try refine sU ?_))
    refine SxIA.rd 1 _ rfl i rfl hlt (by rw [rowFp_len]; omega) fun g off ha => ?_
    ((try refine sU ?_);repeat(refine sN fun _=>?_;try refine sU ?_))
    refine SxLdN.rd 1 rfl ha rfl (vs := fpE.enc x) (fpE.len x) (rowFp_at hx) ?_
    ((try refine sU ?_);repeat(refine sN fun _=>?_;try refine sU ?_))
    refine SxCall.quiet (RIs_any x.1 x.2 n) ?_
    ((try refine sU ?_);repeat(refine sN fun _=>?_;try refine sU ?_))
    refine ⟨fun h1 => ?_, fun h1 => ?_⟩
    · rw [if_pos (by simpa using h1)] at hsn
      ((try refine sU ?_);repeat(refine sN fun _=>?_;try refine sU ?_))
      refine SxIA.rd 1 _ rfl i rfl hlt (by rw [rowFp_len]; omega) fun g off ha => ?_
      ((try refine sU ?_);repeat(refine sN fun _=>?_;try refine sU ?_))
      refine SxLdN.rd 1 rfl ha rfl (vs := fpE.enc x) (fpE.len x) (rowFp_at hx) ?_
      ((try refine sU ?_);repeat(refine sN fun _=>?_;try refine sU ?_))
      refine SxFill.one rfl (fpE.len x) ?_
      ((try refine sU ?_);repeat(refine sN fun _=>?_;try refine sU ?_))
      refine SxApp.mk 1 rfl 0 (.inr (.inr (.inr ⟨by decide, _, rfl⟩))) (m := 1) (by show (fpE.enc x).length = 1 * 32; exact fpE.len x) (fpE.one x) (by unfold maxLen; omega) (by omega) (cs' := fpE.fl (o ++ [x])) (by rw [fpE.fl_append, fpE.fl_one]; rfl) fun x3 c3 => ?_
      ((try refine sU ?_);repeat(refine sN fun _=>?_;try refine sU ?_))
      exact SxRound.mk (i + 1, x3, c3) [1, 2] (by dsimp only; rw [hsn, List.length_append]; rfl) (by dsimp only; rw [hsn, List.length_append]; rfl) rfl hlt (by dsimp only; omega)
    · rw [if_neg (by simp [h1])] at hsn
      ((try refine sU ?_);repeat(refine sN fun _=>?_;try refine sU ?_))
      exact SxRound.mk (i + 1, oo, oc) [0, 1] (by dsimp only; rw [hsn]; rfl) (by dsimp only; rw [hsn]; rfl) rfl hlt (by dsimp only; omega)
  · obtain rfl : i = l.length := by omega
    rw [List.take_length] at ho
    subst ho
    have hfl := List.length_filter_le (fun x => isF x.1 n) l
    ((try refine sU ?_);repeat(refine sN fun _=>?_;try refine sU ?_))
    refine SxCall.newRow (fun w hs => RSet_any (l.filter (fun x => isF x.1 n)) (by omega) oo oc w (hs.rowRd 0 rfl (by rw [rowFp_len]; unfold maxLen; omega))) fun ao' cap' => ?_
    ((try refine sU ?_);repeat(refine sN fun _=>?_;try refine sU ?_))
    exact SxDone.mk fun w' hs => ⟨ao', cap', rfl, hs.newRow 0 rfl⟩
end Go.Proofs.YtlmefcepdadfjaaGreat
