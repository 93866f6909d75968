/- The walks of layer 7: sets. -/
import Derived.Test.YtdbappehchgbcaaGreatZSlFp
import Derived.Test.YtdbappehchgbcaaGreatZGen
import Derived.Test.YtdbappehchgbcaaGreatZLyFp
namespace Go.Proofs.YtdbappehchgbcaaGreat
open Go.RowKit Go.Sort Go.Shelf

/-- Fingerprint ahead of fingerprint. -/
def ltF (f g : Fp) : Prop := ∃ i, i < 32 ∧ (∀ j, j < i → f.1.getD j 0 = g.1.getD j 0) ∧ (f.1.getD i 0).toNat < (g.1.getD i 0).toNat
theorem ltF_ord : Ordr ltF where
  irr := fun x ⟨i, _, _, h⟩ => Nat.lt_irrefl _ h
  tr := fun x y z ⟨i, hi, h1, h2⟩ ⟨j, hj, h3, h4⟩ => by
    rcases Nat.lt_trichotomy i j with h | h | h
    · exact ⟨i, hi, fun k hk => (h1 k hk).trans (h3 k (by omega)), by rw [← h3 i h]; exact h2⟩
    · subst h; exact ⟨i, hi, fun k hk => (h1 k hk).trans (h3 k hk), Nat.lt_trans h2 h4⟩
    · exact ⟨j, hj, fun k hk => (h1 k (by omega)).trans (h3 k hk), by rw [h1 j h]; exact h4⟩
  tri := fun x y h1 h2 => by
    have key : ∀ n, n ≤ 32 → ∀ j, j < n → x.1.getD j 0 = y.1.getD j 0 := by
      intro n
      induction n with
      | zero => intro _ j hj; omega
      | succ n ih =>
        intro hn j hj
        have ih := ih (by omega)
        rcases Nat.lt_succ_iff_lt_or_eq.1 hj with h | h
        · exact ih j h
        · subst h
          rcases Nat.lt_trichotomy (x.1.getD j 0).toNat (y.1.getD j 0).toNat with h3 | h3 | h3
          · exact absurd ⟨j, by omega, ih, h3⟩ h1
          · exact UInt8.toNat_inj.1 h3
          · exact absurd ⟨j, by omega, fun k hk => (ih k hk).symm, h3⟩ h2
    exact Subtype.ext (eq_of_getD x.2 y.2 fun j hj => key 32 (Nat.le_refl _) j hj)
def cfF (f g : Fp) : Int := cmpF f.1 g.1
def ltbF (f g : Fp) : Bool := lessF f.1 g.1
theorem ltbF_iff (f g : Fp) : ltbF f g = true ↔ ltF f g := by
  unfold ltbF lessF
  rcases dif_cases f.1 g.1 with ⟨hd, h0⟩ | ⟨i, hd, h1, h2, h3⟩
  · rw [hd]
    simp only [Bool.false_eq_true, false_iff]
    rintro ⟨i, hi, _, h⟩
    rw [h0 i hi] at h
    exact Nat.lt_irrefl _ h
  · rw [hd]
    simp only [decide_eq_true_eq]
    constructor
    · intro h; exact ⟨i, h1, h3, h⟩
    · rintro ⟨j, hj, h4, h5⟩
      rcases Nat.lt_trichotomy i j with h | h | h
      · exact absurd (h4 i h) h2
      · subst h; exact h5
      · rw [h3 j h] at h5; exact absurd h5 (Nat.lt_irrefl _)
theorem cfF_iff (f g : Fp) : cfF f g < 0 ↔ ltF f g := by
  rw [← ltbF_iff]
  unfold ltbF cfF
  rw [← cmpF_less, decide_eq_true_iff]
abbrev setF7 (l : List Fp) : List Fp := setS cfF l
theorem HSet_any (l : List Fp) (hl : l.length ≤ 1000000) (ao : Option Addr) (cap : Nat) (w : World) (hr : Rd w ao (fpE.fl l)) :
    Calls Tryz.prog 53 #[.slice ao l.length cap] w fun e w' => ∃ ao' cap', e = .returned (.slice ao' (setF7 l).length cap') ∧ NewRow w w' ao' (setF7 l).length cap' 39 32 (fpE.fl (setF7 l)) := by
  refine sx_fn (S := SX) (M := []) (N := 10) (H0 := [.rd ao (fpE.fl l)]) Tryz.func53 rfl rfl rfl (Sat.oneRd _ hr) ?_
  ((try refine sx_use ?_); (repeat (refine SxNew.mk fun _ => ?_; (try refine sx_use ?_))))
  refine SxCall.newRow (fun w hs => (CloneFp_any l ao cap hl w (hs.rd 0 rfl)).mono fun e w' ⟨ao', cap', h1, h2⟩ => ⟨ao', cap', h1, h2⟩) fun ao' cap' => ?_
  ((try refine sx_use ?_); (repeat (refine SxNew.mk fun _ => ?_; (try refine sx_use ?_))))
  refine SxCall.sort (S := SX) (cf := cfF) (g := 78) (cb := #[]) (l := l) (n := l.length) Tryz.layFp fpE Tryz.isAgg39 Tryz.sizeOf39 (cmpOk_of ltF_ord cfF_iff) (enters_of Tryz.func78 (by kernel_rfl) rfl) 0 rfl (by omega) (fun x y w w' _ _ => Set1_any x.1 y.1 x.2 y.2 w') ?_
  ((try refine sx_use ?_); (repeat (refine SxNew.mk fun _ => ?_; (try refine sx_use ?_))))
  have e : l.length = (sorted cfF l).length := (sorted_len cfF l).symm
  rw [e]
  refine SxCall.mk fun w hs => (CompactFp_sat hs 0 (by rw [sorted_len]; exact hl) rfl).mono fun en w' he => ⟨_, _, he.1, he.2, ?_⟩
  ((try refine sx_use ?_); (repeat (refine SxNew.mk fun _ => ?_; (try refine sx_use ?_))))
  exact SxDone.mk fun w' hs => ⟨ao', cap', rfl, hs.newRow 0 rfl⟩
end Go.Proofs.YtdbappehchgbcaaGreat
