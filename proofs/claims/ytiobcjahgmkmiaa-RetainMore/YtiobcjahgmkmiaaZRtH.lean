/- Which backups are kept. -/
import Derived.Test.YtiobcjahgmkmiaaZRtG
import Derived.Test.YtiobcjahgmkmiaaZRtD
namespace Go.Proofs.Ytiobcjahgmkmiaa
open Go.RowKit

theorem exists_mon {n : Nat} (h : n < 3652059) : ∃ v : Int, ∃ y m d, IsD y m d ∧ numD y m d = n ∧ v = 12 * (y : Nat) + (m : Nat) - 1 := by
  obtain ⟨y, m, d, h1, h2⟩ := exists_date h
  exact ⟨_, y, m, d, h1, h2, rfl⟩
/-- The month of a day's number. -/
noncomputable def monI (n : Nat) : Int := if h : n < 3652059 then Classical.choose (exists_mon h) else 0
theorem monI_eq {y m d : Nat} (h : IsD y m d) : monI (numD y m d) = 12 * (y : Nat) + (m : Nat) - 1 := by
  have hlt := numD_lt h
  unfold monI
  rw [dif_pos hlt]
  obtain ⟨y', m', d', h1, h2, h3⟩ := Classical.choose_spec (exists_mon hlt)
  obtain ⟨e1, e2, _⟩ := numD_inj h1 h h2
  rw [h3, e1, e2]
theorem monI_mono {a b : Nat} (hab : a ≤ b) (hb : b < 3652059) : monI a ≤ monI b := by
  obtain ⟨y, m, d, h1, rfl⟩ := exists_date (show a < 3652059 by omega)
  obtain ⟨y', m', d', h2, rfl⟩ := exists_date hb
  rw [monI_eq h1, monI_eq h2]
  have a1 := numD_year h1
  have a2 := numD_year h2
  have hy : y ≤ y' := by
    rcases Nat.lt_or_ge y' y with h | h
    · have := ahN_mono (a := y' + 1) (b := y) (by omega) (by omega); omega
    · exact h
  have hm1 := h1.m1; have hm2 := h1.m2; have hm3 := h2.m1; have hm4 := h2.m2
  rcases Nat.lt_or_eq_of_le hy with h | h
  · omega
  · subst h
    have b1 := numD_month h1
    have b2 := numD_month h2
    have : m ≤ m' := by
      rcases Nat.lt_or_ge m' m with h | h
      · have := moN_mono (y := y) (a := m' + 1) (b := m) (by omega); omega
      · exact h
    omega
def dn (b : Bk) : Nat := (b.day + 719162).toNat
theorem dn_eq {b : Bk} (h : inDays b.day) : b.day = -719162 + (dn b : Nat) ∧ dn b < 3652059 := by unfold inDays at h; unfold dn; omega
noncomputable def keyOf (j i : Nat) (b : Bk) : Int := if j = 0 then (i : Nat) + 1 else if j = 1 then b.day else if j = 2 then weekN (dn b) else monI (dn b)
noncomputable def st (j : Nat) (most : Int) (s : List Bk) : Nat → List Int × List Bool
  | 0 => ([], [])
  | i + 1 => match s[i]? with
    | some b => if keyOf j i b ∉ (st j most s i).1 ∧ ((st j most s i).1.length : Int) < most then ((st j most s i).1 ++ [keyOf j i b], (st j most s i).2 ++ [true]) else ((st j most s i).1, (st j most s i).2 ++ [false])
    | none => st j most s i
theorem st_yes {j : Nat} {most : Int} {s : List Bk} {i : Nat} {b : Bk} (hb : s[i]? = some b) (h : keyOf j i b ∉ (st j most s i).1 ∧ ((st j most s i).1.length : Int) < most) : st j most s (i + 1) = ((st j most s i).1 ++ [keyOf j i b], (st j most s i).2 ++ [true]) := by
  simp only [st, hb]; rw [if_pos h]
theorem st_no {j : Nat} {most : Int} {s : List Bk} {i : Nat} {b : Bk} (hb : s[i]? = some b) (h : ¬ (keyOf j i b ∉ (st j most s i).1 ∧ ((st j most s i).1.length : Int) < most)) : st j most s (i + 1) = ((st j most s i).1, (st j most s i).2 ++ [false]) := by
  simp only [st, hb]; rw [if_neg h]
theorem st_len (j : Nat) (most : Int) (s : List Bk) : ∀ i, i ≤ s.length → (st j most s i).2.length = i ∧ (st j most s i).1.length ≤ i
  | 0, _ => ⟨rfl, Nat.le_refl _⟩
  | i + 1, h => by
    have ih := st_len j most s i (by omega)
    obtain ⟨b, hb⟩ : ∃ b, s[i]? = some b := ⟨s[i], by simp [show i < s.length by omega]⟩
    by_cases hc : keyOf j i b ∉ (st j most s i).1 ∧ ((st j most s i).1.length : Int) < most
    · rw [st_yes hb hc]; simp; omega
    · rw [st_no hb hc]; simp; omega
/-- Marks laid over marks. -/
def orL : List Bool → List Bool → List Bool
  | p :: ps, f :: fs => (p || f) :: orL ps fs
  | ps, [] => ps
  | [], _ :: _ => []
theorem orL_nil (p : List Bool) : orL p [] = p := by cases p <;> rfl
theorem orL_len : ∀ p f : List Bool, (orL p f).length = p.length
  | p :: ps, f :: fs => by simp [orL, orL_len ps fs]
  | [], [] => rfl
  | _ :: _, [] => rfl
  | [], _ :: _ => rfl
theorem orL_false : ∀ (p f : List Bool), f.length < p.length → orL p (f ++ [false]) = orL p f
  | [], _, h => by simp at h
  | p :: ps, [], _ => by show (p || false) :: orL ps [] = p :: ps; rw [Bool.or_false, orL_nil]
  | p :: ps, f :: fs, h => by
    show (p || f) :: orL ps (fs ++ [false]) = (p || f) :: orL ps fs
    rw [orL_false ps fs (by simpa using h)]
theorem orL_true : ∀ (p f : List Bool), f.length < p.length → orL p (f ++ [true]) = (orL p f).set f.length true
  | [], _, h => by simp at h
  | p :: ps, [], _ => by show (p || true) :: orL ps [] = _; rw [Bool.or_true, orL_nil]; rfl
  | p :: ps, f :: fs, h => by
    show (p || f) :: orL ps (fs ++ [true]) = (p || f) :: (orL ps fs).set fs.length true
    rw [orL_true ps fs (by simpa using h)]
/-- A policy. -/
structure Pol where
  la : Int
  da : Int
  we : Int
  mo : Int
def Pol.at (p : Pol) (j : Nat) : Int := if j = 0 then p.la else if j = 1 then p.da else if j = 2 then p.we else p.mo
def polC (p : Pol) : List Value := [.int .i64 p.la, .int .i64 p.da, .int .i64 p.we, .int .i64 p.mo]
def okN (n : Int) : Prop := 0 ≤ n ∧ n ≤ 4096
instance (n : Int) : Decidable (okN n) := by unfold okN; infer_instance
def mayP (p : Pol) : Prop := okN p.la ∧ okN p.da ∧ okN p.we ∧ okN p.mo
instance (p : Pol) : Decidable (mayP p) := by unfold mayP; infer_instance
def mayD (l : List Bk) : Prop := ∀ b ∈ l, inDays b.day
instance (n : Int) : Decidable (inDays n) := by unfold inDays; infer_instance
instance (l : List Bk) : Decidable (mayD l) := by unfold mayD; infer_instance
/-- What is kept behind so many rules. -/
noncomputable def kp (p : Pol) (s : List Bk) : Nat → List Bool
  | 0 => List.replicate s.length false
  | j + 1 => orL (kp p s j) (st j (p.at j) s s.length).2
theorem kp_len (p : Pol) (s : List Bk) : ∀ j, (kp p s j).length = s.length
  | 0 => List.length_replicate ..
  | j + 1 => by rw [kp, orL_len, kp_len p s j]
/-- Those that are marked, and the others. -/
def pick2 (s : List Bk) (f : List Bool) : Nat → List Bk × List Bk
  | 0 => ([], [])
  | i + 1 => match s[i]? with
    | some b => if f.getD i false = true then ((pick2 s f i).1 ++ [b], (pick2 s f i).2) else ((pick2 s f i).1, (pick2 s f i).2 ++ [b])
    | none => pick2 s f i
theorem pick2_yes {s : List Bk} {f : List Bool} {i : Nat} {b : Bk} (hb : s[i]? = some b) (h : f.getD i false = true) : pick2 s f (i + 1) = ((pick2 s f i).1 ++ [b], (pick2 s f i).2) := by
  simp only [pick2, hb]; rw [if_pos h]
theorem pick2_no {s : List Bk} {f : List Bool} {i : Nat} {b : Bk} (hb : s[i]? = some b) (h : f.getD i false = false) : pick2 s f (i + 1) = ((pick2 s f i).1, (pick2 s f i).2 ++ [b]) := by
  simp only [pick2, hb]; rw [if_neg (by rw [h]; simp)]
theorem pick2_len (s : List Bk) (f : List Bool) : ∀ i, i ≤ s.length → (pick2 s f i).1.length + (pick2 s f i).2.length = i
  | 0, _ => rfl
  | i + 1, h => by
    have ih := pick2_len s f i (by omega)
    obtain ⟨b, hb⟩ : ∃ b, s[i]? = some b := ⟨s[i], by simp [show i < s.length by omega]⟩
    cases hf : f.getD i false with
    | true => rw [pick2_yes hb hf]; simp; omega
    | false => rw [pick2_no hb hf]; simp; omega
/-- The program's answer. -/
noncomputable def keptK (p : Pol) (l : List Bk) : List Bk × List Bk := pick2 (sortK l) (kp p (sortK l) 4) (sortK l).length
theorem sp1_sat {W : World} {M : List Nat} {H : Hp} {w : World} (hs : Sat W M H w) (p g : Nat) (c : Int) (hc : 0 ≤ c ∧ c ≤ 1000000) (hp : H[p]? = some (.blk g 3 [.int .i64 c])) (b : Bk) :
    Calls Try.prog 49 #[.agg (bkC b).toArray, .pointer (some ⟨g, 0, none⟩)] w fun e w' => e = .returned (.int .i64 (c + 1)) ∧ Sat W M (H.set p (.blk g 3 [.int .i64 (c + 1)])) w' := by
  refine sx_fn (S := SX) (N := 7) Try.func49 rfl rfl rfl hs ?_
  ((try refine sx_use ?_); (repeat (refine SxNew.mk fun _ => ?_; (try refine sx_use ?_))))
  refine SxLd.blk (p + 1) hp rfl ?_
  ((try refine sx_use ?_); (repeat (refine SxNew.mk fun _ => ?_; (try refine sx_use ?_))))
  refine SxSt.blk (p + 1) hp rfl rfl rfl ?_
  ((try refine sx_use ?_); (repeat (refine SxNew.mk fun _ => ?_; (try refine sx_use ?_))))
  refine SxLd.blk (p + 1) (setH_get (H := _ :: H) (p := p + 1) hp) rfl ?_
  ((try refine sx_use ?_); (repeat (refine SxNew.mk fun _ => ?_; (try refine sx_use ?_))))
  exact SxDone.mk fun w' hs => ⟨rfl, hs.tail⟩
theorem sp2_any (b : Bk) (w : World) : Calls Try.prog 50 #[.agg (bkC b).toArray] w fun e w' => e = .returned (.int .i64 b.day) ∧ Below w.heap.size w w' := by
  refine sx_fn (S := SX) (M := []) (N := 5) (H0 := []) Try.func50 rfl rfl rfl (Sat.nil _ _) ?_
  ((try refine sx_use ?_); (repeat (refine SxNew.mk fun _ => ?_; (try refine sx_use ?_))))
  exact SxDone.mk fun w' hs => ⟨rfl, hs.touch.below⟩
theorem sp3_any (b : Bk) (hb : inDays b.day) (w : World) : Calls Try.prog 51 #[.agg (bkC b).toArray] w fun e w' => e = .returned (.int .i64 (weekN (dn b))) ∧ Below w.heap.size w w' := by
  obtain ⟨h1, h2⟩ := dn_eq hb
  have hW := Week_in (dn b) h2
  rw [← h1] at hW
  refine sx_fn (S := SX) (M := []) (N := 12) (H0 := []) Try.func51 rfl rfl rfl (Sat.nil _ _) ?_
  ((try refine sx_use ?_); (repeat (refine SxNew.mk fun _ => ?_; (try refine sx_use ?_))))
  refine SxCall.quiet hW ?_
  ((try refine sx_use ?_); (repeat (refine SxNew.mk fun _ => ?_; (try refine sx_use ?_))))
  exact SxDone.mk fun w' hs => ⟨rfl, hs.touch.below⟩
theorem sp4_any (b : Bk) (hb : inDays b.day) (w : World) : Calls Try.prog 52 #[.agg (bkC b).toArray] w fun e w' => e = .returned (.int .i64 (monI (dn b))) ∧ Below w.heap.size w w' := by
  obtain ⟨h1, h2⟩ := dn_eq hb
  obtain ⟨y, m, d, hD, he⟩ := exists_date h2
  have hM := Month_in y m d hD
  rw [he, ← h1, ← monI_eq hD, he] at hM
  refine sx_fn (S := SX) (M := []) (N := 12) (H0 := []) Try.func52 rfl rfl rfl (Sat.nil _ _) ?_
  ((try refine sx_use ?_); (repeat (refine SxNew.mk fun _ => ?_; (try refine sx_use ?_))))
  refine SxCall.quiet hM ?_
  ((try refine sx_use ?_); (repeat (refine SxNew.mk fun _ => ?_; (try refine sx_use ?_))))
  exact SxDone.mk fun w' hs => ⟨rfl, hs.touch.below⟩
end Go.Proofs.Ytiobcjahgmkmiaa
