/- Lists in strict order. No program is named here. -/
import Derived.Test.YtdbappehchgbcaaZRow
import Derived.Test.YtdbappehchgbcaaZSort
namespace Go.Proofs.Ytdbappehchgbcaa
open Go.RowKit

structure Ordr {α : Type} (lt : α → α → Prop) : Prop where
  irr : ∀ x, ¬ lt x x
  tr : ∀ x y z, lt x y → lt y z → lt x z
  tri : ∀ x y, ¬ lt x y → ¬ lt y x → x = y
section
variable {α : Type} {lt : α → α → Prop}
theorem Ordr.asym (h : Ordr lt) {x y : α} (h1 : lt x y) : ¬ lt y x := fun h2 => h.irr x (h.tr x y x h1 h2)
theorem strict_ext (h : Ordr lt) : ∀ {l m : List α}, l.Pairwise lt → m.Pairwise lt → (∀ x, x ∈ l ↔ x ∈ m) → l = m
  | [], [], _, _, _ => rfl
  | [], y :: m, _, _, he => absurd ((he y).2 (by simp)) (by simp)
  | x :: l, [], _, _, he => absurd ((he x).1 (by simp)) (by simp)
  | x :: l, y :: m, h1, h2, he => by
    rw [List.pairwise_cons] at h1 h2
    have hxy : x = y := by
      rcases List.mem_cons.1 ((he x).1 (by simp)) with e | e
      · exact e
      · rcases List.mem_cons.1 ((he y).2 (by simp)) with e2 | e2
        · exact e2.symm
        · exact absurd (h.tr x y x (h1.1 y e2) (h2.1 x e)) (h.irr x)
    subst hxy
    congr 1
    refine strict_ext h h1.2 h2.2 fun z => ⟨fun hz => ?_, fun hz => ?_⟩
    · rcases List.mem_cons.1 ((he z).1 (by simp [hz])) with e | e
      · subst e; exact absurd (h1.1 z hz) (h.irr z)
      · exact e
    · rcases List.mem_cons.1 ((he z).2 (by simp [hz])) with e | e
      · subst e; exact absurd (h2.1 z hz) (h.irr z)
      · exact e
theorem dd_strict [DecidableEq α] (h : Ordr lt) : ∀ {l : List α}, (l.Pairwise fun x y => ¬ lt y x) → (dd l).Pairwise lt
  | [], _ => List.Pairwise.nil
  | [x], _ => List.pairwise_singleton ..
  | x :: y :: r, hp => by
    have h1 := (List.pairwise_cons.1 hp)
    have h2 := (List.pairwise_cons.1 h1.2)
    have ih := dd_strict h h1.2
    rw [dd]
    split
    · exact ih
    · rename_i hne
      refine List.pairwise_cons.2 ⟨fun z hz => ?_, ih⟩
      rw [dd_mem] at hz
      have hxy : lt x y := by
        rcases Classical.em (lt x y) with e | e
        · exact e
        · exact absurd (h.tri x y e (h1.1 y (by simp))) hne
      rcases List.mem_cons.1 hz with e | e
      · rw [e]; exact hxy
      · rcases Classical.em (lt y z) with e2 | e2
        · exact h.tr x y z hxy e2
        · have := h.tri y z e2 (h2.1 z e)
          rw [← this]; exact hxy
theorem cmpOk_of {cf : α → α → Int} (h : Ordr lt) (hc : ∀ x y, cf x y < 0 ↔ lt x y) : CmpOk cf := CmpOk.of lt hc h.irr h.tr h.tri
theorem sorted_ord {cf : α → α → Int} (h : Ordr lt) (hc : ∀ x y, cf x y < 0 ↔ lt x y) (l : List α) : (sorted cf l).Pairwise fun x y => ¬ lt y x :=
  (sorted_pair (cmpOk_of h hc) l).imp fun {x y} hh hl => by
    rw [← hc] at hl
    unfold ltOf at hh
    exact absurd hl (by simpa using hh)
/-- A list as a set. -/
def setS [DecidableEq α] (cf : α → α → Int) (l : List α) : List α := dd (sorted cf l)
theorem setS_strict [DecidableEq α] {cf : α → α → Int} (h : Ordr lt) (hc : ∀ x y, cf x y < 0 ↔ lt x y) (l : List α) : (setS cf l).Pairwise lt := dd_strict h (sorted_ord h hc l)
theorem setS_mem [DecidableEq α] (cf : α → α → Int) (l : List α) (x : α) : x ∈ setS cf l ↔ x ∈ l := by
  unfold setS
  rw [dd_mem, (sorted_perm cf l).mem_iff]
theorem setS_len [DecidableEq α] (cf : α → α → Int) (l : List α) : (setS cf l).length ≤ l.length := by
  have := dd_len (sorted cf l)
  rw [sorted_len] at this
  exact this
theorem setS_ext [DecidableEq α] {cf : α → α → Int} (h : Ordr lt) (hc : ∀ x y, cf x y < 0 ↔ lt x y) {l m : List α} (hm : m.Pairwise lt) (he : ∀ x, x ∈ m ↔ x ∈ l) : setS cf l = m :=
  strict_ext h (setS_strict h hc l) hm fun x => by rw [setS_mem, he]
/-- Put in its place, if it is not there. -/
def putIn (ltb : α → α → Bool) (x : α) (l : List α) : List α := l.takeWhile (fun y => ltb y x) ++ x :: l.dropWhile (fun y => ltb y x)
theorem mem_putIn (ltb : α → α → Bool) (x : α) (l : List α) (z : α) : z ∈ putIn ltb x l ↔ z = x ∨ z ∈ l := by
  unfold putIn
  rw [List.mem_append, List.mem_cons]
  have h : z ∈ l ↔ z ∈ l.takeWhile (fun y => ltb y x) ∨ z ∈ l.dropWhile (fun y => ltb y x) := by
    rw [← List.mem_append, List.takeWhile_append_dropWhile]
  rw [h]
  constructor
  · rintro (h | h | h)
    · exact .inr (.inl h)
    · exact .inl h
    · exact .inr (.inr h)
  · rintro (h | h | h)
    · exact .inr (.inl h)
    · exact .inl h
    · exact .inr (.inr h)
theorem putIn_strict (h : Ordr lt) {ltb : α → α → Bool} (hb : ∀ x y, ltb x y = true ↔ lt x y) {x : α} : ∀ {l : List α}, l.Pairwise lt → x ∉ l → (putIn ltb x l).Pairwise lt
  | [], _, _ => List.pairwise_singleton ..
  | y :: l, hp, hn => by
    have h1 := List.pairwise_cons.1 hp
    unfold putIn
    by_cases hy : ltb y x = true
    · rw [List.takeWhile_cons_of_pos (p := fun y => ltb y x) hy, List.dropWhile_cons_of_pos (p := fun y => ltb y x) hy, List.cons_append]
      have ih := putIn_strict h hb h1.2 (fun e => hn (List.mem_cons_of_mem _ e))
      refine List.pairwise_cons.2 ⟨fun z hz => ?_, ih⟩
      rcases (mem_putIn ltb x l z).1 hz with e | e
      · rw [e]; exact (hb y x).1 hy
      · exact h1.1 z e
    · rw [List.takeWhile_cons_of_neg (p := fun y => ltb y x) hy, List.dropWhile_cons_of_neg (p := fun y => ltb y x) hy, List.nil_append]
      have hxy : lt x y := by
        rcases Classical.em (lt x y) with e | e
        · exact e
        · exact absurd (h.tri x y e (fun e2 => hy ((hb y x).2 e2))) (fun e2 => hn (by simp [e2]))
      refine List.pairwise_cons.2 ⟨fun z hz => ?_, hp⟩
      rcases List.mem_cons.1 hz with e | e
      · rw [e]; exact hxy
      · exact h.tr x y z hxy (h1.1 z e)
/-- The document's set: each put in its place. -/
def setR [DecidableEq α] (ltb : α → α → Bool) (l : List α) : List α := l.foldl (fun out x => if x ∈ out then out else putIn ltb x out) []
theorem setR_snoc [DecidableEq α] (ltb : α → α → Bool) (l : List α) (x : α) : setR ltb (l ++ [x]) = if x ∈ setR ltb l then setR ltb l else putIn ltb x (setR ltb l) := by
  unfold setR
  rw [List.foldl_append]
  rfl
theorem setR_ok [DecidableEq α] (h : Ordr lt) {ltb : α → α → Bool} (hb : ∀ x y, ltb x y = true ↔ lt x y) (l : List α) : (setR ltb l).Pairwise lt ∧ ∀ x, x ∈ setR ltb l ↔ x ∈ l := by
  refine snoc_ind (P := fun l => (setR ltb l).Pairwise lt ∧ ∀ x, x ∈ setR ltb l ↔ x ∈ l) ⟨List.Pairwise.nil, fun x => Iff.rfl⟩ (fun l x ih => ?_) l
  · revert ih; intro ih
    rw [setR_snoc]
    split
    · rename_i hx
      refine ⟨ih.1, fun z => ?_⟩
      rw [ih.2, List.mem_append, List.mem_singleton]
      constructor
      · exact .inl
      · rintro (e | e)
        · exact e
        · rw [e]; exact (ih.2 x).1 hx
    · rename_i hx
      refine ⟨putIn_strict h hb ih.1 hx, fun z => ?_⟩
      rw [mem_putIn, ih.2, List.mem_append, List.mem_singleton, or_comm]
theorem setR_len [DecidableEq α] (ltb : α → α → Bool) (l : List α) : (setR ltb l).length ≤ l.length := by
  refine snoc_ind (P := fun l => (setR ltb l).length ≤ l.length) (Nat.le_refl _) (fun l x ih => ?_) l
  · revert ih; intro ih
    rw [setR_snoc, List.length_append]
    split
    · simp; omega
    · unfold putIn
      rw [List.length_append, List.length_cons]
      have := congrArg List.length (List.takeWhile_append_dropWhile (p := fun y => ltb y x) (l := setR ltb l))
      rw [List.length_append] at this
      simp
      omega
theorem setS_R [DecidableEq α] {cf : α → α → Int} (h : Ordr lt) (hc : ∀ x y, cf x y < 0 ↔ lt x y) {ltb : α → α → Bool} (hb : ∀ x y, ltb x y = true ↔ lt x y) (l : List α) : setS cf l = setR ltb l :=
  setS_ext h hc (setR_ok h hb l).1 (setR_ok h hb l).2
end
end Go.Proofs.Ytdbappehchgbcaa
