/- Rows of which there are as many as come. No program is named here. -/
import Derived.Test.YtdififdnnpgjoaaZSxP
namespace Go.Proofs.Ytdififdnnpgjoaa
open Go.RowKit

def tailIx (c n : Nat) : List Nat := (List.range n).map (· + c)
theorem pickH_cons {H : Hp} {i : Nat} {e : Ent} {r : List Nat} {es : Hp} (hi : H[i]? = some e) (hr : pickH H r = some es) : pickH H (i :: r) = some (e :: es) := by
  unfold pickH
  rw [hi]
  dsimp only
  rw [hr]
theorem pickH_append {H : Hp} : ∀ {a : List Nat} {A : Hp} {b : List Nat} {B : Hp}, pickH H a = some A → pickH H b = some B → pickH H (a ++ b) = some (A ++ B)
  | [], A, b, B, ha, hb => by
    simp only [pickH, Option.some.injEq] at ha
    subst ha
    exact hb
  | i :: r, A, b, B, ha, hb => by
    unfold pickH at ha
    split at ha
    · rename_i e he
      split at ha
      · rename_i es hes
        simp only [Option.some.injEq] at ha
        subst ha
        exact pickH_cons he (pickH_append hes hb)
      · cases ha
    · cases ha
theorem pickH_map {H : Hp} {f : Nat → Nat} : ∀ {n : Nat} {L : Hp}, L.length = n → (∀ (j : Nat) (e : Ent), L[j]? = some e → H[f j]? = some e) → pickH H ((List.range n).map f) = some L := by
  intro n
  induction n with
  | zero => intro L hn _; rw [List.eq_nil_of_length_eq_zero hn]; rfl
  | succ n ih =>
    intro L hn h
    rcases List.eq_nil_or_concat L with h0 | ⟨L', x, h0⟩
    · subst h0; simp at hn
    · rw [List.concat_eq_append] at h0
      subst h0
      have hl : L'.length = n := by simpa using hn
      rw [List.range_succ, List.map_append]
      refine pickH_append (ih hl fun j e hj => h j e ?_) (pickH_cons (e := x) (h n x ?_) rfl)
      · rw [List.getElem?_append_left (List.getElem?_eq_some_iff.1 hj).1]; exact hj
      · rw [List.getElem?_append_right (by omega), hl, Nat.sub_self]; rfl
theorem pickH_tail {H L : Hp} (c : Nat) (h : H.drop c = L) {n : Nat} (hn : L.length = n) : pickH H (tailIx c n) = some L :=
  pickH_map hn fun j e hj => by rw [← h, List.getElem?_drop] at hj; rw [← hj, Nat.add_comm]
theorem nodupB_of : ∀ {l : List Nat}, l.Nodup → nodupB l = true
  | [], _ => rfl
  | x :: r, h => by
    obtain ⟨h1, h2⟩ := List.nodup_cons.1 h
    simp only [nodupB, Bool.and_eq_true, Bool.not_eq_true', List.any_eq_false]
    exact ⟨fun y hy he => h1 (by have := Nat.eq_of_beq_eq_true he; exact this ▸ hy), nodupB_of h2⟩
theorem nodup_ofB {l : List Nat} (h : nodupB l = true) : l.Nodup := List.nodup_iff_pairwise_ne.2 (List.pairwise_iff_getElem.2 fun i j hi hj hij he => nodupB_get h i j (l[i]) (by omega) (by simp [hi]) (by simp [hj, he]))
theorem tailIx_mem {c n x : Nat} : x ∈ tailIx c n ↔ c ≤ x ∧ x < c + n := by
  unfold tailIx
  rw [List.mem_map]
  constructor
  · rintro ⟨j, hj, rfl⟩; have := List.mem_range.1 hj; omega
  · rintro ⟨h1, h2⟩; exact ⟨x - c, List.mem_range.2 (by omega), by omega⟩
theorem tailIx_nodup (c n : Nat) : (tailIx c n).Nodup := List.nodup_iff_pairwise_ne.2 (List.pairwise_map.2 ((List.nodup_iff_pairwise_ne.1 List.nodup_range).imp fun h e => h (by omega)))
theorem nodup_tail {ks : List Nat} (c n : Nat) (h : nodupB ks = true) (hb : (ks.all fun k => Nat.blt k c) = true) : nodupB (ks ++ tailIx c n) = true := by
  refine nodupB_of (List.nodup_append.2 ⟨nodup_ofB h, tailIx_nodup c n, fun a ha b hb' e => ?_⟩)
  have h1 := List.all_eq_true.1 hb a ha
  have h2 := tailIx_mem.1 hb'
  simp at h1
  omega
theorem nodup_tail_new {ks : List Nat} (c n p : Nat) (h : nodupB (p :: ks) = true) (hb : ((p :: ks).all fun k => Nat.blt k c) = true) : nodupB (ks ++ (tailIx c n ++ [p])) = true := by
  have h0 := nodup_tail (ks := ks) c n (nodupB_of (List.nodup_cons.1 (nodup_ofB h)).2) (by simp only [List.all_cons, Bool.and_eq_true] at hb; exact hb.2)
  rw [← List.append_assoc]
  refine nodupB_of (List.nodup_append.2 ⟨nodup_ofB h0, by simp, fun a ha b hb' e => ?_⟩)
  simp at hb'
  subst hb' e
  rcases List.mem_append.1 ha with h1 | h1
  · exact (List.nodup_cons.1 (nodup_ofB h)).1 h1
  · have h2 := tailIx_mem.1 h1
    simp only [List.all_cons, Bool.and_eq_true] at hb
    have := hb.1
    simp at this
    omega
/-- One of many rows. -/
structure Drow (α : Type) where
  ao : Option Addr
  cap : Nat
  l : List α
section
variable {α : Type} (E : Enc α) (e : Nat)
def Drow.ent (d : Drow α) : Ent := .row d.ao d.l.length d.cap e E.k (E.fl d.l)
def Drow.v (d : Drow α) : Value := .slice d.ao d.l.length d.cap
theorem Weak.nil {H : Hp} (e k : Nat) : Weak H (.row none 0 0 e k [] :: H) := fun _ _ _ hs => hs.nilRow e k
/-- Rows that are only read from now on. -/
def readsG (ds : List (Drow α)) : Ent := .gen
  { own := none, uses := fun g => ∃ d ∈ ds, (Ent.rd d.ao (E.fl d.l)).uses g, holds := fun w => ∀ d ∈ ds, Rd w d.ao (E.fl d.l),
    own_uses := fun _ h => (by cases h),
    uses_lt := fun w g h ⟨d, hd, hu⟩ => Ent.uses_lt (e := .rd d.ao (E.fl d.l)) (h d hd) hu,
    kept := fun w w' row h hg hr d hd => Ent.Holds.kept (e := .rd d.ao (E.fl d.l)) (h d hd) hg fun g hrow hu => hr g hrow ⟨d, hd, hu⟩ }
theorem Weak.gather {A : Hp} {ds : List (Drow α)} (hm : ∀ d ∈ ds, (E.fl d.l).length ≤ maxLen) : Weak (A ++ ds.map (Drow.ent E e)) (A ++ [readsG E ds]) := fun W M w hs => by
  have get : ∀ j x, (A ++ [readsG E ds])[j]? = some x → (j < A.length ∧ (A ++ ds.map (Drow.ent E e))[j]? = some x) ∨ (j = A.length ∧ x = readsG E ds) := by
    intro j x hj
    by_cases h : j < A.length
    · rw [List.getElem?_append_left h] at hj
      exact .inl ⟨h, by rw [List.getElem?_append_left h]; exact hj⟩
    · rw [List.getElem?_append_right (by omega)] at hj
      cases hd : j - A.length with
      | zero => rw [hd] at hj; simp at hj; exact .inr ⟨by omega, hj.symm⟩
      | succ n => rw [hd] at hj; simp at hj
  have at_ : ∀ d ∈ ds, ∃ j, A.length ≤ j ∧ (A ++ ds.map (Drow.ent E e))[j]? = some (Drow.ent E e d) := by
    intro d hd
    obtain ⟨j, hj⟩ := List.getElem?_of_mem hd
    exact ⟨A.length + j, by omega, by rw [List.getElem?_append_right (by omega), Nat.add_sub_cancel_left, List.getElem?_map, hj]; rfl⟩
  refine ⟨hs.touch, fun j x hj => ?_, fun j x hj g hg => ?_, fun i j a b hij hi hj g hg => ?_⟩
  · rcases get j x hj with ⟨_, hj'⟩ | ⟨_, rfl⟩
    · exact hs.holds j x hj'
    · intro d hd
      obtain ⟨i, _, hi⟩ := at_ d hd
      exact hs.rowRd i hi (hm d hd)
  · rcases get j x hj with ⟨_, hj'⟩ | ⟨_, rfl⟩
    · exact hs.own j x hj' g hg
    · cases hg
  · rcases get i a hi with ⟨hil, hi'⟩ | ⟨_, rfl⟩
    · rcases get j b hj with ⟨_, hj'⟩ | ⟨_, rfl⟩
      · exact hs.sep i j a b hij hi' hj' g hg
      · rintro ⟨d, hd, hu⟩
        obtain ⟨k, hk, hk'⟩ := at_ d hd
        exact hs.sep i k a _ (by omega) hi' hk' g hg hu.2
    · cases hg
end
end Go.Proofs.Ytdififdnnpgjoaa
