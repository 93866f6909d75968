/- Layer 20: what is left of counts. -/
import Derived.Test.YtcpbgacdoigpnaaZLvE
namespace Go.Proofs.Ytcpbgacdoigpnaa
open Go.RowKit

/-- A list of which another one's places are taken away, from the front. -/
def subK (l s : List Pl) : Nat → List Pl
  | 0 => []
  | k + 1 => match l[k]? with
    | some x => if s.count x < (l.take (k + 1)).count x then subK l s k ++ [x] else subK l s k
    | none => subK l s k
def subL (l s : List Pl) : List Pl := subK l s l.length
theorem count_snoc (l : List Pl) (x p : Pl) : (l ++ [x]).count p = l.count p + (if p = x then 1 else 0) := by
  rw [List.count_append]
  congr 1
  by_cases h : p = x
  · rw [if_pos h, h]; simp
  · rw [if_neg h, List.count_eq_zero]; simpa using h
theorem subK_count (l s : List Pl) (p : Pl) : ∀ k, k ≤ l.length → (subK l s k).count p = (l.take k).count p - s.count p
  | 0, _ => by simp [subK]
  | k + 1, hk => by
    have ih := subK_count l s p k (by omega)
    obtain ⟨x, hx⟩ : ∃ x, l[k]? = some x := ⟨l[k], by simp [show k < l.length by omega]⟩
    have ht := take_snocE hx
    have hc : (l.take (k + 1)).count p = (l.take k).count p + (if p = x then 1 else 0) := by rw [ht, count_snoc]
    simp only [subK, hx]
    by_cases hp : p = x
    · subst hp
      simp only [if_true] at hc
      split
      · have h2 := count_snoc (subK l s k) p p
        simp only [if_true] at h2
        omega
      · omega
    · rw [if_neg hp, Nat.add_zero] at hc
      split
      · have h2 := count_snoc (subK l s k) x p
        rw [if_neg hp] at h2
        omega
      · omega
theorem subL_count (l s : List Pl) (p : Pl) : (subL l s).count p = l.count p - s.count p := by
  unfold subL; rw [subK_count l s p l.length (Nat.le_refl _), List.take_length]
theorem subK_len (l s : List Pl) : ∀ k, k ≤ l.length → (subK l s k).length ≤ k
  | 0, _ => Nat.le_refl _
  | k + 1, hk => by
    have ih := subK_len l s k (by omega)
    simp only [subK]
    split
    · split
      · rw [List.length_append]; simp; omega
      · omega
    · omega
theorem subL_len (l s : List Pl) : (subL l s).length ≤ l.length := subK_len l s l.length (Nat.le_refl _)
/-- May a list's places be taken away? -/
def okSub (l s : List Pl) : Prop := ∀ p ∈ s, s.count p ≤ l.count p
instance (l s : List Pl) : Decidable (okSub l s) := by unfold okSub; infer_instance
/-- Those places of a list that are in another one. -/
def inS (s ps : List Pl) : List Pl := s.filter fun p => decide (p ∈ ps)
theorem inS_count (s ps : List Pl) (p : Pl) : (inS s ps).count p = if p ∈ ps then s.count p else 0 := by
  unfold inS
  by_cases h : p ∈ ps
  · rw [if_pos h, List.count_filter (by simpa using h)]
  · rw [if_neg h, List.count_eq_zero]
    simp [h]
theorem Tab.congr {d : List (Pl × Nat)} {l l' : List Pl} (h : Tab d l) (he : ∀ p, l.count p = l'.count p) : Tab d l' :=
  ⟨h.nd, fun p n hm => by rw [← he]; exact h.cnt p n hm, fun p hp => h.all p (List.count_pos_iff.1 (by rw [he]; exact List.count_pos_iff.2 hp))⟩
theorem nodup_at {d : List (Pl × Nat)} (hnd : (d.map (·.1)).Nodup) {i j : Nat} {p : Pl} {m n : Nat} (hi : d[i]? = some (p, m)) (hj : d[j]? = some (p, n)) : i = j := by
  have hil := (List.getElem?_eq_some_iff.1 hi).1
  have hjl := (List.getElem?_eq_some_iff.1 hj).1
  have h2 := List.nodup_iff_pairwise_ne.1 hnd
  rw [List.pairwise_iff_getElem] at h2
  have e1 : (d.map (·.1))[i]'(by simpa using hil) = p := by rw [List.getElem_map, (List.getElem?_eq_some_iff.1 hi).2]
  have e2 : (d.map (·.1))[j]'(by simpa using hjl) = p := by rw [List.getElem_map, (List.getElem?_eq_some_iff.1 hj).2]
  rcases Nat.lt_trichotomy i j with h | h | h
  · exact absurd (e1.trans e2.symm) (h2 i j (by simpa using hil) (by simpa using hjl) h)
  · exact h
  · exact absurd (e2.trans e1.symm) (h2 j i (by simpa using hjl) (by simpa using hil) h)
theorem Tab.upd {d : List (Pl × Nat)} {l l' : List Pl} (h : Tab d l) {p : Pl} {j n v : Nat} (hj : d[j]? = some (p, n)) (hp : l'.count p = v) (hv : 0 < v) (ho : ∀ q, q ≠ p → l'.count q = l.count q) : Tab (d.set j (p, v)) l' := by
  have hl := (List.getElem?_eq_some_iff.1 hj).1
  have hk : (d.set j (p, v)).map (·.1) = d.map (·.1) := map_set_same (fun x : Pl × Nat => x.1) (e' := (p, v)) hj rfl
  refine ⟨by rw [hk]; exact h.nd, fun q m hm => ?_, fun q hq => ?_⟩
  · obtain ⟨i, hi⟩ := List.getElem?_of_mem hm
    rw [List.getElem?_set] at hi
    by_cases hij : j = i
    · subst hij
      rw [if_pos rfl, if_pos hl] at hi
      simp only [Option.some.injEq, Prod.mk.injEq] at hi
      obtain ⟨rfl, rfl⟩ := hi
      exact ⟨hp.symm, hv⟩
    · rw [if_neg hij] at hi
      have hne : q ≠ p := fun e => hij (by subst e; exact nodup_at h.nd hj hi)
      rw [ho q hne]
      exact h.cnt q m (List.mem_of_getElem? hi)
  · by_cases hne : q = p
    · subst hne
      exact ⟨v, List.mem_of_getElem? (i := j) (by rw [List.getElem?_set_self hl])⟩
    · obtain ⟨m, hm⟩ := h.all q (List.count_pos_iff.1 (by rw [← ho q hne]; exact List.count_pos_iff.2 hq))
      obtain ⟨i, hi⟩ := List.getElem?_of_mem hm
      have hij : j ≠ i := fun e => by subst e; rw [hj] at hi; simp only [Option.some.injEq, Prod.mk.injEq] at hi; exact hne hi.1.symm
      exact ⟨m, List.mem_of_getElem? (i := i) (by rw [List.getElem?_set, if_neg hij, hi])⟩
theorem Tab.del {d : List (Pl × Nat)} {l l' : List Pl} (h : Tab d l) {p : Pl} {j n : Nat} (hj : d[j]? = some (p, n)) (hp : l'.count p = 0) (ho : ∀ q, q ≠ p → l'.count q = l.count q) : Tab (d.eraseIdx j) l' := by
  have hsub : (d.eraseIdx j).Sublist d := List.eraseIdx_sublist _ _
  have hnp : ∀ m, (p, m) ∉ d.eraseIdx j := fun m hm => by
    obtain ⟨i, hi⟩ := List.getElem?_of_mem hm
    rw [List.getElem?_eraseIdx] at hi
    split at hi
    · rename_i h1
      have := nodup_at h.nd hj hi
      omega
    · rename_i h1
      have := nodup_at h.nd hj hi
      omega
  refine ⟨h.nd.sublist (hsub.map _), fun q m hm => ?_, fun q hq => ?_⟩
  · have hne : q ≠ p := fun e => hnp m (e ▸ hm)
    rw [ho q hne]
    exact h.cnt q m (hsub.subset hm)
  · have hne : q ≠ p := fun e => by subst e; exact absurd (List.count_pos_iff.2 hq) (by omega)
    obtain ⟨m, hm⟩ := h.all q (List.count_pos_iff.1 (by rw [← ho q hne]; exact List.count_pos_iff.2 hq))
    obtain ⟨i, hi⟩ := List.getElem?_of_mem hm
    have hij : j ≠ i := fun e => by subst e; rw [hj] at hi; simp only [Option.some.injEq, Prod.mk.injEq] at hi; exact hne hi.1.symm
    refine ⟨m, ?_⟩
    rcases Nat.lt_or_gt_of_ne hij with h1 | h1
    · exact List.mem_of_getElem? (i := i - 1) (by rw [List.getElem?_eraseIdx, if_neg (by omega), show i - 1 + 1 = i by omega, hi])
    · exact List.mem_of_getElem? (i := i) (by rw [List.getElem?_eraseIdx, if_pos (by omega), hi])
theorem kvT_erase (d : List (Pl × Nat)) (j : Nat) (v : Value) (p : Pl) : ((kvT d).set j (plV p, v)).eraseIdx j = kvT (d.eraseIdx j) := by
  unfold kvT
  apply List.ext_getElem?
  intro i
  rw [List.getElem?_eraseIdx, List.getElem?_map, List.getElem?_eraseIdx, List.getElem?_set, List.getElem?_set]
  split
  · rw [if_neg (by omega), List.getElem?_map]
  · rw [if_neg (by omega), List.getElem?_map]
/-- A step of taking away. -/
theorem sub_step {l s ps : List Pl} {p : Pl} {k : Nat} (hk : ps[k]? = some p) (hst : ps.Pairwise ltP) : (subL l (inS s (ps.take k))).count p = l.count p ∧ (subL l (inS s (ps.take (k + 1)))).count p = l.count p - s.count p ∧ ∀ q, q ≠ p → (subL l (inS s (ps.take (k + 1)))).count q = (subL l (inS s (ps.take k))).count q := by
  have hno : p ∉ ps.take k := fun h => by
    obtain ⟨i, hi⟩ := List.getElem?_of_mem h
    rw [List.getElem?_take] at hi
    split at hi
    · rename_i hik
      exact ltP_ord.irr p (strictP_at hst hik hi hk)
    · cases hi
  have ht := take_snocE hk
  refine ⟨?_, ?_, fun q hq => ?_⟩
  · rw [subL_count, inS_count, if_neg hno, Nat.sub_zero]
  · rw [subL_count, inS_count, if_pos (by rw [ht]; simp)]
  · rw [subL_count, subL_count, inS_count, inS_count, ht]
    by_cases h : q ∈ ps.take k
    · rw [if_pos h, if_pos (by simp [h])]
    · rw [if_neg h, if_neg (by simp [h, hq])]
theorem sub_all {l s ps : List Pl} (h : ∀ p, p ∈ s → p ∈ ps) (p : Pl) : (subL l (inS s ps)).count p = (subL l s).count p := by
  rw [subL_count, subL_count, inS_count]
  by_cases hp : p ∈ ps
  · rw [if_pos hp]
  · rw [if_neg hp, List.count_eq_zero.2 fun e => hp (h p e)]
end Go.Proofs.Ytcpbgacdoigpnaa
