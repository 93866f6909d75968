/- Which backups are kept: the document's marks are the program's. -/
import Derived.Test.YtiobcjahgmkmiaaZRtJ
namespace Go.Proofs.Ytiobcjahgmkmiaa
open Go.RowKit

noncomputable def rs (j : Nat) (most : Int) (s : List Bk) : Nat → Int × List Bool
  | 0 => (most, [])
  | i + 1 => match s[i]? with
    | some b => if 0 < (rs j most s i).1 ∧ (i = 0 ∨ ∀ a, s[i - 1]? = some a → keyOf j 0 b ≠ keyOf j 0 a) then ((rs j most s i).1 - 1, (rs j most s i).2 ++ [true]) else ((rs j most s i).1, (rs j most s i).2 ++ [false])
    | none => rs j most s i
theorem rs_yes {j : Nat} {most : Int} {s : List Bk} {i : Nat} {b : Bk} (hb : s[i]? = some b) (h : 0 < (rs j most s i).1 ∧ (i = 0 ∨ ∀ a, s[i - 1]? = some a → keyOf j 0 b ≠ keyOf j 0 a)) : rs j most s (i + 1) = ((rs j most s i).1 - 1, (rs j most s i).2 ++ [true]) := by
  simp only [rs, hb]; rw [if_pos h]
theorem rs_no {j : Nat} {most : Int} {s : List Bk} {i : Nat} {b : Bk} (hb : s[i]? = some b) (h : ¬ (0 < (rs j most s i).1 ∧ (i = 0 ∨ ∀ a, s[i - 1]? = some a → keyOf j 0 b ≠ keyOf j 0 a))) : rs j most s (i + 1) = ((rs j most s i).1, (rs j most s i).2 ++ [false]) := by
  simp only [rs, hb]; rw [if_neg h]
theorem rs_len (j : Nat) (most : Int) (s : List Bk) : ∀ i, i ≤ s.length → (rs j most s i).2.length = i ∧ (rs j most s i).1 ≤ most ∧ most - i ≤ (rs j most s i).1
  | 0, _ => ⟨rfl, Int.le_refl _, by show most - 0 ≤ most; omega⟩
  | i + 1, h => by
    have ih := rs_len j most s i (by omega)
    obtain ⟨b, hb⟩ : ∃ b, s[i]? = some b := ⟨s[i], by simp [show i < s.length by omega]⟩
    by_cases hc : 0 < (rs j most s i).1 ∧ (i = 0 ∨ ∀ a, s[i - 1]? = some a → keyOf j 0 b ≠ keyOf j 0 a)
    · rw [rs_yes hb hc]; simp; omega
    · rw [rs_no hb hc]; simp; omega
theorem rs_stop {j : Nat} {most : Int} {s : List Bk} (p : List Bool) (hp : p.length = s.length) {i : Nat} (h : (rs j most s i).1 ≤ 0) : ∀ d, i + d ≤ s.length → (rs j most s (i + d)).1 = (rs j most s i).1 ∧ orL p (rs j most s (i + d)).2 = orL p (rs j most s i).2
  | 0, _ => ⟨rfl, rfl⟩
  | d + 1, hd => by
    obtain ⟨e1, e2⟩ := rs_stop p hp h d (by omega)
    obtain ⟨b, hb⟩ : ∃ b, s[i + d]? = some b := ⟨s[i + d], by simp [show i + d < s.length by omega]⟩
    have hn := rs_no (j := j) (most := most) hb (fun hh => by have := hh.1; omega)
    have hl := (rs_len j most s (i + d) (by omega)).1
    rw [show i + (d + 1) = i + d + 1 by omega, hn]
    exact ⟨e1, by rw [orL_false _ _ (by rw [hl, hp]; omega)]; exact e2⟩
theorem st_stop {j : Nat} {most : Int} {s : List Bk} (p : List Bool) (hp : p.length = s.length) {i : Nat} (h : most ≤ ((st j most s i).1.length : Int)) : ∀ d, i + d ≤ s.length → (st j most s (i + d)).1 = (st j most s i).1 ∧ orL p (st j most s (i + d)).2 = orL p (st j most s i).2
  | 0, _ => ⟨rfl, rfl⟩
  | d + 1, hd => by
    obtain ⟨e1, e2⟩ := st_stop p hp h d (by omega)
    obtain ⟨b, hb⟩ : ∃ b, s[i + d]? = some b := ⟨s[i + d], by simp [show i + d < s.length by omega]⟩
    have hn := st_no (j := j) (most := most) hb (fun hh => by have := hh.2; rw [e1] at this; omega)
    have hl := (st_len j most s (i + d) (by omega)).1
    rw [show i + (d + 1) = i + d + 1 by omega, hn]
    exact ⟨e1, by rw [orL_false _ _ (by rw [hl, hp]; omega)]; exact e2⟩
/-- The first rule: so many of the first. -/
theorem st_zero (most : Int) (s : List Bk) : ∀ i, i ≤ s.length → (i : Int) ≤ most → (st 0 most s i).1 = (List.range i).map fun k : Nat => (k : Int) + 1
  | 0, _, _ => rfl
  | i + 1, h1, h2 => by
    have ih := st_zero most s i (by omega) (by omega)
    obtain ⟨b, hb⟩ : ∃ b, s[i]? = some b := ⟨s[i], by simp [show i < s.length by omega]⟩
    have hc : keyOf 0 i b ∉ (st 0 most s i).1 ∧ ((st 0 most s i).1.length : Int) < most := by
      rw [ih]
      refine ⟨fun hm => ?_, by simp; omega⟩
      obtain ⟨k, hk, he⟩ := List.mem_map.1 hm
      have := List.mem_range.1 hk
      change (k : Int) + 1 = (i : Int) + 1 at he
      omega
    rw [st_yes hb hc, ih, List.range_succ, List.map_append]
    rfl
theorem st_zero_yes {most : Int} {s : List Bk} {i : Nat} {b : Bk} (hb : s[i]? = some b) (h : (i : Int) < most) : (st 0 most s (i + 1)).2 = (st 0 most s i).2 ++ [true] := by
  have hl := (List.getElem?_eq_some_iff.1 hb).1
  have ih := st_zero most s i (by omega) (by omega)
  rw [st_yes hb]
  rw [ih]
  refine ⟨fun hm => ?_, by simp; omega⟩
  obtain ⟨k, hk, he⟩ := List.mem_map.1 hm
  have := List.mem_range.1 hk
  change (k : Int) + 1 = (i : Int) + 1 at he
  omega
theorem weekN_mono {a b : Nat} (h : a ≤ b) : weekN a ≤ weekN b := by unfold weekN; omega
theorem keyOf_pos (j i : Nat) (b : Bk) (hj : 1 ≤ j) : keyOf j i b = if j = 1 then b.day else if j = 2 then weekN (dn b) else monI (dn b) := if_neg (by omega)
theorem key_mono {s : List Bk} (hs : s.Pairwise ltK) (hd : ∀ b ∈ s, inDays b.day) {j : Nat} (hj : 1 ≤ j) {i k : Nat} {a b : Bk} (hik : i ≤ k) (ha : s[i]? = some a) (hb : s[k]? = some b) : keyOf j 0 b ≤ keyOf j 0 a := by
  have hday : b.day ≤ a.day := by
    rcases Nat.lt_or_eq_of_le hik with h | h
    · have := strictK_at hs h ha hb
      unfold ltK at this
      omega
    · subst h; rw [Option.some.inj (ha.symm.trans hb)]; exact Int.le_refl _
  have da := dn_eq (hd a (List.mem_of_getElem? ha))
  have db := dn_eq (hd b (List.mem_of_getElem? hb))
  have hdn : dn b ≤ dn a := by omega
  rw [keyOf_pos j 0 b hj, keyOf_pos j 0 a hj]
  by_cases h1 : j = 1
  · rw [if_pos h1, if_pos h1]; exact hday
  · rw [if_neg h1, if_neg h1]
    by_cases h2 : j = 2
    · rw [if_pos h2, if_pos h2]; exact weekN_mono hdn
    · rw [if_neg h2, if_neg h2]; exact monI_mono hdn da.2
theorem keyOf_at (j i : Nat) (b : Bk) (hj : 1 ≤ j) : keyOf j i b = keyOf j 0 b := by rw [keyOf_pos j i b hj, keyOf_pos j 0 b hj]
theorem same_flags {s : List Bk} (hs : s.Pairwise ltK) (hd : ∀ b ∈ s, inDays b.day) {j : Nat} (hj : 1 ≤ j) {most : Int} (hm : 0 ≤ most) : ∀ i, i ≤ s.length →
    (st j most s i).2 = (rs j most s i).2 ∧ (rs j most s i).1 = most - (st j most s i).1.length ∧ (0 < (rs j most s i).1 → ∀ k a, k < i → s[k]? = some a → keyOf j 0 a ∈ (st j most s i).1) ∧ (∀ x ∈ (st j most s i).1, ∃ (k : Nat) (a : Bk), k < i ∧ s[k]? = some a ∧ keyOf j 0 a = x)
  | 0, _ => ⟨rfl, by show most = most - 0; omega, fun _ k a h => absurd h (Nat.not_lt_zero _), fun x hx => by simp [st] at hx⟩
  | i + 1, hi => by
    obtain ⟨e1, e2, e3, e4⟩ := same_flags hs hd hj hm i (by omega)
    obtain ⟨b, hb⟩ : ∃ b, s[i]? = some b := ⟨s[i], by simp [show i < s.length by omega]⟩
    have hk := keyOf_at j i b hj
    by_cases hleft : 0 < (rs j most s i).1
    · have hiff : keyOf j i b ∉ (st j most s i).1 ↔ (i = 0 ∨ ∀ a, s[i - 1]? = some a → keyOf j 0 b ≠ keyOf j 0 a) := by
        constructor
        · intro h
          rcases Nat.eq_zero_or_pos i with h0 | h0
          · exact .inl h0
          · right
            intro a ha he
            rw [hk, he] at h
            exact h (e3 hleft (i - 1) a (by omega) ha)
        · intro h hmem
          obtain ⟨k, a, hki, ha, he⟩ := e4 _ hmem
          rcases h with h0 | h0
          · omega
          · obtain ⟨c, hc⟩ : ∃ c, s[i - 1]? = some c := ⟨s[i - 1], by simp [show i - 1 < s.length by omega]⟩
            have m1 := key_mono hs hd hj (show k ≤ i - 1 by omega) ha hc
            have m2 := key_mono hs hd hj (show i - 1 ≤ i by omega) hc hb
            rw [hk] at he
            exact h0 c hc (by omega)
      by_cases hc : keyOf j i b ∉ (st j most s i).1
      · rw [st_yes hb ⟨hc, by omega⟩, rs_yes hb ⟨hleft, hiff.1 hc⟩]
        refine ⟨by simp only [e1], by simp; omega, fun _ k a hka ha => ?_, fun x hx => ?_⟩
        · rw [List.mem_append]
          rcases Nat.lt_succ_iff_lt_or_eq.1 hka with h | h
          · exact .inl (e3 hleft k a h ha)
          · subst h
            obtain rfl := Option.some.inj (hb.symm.trans ha)
            right
            rw [List.mem_singleton, hk]
        · rw [List.mem_append, List.mem_singleton] at hx
          rcases hx with hx | hx
          · obtain ⟨k, a, h1, h2, h3⟩ := e4 x hx
            exact ⟨k, a, by omega, h2, h3⟩
          · exact ⟨i, b, by omega, hb, by rw [hx, hk]⟩
      · rw [st_no hb (fun h => hc h.1), rs_no hb (fun h => hc (hiff.2 h.2))]
        refine ⟨by simp only [e1], e2, fun _ k a hka ha => ?_, fun x hx => ?_⟩
        · rcases Nat.lt_succ_iff_lt_or_eq.1 hka with h | h
          · exact e3 hleft k a h ha
          · subst h
            obtain rfl := Option.some.inj (hb.symm.trans ha)
            rw [← hk]
            exact Classical.not_not.1 hc
        · obtain ⟨k, a, h1, h2, h3⟩ := e4 x hx
          exact ⟨k, a, by omega, h2, h3⟩
    · rw [st_no hb (fun h => by have := h.2; omega), rs_no hb (fun h => hleft h.1)]
      refine ⟨by simp only [e1], e2, fun h => absurd h hleft, fun x hx => ?_⟩
      obtain ⟨k, a, h1, h2, h3⟩ := e4 x hx
      exact ⟨k, a, by omega, h2, h3⟩
end Go.Proofs.Ytiobcjahgmkmiaa
