/- Layer 19: what the program finds is what the document finds; what that is. -/
import Derived.Test.YtipmmknecadkkaaZMtH
namespace Go.Proofs.Ytipmmknecadkkaa
open Go.RowKit

theorem atL_snoc (p : Nat → Bool) (l : List Nat) (k : Nat) : atL p (l ++ [k]) = if atL p l = -1 then (if p k then (k : Int) else -1) else atL p l := by
  unfold atL
  rw [List.find?_append]
  cases h : l.find? p with
  | some i => simp only [Option.some_or]; rw [if_neg (by omega)]
  | none =>
    simp only [Option.none_or, if_true]
    by_cases hp : p k = true
    · rw [List.find?_cons_of_pos hp, if_pos hp]
    · rw [List.find?_cons_of_neg hp, if_neg hp]; rfl
theorem atL_nil (p : Nat → Bool) : atL p [] = -1 := rfl
/-- What is told of a known entry. -/
def tlR (ks : List Rk) (i : Nat) : ByteArray × Bool := match ks[i]? with
  | some r => (if r.has then r.s else ⟨#[]⟩, r.has)
  | none => (⟨#[]⟩, false)
def knR (ks : List Rk) : List En := ks.map (·.en)
theorem atL_known (ks : List Rk) (c : ByteArray) : ∀ k, k ≤ ks.length → atL (pK (knR ks) (tlR ks) c) (idxs (psK ((knR ks).take k)) (bFq c)) = fstI (pR ks c) k
  | 0, _ => by rw [List.take_zero]; rfl
  | k + 1, h => by
    have ih := atL_known ks c k (by omega)
    obtain ⟨r, hr⟩ : ∃ r, ks[k]? = some r := ⟨ks[k], by simp [show k < ks.length by omega]⟩
    have hx : (knR ks)[k]? = some r.en := by unfold knR; rw [List.getElem?_map, hr]; rfl
    rw [psK_snoc hx, idxs_snoc, fstI_succ]
    have hp : pR ks c k = (decide (r.en.fq = bFq c) && (decide (r.en.ln = (c.size : Nat)) && (r.has && decide (r.s = c)))) := by unfold pR; rw [hr]
    have hq : pK (knR ks) (tlR ks) c k = (decide (r.en.ln = (c.size : Nat)) && (r.has && decide (r.s = c))) := by
      unfold pK
      rw [hx]
      show okT r.en (tlR ks k) c = _
      unfold okT tlR
      rw [hr]
      show (decide (r.en.ln = (c.size : Nat)) && (r.has && decide ((if r.has then r.s else (⟨#[]⟩ : ByteArray)) = c))) = _
      cases hh : r.has with
      | true => rfl
      | false => rfl
    by_cases he : r.en.fq = bFq c
    · rw [if_pos he, atL_snoc, ih, hp, decide_eq_true he, Bool.true_and, hq]
    · rw [if_neg he, List.append_nil, ih, hp, decide_eq_false he, Bool.false_and]
      by_cases h1 : fstI (pR ks c) k = -1
      · rw [if_pos h1, h1]; rfl
      · rw [if_neg h1]
section
variable (cs : List ByteArray) (ks : List Rk)
/-- What is found of one chunk. -/
def xsG (tl : Nat → ByteArray × Bool) (kn : List En) (k : Nat) (c : ByteArray) : Int × Int :=
  (atL (pK kn tl c) (idxs (psK kn) (bFq c)), if atL (pK kn tl c) (idxs (psK kn) (bFq c)) = -1 then atL (pO cs c) (idxs (segG cs kn tl k).2 (bFq c)) else -1)
theorem segG_succ (tl : Nat → ByteArray × Bool) (kn : List En) {k : Nat} {c : ByteArray} (h : cs[k]? = some c) : segG cs kn tl (k + 1) = ((segG cs kn tl k).1 ++ [xsG cs tl kn k c], if freshB (xsG cs tl kn k c) then (segG cs kn tl k).2 ++ [(k, bFq c)] else (segG cs kn tl k).2) := by
  rw [segG, h]; rfl
theorem docF_stay {j : Nat} : ∀ (d : Nat), j < cs.length → j + 1 + d ≤ cs.length → (docF cs ks (j + 1 + d))[j]? = (docF cs ks (j + 1))[j]?
  | 0, _, _ => rfl
  | d + 1, h, h2 => by
    obtain ⟨c, hc⟩ : ∃ c, cs[j + 1 + d]? = some c := ⟨cs[j + 1 + d], by simp [show j + 1 + d < cs.length by omega]⟩
    have hl := docF_len cs ks (j + 1 + d) (by omega)
    rw [← Nat.add_assoc, docF_succ cs ks hc, List.getElem?_append_left (by omega), docF_stay d h (by omega)]
theorem docF_at {j k : Nat} (h : j < k) (hk : k ≤ cs.length) : (docF cs ks k)[j]? = (docF cs ks (j + 1))[j]? := by
  obtain ⟨d, rfl⟩ : ∃ d, k = j + 1 + d := ⟨k - (j + 1), by omega⟩
  exact docF_stay cs ks d (by omega) hk
theorem docF_last {j : Nat} {c : ByteArray} (hc : cs[j]? = some c) : (docF cs ks (j + 1))[j]? = some (fstI (pR ks c) ks.length, if fstI (pR ks c) ks.length = -1 then fstI (pW cs (docF cs ks j) c) j else -1) := by
  have hj := (List.getElem?_eq_some_iff.1 hc).1
  have hl := docF_len cs ks j (by omega)
  rw [docF_succ cs ks hc, List.getElem?_append_right (by omega), hl, Nat.sub_self]; rfl
/-- New chunks of the first ones, by the document's answer. -/
theorem atL_own (c : ByteArray) (m : Nat) (hm : m ≤ cs.length) (hd : ∀ k, k ≤ m → (segG cs (knR ks) (tlR ks) k).1 = docF cs ks k) : ∀ j, j ≤ m → atL (pO cs c) (idxs (segG cs (knR ks) (tlR ks) j).2 (bFq c)) = fstI (pW cs (docF cs ks m) c) j
  | 0, _ => rfl
  | j + 1, h => by
    have ih := atL_own c m hm hd j (by omega)
    obtain ⟨d, hc⟩ : ∃ d, cs[j]? = some d := ⟨cs[j]'(by omega), by simp [show j < cs.length by omega]⟩
    have hs := segG_succ cs (tlR ks) (knR ks) hc
    have h1 := hd (j + 1) h
    have hx : (docF cs ks m)[j]? = some (xsG cs (tlR ks) (knR ks) j d) := by
      rw [docF_at cs ks (show j < m by omega) hm, ← h1, hs]
      dsimp only
      have hl := segG_len cs (knR ks) (tlR ks) j (by omega)
      rw [List.getElem?_append_right (by omega), hl, Nat.sub_self]; rfl
    rw [hs, fstI_succ]
    dsimp only
    have hp : pW cs (docF cs ks m) c j = (freshB (xsG cs (tlR ks) (knR ks) j d) && decide (d = c)) := by
      unfold pW
      rw [hx]
      show (freshB _ && decide (cs[j]? = some c)) = _
      rw [hc]
      congr 1
      rw [decide_eq_decide]; simp
    have hn : pW cs (docF cs ks m) c j = false → (if fstI (pW cs (docF cs ks m) c) j = -1 then (if pW cs (docF cs ks m) c j = true then (j : Int) else -1) else fstI (pW cs (docF cs ks m) c) j) = fstI (pW cs (docF cs ks m) c) j := fun h0 => by
      rw [h0]
      by_cases h2 : fstI (pW cs (docF cs ks m) c) j = -1
      · rw [if_pos h2, h2]; rfl
      · rw [if_neg h2]
    by_cases hf : freshB (xsG cs (tlR ks) (knR ks) j d) = true
    · rw [if_pos hf, idxs_snoc]
      rw [hf, Bool.true_and] at hp
      by_cases hq : bFq d = bFq c
      · rw [if_pos hq, atL_snoc, ih, hp]
        have : pO cs c j = decide (d = c) := by unfold pO; rw [hc, decide_eq_decide]; simp
        rw [this]
      · have hdc : d ≠ c := fun e => hq (by rw [e])
        rw [if_neg hq, List.append_nil, ih]
        rw [decide_eq_false hdc] at hp
        exact (hn hp).symm
    · rw [if_neg hf, ih]
      exact (hn (by rw [hp, Bool.eq_false_iff.2 hf]; rfl)).symm
theorem seg_doc : ∀ m, m ≤ cs.length → ∀ k, k ≤ m → (segG cs (knR ks) (tlR ks) k).1 = docF cs ks k
  | 0, _, k, hk => by obtain rfl : k = 0 := by omega
                      rfl
  | m + 1, hm, k, hk => by
    have ih := seg_doc m (by omega)
    by_cases h : k ≤ m
    · exact ih k h
    · obtain rfl : k = m + 1 := by omega
      obtain ⟨c, hc⟩ : ∃ c, cs[m]? = some c := ⟨cs[m]'(by omega), by simp [show m < cs.length by omega]⟩
      have hs := segG_succ cs (tlR ks) (knR ks) hc
      have ho := atL_own cs ks c m (by omega) ih m (Nat.le_refl _)
      have hk := atL_known ks c ks.length (Nat.le_refl _)
      have ht : (knR ks).take ks.length = knR ks := List.take_of_length_le (by unfold knR; rw [List.length_map]; exact Nat.le_refl _)
      rw [ht] at hk
      rw [hs, docF_succ cs ks hc]
      dsimp only
      unfold xsG
      rw [ih m (Nat.le_refl _), hk, ho]
theorem seg_docF : (segG cs (knR ks) (tlR ks) cs.length).1 = docF cs ks cs.length := seg_doc cs ks _ (Nat.le_refl _) _ (Nat.le_refl _)
/-- What the document's answer is. -/
structure Fnd (i : Nat) (c : ByteArray) (x : Int × Int) : Prop where
  k1 : -1 ≤ x.1
  k2 : x.1 < ks.length ∨ x.1 = -1
  o1 : -1 ≤ x.2
  o2 : x.2 < i
  one : 0 ≤ x.1 → x.2 < 0
  known : ∀ a : Nat, x.1 = a → pR ks c a = true
  own : ∀ b : Nat, x.2 = b → pW cs (docF cs ks cs.length) c b = true
  no : x.1 < 0 → ∀ a : Nat, a < ks.length → pR ks c a = false
  fresh : x.1 < 0 → x.2 < 0 → ∀ b : Nat, b < i → pW cs (docF cs ks cs.length) c b = false
end
theorem fstI_is {p : Nat → Bool} {n : Nat} {a : Nat} (h : fstI p n = a) : p a = true ∧ a < n := by
  unfold fstI at h
  split at h
  · rename_i i hi
    obtain rfl : i = a := by omega
    exact ⟨by have := List.find?_some hi; simpa using this, List.mem_range.1 (List.mem_of_find?_eq_some hi)⟩
  · omega
theorem fstI_no {p : Nat → Bool} {n : Nat} (h : fstI p n < 0) {a : Nat} (ha : a < n) : p a = false := by
  unfold fstI at h
  split at h
  · omega
  · rename_i hi
    have := List.find?_eq_none.1 hi a (List.mem_range.2 ha)
    simpa using this
theorem fstI_bnd (p : Nat → Bool) (n : Nat) : fstI p n < n ∨ fstI p n = -1 := by
  by_cases h : 0 < n
  · exact .inl (fstI_lt p n h)
  · obtain rfl : n = 0 := by omega
    exact .inr rfl
theorem fnd_of (cs : List ByteArray) (ks : List Rk) {i : Nat} {c : ByteArray} (hc : cs[i]? = some c) {x : Int × Int} (hx : (docF cs ks cs.length)[i]? = some x) : Fnd cs ks i c x := by
  have hi := (List.getElem?_eq_some_iff.1 hc).1
  rw [docF_at cs ks hi (Nat.le_refl _), docF_last cs ks hc] at hx
  simp only [Option.some.injEq] at hx
  have hw : ∀ b, b < i → pW cs (docF cs ks i) c b = pW cs (docF cs ks cs.length) c b := fun b hb => by
    unfold pW
    rw [docF_at cs ks hb (by omega), docF_at cs ks (show b < cs.length by omega) (Nat.le_refl _)]
  have hg := fstI_ge (pR ks c) ks.length
  have hg2 := fstI_ge (pW cs (docF cs ks i) c) i
  have hb := fstI_bnd (pR ks c) ks.length
  have hb2 := fstI_bnd (pW cs (docF cs ks i) c) i
  subst hx
  refine ⟨hg, hb, ?_, ?_, ?_, ?_, ?_, ?_, ?_⟩
  · dsimp only; split <;> omega
  · dsimp only; split <;> omega
  · intro h; dsimp only at h ⊢; rw [if_neg (by omega)]; decide
  · intro a ha; exact (fstI_is ha).1
  · intro b hb
    dsimp only at hb
    split at hb
    · have := fstI_is hb
      rw [← hw b this.2]; exact this.1
    · omega
  · intro h a ha; exact fstI_no h ha
  · intro h h2 b hb
    dsimp only at h h2
    rw [if_pos (by omega)] at h2
    rw [← hw b hb]
    exact fstI_no h2 hb
end Go.Proofs.Ytipmmknecadkkaa
