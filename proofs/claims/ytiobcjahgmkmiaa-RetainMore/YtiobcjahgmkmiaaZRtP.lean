/- The plain laws of layer 32: what is kept stays when it is kept again; a greater policy keeps more. -/
import Derived.Test.YtiobcjahgmkmiaaZRtN
namespace Go.Proofs.Ytiobcjahgmkmiaa

/-- A rule's marks, over a list. -/
noncomputable def rn (z : Bool) (κ : Bk → Int) (most : Int) : List Bk → List Int → List Bool
  | [], _ => []
  | b :: t, m => if (z = true ∨ κ b ∉ m) ∧ (m.length : Int) < most then true :: rn z κ most t (m ++ [κ b]) else false :: rn z κ most t m
theorem rn_len (z : Bool) (κ : Bk → Int) (most : Int) : ∀ s m, (rn z κ most s m).length = s.length
  | [], _ => rfl
  | b :: t, m => by
    unfold rn
    split
    · rw [List.length_cons, rn_len z κ most t, List.length_cons]
    · rw [List.length_cons, rn_len z κ most t, List.length_cons]
theorem st0_le (most : Int) (s : List Bk) : ∀ i, i ≤ s.length → ∀ x ∈ (st 0 most s i).1, x ≤ (i : Int)
  | 0, _, x, h => by simp [st] at h
  | i + 1, hi, x, h => by
    have ih := st0_le most s i (by omega)
    obtain ⟨b, hb⟩ : ∃ b, s[i]? = some b := ⟨s[i], by simp [show i < s.length by omega]⟩
    by_cases hc : keyOf 0 i b ∉ (st 0 most s i).1 ∧ ((st 0 most s i).1.length : Int) < most
    · rw [st_yes hb hc] at h
      rcases List.mem_append.1 h with h1 | h1
      · have := ih x h1; omega
      · rw [List.mem_singleton] at h1
        rw [h1]; unfold keyOf; rw [if_pos rfl]; omega
    · rw [st_no hb hc] at h
      have := ih x h; omega
theorem st_rn (j : Nat) (most : Int) (s : List Bk) : ∀ (t pre : List Bk) (m : List Int), s = pre ++ t → (st j most s pre.length).1.length = m.length → (j ≠ 0 → (st j most s pre.length).1 = m) →
    (st j most s s.length).2 = (st j most s pre.length).2 ++ rn (decide (j = 0)) (keyOf j 0) most t m
  | [], pre, m, hs, _, _ => by
    rw [List.append_nil] at hs
    rw [hs]; unfold rn; rw [List.append_nil]
  | b :: t, pre, m, hs, hl, hm => by
    have hb : s[pre.length]? = some b := by rw [hs]; simp
    have hpl : pre.length < s.length := by rw [hs]; simp
    have hiff : (keyOf j pre.length b ∉ (st j most s pre.length).1 ∧ ((st j most s pre.length).1.length : Int) < most) ↔ ((decide (j = 0) = true ∨ keyOf j 0 b ∉ m) ∧ (m.length : Int) < most) := by
      rw [hl]
      by_cases h0 : j = 0
      · subst h0
        have := st0_le most s pre.length (by omega)
        constructor
        · exact fun h => ⟨.inl rfl, h.2⟩
        · refine fun h => ⟨fun hin => ?_, h.2⟩
          have := this _ hin
          unfold keyOf at this
          rw [if_pos rfl] at this
          omega
      · rw [hm h0, keyOf_at j pre.length b (by omega)]
        simp [h0]
    have happ : s = (pre ++ [b]) ++ t := by rw [hs]; simp
    have hpl2 : (pre ++ [b]).length = pre.length + 1 := by simp
    by_cases hc : keyOf j pre.length b ∉ (st j most s pre.length).1 ∧ ((st j most s pre.length).1.length : Int) < most
    · have hy := st_yes hb hc
      rw [st_rn j most s t (pre ++ [b]) (m ++ [keyOf j 0 b]) happ (by rw [hpl2, hy]; simp [hl]) (fun h0 => by rw [hpl2, hy, hm h0, keyOf_at j pre.length b (by omega)]), hpl2, hy]
      rw [rn, if_pos (hiff.1 hc)]
      simp
    · have hy := st_no hb hc
      rw [st_rn j most s t (pre ++ [b]) m happ (by rw [hpl2, hy]; exact hl) (fun h0 => by rw [hpl2, hy]; exact hm h0), hpl2, hy]
      rw [rn, if_neg (fun h => hc (hiff.2 h))]
      simp
noncomputable abbrev rj (j : Nat) (most : Int) (s : List Bk) : List Bool := rn (decide (j = 0)) (keyOf j 0) most s []
theorem st_flags (j : Nat) (most : Int) (s : List Bk) : (st j most s s.length).2 = rj j most s := by
  have := st_rn j most s s [] [] rfl rfl (fun _ => rfl)
  simpa [st] using this
/-- Those that are marked. -/
def sel {α : Type} : List α → List Bool → List α
  | b :: t, c :: f => if c = true then b :: sel t f else sel t f
  | _, _ => []
theorem sel_sub {α : Type} : ∀ (s : List α) (f : List Bool), (sel s f).Sublist s
  | [], _ => by unfold sel; exact List.Sublist.refl _
  | b :: t, [] => by unfold sel; exact List.nil_sublist _
  | b :: t, c :: f => by
    unfold sel
    split
    · exact (sel_sub t f).cons_cons b
    · exact (sel_sub t f).cons b
theorem sel_snoc {α : Type} : ∀ (s : List α) (f : List Bool) (b : α) (c : Bool), s.length = f.length → sel (s ++ [b]) (f ++ [c]) = sel s f ++ (if c = true then [b] else [])
  | [], [], b, c, _ => by simp only [List.nil_append, sel]
  | [], _ :: _, _, _, h => by simp at h
  | _ :: _, [], _, _, h => by simp at h
  | a :: s, d :: f, b, c, h => by
    rw [List.cons_append, List.cons_append, sel, sel, sel_snoc s f b c (by simpa using h)]
    split
    · rfl
    · rfl
theorem pick2_sel (s : List Bk) (f : List Bool) (hf : f.length = s.length) : ∀ i, i ≤ s.length → (pick2 s f i).1 = sel (s.take i) (f.take i)
  | 0, _ => by simp [pick2, sel]
  | i + 1, h => by
    have ih := pick2_sel s f hf i (by omega)
    obtain ⟨b, hb⟩ : ∃ b, s[i]? = some b := ⟨s[i], by simp [show i < s.length by omega]⟩
    obtain ⟨c, hc⟩ : ∃ c, f[i]? = some c := ⟨f[i]'(by omega), by simp [show i < f.length by omega]⟩
    have hg : f.getD i false = c := by rw [List.getD_eq_getElem?_getD, hc]; rfl
    have e1 : s.take (i + 1) = s.take i ++ [b] := by rw [List.take_add_one, hb]; rfl
    have e2 : f.take (i + 1) = f.take i ++ [c] := by rw [List.take_add_one, hc]; rfl
    rw [e1, e2, sel_snoc _ _ _ _ (by rw [List.length_take, List.length_take]; omega), ← ih]
    cases c with
    | true => rw [pick2_yes hb hg]; rfl
    | false => rw [pick2_no hb hg]; simp
theorem pick2_sel_all (s : List Bk) (f : List Bool) (hf : f.length = s.length) : (pick2 s f s.length).1 = sel s f := by
  have := pick2_sel s f hf s.length (Nat.le_refl _)
  rw [List.take_length, ← hf, List.take_length, hf] at this
  exact this
/-- Kept again: a rule whose marks are all chosen marks the same among the chosen. -/
theorem rn_sel (z : Bool) (κ : Bk → Int) (most : Int) : ∀ (s : List Bk) (f : List Bool) (m : List Int), f.length = s.length → (∀ i : Nat, (rn z κ most s m)[i]? = some true → f[i]? = some true) → rn z κ most (sel s f) m = sel (rn z κ most s m) f
  | [], [], m, _, _ => by simp [sel, rn]
  | [], _ :: _, _, h, _ => by simp at h
  | _ :: _, [], _, h, _ => by simp at h
  | b :: t, c :: f, m, h, hsub => by
    by_cases hc : (z = true ∨ κ b ∉ m) ∧ (m.length : Int) < most
    · have e : rn z κ most (b :: t) m = true :: rn z κ most t (m ++ [κ b]) := by rw [rn, if_pos hc]
      rw [e] at hsub ⊢
      obtain rfl : c = true := by simpa using hsub 0 rfl
      rw [sel, if_pos rfl, sel, if_pos rfl, rn, if_pos hc, rn_sel z κ most t f _ (by simpa using h) fun i hi => by simpa using hsub (i + 1) (by simpa using hi)]
    · have e : rn z κ most (b :: t) m = false :: rn z κ most t m := by rw [rn, if_neg hc]
      rw [e] at hsub ⊢
      have ih := rn_sel z κ most t f m (by simpa using h) fun i hi => by simpa using hsub (i + 1) (by simpa using hi)
      cases c with
      | true => rw [sel, if_pos rfl, sel, if_pos rfl, rn, if_neg hc, ih]
      | false => rw [sel, if_neg (by decide), sel, if_neg (by decide), ih]
theorem orL_at : ∀ (p f : List Bool), p.length = f.length → ∀ i : Nat, (orL p f)[i]? = some true ↔ (p[i]? = some true ∨ f[i]? = some true)
  | [], [], _, i => by simp [orL]
  | [], _ :: _, h, _ => by simp at h
  | _ :: _, [], h, _ => by simp at h
  | a :: p, b :: f, h, 0 => by simp [orL]
  | a :: p, b :: f, h, i + 1 => by
    have := orL_at p f (by simpa using h) i
    simpa [orL] using this
theorem orL_sel : ∀ (p r f : List Bool), p.length = f.length → r.length = f.length → orL (sel p f) (sel r f) = sel (orL p r) f
  | [], [], [], _, _ => by simp [sel, orL]
  | a :: p, b :: r, c :: f, h1, h2 => by
    have ih := orL_sel p r f (by simpa using h1) (by simpa using h2)
    cases c with
    | true => simp only [sel, orL, if_true]; rw [ih]
    | false => simp only [sel, orL]; simpa using ih
  | [], _ :: _, [], _, h => by simp at h
  | _ :: _, _, [], h, _ => by simp at h
  | [], _, _ :: _, h, _ => by simp at h
  | _, [], _ :: _, _, h => by simp at h
theorem sel_self : ∀ f : List Bool, sel f f = List.replicate (sel f f).length true
  | [] => rfl
  | true :: f => by
    have := sel_self f
    simp only [sel, if_true, List.length_cons, List.replicate_succ]
    rw [← this]
  | false :: f => by
    have := sel_self f
    simpa [sel] using this
theorem sel_len {α β : Type} : ∀ (s : List α) (r : List β) (f : List Bool), s.length = f.length → r.length = f.length → (sel s f).length = (sel r f).length
  | [], [], [], _, _ => rfl
  | a :: s, b :: r, c :: f, h1, h2 => by
    have ih := sel_len s r f (by simpa using h1) (by simpa using h2)
    cases c with
    | true => simp only [sel, if_true, List.length_cons]; rw [ih]
    | false => simpa [sel] using ih
  | [], _ :: _, [], _, h => by simp at h
  | _ :: _, _, [], h, _ => by simp at h
  | [], _, _ :: _, h, _ => by simp at h
  | _, [], _ :: _, _, h => by simp at h
theorem sel_rep_false : ∀ (f : List Bool) (n : Nat), n = f.length → sel (List.replicate n false) f = List.replicate (sel f f).length false
  | [], _, h => by subst h; rfl
  | true :: f, _, h => by
    subst h
    have ih := sel_rep_false f f.length rfl
    simp only [List.length_cons, List.replicate_succ, sel, if_true]; rw [ih]
  | false :: f, _, h => by
    subst h
    have ih := sel_rep_false f f.length rfl
    simpa [List.replicate_succ, sel] using ih
theorem sel_all {α : Type} : ∀ s : List α, sel s (List.replicate s.length true) = s
  | [] => rfl
  | b :: t => by simp only [List.length_cons, List.replicate_succ, sel, if_true]; rw [sel_all t]
theorem kp_rj (p : Pol) (s : List Bk) (j : Nat) : kp p s (j + 1) = orL (kp p s j) (rj j (p.at j) s) := by rw [kp, st_flags]
theorem kp_up (p : Pol) (s : List Bk) (j : Nat) (i : Nat) (h : (kp p s j)[i]? = some true) : (kp p s (j + 1))[i]? = some true := by
  rw [kp_rj]
  exact (orL_at _ _ (by rw [kp_len, rn_len]) i).2 (.inl h)
theorem kp_rule (p : Pol) (s : List Bk) (j : Nat) (hj : j < 4) (i : Nat) (h : (rj j (p.at j) s)[i]? = some true) : (kp p s 4)[i]? = some true := by
  have h1 : (kp p s (j + 1))[i]? = some true := by
    rw [kp_rj]
    exact (orL_at _ _ (by rw [kp_len, rn_len]) i).2 (.inr h)
  have h4 : ∀ d, j + 1 + d ≤ 4 → (kp p s (j + 1 + d))[i]? = some true := by
    intro d
    induction d with
    | zero => exact fun _ => h1
    | succ d ih => exact fun hd => kp_up p s (j + 1 + d) i (ih (by omega))
  have := h4 (3 - j) (by omega)
  rwa [show j + 1 + (3 - j) = 4 by omega] at this
theorem kp_again (p : Pol) (s : List Bk) : ∀ j, j ≤ 4 → kp p (sel s (kp p s 4)) j = sel (kp p s j) (kp p s 4)
  | 0, _ => by
    rw [kp, kp, sel_rep_false _ _ (kp_len p s 4).symm, sel_len s (kp p s 4) (kp p s 4) (kp_len p s 4).symm rfl]
  | j + 1, h => by
    rw [kp_rj, kp_again p s j (by omega), kp_rj p s j]
    rw [← orL_sel _ _ _ (by rw [kp_len, kp_len]) (by rw [rn_len, kp_len])]
    congr 1
    exact rn_sel _ _ _ s _ [] (kp_len p s 4) fun i hi => kp_rule p s j (by omega) i hi
theorem sortK_strict {K : List Bk} (h : K.Pairwise ltK) : sortK K = K := setS_ext ltK_ord cfK_iff h fun _ => Iff.rfl
theorem sortK_pw (l : List Bk) : (sortK l).Pairwise ltK := setS_strict ltK_ord cfK_iff l
theorem kept_sel (p : Pol) (l : List Bk) : (keptK p l).1 = sel (sortK l) (kp p (sortK l) 4) := pick2_sel_all _ _ (kp_len p _ 4)
theorem kept_again (p : Pol) (l : List Bk) : (keptK p (keptK p l).1).1 = (keptK p l).1 := by
  have hK := kept_sel p l
  have hs : sortK (keptK p l).1 = (keptK p l).1 := sortK_strict (by rw [hK]; exact (sortK_pw l).sublist (sel_sub _ _))
  rw [kept_sel p (keptK p l).1, hs, hK]
  rw [kp_again p (sortK l) 4 (Nat.le_refl _), sel_self, sel_len (kp p (sortK l) 4) (sortK l) _ rfl (kp_len p _ 4).symm]
  exact sel_all _
theorem sortK_mem (l : List Bk) (b : Bk) : b ∈ sortK l ↔ b ∈ l := setS_mem cfK l b
theorem kept_in (p : Pol) (l : List Bk) {b : Bk} (h : b ∈ (keptK p l).1) : b ∈ l := by
  rw [kept_sel] at h
  exact (sortK_mem l b).1 ((sel_sub _ _).subset h)
theorem kept_sum (p : Pol) (l : List Bk) : (keptK p l).1.length + (keptK p l).2.length = (sortK l).length := pick2_len _ _ _ (Nat.le_refl _)
theorem rn_stop (z : Bool) (κ : Bk → Int) (most : Int) : ∀ (s : List Bk) (m : List Int), most ≤ (m.length : Int) → ∀ i : Nat, (rn z κ most s m)[i]? ≠ some true
  | [], _, _, i => by simp [rn]
  | b :: t, m, h, 0 => by rw [rn, if_neg (by omega)]; simp
  | b :: t, m, h, i + 1 => by
    rw [rn, if_neg (by omega)]
    simpa using rn_stop z κ most t m h i
theorem rn_more (z : Bool) (κ : Bk → Int) {most most' : Int} (hle : most ≤ most') : ∀ (s : List Bk) (m : List Int) (i : Nat), (rn z κ most s m)[i]? = some true → (rn z κ most' s m)[i]? = some true
  | [], _, i, h => by simp [rn] at h
  | b :: t, m, i, h => by
    by_cases hm : (m.length : Int) < most
    · by_cases hc : z = true ∨ κ b ∉ m
      · rw [rn, if_pos ⟨hc, hm⟩] at h
        rw [rn, if_pos ⟨hc, by omega⟩]
        cases i with
        | zero => rfl
        | succ i => exact rn_more z κ hle t _ i h
      · rw [rn, if_neg (fun hh => hc hh.1)] at h
        rw [rn, if_neg (fun hh => hc hh.1)]
        cases i with
        | zero => simp at h
        | succ i => exact rn_more z κ hle t _ i h
    · exact absurd h (rn_stop z κ most (b :: t) m (by omega) i)
def leP (p q : Pol) : Prop := p.la ≤ q.la ∧ p.da ≤ q.da ∧ p.we ≤ q.we ∧ p.mo ≤ q.mo
theorem leP_at {p q : Pol} (h : leP p q) (j : Nat) : p.at j ≤ q.at j := by
  unfold Pol.at
  (repeat' split)
  · exact h.1
  · exact h.2.1
  · exact h.2.2.1
  · exact h.2.2.2
theorem kp_more {p q : Pol} (h : leP p q) (s : List Bk) : ∀ (j i : Nat), (kp p s j)[i]? = some true → (kp q s j)[i]? = some true
  | 0, i, hi => hi
  | j + 1, i, hi => by
    rw [kp_rj] at hi ⊢
    rcases (orL_at _ _ (by rw [kp_len, rn_len]) i).1 hi with h1 | h1
    · exact (orL_at _ _ (by rw [kp_len, rn_len]) i).2 (.inl (kp_more h s j i h1))
    · exact (orL_at _ _ (by rw [kp_len, rn_len]) i).2 (.inr (rn_more _ _ (leP_at h j) s [] i h1))
theorem sel_more {α : Type} : ∀ (s : List α) (f g : List Bool), (∀ i : Nat, f[i]? = some true → g[i]? = some true) → ∀ b, b ∈ sel s f → b ∈ sel s g
  | [], _, _, _, b, h => by simp [sel] at h
  | a :: s, [], _, _, b, h => by simp [sel] at h
  | a :: s, c :: f, [], hs, b, h => by
    have hno : ∀ i : Nat, (c :: f)[i]? ≠ some true := fun i hi => by have := hs i hi; simp at this
    have : ∀ (s : List α) (f : List Bool), (∀ i : Nat, f[i]? ≠ some true) → sel s f = [] := by
      intro s
      induction s with
      | nil => intro f _; simp [sel]
      | cons a s ih =>
        intro f hf
        cases f with
        | nil => simp [sel]
        | cons c f =>
          have h0 := hf 0
          rw [sel, if_neg (by simpa using h0)]
          exact ih f fun i => by simpa using hf (i + 1)
    rw [this _ _ hno] at h
    cases h
  | a :: s, c :: f, d :: g, hs, b, h => by
    have ih := sel_more s f g (fun i hi => by simpa using hs (i + 1) (by simpa using hi)) b
    cases c with
    | true =>
      obtain rfl : d = true := by simpa using hs 0 rfl
      rw [sel, if_pos rfl] at h ⊢
      rcases List.mem_cons.1 h with h1 | h1
      · exact List.mem_cons.2 (.inl h1)
      · exact List.mem_cons.2 (.inr (ih h1))
    | false =>
      rw [sel, if_neg (by decide)] at h
      rw [sel]
      split
      · exact List.mem_cons.2 (.inr (ih h))
      · exact ih h
theorem kept_more {p q : Pol} (h : leP p q) (l : List Bk) {b : Bk} (hb : b ∈ (keptK p l).1) : b ∈ (keptK q l).1 := by
  rw [kept_sel] at hb ⊢
  exact sel_more _ _ _ (kp_more h _ 4) b hb
theorem sel_least (κ : Bk → Int) (most : Int) : ∀ (s : List Bk) (f : List Bool) (m : List Int), f.length = s.length → (∀ i : Nat, (rn true κ most s m)[i]? = some true → f[i]? = some true) → min (most - m.length) s.length ≤ ((sel s f).length : Int)
  | [], _, m, _, _ => by simp; omega
  | b :: t, [], _, h, _ => by simp at h
  | b :: t, c :: f, m, h, hs => by
    by_cases hm : (m.length : Int) < most
    · rw [rn, if_pos ⟨.inl rfl, hm⟩] at hs
      obtain rfl : c = true := by simpa using hs 0 rfl
      have ih := sel_least κ most t f (m ++ [κ b]) (by simpa using h) fun i hi => by simpa using hs (i + 1) (by simpa using hi)
      rw [sel, if_pos rfl, List.length_cons, List.length_cons]
      rw [List.length_append, List.length_singleton] at ih
      omega
    · omega
theorem kept_least (p : Pol) (l : List Bk) : min p.la (sortK l).length ≤ ((keptK p l).1.length : Int) := by
  rw [kept_sel]
  have := sel_least (keyOf 0 0) p.la (sortK l) (kp p (sortK l) 4) [] (kp_len p _ 4) fun i hi => kp_rule p (sortK l) 0 (by omega) i hi
  simpa using this
end Go.Proofs.Ytiobcjahgmkmiaa
