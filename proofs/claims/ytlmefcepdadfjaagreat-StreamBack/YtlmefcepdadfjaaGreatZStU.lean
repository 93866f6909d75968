/- Texts of this claim, one behind the other. -/
import Derived.Test.YtlmefcepdadfjaaGreatZSuT
/- Layer 23: what the places of what is made hold: the stream's bytes; each new chunk is named; boxes keep their bounds; plain. -/
namespace Go.Proofs.YtlmefcepdadfjaaGreat
open Go.RowKit

def Ids (box : Int) (bs : List Bx) : Prop := ∀ (i : Nat) (x : Bx), bs[i]? = some x → x.1 = box + i
def Apart (box : Int) (G : List (List Rk)) : Prop := ∀ g ∈ G, ∀ r ∈ g, r.en.bx < box
def Back (G : List (List Rk)) (bs : List Bx) (es : List En) (cs : List ByteArray) : Prop := es.length = cs.length ∧ ∀ (j : Nat) (e : En) (s : ByteArray), es[j]? = some e → cs[j]? = some s → toldP G bs e = (s, true) ∧ ∃ p, e = mkEn s p
def Named (bs : List Bx) (es : List En) : Prop := ∀ x ∈ bs, ∀ k, k < x.2.length → ∃ e ∈ es, e.bx = x.1 ∧ e.sl = (k : Nat)
def Bounds (c : Nat → Int) (bs : List Bx) : Prop := ∀ x ∈ bs, 1 ≤ x.2.length ∧ (x.2.length : Int) ≤ c 11 ∧ (szB x.2 : Int) ≤ c 12
def Stay (G : List (List Rk)) (a b : List Bx) : Prop := ∀ e s, toldP G a e = (s, true) → toldP G b e = (s, true)
section
variable {c : Nat → Int} {box man : Int} {G : List (List Rk)}
theorem Ids.none {bs : List Bx} (h : Ids box bs) {b : Int} (hb : b < box ∨ box + bs.length ≤ b) : bs.find? (fun x : Bx => x.1 == b) = none := List.find?_eq_none.2 fun y hy => by
  obtain ⟨i, hi⟩ := List.getElem?_of_mem hy
  have h1 := h i y hi
  have h2 := (List.getElem?_eq_some_iff.1 hi).1
  simp only [beq_iff_eq]; omega
theorem Ids.left {bs : List Bx} {x : Bx} (h : Ids box (bs ++ [x])) : Ids box bs ∧ x.1 = box + bs.length :=
  ⟨fun i y hi => h i y (by rw [List.getElem?_append_left (List.getElem?_eq_some_iff.1 hi).1]; exact hi), h bs.length x (by simp)⟩
theorem Ids.snoc {bs : List Bx} {x : Bx} (h : Ids box bs) (hx : x.1 = box + bs.length) : Ids box (bs ++ [x]) := fun i y hi => by
  rcases Nat.lt_or_ge i bs.length with h1 | h1
  · rw [List.getElem?_append_left h1] at hi; exact h i y hi
  · rw [List.getElem?_append_right h1] at hi
    rcases Nat.eq_zero_or_pos (i - bs.length) with h2 | h2
    · rw [h2] at hi
      simp only [List.getElem?_cons_zero, Option.some.injEq] at hi
      obtain rfl : i = bs.length := by omega
      rw [← hi]; exact hx
    · rw [List.getElem?_eq_none (by simp; omega)] at hi; cases hi
theorem Ids.put {bs : List Bx} (h : Ids box bs) (h0 : 0 ≤ box) (hw : box + bs.length < 4294967296) (x : ByteArray) : Ids box (putP c box bs x).1 := by
  rcases putP_cases c box bs x with ⟨bs0, b, rfl, _, e⟩ | ⟨_, e⟩ <;> rw [e]
  · exact h.left.1.snoc h.left.2
  · exact h.snoc (by dsimp only; omega)
theorem bytesG_mem {b s : Int} {t : ByteArray} (h : bytesG G b s = (t, true)) : ∃ g ∈ G, ∃ r ∈ g, r.en.bx = b := by
  unfold bytesG at h
  split at h
  · rename_i r hr
    have h1 := List.find?_some hr
    have h2 := List.mem_of_find?_eq_some hr
    obtain ⟨g, hg, hr2⟩ := List.mem_flatten.1 h2
    simp only [Bool.and_eq_true, beq_iff_eq] at h1
    exact ⟨g, hg, r, hr2, h1.1⟩
  · simp at h
theorem toldP_of {bs bs' : List Bx} {e : En} (h : bs'.find? (fun x : Bx => x.1 == e.bx) = bs.find? (fun x : Bx => x.1 == e.bx)) : toldP G bs' e = toldP G bs e := by
  unfold toldP chunkP; rw [h]
theorem toldP_in {bs : List Bx} {e : En} {x : Bx} {t : ByteArray} (h : bs.find? (fun x : Bx => x.1 == e.bx) = some x) : toldP G bs e = (t, true) ↔ 0 ≤ e.sl ∧ x.2[e.sl.toNat]? = some t := by
  by_cases h1 : 0 ≤ e.sl ∧ e.sl < x.2.length
  · have e1 : toldP G bs e = (x.2.getD e.sl.toNat ⟨#[]⟩, true) := by
      have e2 : chunkP bs e.bx e.sl = (x.2.getD e.sl.toNat ⟨#[]⟩, true, true) := by unfold chunkP; rw [h]; dsimp only; rw [if_pos h1]
      unfold toldP; rw [e2]; rfl
    rw [e1, List.getD_eq_getElem?_getD, List.getElem?_eq_getElem (by omega : e.sl.toNat < x.2.length)]
    simp only [Option.getD_some, Prod.mk.injEq, and_true, Option.some.injEq]
    exact ⟨fun h => ⟨h1.1, h⟩, fun h => h.2⟩
  · have e1 : toldP G bs e = (⟨#[]⟩, false) := by
      have e2 : chunkP bs e.bx e.sl = (⟨#[]⟩, true, false) := by unfold chunkP; rw [h]; dsimp only; rw [if_neg h1]
      unfold toldP; rw [e2]; rfl
    rw [e1]
    simp only [Prod.mk.injEq, Bool.false_eq_true, and_false, false_iff, not_and]
    intro h2 h3
    have := (List.getElem?_eq_some_iff.1 h3).1
    omega
theorem find_snoc {bs : List Bx} {x : Bx} {b : Int} : (bs ++ [x]).find? (fun y : Bx => y.1 == b) = (bs.find? (fun y : Bx => y.1 == b)).or (if x.1 = b then some x else none) := by
  rw [List.find?_append]
  congr 1
  by_cases h : x.1 = b
  · rw [if_pos h, List.find?_cons_of_pos (by simpa using h)]
  · rw [if_neg h, List.find?_cons_of_neg (by simpa using h)]; rfl
theorem stay_put {bs : List Bx} (hi : Ids box bs) (h0 : 0 ≤ box) (ha : Apart box G) (hw : box + bs.length < 4294967296) (x : ByteArray) : Stay G bs (putP c box bs x).1 := fun e s hs => by
  rcases putP_cases c box bs x with ⟨bs0, b, rfl, _, e1⟩ | ⟨_, e1⟩ <;> rw [e1] <;> dsimp only
  · cases h1 : bs0.find? (fun y : Bx => y.1 == e.bx) with
    | some y =>
      rw [toldP_of (bs := bs0) (by rw [find_snoc, h1]; rfl)] at hs ⊢; exact hs
    | none =>
      by_cases h2 : b.1 = e.bx
      · rw [toldP_in (x := b) (by rw [find_snoc, h1, if_pos h2]; rfl)] at hs
        rw [toldP_in (x := (b.1, b.2 ++ [x])) (by rw [find_snoc, h1, if_pos h2]; rfl)]
        refine ⟨hs.1, ?_⟩
        dsimp only
        rw [List.getElem?_append_left (List.getElem?_eq_some_iff.1 hs.2).1]; exact hs.2
      · rw [toldP_of (bs := bs0) (by rw [find_snoc, h1, if_neg h2]; rfl)] at hs ⊢; exact hs
  · cases h1 : bs.find? (fun y : Bx => y.1 == e.bx) with
    | some y => rw [toldP_of (bs := bs) (by rw [find_snoc, h1]; rfl)]; exact hs
    | none =>
      have h3 : e.bx < box := by
        have h4 : bytesG G e.bx e.sl = (s, true) := by
          unfold toldP chunkP at hs
          rw [h1] at hs
          exact hs
        obtain ⟨g, hg, r, hr, h5⟩ := bytesG_mem h4
        have := ha g hg r hr
        omega
      rw [toldP_of (bs := bs) (by rw [find_snoc, h1, if_neg (by dsimp only; omega)]; rfl)]; exact hs
theorem told_put {bs : List Bx} (hi : Ids box bs) (h0 : 0 ≤ box) (hw : box + bs.length < 4294967296) (x : ByteArray) : toldP G (putP c box bs x).1 (mkEn x (putP c box bs x).2) = (x, true) := by
  rcases putP_cases c box bs x with ⟨bs0, b, rfl, _, e1⟩ | ⟨_, e1⟩ <;> rw [e1] <;> dsimp only
  · have h1 := hi.left.1.none (b := b.1) (.inr (by have := hi.left.2; omega))
    rw [toldP_in (x := (b.1, b.2 ++ [x])) (by show List.find? (fun y : Bx => y.1 == b.1) _ = _; rw [find_snoc, h1, if_pos rfl]; rfl)]
    exact ⟨Int.natCast_nonneg _, by show (b.2 ++ [x])[((b.2.length : Nat) : Int).toNat]? = _; rw [Int.toNat_natCast]; simp⟩
  · have h1 := hi.none (b := (box + bs.length) % 4294967296) (.inr (by omega))
    rw [toldP_in (x := ((box + bs.length) % 4294967296, [x])) (by show List.find? (fun y : Bx => y.1 == (box + bs.length) % 4294967296) _ = _; rw [find_snoc, h1, if_pos rfl]; rfl)]
    exact ⟨Int.le_refl _, rfl⟩
theorem bounds_put {bs : List Bx} (h : Bounds c bs) {x : ByteArray} (h1 : 1 ≤ c 11) (hx : (x.size : Int) ≤ c 12) : Bounds c (putP c box bs x).1 := by
  rcases putP_cases c box bs x with ⟨bs0, b, rfl, hf, e⟩ | ⟨_, e⟩ <;> rw [e] <;> intro y hy <;> dsimp only at hy <;> rcases List.mem_append.1 hy with h2 | h2
  · exact h y (List.mem_append_left _ h2)
  · obtain rfl := List.mem_singleton.1 h2
    unfold fitsB at hf
    rw [decide_eq_true_iff] at hf
    dsimp only
    rw [szB_snoc, List.length_append, List.length_singleton]
    omega
  · exact h y h2
  · obtain rfl := List.mem_singleton.1 h2
    dsimp only
    refine ⟨Nat.le_refl _, by simpa using h1, by simpa [szB] using hx⟩
theorem named_put {bs : List Bx} {es : List En} (h : Named bs es) (x : ByteArray) : Named (putP c box bs x).1 (es ++ [mkEn x (putP c box bs x).2]) := by
  have hold : ∀ y ∈ bs, ∀ k, k < y.2.length → ∃ e ∈ es ++ [mkEn x (putP c box bs x).2], e.bx = y.1 ∧ e.sl = (k : Nat) := fun y hy k hk => by
    obtain ⟨e, he, h1⟩ := h y hy k hk
    exact ⟨e, List.mem_append_left _ he, h1⟩
  rcases putP_cases c box bs x with ⟨bs0, b, rfl, hf, e⟩ | ⟨_, e⟩ <;> rw [e] at hold ⊢ <;> intro y hy k hk <;> dsimp only at hy <;> rcases List.mem_append.1 hy with h2 | h2
  · exact hold y (List.mem_append_left _ h2) k hk
  · obtain rfl := List.mem_singleton.1 h2
    dsimp only at hk ⊢
    rw [List.length_append, List.length_singleton] at hk
    rcases Nat.lt_or_ge k b.2.length with h3 | h3
    · exact hold b (by simp) k h3
    · obtain rfl : k = b.2.length := by omega
      exact ⟨_, List.mem_append_right _ (List.mem_singleton.2 rfl), rfl, rfl⟩
  · exact hold y h2 k hk
  · obtain rfl := List.mem_singleton.1 h2
    dsimp only at hk ⊢
    obtain rfl : k = 0 := by simpa using hk
    exact ⟨_, List.mem_append_right _ (List.mem_singleton.2 rfl), rfl, rfl⟩
theorem Back.snoc {bs bs' : List Bx} {es : List En} {cs : List ByteArray} {s : ByteArray} {p : Int × Int} (h : Back G bs es cs) (hs : Stay G bs bs') (ht : toldP G bs' (mkEn s p) = (s, true)) : Back G bs' (es ++ [mkEn s p]) (cs ++ [s]) := by
  obtain ⟨hl, h⟩ := h
  refine ⟨by rw [List.length_append, List.length_append, hl]; rfl, fun j e t he ht2 => ?_⟩
  rcases Nat.lt_or_ge j es.length with h1 | h1
  · rw [List.getElem?_append_left h1] at he
    rw [List.getElem?_append_left (by omega)] at ht2
    obtain ⟨h2, h3⟩ := h j e t he ht2
    exact ⟨hs e t h2, h3⟩
  · rw [List.getElem?_append_right h1] at he
    rw [List.getElem?_append_right (by omega)] at ht2
    rcases Nat.eq_zero_or_pos (j - es.length) with h2 | h2
    · rw [h2] at he
      rw [← hl, h2] at ht2
      simp only [List.getElem?_cons_zero, Option.some.injEq] at he ht2
      subst he; subst ht2
      exact ⟨ht, p, rfl⟩
    · rw [List.getElem?_eq_none (by simp; omega)] at he; cases he
structure Sound (c : Nat → Int) (box : Int) (G : List (List Rk)) (bs : List Bx) (es : List En) (cs : List ByteArray) : Prop where
  ids : Ids box bs
  back : Back G bs es cs
  named : Named bs es
  bounds : Bounds c bs
theorem found_is {cs : List ByteArray} {kn : List En} {bs : List Bx} {i : Nat} {s : ByteArray} {f : Int × Int} (hs : cs[i]? = some s) (hf : (segG cs kn (tlL G kn bs) cs.length).1[i]? = some f) : (∀ a : Nat, f.1 = a → ∃ e, kn[a]? = some e ∧ toldP G bs e = (s, true)) ∧ (∀ b : Nat, f.2 = b → b < i ∧ cs[b]? = some s) := by
  rw [← docF_up] at hf
  have hF := fnd_of cs _ hs hf
  refine ⟨fun a ha => ?_, fun b hb => ?_⟩
  · have h3 := hF.known a ha
    unfold pR at h3
    rw [List.getElem?_map] at h3
    cases h4 : kn[a]? with
    | none => rw [h4] at h3; cases h3
    | some e =>
      rw [h4] at h3
      simp only [Option.map_some, rkOf, Bool.and_eq_true, decide_eq_true_eq] at h3
      refine ⟨e, rfl, ?_⟩
      rw [← h3.2.2.2, ← h3.2.2.1]
  · have h3 := hF.own b hb
    have h4 := hF.o2
    unfold pW at h3
    cases h5 : (docF cs (kn.map (rkOf G bs)) cs.length)[b]? with
    | none => rw [h5] at h3; cases h3
    | some x =>
      rw [h5] at h3
      simp only [Bool.and_eq_true, decide_eq_true_eq] at h3
      exact ⟨by omega, h3.2⟩
theorem layStep_mono (kn : List En) (st : List Bx × List En) (x : ByteArray × (Int × Int)) : st.1.length ≤ (layStep c box kn st x).1.length := by
  rcases layStep_bs (c := c) (box := box) kn st x with e | e <;> rw [e]
  · exact Nat.le_refl _
  · rcases putP_cases c box st.1 x.1 with ⟨bs0, b, h, _, e⟩ | ⟨_, e⟩ <;> rw [e]
    · rw [h]; simp
    · simp
theorem layFold_mono (kn : List En) : ∀ (l : List (ByteArray × (Int × Int))) (st : List Bx × List En), st.1.length ≤ (l.foldl (layStep c box kn) st).1.length
  | [], _ => Nat.le_refl _
  | x :: l, st => by rw [List.foldl_cons]; exact Nat.le_trans (layStep_mono kn st x) (layFold_mono kn l _)
theorem layP_mono (σ : Ls) (cs : List ByteArray) : σ.bs.length ≤ (layP c box man G σ cs).bs.length ∧ σ.ms.length ≤ (layP c box man G σ cs).ms.length := by
  unfold layP
  dsimp only
  refine ⟨?_, by simp⟩
  exact layFold_mono (knL c G σ cs) (cs.zip (fsL c G σ cs)) (σ.bs, [])
theorem feedP_mono (σ : Ls × List ByteArray) (x : ByteArray) : σ.1.bs.length ≤ (feedP c box man G σ x).1.bs.length ∧ σ.1.ms.length ≤ (feedP c box man G σ x).1.ms.length := by
  unfold feedP
  split
  · exact ⟨Nat.le_refl _, Nat.le_refl _⟩
  · exact layP_mono _ _
theorem laidP_mono (cs ds : List ByteArray) : (laidP c box man G cs).1.bs.length ≤ (laidP c box man G (cs ++ ds)).1.bs.length ∧ (laidP c box man G cs).1.ms.length ≤ (laidP c box man G (cs ++ ds)).1.ms.length := by
  refine snoc_ind (P := fun ds => (laidP c box man G cs).1.bs.length ≤ (laidP c box man G (cs ++ ds)).1.bs.length ∧ (laidP c box man G cs).1.ms.length ≤ (laidP c box man G (cs ++ ds)).1.ms.length) ?_ (fun l x ih => ?_) ds
  · rw [List.append_nil]; exact ⟨Nat.le_refl _, Nat.le_refl _⟩
  · rw [← List.append_assoc, laidP_snoc]
    have := feedP_mono (c := c) (box := box) (man := man) (G := G) (laidP c box man G (cs ++ l)) x
    omega
theorem lay_sound (h0 : 0 ≤ box) (ha : Apart box G) (h11 : 1 ≤ c 11) {σ : Ls} {ES : List En} {DS cs : List ByteArray} (hcs : ∀ s ∈ cs, (s.size : Int) ≤ c 12) (h : Sound c box G σ.bs ES DS) (hw : box + (layP c box man G σ cs).bs.length < 4294967296) :
    ∃ es, (layP c box man G σ cs).ms = σ.ms ++ [((man + σ.ms.length) % 4294967296, es)] ∧ Sound c box G (layP c box man G σ cs).bs (ES ++ es) (DS ++ cs) := by
  obtain ⟨KN, hKN⟩ : ∃ K, K = knL c G σ cs := ⟨_, rfl⟩
  obtain ⟨fs, hfs⟩ : ∃ fs, fs = fsL c G σ cs := ⟨_, rfl⟩
  have hfl : fs.length = cs.length := by rw [hfs]; exact fsL_len σ cs
  have hzl : (cs.zip fs).length = cs.length := by rw [List.length_zip, hfl]; omega
  have hfd : ∀ (i : Nat) (s : ByteArray) (f : Int × Int), cs[i]? = some s → fs[i]? = some f → (∀ a : Nat, f.1 = a → ∃ e, KN[a]? = some e ∧ toldP G σ.bs e = (s, true)) ∧ (∀ b : Nat, f.2 = b → b < i ∧ cs[b]? = some s) := fun i s f h1 h2 => by
    rw [hfs] at h2
    unfold fsL at h2
    rw [← hKN] at h2
    exact found_is h1 h2
  have hlay : layP c box man G σ cs = ⟨σ.ms ++ [((man + σ.ms.length) % 4294967296, ((cs.zip fs).foldl (layStep c box KN) (σ.bs, [])).2)], ((cs.zip fs).foldl (layStep c box KN) (σ.bs, [])).1⟩ := by unfold layP; rw [hKN, hfs]
  rw [hlay] at hw ⊢
  dsimp only at hw ⊢
  refine ⟨_, rfl, ?_⟩
  have key : ∀ n, n ≤ cs.length → box + (((cs.zip fs).take n).foldl (layStep c box KN) (σ.bs, [])).1.length < 4294967296 → (((cs.zip fs).take n).foldl (layStep c box KN) (σ.bs, [])).2.length = n ∧ Stay G σ.bs (((cs.zip fs).take n).foldl (layStep c box KN) (σ.bs, [])).1 ∧ Sound c box G (((cs.zip fs).take n).foldl (layStep c box KN) (σ.bs, [])).1 (ES ++ (((cs.zip fs).take n).foldl (layStep c box KN) (σ.bs, [])).2) (DS ++ cs.take n) := by
    intro n
    induction n with
    | zero => intro _ _; exact ⟨rfl, fun _ _ h => h, by simpa using h⟩
    | succ n ih =>
      intro hn hw2
      obtain ⟨s, hs1⟩ : ∃ s, cs[n]? = some s := ⟨cs[n]'(by omega), by simp [show n < cs.length by omega]⟩
      obtain ⟨f, hf1⟩ : ∃ f, fs[n]? = some f := ⟨fs[n]'(by omega), by simp [show n < fs.length by omega]⟩
      have hz : (cs.zip fs)[n]? = some (s, f) := by rw [List.getElem?_zip_eq_some]; exact ⟨hs1, hf1⟩
      rw [take_snocE hz, List.foldl_append] at hw2 ⊢
      simp only [List.foldl_cons, List.foldl_nil] at hw2 ⊢
      obtain ⟨st, hst⟩ : ∃ st, st = ((cs.zip fs).take n).foldl (layStep c box KN) (σ.bs, []) := ⟨_, rfl⟩
      rw [← hst] at ih hw2 ⊢
      have hmo := layStep_mono (c := c) (box := box) KN st (s, f)
      obtain ⟨hl, hstay, hids, hback, hnam, hbd⟩ := ih (by omega) (by omega)
      obtain ⟨hk1, hk2⟩ := hfd n s f hs1 hf1
      have hss := hcs s (List.mem_of_getElem? hs1)
      rw [take_snocE hs1, ← List.append_assoc]
      cases hp : plcOf KN st.2 f with
      | some p =>
        have hstp : layStep c box KN st (s, f) = (st.1, st.2 ++ [mkEn s p]) := by unfold layStep; dsimp only; rw [hp]
        have ht : toldP G st.1 (mkEn s p) = (s, true) := by
          unfold plcOf at hp
          split at hp
          · rename_i h1
            obtain ⟨a, ha⟩ : ∃ a : Nat, f.1 = a := ⟨f.1.toNat, by omega⟩
            obtain ⟨e, he, ht⟩ := hk1 a ha
            rw [ha, Int.toNat_natCast, he] at hp
            simp only [Option.map_some, Option.some.injEq] at hp
            subst hp
            exact hstay e s ht
          · split at hp
            · rename_i h1
              obtain ⟨b, hb⟩ : ∃ b : Nat, f.2 = b := ⟨f.2.toNat, by omega⟩
              obtain ⟨hbn, hbs⟩ := hk2 b hb
              rw [hb, Int.toNat_natCast] at hp
              obtain ⟨e, he⟩ : ∃ e, st.2[b]? = some e := ⟨st.2[b]'(by omega), by simp [show b < st.2.length by omega]⟩
              rw [he] at hp
              simp only [Option.map_some, Option.some.injEq] at hp
              subst hp
              have hEl : ES.length = DS.length := h.back.1
              have h5 := (hback.2 (ES.length + b) e s (by rw [List.getElem?_append_right (by omega), Nat.add_sub_cancel_left]; exact he) (by rw [hEl, List.getElem?_append_right (by omega), Nat.add_sub_cancel_left, List.getElem?_take, if_pos hbn]; exact hbs)).1
              exact h5
            · cases hp
        rw [hstp]
        dsimp only
        refine ⟨by rw [List.length_append, hl]; rfl, hstay, hids, ?_, ?_, hbd⟩
        · rw [← List.append_assoc]; exact hback.snoc (fun _ _ h => h) ht
        · intro y hy k hk
          obtain ⟨e, he, h1⟩ := hnam y hy k hk
          exact ⟨e, by rw [← List.append_assoc]; exact List.mem_append_left _ he, h1⟩
      | none =>
        have hstp : layStep c box KN st (s, f) = ((putP c box st.1 s).1, st.2 ++ [mkEn s (putP c box st.1 s).2]) := by unfold layStep; dsimp only; rw [hp]
        rw [hstp] at hw2 hmo ⊢
        dsimp only at hw2 hmo ⊢
        have hw3 : box + st.1.length < 4294967296 := by omega
        have hst2 := stay_put (c := c) hids h0 ha hw3 s
        refine ⟨by rw [List.length_append, hl]; rfl, fun e t he => hst2 e t (hstay e t he), hids.put h0 hw3 s, ?_, ?_, bounds_put hbd h11 hss⟩
        · rw [← List.append_assoc]; exact hback.snoc hst2 (told_put hids h0 hw3 s)
        · rw [← List.append_assoc]; exact named_put hnam s
  have hall := key cs.length (Nat.le_refl _)
  rw [← hzl, List.take_length, hzl] at hall
  have h9 := (hall hw).2.2
  rw [List.take_length] at h9
  exact h9
def ents (ms : List Mn) : List En := ms.flatMap (·.2)
theorem ents_snoc (ms : List Mn) (m : Mn) : ents (ms ++ [m]) = ents ms ++ m.2 := by simp [ents]
theorem laid_sound (hc : segC c = true) (h0 : 0 ≤ box) (ha : Apart box G) (h11 : 1 ≤ c 11) (cs : List ByteArray) : (∀ s ∈ cs, (s.size : Int) ≤ c 12) → box + (laidP c box man G cs).1.bs.length < 4294967296 → ∃ ds, ds ++ (laidP c box man G cs).2 = cs ∧ Sound c box G (laidP c box man G cs).1.bs (ents (laidP c box man G cs).1.ms) ds := by
  refine snoc_ind (P := fun cs => (∀ s ∈ cs, (s.size : Int) ≤ c 12) → box + (laidP c box man G cs).1.bs.length < 4294967296 → ∃ ds, ds ++ (laidP c box man G cs).2 = cs ∧ Sound c box G (laidP c box man G cs).1.bs (ents (laidP c box man G cs).1.ms) ds) ?_ (fun l x ih => ?_) cs
  · intro _ _
    refine ⟨[], rfl, fun i x hx => ?_, ⟨rfl, fun j e s he => ?_⟩, fun x hx => ?_, fun x hx => ?_⟩
    · simp [laidP, ls0] at hx
    · simp [laidP, ls0, ents] at he
    · simp [laidP, ls0] at hx
    · simp [laidP, ls0] at hx
  · intro hs hw
    have hmo := (laidP_mono (c := c) (box := box) (man := man) (G := G) l [x]).1
    obtain ⟨ds, h1, h2⟩ := ih (fun s hs' => hs s (List.mem_append_left _ hs')) (by omega)
    rw [laidP_snoc] at hw ⊢
    rcases feedP_eq (box := box) (man := man) (G := G) hc (laidP_zero hc l) x with ⟨_, e⟩ | ⟨_, e⟩ <;> rw [e] at hw ⊢ <;> dsimp only at hw ⊢
    · exact ⟨ds, by rw [← List.append_assoc, h1], h2⟩
    · obtain ⟨es, h3, h4⟩ := lay_sound h0 ha h11 (fun s hs' => hs s (by
        rw [← h1]
        rcases List.mem_append.1 hs' with h5 | h5
        · exact List.mem_append_left _ (List.mem_append_right _ h5)
        · exact List.mem_append_right _ h5)) h2 hw
      refine ⟨l ++ [x], List.append_nil _, ?_⟩
      rw [h3, ents_snoc]
      rw [← List.append_assoc, h1] at h4
      exact h4
end
end Go.Proofs.YtlmefcepdadfjaaGreat
/- Layer 23: Write. -/
namespace Go.Proofs.YtlmefcepdadfjaaGreat
open Go.RowKit

theorem tail_no {ks : List Nat} {c n j : Nat} (h : (ks.all fun k => !Nat.beq k j) = true) (hj : j < c) : j ∉ ks ++ tailIx c n := fun hm => by
  rcases List.mem_append.1 hm with h1 | h1
  · have := List.all_eq_true.1 h j h1
    simp at this
  · have := (tailIx_mem.1 h1).1
    omega
theorem Sat.settle {W : World} {M : List Nat} {R : Hp} {w : World} {gn : Nat} {box man : Int} {c : Nat → Int} {L : Lb} {ms : List Mr} {mo : Option Addr} {mc : Nat} {bs : List Nb} {bo : Option Addr} {bc : Nat} {left : ByteArray} {ch : List ByteArray} {co : Option Addr} {cc : Nat} {fo : Option Addr} {fc wa wb : Nat} {n : Int} {e1 e2 e3 : Ent} {σ : Sr}
    (hσ : σ.ms = ms ∧ σ.mo = mo ∧ σ.bs = bs ∧ σ.bo = bo ∧ σ.ch = ch ∧ σ.co = co ∧ σ.fo = fo) (hf : Fine L ms bs ch) (hs : Sat W M (stO gn box man c L ms mo mc bs bo bc left ch co cc fo fc wa wb n ++ (e1 :: e2 :: e3 :: R)) w) : Sat W M (.gen (rdsG σ.rds) :: e2 :: e1 :: R) w := by
  obtain ⟨r1, r2, r3, r4, r5, r6, r7⟩ := hσ
  have h1 := hf.ml
  have h2 := hf.bl
  have h3 := hf.hl
  have hch := (hs.holds 5 _ rfl).2.1
  have hfp := (hs.holds 6 _ rfl).2.1
  have hb := hs.boxes (bs := bs) (fun b hb => by have := hf.cl b hb; omega) 3 4 rfl rfl
  refine hs.reader (rdsG σ.rds) rfl ([9, 8] ++ tailIx 11 R.length) (pickH_append (A := [_, _]) rfl (pickH_tail (L := R) 11 rfl rfl)) (nodup_tail 11 _ rfl rfl) ?_ ?_
  · intro x hx
    unfold Sr.rds at hx
    rw [r1, r2, r3, r4, r5, r6, r7] at hx
    simp only [List.mem_cons] at hx
    rcases hx with rfl | rfl | rfl | rfl | hx
    · exact hs.rowRd 1 rfl (by rw [mbE_len, List.length_map]; unfold maxLen; omega)
    · exact hs.rowRd 2 rfl (by rw [mbE_len, List.length_map]; unfold maxLen; omega)
    · exact hs.offRd 5 rfl (by rw [strE_len]; unfold maxLen; omega)
    · exact hs.offRd 6 rfl (by rw [fqE_len, List.length_map]; unfold maxLen; omega)
    · rcases List.mem_append.1 hx with h | h
      · exact hs.rds1 7 rfl x h
      · exact hb x h
  · intro g hu
    obtain ⟨x, hx, hu⟩ := hu
    unfold Sr.rds at hx
    rw [r1, r2, r3, r4, r5, r6, r7] at hx
    simp only [List.mem_cons] at hx
    have off : ∀ {ao : Option Addr} {cap e k : Nat} {cs xs : List Value} {m : Nat}, m ≤ cap → (xs ≠ [] → 0 < m) → (Ent.rd ao xs).uses g → (Ent.gen (offR ao m cap e k cs)).uses g := by
      intro ao cap e k cs xs m h4 h5 h6
      show offB ao cap = some g
      unfold offB
      have := h5 h6.1
      rw [if_neg (by omega)]
      exact h6.2
    rcases hx with rfl | rfl | rfl | rfl | hx
    · exact ⟨1, _, tail_no rfl (by omega), rfl, hu.2⟩
    · exact ⟨2, _, tail_no rfl (by omega), rfl, hu.2⟩
    · exact ⟨5, _, tail_no rfl (by omega), rfl, off hch (fun h => by
        rcases ch with _ | ⟨y, ch⟩
        · exact absurd rfl h
        · simp) hu⟩
    · exact ⟨6, _, tail_no rfl (by omega), rfl, off hfp (fun h => by
        rcases ch with _ | ⟨y, ch⟩
        · exact absurd rfl h
        · simp) hu⟩
    · rcases List.mem_append.1 hx with h | h
      · exact ⟨7, _, tail_no rfl (by omega), rfl, ⟨x, h, hu⟩⟩
      · unfold bxL at h
        obtain ⟨b, hb2, rfl⟩ := List.mem_map.1 h
        rcases List.eq_nil_or_concat bs with h0 | ⟨bs', d, h0⟩
        · subst h0; cases hb2
        · rw [List.concat_eq_append] at h0
          rw [h0] at hb2
          rcases List.mem_append.1 hb2 with h5 | h5
          · refine ⟨4, .gen (rdsG (bxL bs.dropLast)), tail_no rfl (by omega), rfl, ⟨_, List.mem_map.2 ⟨b, ?_, rfl⟩, hu⟩⟩
            rw [h0, List.dropLast_concat]; exact h5
          · obtain rfl := List.mem_singleton.1 h5
            refine ⟨3, topRow bs, tail_no rfl (by omega), rfl, ?_⟩
            rw [h0, topRow_snoc]
            exact hu.2
structure Sr.held (σ : Sr) (box man : Int) (c : Nat → Int) (L : Lb) (A : ByteArray) : Prop where
  hbox : σ.box = box
  hman : σ.man = man
  hc : σ.c = c
  hL : σ.L = L
  hat : At c box man L.G A (σ.ms.map Mr.mn) (σ.bs.map Nb.bx) σ.ch σ.left
  hcut : cutC c σ.left = 0
  hwa : IsW σ.wa (reA A)
  hwb : IsW σ.wb (imA A)
  hn : σ.n = (A.size : Nat)
  hlast : σ.last = (lastX (σ.bs.map Nb.bx) : Nat)
  hfresh : σ.fresh = (freshX (σ.bs.map Nb.bx) : Nat)
set_option maxHeartbeats 16000000 in
theorem write_sat {W : World} {M : List Nat} {R : Hp} {w : World} (box man : Int) (hb0 : 0 ≤ box) (hb1 : box < 4294967296) (hm0 : 0 ≤ man) (hm1 : man < 4294967296) (c : Nat → Int) (hc : conC c = true) (L : Lb) (hg : Good L) (A b : ByteArray) (σ : Sr) (hσ : σ.held box man c L A) (hsz : A.size + b.size ≤ 9000) (g : Nat)
    (hs : Sat W M (.blk g 101 σ.cells :: .gen (rdsG σ.rds) :: .gen (rdsG L.rds) :: R) w) :
    Calls Tryz.prog 15 #[.pointer (some ⟨g, 0, none⟩), .string b] w fun e w' => ∃ σ' : Sr, σ'.held box man c L (A ++ b) ∧ ((overC box man σ'.ms.length σ'.bs.length = true ∧ e = .returned (.int .i64 240) ∧ Sat W M (.blk g 101 σ.cells :: .gen (rdsG σ.rds) :: .gen (rdsG L.rds) :: R) w') ∨
      (overC box man σ'.ms.length σ'.bs.length = false ∧ e = .returned (.int .i64 0) ∧ Sat W M (.blk g 101 σ'.cells :: .gen (rdsG σ'.rds) :: .gen (rdsG L.rds) :: R) w')) := by
  have hseg := (conC_may hc).2
  obtain ⟨rfl, rfl, rfl, rfl, hat, hcut, hwa, hwb, hn, hlast, hfresh⟩ := hσ
  have hf := hat.fine hseg hg (by omega)
  have hsm : σ.small := ⟨by have := hf.ml; omega, by have := hf.bl; omega, by have := hf.hl; omega, fun b hb => by have := hf.cl b hb; omega⟩
  have hsn := hs
  refine sx_fn (S := SX) (N := 39) Tryz.func15 rfl rfl rfl hs ?_
  ((try refine sU ?_);repeat(refine sN fun _=>?_;try refine sU ?_))
  refine SxRun.pEqNil Tryz.underlying44 ?_
  ((try refine sU ?_);repeat(refine sN fun _=>?_;try refine sU ?_))
  refine SxRun.fEqNil Tryz.underlying39 ?_
  ((try refine sU ?_);repeat(refine sN fun _=>?_;try refine sU ?_))
  refine SxCall.mk fun w1 hs1 => (copied_sat σ hsm g hs1).mono ?_
  rintro e w2 ⟨gn, mo, mc, bo, bc, ds, co, cc, fo, fc, rfl, hds, hs2⟩
  have hs3 : Sat W M (stO gn σ.box σ.man σ.c σ.L σ.ms mo mc ds bo bc σ.left σ.ch co cc fo fc σ.wa σ.wb (A.size : Nat) ++ (.blk g 101 σ.cells :: .gen (rdsG σ.rds) :: .gen (rdsG σ.L.rds) :: R)) w2 := by
    unfold stO
    rw [hds, ← hlast, ← hfresh, ← hn]
    exact hs2
  refine ⟨_, _, rfl, hs3.pick (ks := [0, 1, 2, 3, 4, 5, 6, 7] ++ ([10, 8, 9] ++ tailIx 11 R.length)) (pickH_append (A := stO gn σ.box σ.man σ.c σ.L σ.ms mo mc ds bo bc σ.left σ.ch co cc fo fc σ.wa σ.wb (A.size : Nat)) rfl (pickH_append (A := [_, _, _]) rfl (pickH_tail (L := R) 11 rfl rfl))) (nodup_tail (ks := [0, 1, 2, 3, 4, 5, 6, 7, 10, 8, 9]) 11 _ rfl rfl), ?_⟩
  ((try refine sU ?_);repeat(refine sN fun _=>?_;try refine sU ?_))
  refine SxCall.mk fun w1 hs1 => (come_sat σ.box σ.man σ.c hc σ.L hg A b σ.ms mo mc ds bo bc σ.left σ.ch co cc fo fc σ.wa σ.wb gn (by rw [hds]; exact hat) hwa hwb hsz hs1).mono ?_
  rintro e w4 ⟨m2, mo2, mc2, b2, bo2, bc2, l2, ch2, co2, cc2, fo2, fc2, wa2, wb2, rfl, hat2, hcut2, hwa2, hwb2, hs4⟩
  refine ⟨_, _, rfl, hs4, ?_⟩
  have hab : (A ++ b).size = A.size + b.size := by simp
  have hf2 := hat2.fine hseg hg (by omega)
  obtain ⟨σ2, hσ2⟩ : ∃ σ2 : Sr, σ2 = ⟨σ.box, σ.man, m2, mo2, mc2, b2, bo2, bc2, (lastX (b2.map Nb.bx) : Nat), (freshX (b2.map Nb.bx) : Nat), σ.c, σ.L, l2, ch2, co2, cc2, fo2, fc2, wa2, wb2, ((A ++ b).size : Nat)⟩ := ⟨_, rfl⟩
  have hheld : σ2.held σ.box σ.man σ.c σ.L (A ++ b) := by subst hσ2; exact ⟨rfl, rfl, rfl, rfl, hat2, hcut2, hwa2, hwb2, rfl, rfl, rfl⟩
  have hms2 : σ2.ms.length = m2.length := by rw [hσ2]
  have hbs2 : σ2.bs.length = b2.length := by rw [hσ2]
  ((try refine sU ?_);repeat(refine sN fun _=>?_;try refine sU ?_))
  refine SxCall.quietS (v := .bool (overC σ.box σ.man m2.length b2.length)) (fun w5 hs5 => Over_any gn σ.box σ.man _ _ mo2 bo2 m2.length mc2 b2.length bc2 _ hb0 hb1 hm0 hm1 (by have := hf2.ml; omega) (by have := hf2.bl; omega) (by show (20 : Nat) ≤ 100; omega) w5 (Rd.of_blk (hs5.blk 0 rfl) (by show (26 : Nat) ≤ maxLen; unfold maxLen; omega))) ?_
  ((try refine sU ?_);repeat(refine sN fun _=>?_;try refine sU ?_))
  refine SxIf.mk (fun ho => ?_) (fun ho => ?_)
  · ((try refine sU ?_);repeat(refine sN fun _=>?_;try refine sU ?_))
    exact SxDone.mk fun w' hs => ⟨σ2, hheld, .inl ⟨by rw [hms2, hbs2]; exact ho, rfl, hs.pick (ks := [9, 10, 8] ++ tailIx 11 R.length) (pickH_append (A := [_, _, _]) rfl (pickH_tail (L := R) 11 rfl rfl)) (nodup_tail 11 _ rfl rfl)⟩⟩
  · ((try refine sU ?_);repeat(refine sN fun _=>?_;try refine sU ?_))
    refine SxSt.blk 9 rfl rfl rfl (cs' := (⟨σ.box, σ.man, m2, mo2, mc2, b2, bo2, bc2, (lastX (b2.map Nb.bx) : Nat), (freshX (b2.map Nb.bx) : Nat), σ.c, σ.L, l2, ch2, co2, cc2, fo2, fc2, wa2, wb2, ((A ++ b).size : Nat)⟩ : Sr).cells) rfl ?_
    rw [← hσ2]
    ((try refine sU ?_);repeat(refine sN fun _=>?_;try refine sU ?_))
    refine SxDone.mk fun w' hs => ⟨σ2, hheld, .inr ⟨by rw [hms2, hbs2]; exact ho, rfl, ?_⟩⟩
    have h9 := Sat.settle (σ := σ2) (R := R) (e1 := .gen (rdsG σ.L.rds)) (e2 := .blk g 101 σ2.cells) (e3 := .gen (rdsG σ.rds)) (by subst hσ2; exact ⟨rfl, rfl, rfl, rfl, rfl, rfl, rfl⟩) hf2 (by exact hs)
    exact h9.pick (ks := [1, 0, 2] ++ tailIx 3 R.length) (pickH_append (A := [_, _, _]) rfl (pickH_tail (L := R) 3 rfl rfl)) (nodup_tail 3 _ rfl rfl)
end Go.Proofs.YtlmefcepdadfjaaGreat
