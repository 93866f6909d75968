/- Layer 26, plainly: classes of chunks, and moves, are the document's. -/
import Derived.Test.YtdififdnnpgjoaaZDuA
import Derived.Test.YtdififdnnpgjoaaZPlB
namespace Go.Proofs.Ytdififdnnpgjoaa
open Go.RowKit

def hdp (g : List Ck) : Pl := match g with
  | c :: _ => c.pl
  | [] => default
/-- Runs of twins. -/
structure Grp (gs : List (List Ck)) (S : List Ck) : Prop where
  ne : ∀ g ∈ gs, g ≠ []
  flat : gs.flatten = S
  same : ∀ g ∈ gs, ∀ x ∈ g, ∀ y ∈ g, tkey x = tkey y
  apart : gs.Pairwise fun g h => ∀ x ∈ g, ∀ y ∈ h, tkey x ≠ tkey y
theorem Grp.nil : Grp [] [] := ⟨fun g h => by simp at h, rfl, fun g h => by simp at h, List.Pairwise.nil⟩
theorem ltC_T {x y : Ck} (h : ltC x y) : cfT x y ≤ 0 := by
  unfold ltC cfC orZ at h
  split at h <;> omega
theorem Grp.more {gs : List (List Ck)} {g : List Ck} {S : List Ck} {c y : Ck} (h : Grp (gs ++ [g]) S) (hy : y ∈ g) (hc : tkey y = tkey c) : Grp (gs ++ [g ++ [c]]) (S ++ [c]) where
  ne := fun x hx => by
    rcases List.mem_append.1 hx with e | e
    · exact h.ne x (List.mem_append_left _ e)
    · simp only [List.mem_singleton] at e; subst e; simp
  flat := by
    rw [← h.flat]; simp
  same := fun x hx a ha b hb => by
    rcases List.mem_append.1 hx with e | e
    · exact h.same x (List.mem_append_left _ e) a ha b hb
    · simp only [List.mem_singleton] at e
      subst e
      have hg : ∀ z ∈ g ++ [c], tkey z = tkey c := fun z hz => by
        rcases List.mem_append.1 hz with e | e
        · rw [h.same g (by simp) z e y hy, hc]
        · simp only [List.mem_singleton] at e; rw [e]
      rw [hg a ha, hg b hb]
  apart := by
    have h1 := List.pairwise_append.1 h.apart
    refine List.pairwise_append.2 ⟨h1.1, List.pairwise_singleton .., fun a ha b hb x hx z hz => ?_⟩
    simp only [List.mem_singleton] at hb
    subst hb
    rcases List.mem_append.1 hz with e | e
    · exact h1.2.2 a ha g (by simp) x hx z e
    · simp only [List.mem_singleton] at e
      rw [e, ← hc]
      exact h1.2.2 a ha g (by simp) x hx y hy
theorem Grp.new {gs : List (List Ck)} {S : List Ck} {c : Ck} (h : Grp gs S) (hS : (S ++ [c]).Pairwise ltC) (hl : ∀ g, gs.getLast? = some g → ∃ y ∈ g, tkey y ≠ tkey c) : Grp (gs ++ [[c]]) (S ++ [c]) where
  ne := fun x hx => by
    rcases List.mem_append.1 hx with e | e
    · exact h.ne x e
    · simp only [List.mem_singleton] at e; subst e; simp
  flat := by rw [← h.flat]; simp
  same := fun x hx a ha b hb => by
    rcases List.mem_append.1 hx with e | e
    · exact h.same x e a ha b hb
    · simp only [List.mem_singleton] at e
      subst e
      simp only [List.mem_singleton] at ha hb
      rw [ha, hb]
  apart := by
    refine List.pairwise_append.2 ⟨h.apart, List.pairwise_singleton .., fun a ha b hb x hx z hz => ?_⟩
    simp only [List.mem_singleton] at hb
    subst hb
    simp only [List.mem_singleton] at hz
    subst hz
    intro he
    rcases List.eq_nil_or_concat gs with h0 | ⟨gs', g, h0⟩
    · subst h0; simp at ha
    · rw [List.concat_eq_append] at h0
      subst h0
      obtain ⟨y, hy, hyc⟩ := hl g (by simp)
      have hag := List.pairwise_append.1 h.apart
      rcases List.mem_append.1 ha with e | e
      · have hfl := h.flat
        rw [List.flatten_append] at hfl
        have hxy : ltC x y := by
          have h1 := (List.pairwise_append.1 hS).1
          rw [← hfl] at h1
          exact (List.pairwise_append.1 h1).2.2 x (List.mem_flatten.2 ⟨a, e, hx⟩) y (by simpa using hy)
        have hyz : ltC y z := by
          refine (List.pairwise_append.1 hS).2.2 y ?_ z (by simp)
          rw [← hfl]; simp; exact .inr hy
        have h1 := ltC_T hxy
        have h2 := ltC_T hyz
        have h3 : cfT y z = - cfT x y := by
          have := cmpT.swap (tkey x) (tkey y)
          unfold cfT
          rw [← he]; exact this
        have h4 : cfT y z = 0 := by omega
        exact hyc ((cmpT.zero _ _).1 h4)
      · simp only [List.mem_singleton] at e
        subst e
        exact hyc (by rw [h.same a (by simp) y hy x hx, he])
/-- Classes, by their first ones. -/
structure Cls (L : List Ck) (P : List (List Ck)) : Prop where
  ne : ∀ g ∈ P, g ≠ []
  all : ∀ c, (∃ g ∈ P, c ∈ g) ↔ c ∈ L
  same : ∀ g ∈ P, ∀ x ∈ g, ∀ y ∈ g, tkey x = tkey y
  apart : P.Pairwise fun g h => ∀ x ∈ g, ∀ y ∈ h, tkey x ≠ tkey y
  ord : ∀ g ∈ P, g.Pairwise fun x y => ltP x.pl y.pl
  heads : P.Pairwise fun g h => ltP (hdp g) (hdp h)
theorem hdp_mem {g : List Ck} (h : g ≠ []) : ∃ c ∈ g, c.pl = hdp g ∧ ∃ r, g = c :: r := by
  cases g with
  | nil => exact absurd rfl h
  | cons c r => exact ⟨c, by simp, rfl, r, rfl⟩
theorem Cls.of {L S : List Ck} {gs P : List (List Ck)} (h : Grp gs S) (hS : S.Pairwise ltC) (hm : ∀ c, c ∈ S ↔ c ∈ L) (hp : P.Perm gs) (hh : P.Pairwise fun g h => ltP (hdp g) (hdp h)) : Cls L P where
  ne := fun g hg => h.ne g (hp.mem_iff.1 hg)
  all := fun c => by
    rw [← hm, ← h.flat, List.mem_flatten]
    exact ⟨fun ⟨g, h1, h2⟩ => ⟨g, hp.mem_iff.1 h1, h2⟩, fun ⟨g, h1, h2⟩ => ⟨g, hp.mem_iff.2 h1, h2⟩⟩
  same := fun g hg => h.same g (hp.mem_iff.1 hg)
  apart := (hp.pairwise_iff fun {x y} hxy a ha b hb e => hxy b hb a ha e.symm).2 h.apart
  ord := fun g hg => by
    have h1 : g.Pairwise ltC := by
      have h2 := hS
      rw [← h.flat] at h2
      exact (List.pairwise_flatten.1 h2).1 g (hp.mem_iff.1 hg)
    have h3 := h.same g (hp.mem_iff.1 hg)
    exact h1.imp_of_mem fun {x y} hx hy hxy => by
      unfold ltC cfC orZ cfT at hxy
      rw [if_neg (by rw [(cmpT.zero _ _).2 (h3 x hx y hy)]; simp)] at hxy
      exact (cfP_iff _ _).1 hxy
  heads := hh
/-- The document's: places, the chunk of a place, the canonical place. -/
def plsS (L : List Ck) : List Pl := setP (L.map (·.pl))
def zeroCk : Ck := ⟨⟨0, 0⟩, ⟨List.replicate 32 0, rfl⟩, ⟨#[]⟩⟩
def atC (L : List Ck) (p : Pl) : Ck := (L.find? fun c => decide (c.pl = p)).getD zeroCk
def twB (a b : Ck) : Bool := decide (a.fq = b.fq) && decide (a.s = b.s)
theorem twB_iff (a b : Ck) : twB a b = true ↔ tkey a = tkey b := by
  unfold twB
  rw [Bool.and_eq_true, decide_eq_true_iff, decide_eq_true_iff, tkey_iff]
def canonC (L : List Ck) (c : Ck) : Pl := L.foldl (fun p x => if twB x c && ltbP x.pl p then x.pl else p) c.pl
theorem canonC_snoc (L : List Ck) (x c : Ck) : canonC (L ++ [x]) c = if twB x c && ltbP x.pl (canonC L c) then x.pl else canonC L c := by unfold canonC; rw [List.foldl_append]; rfl
theorem canon_ok (c : Ck) (L : List Ck) : (canonC L c = c.pl ∨ ∃ x ∈ L, tkey x = tkey c ∧ x.pl = canonC L c) ∧ ¬ ltP c.pl (canonC L c) ∧ ∀ x ∈ L, tkey x = tkey c → ¬ ltP x.pl (canonC L c) := by
  refine snoc_ind (P := fun L => (canonC L c = c.pl ∨ ∃ x ∈ L, tkey x = tkey c ∧ x.pl = canonC L c) ∧ ¬ ltP c.pl (canonC L c) ∧ ∀ x ∈ L, tkey x = tkey c → ¬ ltP x.pl (canonC L c)) ⟨.inl rfl, ltP_ord.irr _, fun x hx => by simp at hx⟩ (fun L x ih => ?_) L
  obtain ⟨h1, h2, h3⟩ := ih
  rw [canonC_snoc]
  split
  · rename_i hx
    rw [Bool.and_eq_true, twB_iff, ltbP_iff] at hx
    refine ⟨.inr ⟨x, by simp, hx.1, rfl⟩, fun h => h2 (ltP_ord.tr _ _ _ h hx.2), fun y hy hk h => ?_⟩
    rcases List.mem_append.1 hy with e | e
    · exact h3 y e hk (ltP_ord.tr _ _ _ h hx.2)
    · simp only [List.mem_singleton] at e; rw [e] at h; exact ltP_ord.irr _ h
  · rename_i hx
    rw [Bool.and_eq_true, twB_iff, ltbP_iff] at hx
    refine ⟨?_, h2, fun y hy hk h => ?_⟩
    · rcases h1 with h1 | ⟨y, hy, h4⟩
      · exact .inl h1
      · exact .inr ⟨y, List.mem_append_left _ hy, h4⟩
    · rcases List.mem_append.1 hy with e | e
      · exact h3 y e hk h
      · simp only [List.mem_singleton] at e; rw [e] at h hk; exact hx ⟨hk, h⟩
def clsD (L : List Ck) : List (List Pl) := ((plsS L).filter fun p => decide (canonC L (atC L p) = p)).map fun p => plsS (L.filter fun x => twB x (atC L p))
def movD (L : List Ck) : List Pl := (plsS L).filter fun p => !decide (canonC L (atC L p) = p)
def movF (L : List Ck) (p : Pl) : Pl := canonC L (atC L p)
theorem atC_of {L : List Ck} (hL : ∀ a ∈ L, ∀ b ∈ L, a.pl = b.pl → a = b) {c : Ck} (hc : c ∈ L) : atC L c.pl = c := by
  unfold atC
  cases h : L.find? (fun x => decide (x.pl = c.pl)) with
  | none =>
    have := List.find?_eq_none.1 h c hc
    simp at this
  | some x =>
    have h1 := List.find?_some h
    exact hL x (List.mem_of_find?_eq_some h) c hc (by simpa using h1)
theorem plsS_mem {L : List Ck} (_hL : ∀ a ∈ L, ∀ b ∈ L, a.pl = b.pl → a = b) (p : Pl) : p ∈ plsS L ↔ ∃ c ∈ L, c.pl = p := by
  unfold plsS setP
  rw [setS_mem, List.mem_map]
theorem Cls.canon {L : List Ck} (_hL : ∀ a ∈ L, ∀ b ∈ L, a.pl = b.pl → a = b) {P : List (List Ck)} (h : Cls L P) {g : List Ck} (hg : g ∈ P) {c : Ck} (hc : c ∈ g) : canonC L c = hdp g := by
  obtain ⟨h1, h2, h3⟩ := canon_ok c L
  obtain ⟨d, hd, hdp', r, hr⟩ := hdp_mem (h.ne g hg)
  have mem : ∀ x, x ∈ L → tkey x = tkey c → x ∈ g := fun x hx hk => by
    obtain ⟨g', hg', hx'⟩ := (h.all x).2 hx
    by_cases e : g' = g
    · exact e ▸ hx'
    · exfalso
      obtain ⟨i, hi⟩ := List.getElem?_of_mem hg
      obtain ⟨j, hj⟩ := List.getElem?_of_mem hg'
      obtain ⟨il, ie⟩ := List.getElem?_eq_some_iff.1 hi
      obtain ⟨jl, je⟩ := List.getElem?_eq_some_iff.1 hj
      have hp := List.pairwise_iff_getElem.1 h.apart
      rcases Nat.lt_trichotomy i j with e1 | e1 | e1
      · exact hp i j il jl e1 c (by rw [ie]; exact hc) x (by rw [je]; exact hx') hk.symm
      · subst e1; exact e (je.symm.trans ie)
      · exact hp j i jl il e1 x (by rw [je]; exact hx') c (by rw [ie]; exact hc) hk
  have least : ∀ x ∈ g, ¬ ltP x.pl (hdp g) := fun x hx hl => by
    have ho := h.ord g hg
    rw [hr] at ho hx
    rw [← hdp'] at hl
    rcases List.mem_cons.1 hx with e | e
    · rw [e] at hl; exact ltP_ord.irr _ hl
    · exact ltP_ord.asym ((List.pairwise_cons.1 ho).1 x e) hl
  have hdL : d ∈ L := (h.all d).1 ⟨g, hg, hd⟩
  have hm : ∃ x ∈ g, x.pl = canonC L c := by
    rcases h1 with h1 | ⟨x, hx, hk, he⟩
    · exact ⟨c, hc, h1.symm⟩
    · exact ⟨x, mem x hx hk, he⟩
  obtain ⟨x, hx, he⟩ := hm
  refine ltP_ord.tri _ _ (fun hl => least x hx (by rw [he]; exact hl)) (fun hl => ?_)
  exact h3 d hdL (h.same g hg d hd c hc) (by rw [hdp']; exact hl)
theorem Cls.mem {L : List Ck} (hL : ∀ a ∈ L, ∀ b ∈ L, a.pl = b.pl → a = b) {P : List (List Ck)} (h : Cls L P) {g : List Ck} (hg : g ∈ P) {c x : Ck} (hc : c ∈ g) (hx : x ∈ L) (hk : tkey x = tkey c) : x ∈ g := by
  obtain ⟨g', hg', hx'⟩ := (h.all x).2 hx
  have e1 := h.canon hL hg hc
  by_cases e : g' = g
  · exact e ▸ hx'
  · exfalso
    obtain ⟨i, hi⟩ := List.getElem?_of_mem hg
    obtain ⟨j, hj⟩ := List.getElem?_of_mem hg'
    obtain ⟨il, ie⟩ := List.getElem?_eq_some_iff.1 hi
    obtain ⟨jl, je⟩ := List.getElem?_eq_some_iff.1 hj
    have hp := List.pairwise_iff_getElem.1 h.apart
    rcases Nat.lt_trichotomy i j with e1 | e1 | e1
    · exact hp i j il jl e1 c (by rw [ie]; exact hc) x (by rw [je]; exact hx') hk.symm
    · subst e1; exact e (je.symm.trans ie)
    · exact hp j i jl il e1 x (by rw [je]; exact hx') c (by rw [ie]; exact hc) hk
theorem plsS_strict {L : List Ck} (_hL : ∀ a ∈ L, ∀ b ∈ L, a.pl = b.pl → a = b) (M : List Ck) : (plsS M).Pairwise ltP := setS_strict ltP_ord cfP_iff _
theorem Cls.doc {L : List Ck} (hL : ∀ a ∈ L, ∀ b ∈ L, a.pl = b.pl → a = b) {P : List (List Ck)} (h : Cls L P) : P.map (·.map (·.pl)) = clsD L := by
  have hh : P.map hdp = (plsS L).filter fun p => decide (canonC L (atC L p) = p) := by
    refine strict_ext ltP_ord (List.pairwise_map.2 h.heads) ((plsS_strict hL L).filter _) fun p => ?_
    rw [List.mem_map, List.mem_filter, plsS_mem hL, decide_eq_true_iff]
    constructor
    · rintro ⟨g, hg, rfl⟩
      obtain ⟨d, hd, he, _⟩ := hdp_mem (h.ne g hg)
      have hdL : d ∈ L := (h.all d).1 ⟨g, hg, hd⟩
      exact ⟨⟨d, hdL, he⟩, by rw [← he, atC_of hL hdL, h.canon hL hg hd]; exact he.symm⟩
    · rintro ⟨⟨c, hc, rfl⟩, h2⟩
      rw [atC_of hL hc] at h2
      obtain ⟨g, hg, hcg⟩ := (h.all c).2 hc
      exact ⟨g, hg, by rw [← h2, h.canon hL hg hcg]⟩
  unfold clsD
  rw [← hh, List.map_map]
  refine List.map_congr_left fun g hg => ?_
  obtain ⟨d, hd, he, r, hr⟩ := hdp_mem (h.ne g hg)
  have hdL : d ∈ L := (h.all d).1 ⟨g, hg, hd⟩
  show g.map (·.pl) = plsS (L.filter fun x => twB x (atC L (hdp g)))
  rw [← he, atC_of hL hdL]
  refine strict_ext ltP_ord (List.pairwise_map.2 (h.ord g hg)) (plsS_strict hL _) fun p => ?_
  unfold plsS setP
  rw [setS_mem, List.mem_map, List.mem_map]
  constructor
  · rintro ⟨x, hx, rfl⟩
    exact ⟨x, List.mem_filter.2 ⟨(h.all x).1 ⟨g, hg, hx⟩, (twB_iff _ _).2 (h.same g hg x hx d hd)⟩, rfl⟩
  · rintro ⟨x, hx, rfl⟩
    obtain ⟨h1, h2⟩ := List.mem_filter.1 hx
    exact ⟨x, h.mem hL hg hd h1 ((twB_iff _ _).1 h2), rfl⟩
/-- Where moves begin. -/
theorem Cls.tails {L : List Ck} (hL : ∀ a ∈ L, ∀ b ∈ L, a.pl = b.pl → a = b) {P : List (List Ck)} (h : Cls L P) (p : Pl) : (∃ g ∈ P, ∃ c ∈ g.tail, c.pl = p) ↔ p ∈ movD L := by
  unfold movD
  rw [List.mem_filter, plsS_mem hL, Bool.not_eq_true', decide_eq_false_iff_not]
  constructor
  · rintro ⟨g, hg, c, hc, rfl⟩
    obtain ⟨d, hd, he, r, hr⟩ := hdp_mem (h.ne g hg)
    have ho := h.ord g hg
    rw [hr] at ho hc
    rw [List.tail_cons] at hc
    have hl := (List.pairwise_cons.1 ho).1 c hc
    have hcg : c ∈ g := by rw [hr]; exact List.mem_cons_of_mem _ hc
    have hcL : c ∈ L := (h.all c).1 ⟨g, hg, hcg⟩
    refine ⟨⟨c, hcL, rfl⟩, fun e => ?_⟩
    rw [atC_of hL hcL, h.canon hL hg hcg, ← he] at e
    rw [e] at hl; exact ltP_ord.irr _ hl
  · rintro ⟨⟨c, hc, rfl⟩, h2⟩
    rw [atC_of hL hc] at h2
    obtain ⟨g, hg, hcg⟩ := (h.all c).2 hc
    rw [h.canon hL hg hcg] at h2
    obtain ⟨d, hd, he, r, hr⟩ := hdp_mem (h.ne g hg)
    refine ⟨g, hg, c, ?_, rfl⟩
    rw [hr] at hcg ⊢
    rcases List.mem_cons.1 hcg with e | e
    · exact absurd (by rw [← he, e]) h2
    · exact e
end Go.Proofs.Ytdififdnnpgjoaa
