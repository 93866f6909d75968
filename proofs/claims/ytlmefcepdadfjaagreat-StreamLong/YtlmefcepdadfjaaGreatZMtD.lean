/- Layer 19: maps from fingerprints to places. -/
import Derived.Test.YtlmefcepdadfjaaGreatZMtC
namespace Go.Proofs.YtlmefcepdadfjaaGreat
open Go.RowKit

/-- The places of a fingerprint. -/
def idxs (ps : List (Nat × Fq)) (q : Fq) : List Nat := (ps.filter fun x => decide (x.2 = q)).map (·.1)
theorem idxs_snoc (ps : List (Nat × Fq)) (i : Nat) (r q : Fq) : idxs (ps ++ [(i, r)]) q = idxs ps q ++ (if r = q then [i] else []) := by
  unfold idxs
  rw [List.filter_append, List.map_append]
  congr 1
  by_cases h : r = q
  · rw [if_pos h]; simp [h]
  · rw [if_neg h]; simp [h]
theorem idxs_mem {ps : List (Nat × Fq)} {q : Fq} {i : Nat} : i ∈ idxs ps q ↔ (i, q) ∈ ps := by
  unfold idxs
  rw [List.mem_map]
  constructor
  · rintro ⟨⟨j, r⟩, hm, rfl⟩
    obtain ⟨h1, h2⟩ := List.mem_filter.1 hm
    have : r = q := by simpa using h2
    exact this ▸ h1
  · intro h
    exact ⟨(i, q), List.mem_filter.2 ⟨h, by simp⟩, rfl⟩
theorem idxs_len (ps : List (Nat × Fq)) (q : Fq) : (idxs ps q).length ≤ ps.length := by unfold idxs; rw [List.length_map]; exact List.length_filter_le _ _
abbrev FMap := List (Fq × Drow Nat)
def kvF (es : FMap) : List (Value × Value) := es.map fun x => (fqV x.1, x.2.v)
def rowsF (es : FMap) : Hp := (es.map (·.2)).map (Drow.ent natE 3)
theorem rowsF_len (es : FMap) : (rowsF es).length = es.length := by unfold rowsF; rw [List.length_map, List.length_map]
theorem kvF_at {es : FMap} {j : Nat} {q : Fq} {d : Drow Nat} (h : es[j]? = some (q, d)) : (kvF es)[j]? = some (fqV q, d.v) := by unfold kvF; rw [List.getElem?_map, h]; rfl
theorem rowsF_at {es : FMap} {j : Nat} {q : Fq} {d : Drow Nat} (h : es[j]? = some (q, d)) : (rowsF es)[j]? = some (.row d.ao d.l.length d.cap 3 1 (natE.fl d.l)) := by unfold rowsF; rw [List.getElem?_map, List.getElem?_map, h]; rfl
theorem kvF_set (es : FMap) (j : Nat) (q : Fq) (d : Drow Nat) : kvF (es.set j (q, d)) = (kvF es).set j (fqV q, d.v) := List.map_set
theorem rowsF_set (es : FMap) (j : Nat) (q : Fq) (d : Drow Nat) : rowsF (es.set j (q, d)) = (rowsF es).set j (.row d.ao d.l.length d.cap 3 1 (natE.fl d.l)) := by unfold rowsF; rw [List.map_set, List.map_set]; rfl
theorem kvF_snoc (es : FMap) (q : Fq) (d : Drow Nat) : kvF (es ++ [(q, d)]) = kvF es ++ [(fqV q, d.v)] := List.map_append
theorem rowsF_snoc (es : FMap) (q : Fq) (d : Drow Nat) : rowsF (es ++ [(q, d)]) = rowsF es ++ [.row d.ao d.l.length d.cap 3 1 (natE.fl d.l)] := by unfold rowsF; rw [List.map_append, List.map_append]; rfl
theorem kvF_no {es : FMap} {q : Fq} (h : ∀ d, (q, d) ∉ es) : ∀ x ∈ kvF es, x.1 ≠ fqV q := by
  intro x hx he
  obtain ⟨⟨r, d⟩, hm, rfl⟩ := List.mem_map.1 hx
  have : r = q := fqV_inj he
  subst this
  exact h d hm
structure IsBp (es : FMap) (ps : List (Nat × Fq)) : Prop where
  nd : (es.map (·.1)).Nodup
  val : ∀ q d, (q, d) ∈ es → d.l = idxs ps q ∧ d.l ≠ []
  all : ∀ q, idxs ps q ≠ [] → ∃ d, (q, d) ∈ es
theorem IsBp.nil : IsBp [] [] := ⟨List.nodup_nil, fun _ _ h => by simp at h, fun q h => absurd rfl h⟩
theorem IsBp.has {es : FMap} {ps : List (Nat × Fq)} (h : IsBp es ps) (q : Fq) : (∃ (j : Nat) (d : Drow Nat), es[j]? = some (q, d) ∧ d.l = idxs ps q) ∨ (idxs ps q = [] ∧ ∀ d, (q, d) ∉ es) := by
  by_cases hq : idxs ps q = []
  · exact .inr ⟨hq, fun d hd => (h.val q d hd).2 (by rw [(h.val q d hd).1, hq])⟩
  · obtain ⟨d, hd⟩ := h.all q hq
    obtain ⟨j, hj⟩ := List.getElem?_of_mem hd
    exact .inl ⟨j, d, hj, (h.val q d hd).1⟩
theorem nodup_atF {es : FMap} (hnd : (es.map (·.1)).Nodup) {i j : Nat} {q : Fq} {m n : Drow Nat} (hi : es[i]? = some (q, m)) (hj : es[j]? = some (q, n)) : i = j := by
  have hil := (List.getElem?_eq_some_iff.1 hi).1
  have hjl := (List.getElem?_eq_some_iff.1 hj).1
  have h2 := List.nodup_iff_pairwise_ne.1 hnd
  rw [List.pairwise_iff_getElem] at h2
  have e1 : (es.map (·.1))[i]'(by simpa using hil) = q := by rw [List.getElem_map, (List.getElem?_eq_some_iff.1 hi).2]
  have e2 : (es.map (·.1))[j]'(by simpa using hjl) = q := by rw [List.getElem_map, (List.getElem?_eq_some_iff.1 hj).2]
  rcases Nat.lt_trichotomy i j with h | h | h
  · exact absurd (e1.trans e2.symm) (h2 i j (by simpa using hil) (by simpa using hjl) h)
  · exact h
  · exact absurd (e2.trans e1.symm) (h2 j i (by simpa using hjl) (by simpa using hil) h)
theorem IsBp.upd {es : FMap} {ps : List (Nat × Fq)} (h : IsBp es ps) {q : Fq} {j i : Nat} {d d' : Drow Nat} (hj : es[j]? = some (q, d)) (hd : d'.l = d.l ++ [i]) : IsBp (es.set j (q, d')) (ps ++ [(i, q)]) := by
  have hl := (List.getElem?_eq_some_iff.1 hj).1
  have hk : (es.set j (q, d')).map (·.1) = es.map (·.1) := map_set_same (fun x : Fq × Drow Nat => x.1) (e' := (q, d')) hj rfl
  have hv := h.val q d (List.mem_of_getElem? hj)
  refine ⟨by rw [hk]; exact h.nd, fun r m hm => ?_, fun r hr => ?_⟩
  · obtain ⟨k, hkk⟩ := List.getElem?_of_mem hm
    rw [List.getElem?_set] at hkk
    by_cases hjk : j = k
    · subst hjk
      rw [if_pos rfl, if_pos hl] at hkk
      simp only [Option.some.injEq, Prod.mk.injEq] at hkk
      obtain ⟨rfl, rfl⟩ := hkk
      rw [idxs_snoc, if_pos rfl, hd, hv.1]
      exact ⟨rfl, by simp⟩
    · rw [if_neg hjk] at hkk
      have hne : q ≠ r := fun e => hjk (by subst e; exact nodup_atF h.nd hj hkk)
      rw [idxs_snoc, if_neg hne, List.append_nil]
      exact h.val r m (List.mem_of_getElem? hkk)
  · by_cases hne : q = r
    · subst hne
      exact ⟨d', List.mem_of_getElem? (i := j) (by rw [List.getElem?_set_self hl])⟩
    · rw [idxs_snoc, if_neg hne, List.append_nil] at hr
      obtain ⟨m, hm⟩ := h.all r hr
      obtain ⟨k, hkk⟩ := List.getElem?_of_mem hm
      have hjk : j ≠ k := fun e => by subst e; rw [hj] at hkk; simp only [Option.some.injEq, Prod.mk.injEq] at hkk; exact hne hkk.1
      exact ⟨m, List.mem_of_getElem? (i := k) (by rw [List.getElem?_set, if_neg hjk, hkk])⟩
theorem IsBp.new {es : FMap} {ps : List (Nat × Fq)} (h : IsBp es ps) {q : Fq} {i : Nat} {d' : Drow Nat} (hq : idxs ps q = []) (hn : ∀ d, (q, d) ∉ es) (hd : d'.l = [i]) : IsBp (es ++ [(q, d')]) (ps ++ [(i, q)]) := by
  refine ⟨?_, fun r m hm => ?_, fun r hr => ?_⟩
  · rw [List.map_append]
    refine List.nodup_append.2 ⟨h.nd, by simp, fun a ha b hb e => ?_⟩
    simp at hb
    subst hb e
    obtain ⟨⟨x, m⟩, hm, rfl⟩ := List.mem_map.1 ha
    exact hn m hm
  · rcases List.mem_append.1 hm with hm | hm
    · have hne : q ≠ r := fun e => by subst e; exact hn m hm
      rw [idxs_snoc, if_neg hne, List.append_nil]
      exact h.val r m hm
    · simp only [List.mem_singleton, Prod.mk.injEq] at hm
      obtain ⟨rfl, rfl⟩ := hm
      rw [idxs_snoc, if_pos rfl, hq, hd]
      exact ⟨rfl, by simp⟩
  · by_cases hne : q = r
    · subst hne; exact ⟨d', by simp⟩
    · rw [idxs_snoc, if_neg hne, List.append_nil] at hr
      obtain ⟨m, hm⟩ := h.all r hr
      exact ⟨m, List.mem_append_left _ hm⟩
theorem IsBp.look {es : FMap} {ps : List (Nat × Fq)} (h : IsBp es ps) (q : Fq) : ∃ lo lc, LookIs SX 170 (kvF es) (fqV q) false (.slice lo (idxs ps q).length lc) ∧ ∀ w, (∀ d ∈ es.map (·.2), Rd w d.ao (natE.fl d.l)) → Rd w lo (natE.fl (idxs ps q)) := by
  rcases h.has q with ⟨j, d, hj, hd⟩ | ⟨hq, hn⟩
  · refine ⟨d.ao, d.cap, .inl ⟨j, _, kvF_at hj, ?_⟩, fun w hw => ?_⟩
    · rw [← hd]; rfl
    · rw [← hd]; exact hw d (List.mem_map.2 ⟨(q, d), List.mem_of_getElem? hj, rfl⟩)
  · refine ⟨none, 0, .inr ⟨kvF_no hn, _, rfl, ?_⟩, fun w _ => ?_⟩
    · rw [hq]; rfl
    · rw [hq]; exact ⟨by show 0 ≤ maxLen; exact Nat.zero_le _, fun h => absurd h (by show ¬ 0 < 0; omega)⟩
/-- Known entries' places by their fingerprints. -/
def En.fq (e : En) : Fq := ⟨e.fp, e.hf⟩
def psK (es : List En) : List (Nat × Fq) := es.zipIdx.map fun x => (x.2, x.1.fq)
theorem psK_snoc {es : List En} {k : Nat} {x : En} (h : es[k]? = some x) : psK (es.take (k + 1)) = psK (es.take k) ++ [(k, x.fq)] := by
  have hk := (List.getElem?_eq_some_iff.1 h).1
  rw [take_snocE h]
  unfold psK
  rw [List.zipIdx_append, List.map_append]
  congr 1
  simp [List.length_take, Nat.min_eq_left (Nat.le_of_lt hk)]
theorem psK_mem {es : List En} {i : Nat} {q : Fq} (h : (i, q) ∈ psK es) : ∃ x, es[i]? = some x ∧ x.fq = q := by
  unfold psK at h
  obtain ⟨⟨x, j⟩, hm, he⟩ := List.mem_map.1 h
  simp only [Prod.mk.injEq] at he
  obtain ⟨rfl, rfl⟩ := he
  exact ⟨x, List.mem_zipIdx_iff_getElem?.1 hm, rfl⟩
theorem enC_fq (x : En) : ((enC x).drop 0).take 32 = fqC x.fq := by
  rw [List.drop_zero]
  show (x.fp.map u8V ++ enT x.ln x.bx x.sl).take 32 = x.fp.map u8V
  rw [List.take_append_of_le_length (by rw [List.length_map, x.hf]; exact Nat.le_refl _), List.take_of_length_le (by rw [List.length_map, x.hf]; exact Nat.le_refl _)]
end Go.Proofs.YtlmefcepdadfjaaGreat
