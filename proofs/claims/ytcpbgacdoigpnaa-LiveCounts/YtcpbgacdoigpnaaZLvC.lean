/- Layer 20: Add. -/
import Derived.Test.YtcpbgacdoigpnaaZLvB
namespace Go.Proofs.Ytcpbgacdoigpnaa
open Go.RowKit

theorem Tab.inc {d : List (Pl × Nat)} {l : List Pl} (h : Tab d l) {p : Pl} {j : Nat} (hj : d[j]? = some (p, l.count p)) : Tab (d.set j (p, l.count p + 1)) (l ++ [p]) := by
  have hl := (List.getElem?_eq_some_iff.1 hj).1
  have hk : (d.set j (p, l.count p + 1)).map (·.1) = d.map (·.1) := map_set_same (fun x : Pl × Nat => x.1) (e' := (p, l.count p + 1)) hj rfl
  have hnd := h.nd
  have key : ∀ q n, (q, n) ∈ d.set j (p, l.count p + 1) → (q = p ∧ n = l.count p + 1) ∨ (q ≠ p ∧ (q, n) ∈ d) := by
    intro q n hm
    obtain ⟨i, hi⟩ := List.getElem?_of_mem hm
    rw [List.getElem?_set] at hi
    by_cases hij : j = i
    · subst hij
      rw [if_pos rfl, if_pos hl] at hi
      simp only [Option.some.injEq, Prod.mk.injEq] at hi
      exact .inl ⟨hi.1.symm, hi.2.symm⟩
    · rw [if_neg hij] at hi
      refine .inr ⟨fun e => ?_, List.mem_of_getElem? hi⟩
      subst e
      have hil := (List.getElem?_eq_some_iff.1 hi).1
      have h2 := List.nodup_iff_pairwise_ne.1 hnd
      rw [List.pairwise_iff_getElem] at h2
      have e1 : (d.map (·.1))[i]'(by simpa using hil) = q := by rw [List.getElem_map, (List.getElem?_eq_some_iff.1 hi).2]
      have e2 : (d.map (·.1))[j]'(by simpa using hl) = q := by rw [List.getElem_map, (List.getElem?_eq_some_iff.1 hj).2]
      rcases Nat.lt_or_gt_of_ne hij with h3 | h3
      · exact h2 j i (by simpa using hl) (by simpa using hil) h3 (e2.trans e1.symm)
      · exact h2 i j (by simpa using hil) (by simpa using hl) h3 (e1.trans e2.symm)
  refine ⟨by rw [hk]; exact hnd, fun q n hm => ?_, fun q hq => ?_⟩
  · rcases key q n hm with ⟨rfl, rfl⟩ | ⟨hne, hm⟩
    · rw [List.count_append, List.count_singleton_self]; exact ⟨rfl, Nat.succ_pos _⟩
    · obtain ⟨h1, h2⟩ := h.cnt q n hm
      rw [List.count_append, List.count_singleton, if_neg (by simpa using fun e => hne e.symm)]
      exact ⟨h1, h2⟩
  · rcases List.mem_append.1 hq with h1 | h1
    · obtain ⟨n, hn⟩ := h.all q h1
      obtain ⟨i, hi⟩ := List.getElem?_of_mem hn
      by_cases hij : j = i
      · subst hij
        have := hj.symm.trans hi
        simp only [Option.some.injEq, Prod.mk.injEq] at this
        exact ⟨l.count p + 1, by rw [← this.1]; exact List.mem_of_getElem? (i := j) (by rw [List.getElem?_set_self hl])⟩
      · exact ⟨n, List.mem_of_getElem? (i := i) (by rw [List.getElem?_set, if_neg hij, hi])⟩
    · simp at h1
      subst h1
      exact ⟨l.count q + 1, List.mem_of_getElem? (i := j) (by rw [List.getElem?_set_self hl])⟩
theorem Tab.new {d : List (Pl × Nat)} {l : List Pl} (h : Tab d l) {p : Pl} (hc : l.count p = 0) (hn : ∀ n, (p, n) ∉ d) : Tab (d ++ [(p, 1)]) (l ++ [p]) := by
  refine ⟨?_, fun q n hm => ?_, fun q hq => ?_⟩
  · rw [List.map_append]
    refine List.nodup_append.2 ⟨h.nd, by simp, fun a ha b hb => ?_⟩
    simp at hb
    subst hb
    obtain ⟨⟨q, n⟩, hm, rfl⟩ := List.mem_map.1 ha
    exact fun e => hn n (by rw [← e]; exact hm)
  · rcases List.mem_append.1 hm with h1 | h1
    · obtain ⟨a, b⟩ := h.cnt q n h1
      have hne : ¬ p = q := fun e => hn n (e ▸ h1)
      rw [List.count_append, List.count_singleton, if_neg (by simpa using hne)]
      exact ⟨a, b⟩
    · simp at h1
      obtain ⟨rfl, rfl⟩ := h1
      rw [List.count_append, List.count_singleton_self, hc]
      exact ⟨rfl, Nat.one_pos⟩
  · rcases List.mem_append.1 hq with h1 | h1
    · obtain ⟨n, hn⟩ := h.all q h1
      exact ⟨n, List.mem_append_left _ hn⟩
    · simp at h1
      subst h1
      exact ⟨1, by simp⟩
theorem Tab.len {d : List (Pl × Nat)} {l : List Pl} (_h : Tab d l) (p : Pl) : l.count p ≤ l.length := List.count_le_length
structure Mf where
  id : Int
  ao : Option Addr
  cap : Nat
  es : List En
def mfE : Enc Mf := ⟨fun m => [.int .u32 m.id, .slice m.ao m.es.length m.cap], 2, by decide, fun _ => rfl, fun _ => rfl⟩
theorem rowMf_len (l : List Mf) : (mfE.fl l).length = l.length * 2 := mfE.fl_len l
theorem rowMf_at {l : List Mf} {k : Nat} {x : Mf} (h : l[k]? = some x) : ((mfE.fl l).drop (k * 2)).take 2 = mfE.enc x := mfE.fl_at h
def plsM (ms : List Mf) : List Pl := ms.flatMap fun m => plsOf m.es
theorem plsM_snoc {ms : List Mf} {k : Nat} {m : Mf} (h : ms[k]? = some m) : plsM (ms.take (k + 1)) = plsM (ms.take k) ++ plsOf m.es := by
  rw [take_snocE h]; unfold plsM; rw [List.flatMap_append]; simp
theorem plsM_le (ms : List Mf) (k : Nat) : (plsM (ms.take k)).length ≤ (plsM ms).length := by
  have e : plsM ms = plsM (ms.take k) ++ plsM (ms.drop k) := by unfold plsM; rw [← List.flatMap_append, List.take_append_drop]
  rw [e, List.length_append]; omega
set_option maxHeartbeats 8000000 in
theorem Add_any (gt gm : Nat) (d : List (Pl × Nat)) (l : List Pl) (hd : Tab d l) (ms : List Mf) (hlen : l.length + (plsM ms).length ≤ 1000000) (lo : Option Addr) (lc : Nat) (w : World) (ht : TabR w gt gm) (hm : MapT w gm d) (hne : gt ≠ gm) (hr : Rd w lo (mfE.fl ms)) (hrn : ¬ (Ent.rd lo (mfE.fl ms)).uses gm)
    (hms : ∀ m ∈ ms, Rd w m.ao (enE.fl m.es) ∧ ¬ (Ent.rd m.ao (enE.fl m.es)).uses gm) :
    Calls Try.prog 10 #[.pointer (some ⟨gt, 0, none⟩), .slice lo ms.length lc] w fun e w' => e = .returned (.tuple #[]) ∧ w.grownBy w' (some gm) ∧ ∃ d', Tab d' (l ++ plsM ms) ∧ MapT w' gm d' := by
  have hml : ms.length * 2 ≤ maxLen := by have := hr.1; rw [rowMf_len] at this; exact this
  unfold maxLen at hml
  refine sx_fn (S := SX) (M := [gm]) (H0 := [mapE plKey gm (kvT d), tabR gt gm, .rd lo (mfE.fl ms)]) (N := 36) Try.func10 rfl rfl rfl (Sat.cons_own (Sat.rdsM w [gm] _ fun i e hi => by
    match i, hi with
    | 0, hi => cases hi; exact ⟨rfl, ht⟩
    | 1, hi => cases hi; exact ⟨rfl, hr⟩) (g := gm) hm (fun b hb => hb) (.inl (by simp)) fun i x hi => by
    match i, hi with
    | 0, hi => cases hi; exact fun h => hne (by simpa using h.2)
    | 1, hi => cases hi; exact hrn) ?_
  ((try refine sx_use ?_); (repeat (refine SxNew.mk fun _ => ?_; (try refine sx_use ?_))))
  refine SxCall.quietS (fun w hs => made_any gt gm w (hs.rd 1 rfl)) ?_
  ((try refine sx_use ?_); (repeat (refine SxNew.mk fun _ => ?_; (try refine sx_use ?_))))
  refine SxCode.loop (σ := Nat × List (Pl × Nat)) [13] [14, 15, 16, 5, 17, 18, 19, 20, 21, 22, 23, 7, 24, 25, 26, 27, 28, 29, 30, 31, 32, 33, 34, 35, 13] (fun s => [.int .i64 (s.1 : Nat)]) (fun s => [mapE plKey gm (kvT s.2), tabR gt gm, .rd lo (mfE.fl ms)]) (fun s => s.1 ≤ ms.length ∧ Tab s.2 (l ++ plsM (ms.take s.1))) (fun s => ms.length - s.1) (0, d) [0, 1, 2] rfl rfl rfl rfl ⟨Nat.zero_le _, by simpa [plsM] using hd⟩ ?_
  rintro ⟨k, dk⟩ ⟨hk, hdk⟩
  dsimp only at hk hdk ⊢
  have hlk := plsM_le ms (k + 1)
  by_cases hlt : k < ms.length
  · obtain ⟨m, hmk⟩ : ∃ m, ms[k]? = some m := ⟨ms[k], by simp [hlt]⟩
    obtain ⟨hm1, hm2⟩ := hms m (List.mem_of_getElem? hmk)
    have hsn := plsM_snoc hmk
    rw [hsn, List.length_append, plsOf_len] at hlk
    refine sx_addRd hm1 (fun b hu hb => hm2 (by simp at hb; rw [← hb]; exact hu)) ?_
    ((try refine sx_use ?_); (repeat (refine SxNew.mk fun _ => ?_; (try refine sx_use ?_))))
    (try refine SxIf.yes (by omega) ?_)
    (try ((try refine sx_use ?_); (repeat (refine SxNew.mk fun _ => ?_; (try refine sx_use ?_)))))
    refine SxIA.rd 3 _ rfl k rfl hlt (by rw [rowMf_len]; omega) fun g off ha => ?_
    ((try refine sx_use ?_); (repeat (refine SxNew.mk fun _ => ?_; (try refine sx_use ?_))))
    refine SxLdN.rd 3 rfl ha rfl (vs := mfE.enc m) rfl (rowMf_at hmk) ?_
    ((try refine sx_use ?_); (repeat (refine SxNew.mk fun _ => ?_; (try refine sx_use ?_))))
    refine SxCode.loop (σ := Nat × List (Pl × Nat)) [20] [21, 22, 23, 7, 24, 25, 26, 27, 28, 29, 30, 31, 32, 33, 34, 20] (fun s => [.int .i64 (s.1 : Nat)]) (fun s => [.rd m.ao (enE.fl m.es), mapE plKey gm (kvT s.2), tabR gt gm, .rd lo (mfE.fl ms)]) (fun s => s.1 ≤ m.es.length ∧ Tab s.2 (l ++ plsM (ms.take k) ++ plsOf (m.es.take s.1))) (fun s => m.es.length - s.1) (0, dk) [1, 2, 3, 4] rfl rfl rfl rfl ⟨Nat.zero_le _, by simpa [plsOf] using hdk⟩ ?_
    rintro ⟨i, di⟩ ⟨hi, hdi⟩
    dsimp only at hi hdi ⊢
    ((try refine sx_use ?_); (repeat (refine SxNew.mk fun _ => ?_; (try refine sx_use ?_))))
    refine SxIf.dec (fun h => ?_) (fun h => ?_)
    · have hil : i < m.es.length := by omega
      obtain ⟨x, hx⟩ : ∃ x, m.es[i]? = some x := ⟨m.es[i], by simp [hil]⟩
      have hsx : plsOf (m.es.take (i + 1)) = plsOf (m.es.take i) ++ [x.pl] := by rw [take_snocE hx]; exact List.map_append
      ((try refine sx_use ?_); (repeat (refine SxNew.mk fun _ => ?_; (try refine sx_use ?_))))
      refine SxIA.rd 0 _ rfl i rfl hil (by rw [rowEn_len]; omega) fun g off ha => ?_
      ((try refine sx_use ?_); (repeat (refine SxNew.mk fun _ => ?_; (try refine sx_use ?_))))
      refine SxLdN.rd 0 rfl ha rfl (vs := enC x) (enC_len x) (rowEn_at hx) ?_
      ((try refine sx_use ?_); (repeat (refine SxNew.mk fun _ => ?_; (try refine sx_use ?_))))
      rename_i b7
      refine SxSt.elem enE (x := x) 0 rfl rfl ?_
      ((try refine sx_use ?_); (repeat (refine SxNew.mk fun _ => ?_; (try refine sx_use ?_))))
      refine SxCode.draw rfl [.blk b7 65 (enC x), tabR gt gm] [] [0, 3] rfl rfl ?_
      ((try refine sx_use ?_); (repeat (refine SxNew.mk fun _ => ?_; (try refine sx_use ?_))))
      refine SxLd.rd 1 rfl rfl (j := 0) rfl rfl ?_
      ((try refine sx_use ?_); (repeat (refine SxNew.mk fun _ => ?_; (try refine sx_use ?_))))
      refine SxLdN.blk 0 rfl (vs := enC x) (enC_len x) (rowEn_all x) ?_
      ((try refine sx_use ?_); (repeat (refine SxNew.mk fun _ => ?_; (try refine sx_use ?_))))
      refine SxCall.quiet (place_any x) ?_
      ((try refine sx_use ?_); (repeat (refine SxNew.mk fun _ => ?_; (try refine sx_use ?_))))
      (try refine SxStable.mk [0, 3] rfl rfl ?_)
      (try ((try refine sx_use ?_); (repeat (refine SxNew.mk fun _ => ?_; (try refine sx_use ?_)))))
      have hL : (l ++ plsM (ms.take k) ++ plsOf (m.es.take i)).length ≤ 1000000 := by
        rw [List.length_append, List.length_append, plsOf_len, List.length_take]; omega
      have hsL : l ++ plsM (ms.take k) ++ plsOf (m.es.take (i + 1)) = (l ++ plsM (ms.take k) ++ plsOf (m.es.take i)) ++ [x.pl] := by rw [hsx, List.append_assoc (l ++ plsM (ms.take k))]
      have hcl := hdi.len x.pl
      rcases hdi.has x.pl with ⟨j, hj, h0⟩ | ⟨hc, hno⟩
      · have hT := hdi.inc hj
        rw [← hsL] at hT
        have hset := kvT_set di j x.pl ((l ++ plsM (ms.take k) ++ plsOf (m.es.take i)).count x.pl + 1)
        refine any_two rfl rfl rfl rfl rfl rfl rfl ?_ ?_
        · ((try refine sx_use ?_); (repeat (refine SxNew.mk fun _ => ?_; (try refine sx_use ?_))))
          refine SxSem.lookG plKey rfl Try.underlying59 rfl rfl (IsMap.e plKey (p := 2) rfl) (plKey_ok x.pl) (hdi.look x.pl) ?_
          ((try refine sx_use ?_); (repeat (refine SxNew.mk fun _ => ?_; (try refine sx_use ?_))))
          (try refine SxStable.mk [0, 3] rfl rfl ?_)
          (try ((try refine sx_use ?_); (repeat (refine SxNew.mk fun _ => ?_; (try refine sx_use ?_)))))
          refine SxSem.mapEntry plKey 2 rfl Try.underlying59 rfl rfl rfl (plKey_ok x.pl) (.inl ⟨j, _, kvT_at hj, fun b => ?_⟩)
          ((try refine sx_use ?_); (repeat (refine SxNew.mk fun _ => ?_; (try refine sx_use ?_))))
          (try refine SxStable.mk [0, 3] rfl rfl ?_)
          (try ((try refine sx_use ?_); (repeat (refine SxNew.mk fun _ => ?_; (try refine sx_use ?_)))))
          refine SxSem.entryStore plKey 2 rfl rfl rfl rfl rfl (kvT_at hj) ?_
          ((try refine sx_use ?_); (repeat (refine SxNew.mk fun _ => ?_; (try refine sx_use ?_))))
          (try refine SxStable.mk [0, 3] rfl rfl ?_)
          (try ((try refine sx_use ?_); (repeat (refine SxNew.mk fun _ => ?_; (try refine sx_use ?_)))))
          exact SxRound.mk (i + 1, di.set j (x.pl, (l ++ plsM (ms.take k) ++ plsOf (m.es.take i)).count x.pl + 1)) [1, 2, 3, 4] rfl (by dsimp only; rw [hset]; rfl) rfl ⟨hil, hT⟩ (by dsimp only; omega)
        · ((try refine sx_use ?_); (repeat (refine SxNew.mk fun _ => ?_; (try refine sx_use ?_))))
          refine SxSem.mapEntry plKey 2 rfl Try.underlying59 rfl rfl rfl (plKey_ok x.pl) (.inl ⟨j, _, kvT_at hj, fun b => ?_⟩)
          ((try refine sx_use ?_); (repeat (refine SxNew.mk fun _ => ?_; (try refine sx_use ?_))))
          (try refine SxStable.mk [0, 3] rfl rfl ?_)
          (try ((try refine sx_use ?_); (repeat (refine SxNew.mk fun _ => ?_; (try refine sx_use ?_)))))
          refine SxSem.lookG plKey rfl Try.underlying59 rfl rfl (IsMap.b plKey (p := 2) rfl) (plKey_ok x.pl) (hdi.look x.pl) ?_
          ((try refine sx_use ?_); (repeat (refine SxNew.mk fun _ => ?_; (try refine sx_use ?_))))
          (try refine SxStable.mk [0, 3] rfl rfl ?_)
          (try ((try refine sx_use ?_); (repeat (refine SxNew.mk fun _ => ?_; (try refine sx_use ?_)))))
          refine SxSem.entryStore plKey 2 rfl rfl rfl rfl rfl (kvT_at hj) ?_
          ((try refine sx_use ?_); (repeat (refine SxNew.mk fun _ => ?_; (try refine sx_use ?_))))
          (try refine SxStable.mk [0, 3] rfl rfl ?_)
          (try ((try refine sx_use ?_); (repeat (refine SxNew.mk fun _ => ?_; (try refine sx_use ?_)))))
          exact SxRound.mk (i + 1, di.set j (x.pl, (l ++ plsM (ms.take k) ++ plsOf (m.es.take i)).count x.pl + 1)) [1, 2, 3, 4] rfl (by dsimp only; rw [hset]; rfl) rfl ⟨hil, hT⟩ (by dsimp only; omega)
      · have hT := hdi.new hc hno
        rw [← hsL] at hT
        have hz : LookIs SX 3 (kvT di) (plV x.pl) false (.int .i64 0) := .inr ⟨kvT_no hno, _, rfl, rfl⟩
        have hat : (kvT di ++ [(plV x.pl, Value.int .i64 0)])[(kvT di).length]? = some (plV x.pl, .int .i64 0) := by rw [List.getElem?_append_right (Nat.le_refl _), Nat.sub_self]; rfl
        have hset : (kvT di ++ [(plV x.pl, Value.int .i64 0)]).set (kvT di).length (plV x.pl, .int .i64 1) = kvT (di ++ [(x.pl, 1)]) := by
          rw [List.set_append_right _ _ (Nat.le_refl _), Nat.sub_self, kvT_append]; rfl
        refine any_two rfl rfl rfl rfl rfl rfl rfl ?_ ?_
        · ((try refine sx_use ?_); (repeat (refine SxNew.mk fun _ => ?_; (try refine sx_use ?_))))
          refine SxSem.lookG plKey rfl Try.underlying59 rfl rfl (IsMap.e plKey (p := 2) rfl) (plKey_ok x.pl) hz ?_
          ((try refine sx_use ?_); (repeat (refine SxNew.mk fun _ => ?_; (try refine sx_use ?_))))
          (try refine SxStable.mk [0, 3] rfl rfl ?_)
          (try ((try refine sx_use ?_); (repeat (refine SxNew.mk fun _ => ?_; (try refine sx_use ?_)))))
          refine SxSem.mapEntry plKey 2 rfl Try.underlying59 rfl rfl rfl (plKey_ok x.pl) (.inr ⟨kvT_no hno, _, rfl, fun b => ?_⟩)
          ((try refine sx_use ?_); (repeat (refine SxNew.mk fun _ => ?_; (try refine sx_use ?_))))
          (try refine SxStable.mk [0, 3] rfl rfl ?_)
          (try ((try refine sx_use ?_); (repeat (refine SxNew.mk fun _ => ?_; (try refine sx_use ?_)))))
          refine SxSem.entryStore plKey 2 rfl rfl rfl rfl rfl hat ?_
          ((try refine sx_use ?_); (repeat (refine SxNew.mk fun _ => ?_; (try refine sx_use ?_))))
          (try refine SxStable.mk [0, 3] rfl rfl ?_)
          (try ((try refine sx_use ?_); (repeat (refine SxNew.mk fun _ => ?_; (try refine sx_use ?_)))))
          exact SxRound.mk (i + 1, di ++ [(x.pl, 1)]) [1, 2, 3, 4] rfl (by dsimp only; rw [← hset]; rfl) rfl ⟨hil, hT⟩ (by dsimp only; omega)
        · ((try refine sx_use ?_); (repeat (refine SxNew.mk fun _ => ?_; (try refine sx_use ?_))))
          refine SxSem.mapEntry plKey 2 rfl Try.underlying59 rfl rfl rfl (plKey_ok x.pl) (.inr ⟨kvT_no hno, _, rfl, fun b => ?_⟩)
          ((try refine sx_use ?_); (repeat (refine SxNew.mk fun _ => ?_; (try refine sx_use ?_))))
          (try refine SxStable.mk [0, 3] rfl rfl ?_)
          (try ((try refine sx_use ?_); (repeat (refine SxNew.mk fun _ => ?_; (try refine sx_use ?_)))))
          refine SxSem.lookG plKey rfl Try.underlying59 rfl rfl (IsMap.b plKey (p := 2) rfl) (plKey_ok x.pl) (.inl ⟨_, _, hat, rfl⟩) ?_
          ((try refine sx_use ?_); (repeat (refine SxNew.mk fun _ => ?_; (try refine sx_use ?_))))
          (try refine SxStable.mk [0, 3] rfl rfl ?_)
          (try ((try refine sx_use ?_); (repeat (refine SxNew.mk fun _ => ?_; (try refine sx_use ?_)))))
          refine SxSem.entryStore plKey 2 rfl rfl rfl rfl rfl hat ?_
          ((try refine sx_use ?_); (repeat (refine SxNew.mk fun _ => ?_; (try refine sx_use ?_))))
          (try refine SxStable.mk [0, 3] rfl rfl ?_)
          (try ((try refine sx_use ?_); (repeat (refine SxNew.mk fun _ => ?_; (try refine sx_use ?_)))))
          exact SxRound.mk (i + 1, di ++ [(x.pl, 1)]) [1, 2, 3, 4] rfl (by dsimp only; rw [← hset]; rfl) rfl ⟨hil, hT⟩ (by dsimp only; omega)
    · obtain rfl : i = m.es.length := by omega
      rw [List.take_length] at hdi
      ((try refine sx_use ?_); (repeat (refine SxNew.mk fun _ => ?_; (try refine sx_use ?_))))
      exact SxRound.mk (k + 1, di) [1, 2, 3] rfl rfl rfl ⟨hlt, by rw [hsn, ← List.append_assoc]; exact hdi⟩ (by dsimp only; omega)
  · obtain rfl : k = ms.length := by omega
    rw [List.take_length] at hdk
    ((try refine sx_use ?_); (repeat (refine SxNew.mk fun _ => ?_; (try refine sx_use ?_))))
    exact SxDone.mk fun w' hs => ⟨rfl, hs.touch.grown, dk, hdk, hs.holds 0 _ rfl⟩
end Go.Proofs.Ytcpbgacdoigpnaa
