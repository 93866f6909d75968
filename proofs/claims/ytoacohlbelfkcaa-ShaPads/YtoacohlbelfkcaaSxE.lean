/- A symbolic walk: what it says of each operation is so. No program is named here. -/
import Derived.Test.YtoacohlbelfkcaaSxD
namespace Go.Proofs.Ytoacohlbelfkcaa
open Go.RowKit

theorem set_splice_from (off : Nat) : ∀ (vs : List Value) (k : Nat) (cs : List Value), off + k + vs.length ≤ cs.length →
    (vs.zipIdx k).foldl (fun (c : Array Value) (x : Value × Nat) => c.setIfInBounds (off + x.2) x.1) cs.toArray = (splice (off + k) vs cs).toArray
  | [], k, cs, _ => by simp [splice]
  | v :: r, k, cs, h => by
    rw [List.zipIdx_cons, List.foldl_cons]
    have h1 : cs.toArray.setIfInBounds (off + k) v = (cs.set (off + k) v).toArray := by simp
    simp only
    rw [h1, set_splice_from off r (k + 1) (cs.set (off + k) v) (by simp at h ⊢; omega)]
    congr 1
    exact splice_step cs (off + k) v r (by simp at h ⊢; omega)
theorem fold_splice (off : Nat) (v : Value) (cs : List Value) (h : off + v.cells.size ≤ cs.length) :
    v.cells.zipIdx.foldl (fun (c : Array Value) (x : Value × Nat) => c.setIfInBounds (off + x.2) x.1) cs.toArray = (splice off v.cells.toList cs).toArray := by
  have := set_splice_from off v.cells.toList 0 cs (by simpa using h)
  rw [Nat.add_zero] at this
  rw [← this, ← Array.foldl_toList, Array.toList_zipIdx]
theorem fill_get {place : Nat → Option (Nat × Nat)} {place' : Nat → Option (Nat × Nat)} (hp : ∀ i x, place i = some x → place' i = some x) : ∀ (ps : List (Nat × Value)) (cs : List Value) (cs' : List Value), fillP place cs (ps.map fun p => (p.1, p.2.cells.toList)) → fillC place cs (ps.map fun p => (p.1, p.2.cells.toList)) = some cs' →
    cs'.length = cs.length ∧ Instr.fill place' cs.toArray ps = some cs'.toArray
  | [], cs, cs', _, h => by
    simp only [List.map_nil, fillC, Option.some.injEq] at h
    subst h
    exact ⟨rfl, rfl⟩
  | (i, v) :: r, cs, cs', h, hc => by
    simp only [List.map_cons, fillP] at h
    simp only [List.map_cons, fillC] at hc
    split at h
    · rename_i off size hpl
      obtain ⟨⟨h1, h2⟩, h⟩ := h
      rw [hpl] at hc
      simp only at hc
      obtain ⟨hl, hf⟩ := fill_get hp r _ cs' h hc
      have hs : v.cells.size = size := by simpa using h1
      refine ⟨?_, ?_⟩
      · rw [hl, splice_length _ _ _ (by simp; omega)]
      · simp only [Instr.fill, hp i _ hpl]
        rw [if_neg (by simp; omega)]
        rw [fold_splice off v cs (by omega)]
        exact hf
    · exact h.elim
theorem SxFill.get {place : Nat → Option (Nat × Nat)} {place' : Nat → Option (Nat × Nat)} (hp : ∀ i x, place i = some x → place' i = some x) {A : List Value → Prop} (ps : List (Nat × Value)) (cs : List Value) (h : SxFill place cs (ps.map fun p => (p.1, p.2.cells.toList)) A) :
    ∃ cs', A cs' ∧ cs'.length = cs.length ∧ Instr.fill place' cs.toArray ps = some cs'.toArray := by
  cases h with
  | mk h hc hA =>
    obtain ⟨h1, h2⟩ := fill_get hp ps cs _ h hc
    exact ⟨_, hA, h1, h2⟩
theorem zerosL_length (z : List Value) : ∀ n, (zerosL z n).length = n * z.length
  | 0 => by simp [zerosL]
  | n + 1 => by simp [zerosL, zerosL_length z n, Nat.add_mul]; omega
theorem zerosL_get (z : List Value) (hz : 0 < z.length) : ∀ (n i : Nat), i < n * z.length → (zerosL z n)[i]? = z[i % z.length]?
  | 0, i, h => by simp at h
  | n + 1, i, h => by
    rw [zerosL, List.getElem?_append]
    by_cases hi : i < z.length
    · rw [if_pos hi, Nat.mod_eq_of_lt hi]
    · rw [if_neg hi, zerosL_get z hz n (i - z.length) (by rw [Nat.add_mul] at h; omega)]
      congr 1
      rw [Nat.mod_eq_sub_mod (Nat.le_of_not_lt hi)]
theorem made_zeros (z : Array Value) (k n : Nat) (hz : z.size = k) (hk : 0 < k) : ((Array.range (n * k)).map (z[· % z.size]!)) = (zerosL z.toList n).toArray := by
  apply Array.ext'
  apply List.ext_getElem?
  intro i
  have hl : z.toList.length = k := by simpa using hz
  by_cases hi : i < n * k
  · rw [List.toList_toArray, zerosL_get z.toList (by omega) n i (by rw [hl]; exact hi), hl]
    have hm : i % k < k := Nat.mod_lt _ hk
    simp [hi, hz, hm]
  · rw [List.getElem?_eq_none (by simp; omega), List.getElem?_eq_none (by simp [zerosL_length, hl]; omega)]
theorem zerosL_take (z : List Value) (a b k : Nat) (hz : z.length = k) (h : a ≤ b) : (zerosL z b).take (a * k) = zerosL z a := by
  rcases Nat.eq_zero_or_pos k with hk | hk
  · have h1 : zerosL z a = [] := List.eq_nil_of_length_eq_zero (by rw [zerosL_length, hz, hk, Nat.mul_zero])
    rw [h1, hk]; simp
  apply List.ext_getElem?
  intro i
  have hab : a * k ≤ b * k := Nat.mul_le_mul_right _ h
  rw [List.getElem?_take]
  by_cases hi : i < a * k
  · rw [if_pos hi, zerosL_get z (by omega) b i (by rw [hz]; omega), zerosL_get z (by omega) a i (by rw [hz]; exact hi)]
  · rw [if_neg hi, List.getElem?_eq_none (by rw [zerosL_length, hz]; omega)]
theorem maxLen_val : maxLen = 9223372036854775807 := rfl

section
variable {S : Sx} {W : World} {M : List Nat} {N : Nat} {o : Oper} {F : Fr} {H : Hp} {A : Value → Hp → Prop} {a : Act} {w : World}
theorem slice_get {t : Nat} {v : Value} {lo hi : Option Operand} (h : sxSlice S t v lo hi F H A) : ∃ r, A r H ∧ ∀ (a : Act), Agree N F a → ∀ w, (Instr.sliceAt t v (lo.map a.eval) (hi.map a.eval) none).run S.P w = .ok r w := by
  unfold sxSlice at h
  split at h
  · rename_i s hd
    split at h
    · rename_i l u hl hu
      cases h with
      | mk p q h1 h2 h3 h4 h =>
        refine ⟨_, h, fun a ha w => ?_⟩
        have hb := run_sliceBounds (P := S.P) false s.size s.size (lo.map a.eval) (hi.map a.eval) p q (opt_nat (d := 0) (sxOpt_get ha hl) h1) (opt_nat (d := s.size) (sxOpt_get ha hu) h2) h3 h4 w
        simp [Instr.sliceAt, Instr.slice, run_str hd, hb]
    · exact h.elim
  · rename_i e ao n cap hd
    split at h
    · rename_i l u k hl hu hk
      cases h with
      | mk p q h1 h2 h3 h4 h =>
        have hb := fun (a : Act) (ha : Agree N F a) w => run_sliceBounds (P := S.P) true n cap (lo.map a.eval) (hi.map a.eval) p q (opt_nat (d := 0) (sxOpt_get ha hl) h1) (opt_nat (d := n) (sxOpt_get ha hu) h2) h3 h4 w
        refine ⟨_, h (if cap = p then ao else ao.map (·.add (p * k))) (fun hlt => by rw [if_neg (by omega)]) (fun he => by rw [if_pos he.symm]), fun a ha w => ?_⟩
        simp [Instr.sliceAt, Instr.slice, run_sl hd, hb a ha, run_size hk]
    · exact h.elim
  · rename_i n e g off hd
    split at h
    · rename_i l u k hl hu hk
      cases h with
      | mk p q h1 h2 h3 h4 h =>
        have hb := fun (a : Act) (ha : Agree N F a) w => run_sliceBounds (P := S.P) false n n (lo.map a.eval) (hi.map a.eval) p q (opt_nat (d := 0) (sxOpt_get ha hl) h1) (opt_nat (d := n) (sxOpt_get ha hu) h2) h3 h4 w
        refine ⟨_, h (if n = p then off else off + p * k) (fun hlt => by rw [if_neg (by omega)]), fun a ha w => ?_⟩
        have hadd : (if n = p then (⟨g, off, none⟩ : Addr) else (⟨g, off, none⟩ : Addr).add (p * k)) = ⟨g, if n = p then off else off + p * k, none⟩ := by
          split
          · rfl
          · rw [Addr.add_lit]
        simp [Instr.sliceAt, run_arr hd, hb a ha, run_size hk, Instr.sureAddr, hadd]
    · exact h.elim
  · exact h.elim
theorem conv_get {src dst : Nat} {v : Value} (h : sxConv S src dst v H A) (hs : Sat W M H w) : ∃ r H' w', A r H' ∧ Sat W M H' w' ∧ (convert src dst v).run S.P w = .ok r w' := by
  unfold sxConv at h
  split at h
  · rename_i k k' n hd1 hd2
    cases h with | mk h => exact ⟨_, H, w, h, hs, by simp [convert, run_int hd1, run_int hd2, Conv.intToInt]⟩
  · rename_i s hd1 hd2
    exact ⟨_, H, w, h, hs, by simp [convert, run_str hd1, run_str hd2]⟩
  · rename_i e s hd1 hd2
    split at h
    · rename_i hd3
      obtain ⟨cap, w', hr, hc, hb, hbel, _⟩ := run_bytes_blk (P := S.P) w src dst e s (Sx.ustr hd1) (Sx.usl hd2) (Sx.uint hd3)
      cases h with | mk h => cases h w.heap.size with | mk h => exact ⟨_, _, w', h cap hc, hs.cons (Below.toGrown hbel) hb (fun g hg => by simp only [Ent.uses] at hg; omega), hr⟩
    · exact h.elim
  · rename_i e ao n cap hd1 hd2
    split at h
    · rename_i hd3
      obtain ⟨l, hl, hr⟩ := h.get (P := S.P) (cap := cap) hs src dst e (Sx.usl hd1) (Sx.uint hd3) (Sx.ustr hd2)
      exact ⟨_, H, w, hl, hs, hr⟩
    · exact h.elim
  · exact h.elim
theorem builtin_get {b : Builtin} {tys : List TypeId} {vs : List Value} (ty : TypeId) (h : sxBuiltin S b tys vs H A) (hs : Sat W M H w) (cst : Array Bool) : ∃ r H' w', A r H' ∧ Sat W M H' w' ∧ (builtin b tys.toArray ty cst vs.toArray).run S.P w = .ok (.value r) w' := by
  unfold sxBuiltin at h
  split at h
  · rename_i t tys v
    split at h
    · rename_i s hd; exact ⟨_, H, w, h, hs, by simp [builtin, Builtin.len_, run_str hd, goInt]⟩
    · rename_i e ao n cap hd; exact ⟨_, H, w, h, hs, by simp [builtin, Builtin.len_, run_sl hd, goInt]⟩
    · rename_i n e hd; exact ⟨_, H, w, h, hs, by simp [builtin, Builtin.len_, run_arr hd, goInt]⟩
    · exact h.elim
  · rename_i k x k' y
    cases hk : sameK k k' with
    | true => rw [hk] at h; exact ⟨_, H, w, h, hs, by simp [builtin, Builtin.min_, Builtin.min2]⟩
    | false => rw [hk] at h; exact h.elim
  · rename_i k x k' y
    cases hk : sameK k k' with
    | true => rw [hk] at h; exact ⟨_, H, w, h, hs, by simp [builtin, Builtin.max_, Builtin.max2]⟩
    | false => rw [hk] at h; exact h.elim
  · rename_i t u ao n cap xo m xcap
    cases htu : Nat.beq t u with
    | false => rw [htu] at h; exact h.elim
    | true =>
      rw [htu] at h
      obtain rfl := Nat.eq_of_beq_eq_true htu
      simp only [cond_true] at h
      split at h
      · rename_i e hd
        split at h
        · rename_i d0 n0 b0 z0 hi
          cases h with
          | mk h0 h =>
            obtain ⟨ao', cap', H', w', hA, hr, hs'⟩ := SxApp.get (i := ⟨d0, n0, b0, z0⟩) h hs t ty (Sx.usl hd) hi h0.1 h0.2
            exact ⟨_, H', w', hA, hs', by simp [builtin, hr]⟩
        · exact h.elim
      · exact h.elim
  · exact h.elim
end
end Go.Proofs.Ytoacohlbelfkcaa
