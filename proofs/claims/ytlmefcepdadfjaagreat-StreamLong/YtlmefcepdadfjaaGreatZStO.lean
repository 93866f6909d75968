/- Texts of this claim, one behind the other. -/
import Derived.Test.YtlmefcepdadfjaaGreatZGen
import Derived.Test.YtlmefcepdadfjaaGreatZSxO
import Derived.Test.YtlmefcepdadfjaaGreatZStN
/- Package slices at api.Entry. -/
namespace Go.Proofs.YtlmefcepdadfjaaGreat
open Go.RowKit

theorem rowEn_len (l : List En) : (enE.fl l).length = l.length * 35 := enE.fl_len l
theorem CloneEn_any (l : List En) (ao : Option Addr) (cap : Nat) (hl : l.length ≤ 1000000) (w : World) (hr : Rd w ao (enE.fl l)) :
    Calls Tryz.prog 45 #[.slice ao l.length cap] w fun e w' => ∃ ao' cap', e = .returned (.slice ao' l.length cap') ∧ NewRow w w' ao' l.length cap' 71 35 (enE.fl l) := by
  refine sx_fn (S := SX) (M := []) (N := 8) (H0 := [.row none 0 0 71 35 [], .rd ao (enE.fl l)]) Tryz.func45 rfl rfl rfl ((Sat.oneRd _ hr).nilRow 71 35) ?_
  ((try refine sx_use ?_); (repeat (refine SxNew.mk fun _ => ?_; (try refine sx_use ?_))))
  refine SxRun.sEqNil Tryz.underlying65 ?_
  cases ao with
  | none =>
    have h0 : l = [] := by
      cases l with
      | nil => rfl
      | cons x l => obtain ⟨g, off, h, _⟩ := hr.2 (enE.fl_ne (by simp)); cases h
    subst h0
    ((try refine sx_use ?_); (repeat (refine SxNew.mk fun _ => ?_; (try refine sx_use ?_))))
    exact SxDone.mk fun w' hs => ⟨none, 0, rfl, hs.newRow 0 rfl⟩
  | some a =>
    ((try refine sx_use ?_); (repeat (refine SxNew.mk fun _ => ?_; (try refine sx_use ?_))))
    refine SxApp.mk 0 rfl 2 (.inr (.inl rfl)) (rowEn_len l) (enE.fl_allOne l) (by unfold maxLen; omega) (by omega) rfl fun ao' cap' => ?_
    ((try refine sx_use ?_); (repeat (refine SxNew.mk fun _ => ?_; (try refine sx_use ?_))))
    exact SxDone.mk fun w' hs => ⟨ao', cap', by rw [Nat.zero_add]; rfl, by have := hs.newRow 0 rfl; rw [Nat.zero_add] at this; exact this⟩
end Go.Proofs.YtlmefcepdadfjaaGreat
/- Layer 23: put, what is laid said by its boxes; plain words of put and of what is found. -/
namespace Go.Proofs.YtlmefcepdadfjaaGreat
open Go.RowKit

def lastX (bs : List Bx) : Nat := match bs.getLast? with
  | some b => szB b.2
  | none => 0
/-- The bytes of new boxes. -/
def freshX (bs : List Bx) : Nat := (bs.map fun b => szB b.2).sum
theorem freshX_snoc (bs : List Bx) (b : Bx) : freshX (bs ++ [b]) = freshX bs + szB b.2 := by simp [freshX]
theorem lastX_snoc (bs : List Bx) (b : Bx) : lastX (bs ++ [b]) = szB b.2 := by unfold lastX; rw [List.getLast?_concat]
theorem lastX_le (bs : List Bx) : lastX bs ≤ freshX bs := by
  rcases List.eq_nil_or_concat bs with h0 | ⟨bs0, b, h0⟩
  · subst h0; exact Nat.le_refl _
  · rw [List.concat_eq_append] at h0
    subst h0
    rw [lastX_snoc, freshX_snoc]; omega
/-- A new chunk: into the last box, or into a new one. -/
theorem putP_cases (c : Nat → Int) (box : Int) (bs : List Bx) (s : ByteArray) : (∃ bs0 b, bs = bs0 ++ [b] ∧ fitsB c b s = true ∧ putP c box bs s = (bs0 ++ [(b.1, b.2 ++ [s])], b.1, (b.2.length : Int))) ∨ ((∀ b, bs.getLast? = some b → fitsB c b s = false) ∧ putP c box bs s = (bs ++ [((box + bs.length) % 4294967296, [s])], (box + bs.length) % 4294967296, 0)) := by
  rcases List.eq_nil_or_concat bs with h0 | ⟨bs0, b, h0⟩
  · subst h0; exact .inr ⟨fun b hb => (by cases hb), rfl⟩
  · rw [List.concat_eq_append] at h0
    subst h0
    unfold putP
    rw [List.getLast?_concat]
    dsimp only
    cases hf : fitsB c b s with
    | true => exact .inl ⟨bs0, b, rfl, hf, by rw [if_pos rfl, List.dropLast_concat]⟩
    | false => exact .inr ⟨fun b' hb' => by obtain rfl := Option.some.inj hb'; exact hf, by rw [if_neg (by simp)]⟩
theorem putP_fresh (c : Nat → Int) (box : Int) (bs : List Bx) (s : ByteArray) : freshX (putP c box bs s).1 = freshX bs + s.size := by
  rcases putP_cases c box bs s with ⟨bs0, b, rfl, _, e⟩ | ⟨_, e⟩
  · rw [e]; dsimp only; rw [freshX_snoc, freshX_snoc, szB_snoc]; omega
  · rw [e]; dsimp only; rw [freshX_snoc]; simp [szB]
theorem putP_len (c : Nat → Int) (box : Int) (bs : List Bx) (s : ByteArray) : (putP c box bs s).1.length ≤ bs.length + 1 := by
  rcases putP_cases c box bs s with ⟨bs0, b, rfl, _, e⟩ | ⟨_, e⟩ <;> rw [e] <;> simp
theorem putP_lens (c : Nat → Int) (box : Int) (bs : List Bx) (s : ByteArray) {m : Nat} (h : ∀ b ∈ bs, b.2.length ≤ m) : ∀ b ∈ (putP c box bs s).1, b.2.length ≤ m + 1 := by
  rcases putP_cases c box bs s with ⟨bs0, b, rfl, _, e⟩ | ⟨_, e⟩ <;> rw [e] <;> intro b' hb' <;> dsimp only at hb' <;> rcases List.mem_append.1 hb' with h1 | h1
  · have := h b' (List.mem_append_left _ h1); omega
  · obtain rfl := List.mem_singleton.1 h1
    have := h b (by simp)
    simp; omega
  · have := h b' h1; omega
  · obtain rfl := List.mem_singleton.1 h1
    simp
theorem putP_ne (c : Nat → Int) (box : Int) (bs : List Bx) (s : ByteArray) : (putP c box bs s).1 ≠ [] := by
  rcases putP_cases c box bs s with ⟨bs0, b, rfl, _, e⟩ | ⟨_, e⟩ <;> rw [e] <;> simp
theorem put_sat {W : World} {M : List Nat} {R : Hp} {w : World} (box man : Int) (ms : List Mr) (mo : Option Addr) (mc : Nat) (bs : List Nb) (bo : Option Addr) (bc : Nat) (last fresh : Int) (c : Nat → Int) (L : Lb) (left : ByteArray) (cv fv wt : Value) (n : Int)
    (hbl : bs.length ≤ 100000) (hcl : ∀ b ∈ bs, b.2.l.length ≤ 100000) (hl0 : 0 ≤ last) (hl1 : last ≤ 100000000) (hf0 : 0 ≤ fresh) (hf1 : fresh ≤ 100000000) (hla : ∀ b, bs.getLast? = some b → last = (szB b.2.l : Nat)) (g : Nat) (s : ByteArray) (hss : s.size ≤ 1000000)
    (hs : Sat W M (lown g box man ms mo mc bs bo bc last fresh c L left cv fv wt n ++ R) w) :
    Calls Tryz.prog 72 #[.pointer (some ⟨g, 0, none⟩), confA c, .string s] w fun e w' => ∃ (bs' : List Nb) (bo' : Option Addr) (bc' last' : Nat), e = .returned (.agg #[.int .u32 (putP c box (bs.map Nb.bx) s).2.1, .int .i64 (putP c box (bs.map Nb.bx) s).2.2]) ∧ bs'.map Nb.bx = (putP c box (bs.map Nb.bx) s).1 ∧ (∀ b, bs'.getLast? = some b → last' = szB b.2.l) ∧
      Sat W M (lown g box man ms mo mc bs' bo' bc' last' (fresh + (s.size : Nat)) c L left cv fv wt n ++ R) w' := by
  rcases List.eq_nil_or_concat bs with h0 | ⟨bs0, b, h0⟩
  · subst h0
    exact put_nil_sat box man ms mo mc bo bc last fresh c L left cv fv wt n hl0 hl1 hf0 hf1 g s hss hs
  · rw [List.concat_eq_append] at h0
    subst h0
    exact put_snoc_sat box man ms mo mc bs0 b bo bc last fresh c L left cv fv wt n hbl hcl hl0 hl1 hf0 hf1 (hla b (by simp)) g s hss hs
theorem lastX_map {bs : List Nb} : ∀ b, bs.getLast? = some b → ((lastX (bs.map Nb.bx) : Nat) : Int) = (szB b.2.l : Nat) := fun b hb => by
  rcases List.eq_nil_or_concat bs with h0 | ⟨bs0, d, h0⟩
  · subst h0; cases hb
  · rw [List.concat_eq_append] at h0
    subst h0
    rw [List.getLast?_concat] at hb
    obtain rfl := Option.some.inj hb
    rw [List.map_append, List.map_cons, List.map_nil, lastX_snoc]; rfl
/-- put, what is laid said by its boxes alone. -/
theorem putS_sat {W : World} {M : List Nat} {R : Hp} {w : World} (box man : Int) (ms : List Mr) (mo : Option Addr) (mc : Nat) (bs : List Nb) (bo : Option Addr) (bc : Nat) (c : Nat → Int) (L : Lb) (left : ByteArray) (cv fv wt : Value) (n : Int)
    (hbl : bs.length ≤ 100000) (hcl : ∀ b ∈ bs, b.2.l.length ≤ 100000) (hfr : freshX (bs.map Nb.bx) ≤ 10000000) (g : Nat) (s : ByteArray) (hss : s.size ≤ 1000000)
    (hs : Sat W M (lown g box man ms mo mc bs bo bc (lastX (bs.map Nb.bx) : Nat) (freshX (bs.map Nb.bx) : Nat) c L left cv fv wt n ++ R) w) :
    Calls Tryz.prog 72 #[.pointer (some ⟨g, 0, none⟩), confA c, .string s] w fun e w' => ∃ (bs' : List Nb) (bo' : Option Addr) (bc' : Nat), e = .returned (.agg #[.int .u32 (putP c box (bs.map Nb.bx) s).2.1, .int .i64 (putP c box (bs.map Nb.bx) s).2.2]) ∧ bs'.map Nb.bx = (putP c box (bs.map Nb.bx) s).1 ∧
      Sat W M (lown g box man ms mo mc bs' bo' bc' (lastX (bs'.map Nb.bx) : Nat) (freshX (bs'.map Nb.bx) : Nat) c L left cv fv wt n ++ R) w' := by
  have h1 := lastX_le (bs.map Nb.bx)
  refine (put_sat box man ms mo mc bs bo bc _ _ c L left cv fv wt n hbl hcl (by omega) (by omega) (by omega) (by omega) lastX_map g s hss hs).mono ?_
  rintro e w' ⟨bs', bo', bc', last', he, hb, hl, hs'⟩
  refine ⟨bs', bo', bc', he, hb, ?_⟩
  have h2 : freshX (bs'.map Nb.bx) = freshX (bs.map Nb.bx) + s.size := by rw [hb, putP_fresh]
  have h3 : lastX (bs'.map Nb.bx) = last' := by
    rcases List.eq_nil_or_concat bs' with h0 | ⟨bs0, d, h0⟩
    · subst h0
      exact absurd hb.symm (putP_ne _ _ _ _)
    · rw [List.concat_eq_append] at h0
      subst h0
      rw [hl d (by simp), List.map_append, List.map_cons, List.map_nil, lastX_snoc]; rfl
  rw [h2, h3]
  exact hs'
theorem atL_mem (p : Nat → Bool) (l : List Nat) : atL p l = -1 ∨ ∃ i ∈ l, atL p l = (i : Nat) := by
  unfold atL
  cases h : l.find? p with
  | none => exact .inl rfl
  | some i => exact .inr ⟨i, List.mem_of_find?_eq_some h, rfl⟩
/-- What is found lies within what is known, or ahead. -/
theorem segG_rng (cs : List ByteArray) (kn : List En) (tl : Nat → ByteArray × Bool) : ∀ (n : Nat), n ≤ cs.length → ∀ (j : Nat) (f : Int × Int), (segG cs kn tl n).1[j]? = some f → f.1 < kn.length ∧ f.2 < j
  | 0, _, j, f, h => by cases h
  | n + 1, hn, j, f, h => by
    have ih := segG_rng cs kn tl n (by omega) j f
    have hl := segG_len cs kn tl n (by omega)
    unfold segG at h
    split at h
    · rename_i c0 hc
      unfold stepG at h
      dsimp only at h
      rcases Nat.lt_or_ge j n with h1 | h1
      · rw [List.getElem?_append_left (by omega)] at h
        exact ih h
      · rw [List.getElem?_append_right (by omega), hl] at h
        rcases Nat.eq_zero_or_pos (j - n) with h2 | h2
        · rw [h2] at h
          simp only [List.getElem?_cons_zero, Option.some.injEq] at h
          obtain rfl : j = n := by omega
          subst h
          refine ⟨?_, ?_⟩
          · rcases atL_mem (pK kn tl c0) (idxs (psK kn) (bFq c0)) with e | ⟨i, hi, e⟩
            · rw [e]; omega
            · rw [e]
              obtain ⟨x, hx, _⟩ := psK_mem (idxs_mem.1 hi)
              have := (List.getElem?_eq_some_iff.1 hx).1
              omega
          · dsimp only
            split
            · rcases atL_mem (pO cs c0) (idxs (segG cs kn tl j).2 (bFq c0)) with e | ⟨i, hi, e⟩
              · rw [e]; omega
              · rw [e]
                have := segG_pos cs kn tl j i _ (idxs_mem.1 hi)
                omega
            · omega
        · rw [List.getElem?_eq_none (by simp; omega)] at h
          cases h
    · exact ih h
theorem ao_same0 {ao ao' : Option Addr} {cap k : Nat} (h1 : 0 < cap → ao' = ao.map (·.add (0 * k))) (h2 : 0 = cap → ao' = ao) : ao' = ao := by
  rcases Nat.eq_zero_or_pos cap with h | h
  · exact h2 h.symm
  · rw [h1 h]
    cases ao with
    | none => rfl
    | some a => simp [Addr.add]
set_option maxRecDepth 20000 in
theorem Known_any (L : Lb) (hL : L.ok) (hk : List Fp) (ho : Option Addr) (hc : Nat) (w : World) (hr : RdAll w L.rds) (hh : Rd w ho (fpE.fl hk)) :
    Calls Tryz.prog L.knF ([Value.slice ho hk.length hc] ++ L.cap.toList).toArray w fun r w' => ∃ ao cap, r = .returned (.slice ao (knR (knownG L.G hk)).length cap) ∧ NewRow w w' ao (knR (knownG L.G hk)).length cap 71 35 (enE.fl (knR (knownG L.G hk))) := by
  cases L with
  | no =>
    refine (New1_any ho hk.length hc w).mono ?_
    rintro r w' ⟨rfl, hb⟩
    exact ⟨none, 0, rfl, NewRow.nil _ _ hb⟩
  | lib gl go gc gs => exact told1_any gl go gc gs hL.1 hL.2 hk ho hc w hr hh
theorem sxCallee_kn {W : World} {M : List Nat} {H : Hp} (L : Lb) {vs : List Value} {A : Value → Hp → Prop} (h : SxCall SX W M L.knF (vs ++ L.cap.toList).toArray H A) : sxCallee SX W M L.kn vs H A := by
  cases L with
  | no =>
    have e : (vs ++ Lb.no.cap.toList).toArray = vs.toArray := by show (vs ++ []).toArray = _; rw [List.append_nil]
    rw [e] at h
    exact h
  | lib gl go gc gs => exact h
theorem hkS_len (l : List Fq) (n : Int) : (hkS l n).length ≤ l.length := Nat.le_trans (setF7_len _) (List.length_filter_le _ _)
/-- The entries of the manifest ahead, where they lie. -/
theorem ahead_form (ms : List Mr) : ∃ d : Drow En, (ms.getLast?.map fun m => m.2.v).getD nilS = .slice d.ao d.l.length d.cap ∧ d.l = aheadP (ms.map Mr.mn) ∧ ((d.ao = none ∧ d.l = []) ∨ (d.ao, enE.fl d.l) ∈ maL ms) ∧ ∀ n, (∀ m ∈ ms, m.2.l.length ≤ n) → d.l.length ≤ n := by
  rcases List.eq_nil_or_concat ms with h0 | ⟨ms', m, h0⟩
  · subst h0
    exact ⟨⟨none, 0, []⟩, rfl, rfl, .inl ⟨rfl, rfl⟩, fun _ _ => Nat.zero_le _⟩
  · rw [List.concat_eq_append] at h0
    subst h0
    refine ⟨m.2, ?_, ?_, .inr (maL_mem (by simp)), fun n h => h m (by simp)⟩
    · rw [List.getLast?_concat]; rfl
    · unfold aheadP
      rw [List.map_append, List.map_cons, List.map_nil, List.getLast?_concat]; rfl
theorem Rd_nil (w : World) (ao : Option Addr) : Rd w ao [] := ⟨Nat.zero_le _, fun h => absurd h (Nat.not_lt_zero _)⟩
/-- s[a:b] needs nobody: it is taken first, wherever it stands. -/
theorem any_slice {S : Sx} {W : World} {M : List Nat} {H : Hp} {N : Nat} {ops : List Oper} {Hs : Hp} {sp : List Nat} {D : List (Nat × Bool)} {listed : List Bool} {F : Fr} {K : Fr → Hp → Prop} {o : Oper} {t : Nat} {x : Operand} {lo hi0 : Option Operand} {v : Value} (i : Nat) (hi : nthO ops i = some o) (hop : o.op = .slice t x lo hi0 none) (hns : noSel ops = true) (hf : freeB ops listed i = true) (hr : readyB ops listed i = true) (hni : memN i sp = false)
    (hst : Nat.beq (status N ops o D F) 2 = true) (hv : ev F x = some v) (h : sxSlice S t v lo hi0 F H fun v _ => SxAny S W M N ops Hs sp D (setB listed i) (upd o.dst v F) H K) : SxAny S W M N ops Hs sp D listed F H K := by
  replace hst := Nat.eq_of_beq_eq_true hst
  obtain ⟨r, hA, hrun⟩ := slice_get (N := N) h
  refine any_take hi hns hf hr hni (fun a ha => .inl ⟨(wanted_of ha).1 hst, fun w => ?_⟩) (status_dst hst) hA
  simp [execOp, hop, ev_eval ha hv, hrun a ha w]
end Go.Proofs.YtlmefcepdadfjaaGreat
