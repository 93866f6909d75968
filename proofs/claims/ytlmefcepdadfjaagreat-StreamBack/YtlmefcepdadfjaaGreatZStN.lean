/- Layer 23: a new chunk is put into the last box, or into a new one. -/
import Derived.Test.YtlmefcepdadfjaaGreatZStM
namespace Go.Proofs.YtlmefcepdadfjaaGreat
open Go.RowKit

theorem SxRng.u32e {x y : Int} {A : Int → Prop} (h : y = x % 4294967296) (hA : A y) : SxRng .u32 x A := .u32w (h ▸ hA)
set_option maxHeartbeats 8000000 in
theorem put_snoc_sat {W : World} {M : List Nat} {R : Hp} {w : World} (box man : Int) (ms : List Mr) (mo : Option Addr) (mc : Nat) (bs0 : List Nb) (b : Nb) (bo : Option Addr) (bc : Nat) (last fresh : Int) (c : Nat → Int) (L : Lb) (left : ByteArray) (cv fv wt : Value) (n : Int)
    (hbl : (bs0 ++ [b]).length ≤ 100000) (hcl : ∀ b' ∈ bs0 ++ [b], b'.2.l.length ≤ 100000) (hl0 : 0 ≤ last) (hl1 : last ≤ 100000000) (hf0 : 0 ≤ fresh) (hf1 : fresh ≤ 100000000) (hla : last = (szB b.2.l : Nat)) (g : Nat) (s : ByteArray) (hss : s.size ≤ 1000000)
    (hs : Sat W M (lown g box man ms mo mc (bs0 ++ [b]) bo bc last fresh c L left cv fv wt n ++ R) w) :
    Calls Tryz.prog 72 #[.pointer (some ⟨g, 0, none⟩), confA c, .string s] w fun e w' => ∃ bs' bo' bc' last', e = .returned (.agg #[.int .u32 (putP c box ((bs0 ++ [b]).map Nb.bx) s).2.1, .int .i64 (putP c box ((bs0 ++ [b]).map Nb.bx) s).2.2]) ∧ bs'.map Nb.bx = (putP c box ((bs0 ++ [b]).map Nb.bx) s).1 ∧ (∀ b, bs'.getLast? = some b → last' = (szB b.2.l : Nat)) ∧
      Sat W M (lown g box man ms mo mc bs' bo' bc' last' (fresh + (s.size : Nat)) c L left cv fv wt n ++ R) w' := by
  obtain ⟨k, hk⟩ : ∃ k, k = (bs0 ++ [b]).length := ⟨_, rfl⟩
  have hk1 : k = bs0.length + 1 := by rw [hk]; simp
  obtain ⟨gb, rfl⟩ := (Row.base (hs.row 2 rfl)).1 (by show 0 < (bs0 ++ [b]).length; omega)
  have hbl' := hcl b (by simp)
  have hat : ((bs0 ++ [b]).map Nb.mb)[bs0.length]? = some b.mb := Nb.mb_at (by simp)
  have hput := putP_snoc c box bs0 b s
  have e11 : c (nat_lit 11) = c 11 := rfl
  have e12 : c (nat_lit 12) = c 12 := rfl
  have hs' : Sat W M (.blk g 101 (smC box man (.slice mo ms.length mc) (.slice (some ⟨gb, 0, none⟩) k bc) last fresh c L.kn L.bt left cv fv wt n) :: .row mo ms.length mc 67 2 (mbE.fl (ms.map Mr.mb)) :: .row (some ⟨gb, 0, none⟩) k bc 60 2 (mbE.fl ((bs0 ++ [b]).map Nb.mb)) :: topRow (bs0 ++ [b]) :: .gen (rdsG (bxL (bs0 ++ [b]).dropLast)) :: R) w := by rw [hk]; exact hs
  rw [← hk] at hput
  rw [hput]
  have harm : (fitsB c b.bx s = true ∧ (b.2.l.length : Int) < c 11 ∧ last + (s.size : Nat) ≤ c 12) ∨ (fitsB c b.bx s = false ∧ c 11 ≤ (b.2.l.length : Nat)) ∨ (fitsB c b.bx s = false ∧ (b.2.l.length : Int) < c 11 ∧ c 12 < last + (s.size : Nat)) := by
    by_cases h1 : (b.2.l.length : Int) < c 11
    · by_cases h2 : last + (s.size : Nat) ≤ c 12
      · exact .inl ⟨by unfold fitsB; rw [decide_eq_true_iff]; exact ⟨h1, by rw [hla] at h2; exact h2⟩, h1, h2⟩
      · refine .inr (.inr ⟨?_, h1, by omega⟩)
        unfold fitsB; rw [decide_eq_false_iff_not]; rintro ⟨_, h3⟩
        rw [hla] at h2; exact h2 h3
    · refine .inr (.inl ⟨?_, by omega⟩)
      unfold fitsB; rw [decide_eq_false_iff_not]; rintro ⟨h3, _⟩; exact h1 h3
  clear hs
  have hkl : bs0.length * 2 < (mbE.fl ((bs0 ++ [b]).map Nb.mb)).length := by rw [mbE_len, List.length_map, ← hk]; omega
  rcases harm with ⟨hfit, ha1, ha2⟩ | ⟨hfit, ha1⟩ | ⟨hfit, ha1, ha2⟩
  all_goals
    rw [hfit]
    refine sx_fn (S := SX) (N := 111) Tryz.func72 rfl rfl rfl hs' ?_
    ((try refine sU ?_);repeat(refine sN fun _=>?_;try refine sU ?_))
    refine SxCode.drawAll rfl [] ?_
    ((try refine sU ?_);repeat(refine sN fun _=>?_;try refine sU ?_))
    refine SxIA.row 4 _ _ _ rfl bs0.length (by omega) (by omega) fun g' hg' => ?_
    obtain rfl : gb = g' := by simpa using hg'
    ((try refine sU ?_);repeat(refine sN fun _=>?_;try refine sU ?_))
    refine SxLd.row 4 rfl rfl (j := bs0.length * 2 + 1) (by omega) (v := .slice b.2.ao b.2.l.length b.2.cap) (mbE.fl_cell hat rfl) ?_
    ((try refine sU ?_);repeat(refine sN fun _=>?_;try refine sU ?_))
  · refine SxIA.row 4 _ _ _ rfl bs0.length (by omega) (by omega) fun g' hg' => ?_
    obtain rfl : gb = g' := by simpa using hg'
    ((try refine sU ?_);repeat(refine sN fun _=>?_;try refine sU ?_))
    refine SxLd.row 4 rfl rfl (j := bs0.length * 2 + 1) (by omega) (v := .slice b.2.ao b.2.l.length b.2.cap) (mbE.fl_cell hat rfl) ?_
    ((try refine sU ?_);repeat(refine sN fun _=>?_;try refine sU ?_))
    refine SxApp.mk 6 (cs := strE.fl b.2.l) (by rw [topRow_snoc]; rfl) 0 (.inr (.inr (.inr ⟨by decide, _, rfl⟩))) (vs := [.string s]) (m := 1) rfl rfl (by unfold maxLen; omega) (by omega) (cs' := strE.fl (b.2.l ++ [s])) (by rw [strE.fl_append]; rfl) fun ao cap => ?_
    ((try refine sU ?_);repeat(refine sN fun _=>?_;try refine sU ?_))
    have hset : splice (bs0.length * 2 + 1) [.slice ao (b.2.l.length + 1) cap] (mbE.fl ((bs0 ++ [b]).map Nb.mb)) = mbE.fl ((bs0 ++ [((b.1, ⟨ao, cap, b.2.l ++ [s]⟩) : Nb)]).map Nb.mb) := by
      rw [mb_set1 hat, List.map_append, List.set_append_right _ _ (by rw [List.length_map]; exact Nat.le_refl _), List.length_map, Nat.sub_self, List.map_append]
      simp [Nb.mb]
    have hat2 : ((bs0 ++ [((b.1, ⟨ao, cap, b.2.l ++ [s]⟩) : Nb)]).map Nb.mb)[bs0.length]? = some (Nb.mb (b.1, ⟨ao, cap, b.2.l ++ [s]⟩)) := Nb.mb_at (by simp)
    refine SxSt.row 5 rfl rfl (j := bs0.length * 2 + 1) (by omega) (by rw [mbE_len, List.length_map, ← hk]; show bs0.length * 2 + 1 + 1 ≤ _; omega) rfl hset ?_
    ((try refine sU ?_);repeat(refine sN fun _=>?_;try refine sU ?_))
    refine SxCode.draw rfl [.row (some ⟨gb, 0, none⟩) k bc 60 2 (mbE.fl ((bs0 ++ [((b.1, ⟨ao, cap, b.2.l ++ [s]⟩) : Nb)]).map Nb.mb))] [11] [5] rfl rfl ?_
    ((try refine sU ?_);repeat(refine sN fun _=>?_;try refine sU ?_))
    refine SxLd.row 0 rfl rfl (j := bs0.length * 2) (by omega) (v := .int .u32 b.1) (mbE.fl_cell (j := 0) hat2 rfl) ?_
    ((try refine sU ?_);repeat(refine sN fun _=>?_;try refine sU ?_))
    refine SxLd.row 0 rfl rfl (j := bs0.length * 2 + 1) (by omega) (v := .slice ao (b.2.l.length + 1) cap) (by have := mbE.fl_cell (j := 1) (v := .slice ao (b.2.l ++ [s]).length cap) hat2 rfl; rw [List.length_append] at this; exact this) ?_
    ((try refine sU ?_);repeat(refine sN fun _=>?_;try refine sU ?_))
    have hsz : last + (s.size : Nat) = ((szB (b.2.l ++ [s]) : Nat) : Int) := by rw [szB_snoc]; omega
    refine SxDone.mk fun w' hs => ⟨bs0 ++ [(b.1, ⟨ao, cap, b.2.l ++ [s]⟩)], some ⟨gb, 0, none⟩, bc, szB (b.2.l ++ [s]), ?_, ?_, fun b' hb' => ?_, ?_⟩
    · rw [if_pos rfl]
      show Ending.returned (.agg #[.int .u32 b.1, .int .i64 (((b.2.l.length + 1 : Nat) : Int) - 1)]) = Ending.returned (.agg #[.int .u32 b.1, .int .i64 ((b.2.l.length : Nat) : Int)])
      rw [show (((b.2.l.length + 1 : Nat) : Int) - 1) = ((b.2.l.length : Nat) : Int) by omega]
    · rw [if_pos rfl, List.map_append]; rfl
    · rw [List.getLast?_concat] at hb'
      obtain rfl := Option.some.inj hb'
      rfl
    · have h1 := hs.pick (ks := [3, 4, 5, 6, 7] ++ tailIx 8 R.length) (pickH_append (A := [.blk g 101 (smC box man (.slice mo ms.length mc) (.slice (some ⟨gb, 0, none⟩) k bc) (last + (s.size : Nat)) (fresh + (s.size : Nat)) c L.kn L.bt left cv fv wt n), _, _, _, _]) rfl (pickH_tail (L := R) 8 rfl rfl)) (nodup_tail 8 _ rfl rfl)
      have hk2 : (bs0 ++ [((b.1, ⟨ao, cap, b.2.l ++ [s]⟩) : Nb)]).length = k := by rw [hk1]; simp
      rw [List.dropLast_concat, hsz] at h1
      unfold lown
      rw [hk2, topRow_snoc, List.dropLast_concat]
      dsimp only
      rw [List.length_append]
      exact h1
  all_goals
    obtain ⟨id, hid⟩ : ∃ id, id = (box + ((k : Nat) : Int)) % 4294967296 := ⟨_, rfl⟩
    rw [← hid]
    have hcl6 : ∀ b' ∈ bs0 ++ [b], b'.2.l.length ≤ 1000000 := fun b' hb' => by have := hcl b' hb'; omega
    have hatn : ((bs0 ++ [b]).map Nb.mb ++ [((id, none, 0, 0) : Mb)])[k]? = some (id, none, 0, 0) := by
      rw [hk, List.getElem?_append_right (by rw [List.length_map]; exact Nat.le_refl _), List.length_map, Nat.sub_self]; rfl
    refine SxCode.wk (Weak.boxes hcl6 5 6 (by decide) rfl rfl) ?_
    refine SxCode.draw rfl [.blk g 101 (smC box man (.slice mo ms.length mc) (.slice (some ⟨gb, 0, none⟩) k bc) last fresh c L.kn L.bt left cv fv wt n)] [17] [2] rfl rfl ?_
    ((try refine sU ?_);repeat(refine sN fun _=>?_;try refine sU ?_))
    refine SxRng.u32 (by omega) (by omega) ?_
    ((try refine sU ?_);repeat(refine sN fun _=>?_;try refine sU ?_))
    refine SxRng.u32e hid ?_
    ((try refine sU ?_);repeat(refine sN fun _=>?_;try refine sU ?_))
    refine SxStable.mk [3] rfl rfl ?_
    ((try refine sU ?_);repeat(refine sN fun _=>?_;try refine sU ?_))
    refine SxApp.mk 5 rfl 0 (.inr (.inr (.inr ⟨by decide, _, rfl⟩))) (vs := mbC (id, none, 0, 0)) (m := 1) rfl rfl (by unfold maxLen; omega) (by omega) (cs' := mbE.fl ((bs0 ++ [b]).map Nb.mb ++ [((id, none, 0, 0) : Mb)])) (by rw [mbE.fl_append]; rfl) fun bo1 bc1 => ?_
    ((try refine sU ?_);repeat(refine sN fun _=>?_;try refine sU ?_))
    refine SxStable.mk [3] rfl rfl ?_
    ((try refine sU ?_);repeat(refine sN fun _=>?_;try refine sU ?_))
    refine SxIA.row 5 _ _ _ rfl k (by omega) (by omega) fun gb1 hgb => ?_
    subst hgb
    ((try refine sU ?_);repeat(refine sN fun _=>?_;try refine sU ?_))
    refine SxLd.row 5 rfl rfl (j := k * 2 + 1) (by omega) (v := .slice none 0 0) (mbE.fl_cell hatn rfl) ?_
    ((try refine sU ?_);repeat(refine sN fun _=>?_;try refine sU ?_))
    refine SxApp.mk 7 rfl 0 (.inr (.inr (.inr ⟨by decide, _, rfl⟩))) (vs := [.string s]) (m := 1) rfl rfl (by unfold maxLen; omega) (by omega) (cs' := strE.fl [s]) rfl fun ao cap => ?_
    ((try refine sU ?_);repeat(refine sN fun _=>?_;try refine sU ?_))
    have hset : splice (k * 2 + 1) [.slice ao 1 cap] (mbE.fl ((bs0 ++ [b]).map Nb.mb ++ [((id, none, 0, 0) : Mb)])) = mbE.fl (((bs0 ++ [b]) ++ [((id, ⟨ao, cap, [s]⟩) : Nb)]).map Nb.mb) := by
      rw [mb_set1 hatn, List.set_append_right _ _ (by rw [List.length_map, hk]; exact Nat.le_refl _), List.length_map, ← hk, Nat.sub_self, List.map_append (l₁ := bs0 ++ [b])]
      simp [Nb.mb]
    have hat2 : (((bs0 ++ [b]) ++ [((id, ⟨ao, cap, [s]⟩) : Nb)]).map Nb.mb)[k]? = some (Nb.mb (id, ⟨ao, cap, [s]⟩)) := Nb.mb_at (by rw [hk]; simp)
    refine SxSt.row 6 rfl rfl (j := k * 2 + 1) (by omega) (by rw [mbE_len, List.length_append, List.length_map, ← hk]; show k * 2 + 1 + 1 ≤ (k + 1) * 2; omega) rfl hset ?_
    ((try refine sU ?_);repeat(refine sN fun _=>?_;try refine sU ?_))
    refine SxCode.draw rfl [.row (some ⟨gb1, 0, none⟩) (k + 1) bc1 60 2 (mbE.fl (((bs0 ++ [b]) ++ [((id, ⟨ao, cap, [s]⟩) : Nb)]).map Nb.mb))] [11] [6] rfl rfl ?_
    ((try refine sU ?_);repeat(refine sN fun _=>?_;try refine sU ?_))
    refine SxLd.row 0 rfl rfl (j := k * 2) (by omega) (v := .int .u32 id) (mbE.fl_cell (j := 0) hat2 rfl) ?_
    ((try refine sU ?_);repeat(refine sN fun _=>?_;try refine sU ?_))
    refine SxLd.row 0 rfl rfl (j := k * 2 + 1) (by omega) (v := .slice ao 1 cap) (mbE.fl_cell (j := 1) hat2 rfl) ?_
    ((try refine sU ?_);repeat(refine sN fun _=>?_;try refine sU ?_))
    refine SxDone.mk fun w' hs => ⟨(bs0 ++ [b]) ++ [(id, ⟨ao, cap, [s]⟩)], some ⟨gb1, 0, none⟩, bc1, szB [s], ?_, ?_, fun b' hb' => ?_, ?_⟩
    · rw [if_neg (by simp)]; rfl
    · rw [if_neg (by simp), List.map_append (l₁ := bs0 ++ [b])]; rfl
    · rw [List.getLast?_concat] at hb'
      obtain rfl := Option.some.inj hb'
      rfl
    · have hsz : (0 : Int) + (s.size : Nat) = ((szB [s] : Nat) : Int) := by simp [szB]
      have h1 := hs.pick (ks := [4, 5, 6, 7, 8] ++ tailIx 9 R.length) (pickH_append (A := [.blk g 101 (smC box man (.slice mo ms.length mc) (.slice (some ⟨gb1, 0, none⟩) (k + 1) bc1) (0 + (s.size : Nat)) (fresh + (s.size : Nat)) c L.kn L.bt left cv fv wt n), _, _, _, _]) rfl (pickH_tail (L := R) 9 rfl rfl)) (nodup_tail 9 _ rfl rfl)
      have hk2 : ((bs0 ++ [b]) ++ [((id, ⟨ao, cap, [s]⟩) : Nb)]).length = k + 1 := by rw [List.length_append, ← hk]; rfl
      rw [hsz] at h1
      unfold lown
      rw [hk2, topRow_snoc, List.dropLast_concat]
      exact h1
end Go.Proofs.YtlmefcepdadfjaaGreat
