/- Texts of this claim, one behind the other. -/
import Derived.Test.YtlmefcepdadfjaaGreatZSlNb
import Derived.Test.YtlmefcepdadfjaaGreatZSlFp
/- Layer 23: a stream in memory; ahead; a stream of its own (copied). -/
namespace Go.Proofs.YtlmefcepdadfjaaGreat
open Go.RowKit

abbrev Mr := Int × Drow En
def Mr.mb (m : Mr) : Mb := (m.1, m.2.ao, m.2.l.length, m.2.cap)
def Mr.mn (m : Mr) : Mn := (m.1, m.2.l)
def maL (ms : List Mr) : RdL := ms.map fun m => (m.2.ao, enE.fl m.2.l)
theorem maL_mem {ms : List Mr} {m : Mr} (h : m ∈ ms) : (m.2.ao, enE.fl m.2.l) ∈ maL ms := List.mem_map.2 ⟨m, h, rfl⟩
theorem Mr.mb_at {ms : List Mr} {k : Nat} {x : Mr} (h : ms[k]? = some x) : (ms.map Mr.mb)[k]? = some x.mb := by rw [List.getElem?_map, h]; rfl
structure Sr where
  box : Int
  man : Int
  ms : List Mr
  mo : Option Addr
  mc : Nat
  bs : List Nb
  bo : Option Addr
  bc : Nat
  last : Int
  fresh : Int
  c : Nat → Int
  L : Lb
  left : ByteArray
  ch : List ByteArray
  co : Option Addr
  cc : Nat
  fo : Option Addr
  fc : Nat
  wa : Nat
  wb : Nat
  n : Int
def Sr.cells (σ : Sr) : List Value := smC σ.box σ.man (.slice σ.mo σ.ms.length σ.mc) (.slice σ.bo σ.bs.length σ.bc) σ.last σ.fresh σ.c σ.L.kn σ.L.bt σ.left (.slice σ.co σ.ch.length σ.cc) (.slice σ.fo σ.ch.length σ.fc) (.complex .f64 σ.wa σ.wb) σ.n
def Sr.rds (σ : Sr) : RdL := (σ.mo, mbE.fl (σ.ms.map Mr.mb)) :: (σ.bo, mbE.fl (σ.bs.map Nb.mb)) :: (σ.co, strE.fl σ.ch) :: (σ.fo, fqE.fl (σ.ch.map bFq)) :: (maL σ.ms ++ bxL σ.bs)
theorem Sr.rds_ms (σ : Sr) : (σ.mo, mbE.fl (σ.ms.map Mr.mb)) ∈ σ.rds := by simp [Sr.rds]
theorem Sr.rds_bs (σ : Sr) : (σ.bo, mbE.fl (σ.bs.map Nb.mb)) ∈ σ.rds := by simp [Sr.rds]
theorem Sr.rds_ch (σ : Sr) : (σ.co, strE.fl σ.ch) ∈ σ.rds := by simp [Sr.rds]
theorem Sr.rds_fp (σ : Sr) : (σ.fo, fqE.fl (σ.ch.map bFq)) ∈ σ.rds := by simp [Sr.rds]
theorem Sr.rds_m {σ : Sr} {m : Mr} (h : m ∈ σ.ms) : (m.2.ao, enE.fl m.2.l) ∈ σ.rds := by
  have := maL_mem h
  simp [Sr.rds, this]
theorem Sr.rds_b {σ : Sr} {b : Nb} (h : b ∈ σ.bs) : (b.2.ao, strE.fl b.2.l) ∈ σ.rds := by
  have := bxL_mem h
  simp [Sr.rds, this]
theorem Weak.merge {H : Hp} {L L' : RdL} {a : Ent} (p q : Nat) (_hpq : p ≠ q) (hp : H[p]? = some a) (hq : H[q]? = some (.gen (rdsG L))) (e k : Nat) (hh : ∀ W M w, Sat W M H w → RdAll w L') (hu : ∀ g, (rdsG L').uses g → (rdsG L).uses g ∨ a.uses g) : Weak H ((H.set p (.row none 0 0 e k [])).set q (.gen (rdsG L'))) := fun W M w hs => by
  have hpl := (List.getElem?_eq_some_iff.1 hp).1
  have hql := (List.getElem?_eq_some_iff.1 hq).1
  have get : ∀ i x, ((H.set p (.row none 0 0 e k [])).set q (.gen (rdsG L')))[i]? = some x → (i = q ∧ x = .gen (rdsG L')) ∨ (i = p ∧ x = .row none 0 0 e k []) ∨ (i ≠ p ∧ i ≠ q ∧ H[i]? = some x) := by
    intro i x hi
    rw [List.getElem?_set] at hi
    by_cases h : q = i
    · subst h
      rw [if_pos rfl, if_pos (by simpa using hql)] at hi
      exact .inl ⟨rfl, (Option.some.inj hi).symm⟩
    · rw [if_neg h, List.getElem?_set] at hi
      by_cases h2 : p = i
      · subst h2
        rw [if_pos rfl, if_pos hpl] at hi
        exact .inr (.inl ⟨rfl, (Option.some.inj hi).symm⟩)
      · rw [if_neg h2] at hi
        exact .inr (.inr ⟨fun e => h2 e.symm, fun e => h e.symm, hi⟩)
  refine ⟨hs.touch, fun i x hi => ?_, fun i x hi g hg => ?_, fun i j x y hij hi hj g hg hy => ?_⟩
  · rcases get i x hi with ⟨_, rfl⟩ | ⟨_, rfl⟩ | ⟨_, _, h⟩
    · exact hh W M w hs
    · exact World.ownsRow_nil w 0 e k
    · exact hs.holds i x h
  · rcases get i x hi with ⟨_, rfl⟩ | ⟨_, rfl⟩ | ⟨_, _, h⟩
    · cases hg
    · cases hg
    · exact hs.own i x h g hg
  · rcases get i x hi with ⟨_, rfl⟩ | ⟨_, rfl⟩ | ⟨hip, hiq, h⟩
    · cases hg
    · cases hg
    · rcases get j y hj with ⟨_, rfl⟩ | ⟨_, rfl⟩ | ⟨_, _, h2⟩
      · rcases hu g hy with h3 | h3
        · exact hs.sep i q x _ hiq h hq g hg h3
        · exact hs.sep i p x _ hip h hp g hg h3
      · simp [Ent.uses] at hy
      · exact hs.sep i j x y hij h h2 g hg hy
def topRow (bs : List Nb) : Ent := match bs.getLast? with
  | some b => .row b.2.ao b.2.l.length b.2.cap 9 1 (strE.fl b.2.l)
  | none => .row none 0 0 9 1 []
theorem topRow_snoc (bs : List Nb) (b : Nb) : topRow (bs ++ [b]) = .row b.2.ao b.2.l.length b.2.cap 9 1 (strE.fl b.2.l) := by unfold topRow; rw [List.getLast?_concat]
theorem Sat.boxes {W : World} {M : List Nat} {H : Hp} {w : World} (hs : Sat W M H w) {bs : List Nb} (hm : ∀ b ∈ bs, b.2.l.length ≤ 1000000) (p q : Nat) (hp : H[p]? = some (topRow bs)) (hq : H[q]? = some (.gen (rdsG (bxL bs.dropLast)))) : RdAll w (bxL bs) := by
  rcases List.eq_nil_or_concat bs with h0 | ⟨bs', b, h0⟩
  · subst h0; exact RdAll.nil w
  · rw [List.concat_eq_append] at h0
    subst h0
    rw [topRow_snoc] at hp
    have h1 := hs.rowRd p hp (by rw [rowSr_len]; have := hm b (by simp); unfold maxLen; omega)
    have h2 := hs.rds1 q hq
    rw [List.dropLast_concat] at h2
    unfold bxL at h2 ⊢
    rw [List.map_append]
    exact h2.app ((RdAll.nil w).cons h1)
theorem Weak.boxes {H : Hp} {bs : List Nb} (hm : ∀ b ∈ bs, b.2.l.length ≤ 1000000) (p q : Nat) (hpq : p ≠ q) (hp : H[p]? = some (topRow bs)) (hq : H[q]? = some (.gen (rdsG (bxL bs.dropLast)))) : Weak H ((H.set p (.row none 0 0 9 1 [])).set q (.gen (rdsG (bxL bs)))) := by
  refine Weak.merge p q hpq hp hq _ _ (fun W M w hs => hs.boxes hm p q hp hq) fun g hg => ?_
  obtain ⟨x, hx, hu⟩ := hg
  unfold bxL at hx
  obtain ⟨b, hb, rfl⟩ := List.mem_map.1 hx
  rcases List.eq_nil_or_concat bs with h0 | ⟨bs', d, h0⟩
  · subst h0; cases hb
  · rw [List.concat_eq_append] at h0
    subst h0
    rw [topRow_snoc, List.dropLast_concat]
    rcases List.mem_append.1 hb with h1 | h1
    · exact .inl ⟨_, List.mem_map.2 ⟨b, h1, rfl⟩, hu⟩
    · obtain rfl := List.mem_singleton.1 h1
      exact .inr hu.2
set_option maxHeartbeats 4000000 in
theorem ahead_any (ms : List Mr) (hml : ms.length ≤ 1000000) (g : Nat) (mo : Option Addr) (mc : Nat) (bx mn : Value) (rest : List Value) (w : World) (hr : Rd w (some ⟨g, 0, none⟩) (bx :: mn :: .slice mo ms.length mc :: rest)) (hm : Rd w mo (mbE.fl (ms.map Mr.mb))) :
    Calls Tryz.prog 69 #[.pointer (some ⟨g, 0, none⟩)] w fun r w' => r = .returned ((ms.getLast?.map fun m => m.2.v).getD nilS) ∧ Below w.heap.size w w' := by
  refine sx_fn (S := SX) (M := []) (N := 20) (H0 := [.rd (some ⟨g, 0, none⟩) (bx :: mn :: .slice mo ms.length mc :: rest), .rd mo (mbE.fl (ms.map Mr.mb))]) Tryz.func69 rfl rfl rfl (Sat.twoRd _ hr hm) ?_
  rcases List.eq_nil_or_concat ms with h0 | ⟨ms', m, h0⟩
  · subst h0
    ((try refine sU ?_);repeat(refine sN fun _=>?_;try refine sU ?_))
    refine SxLd.rd 0 rfl rfl (j := 2) (v := .slice mo 0 mc) rfl rfl ?_
    ((try refine sU ?_);repeat(refine sN fun _=>?_;try refine sU ?_))
    exact SxDone.mk fun w' hs => ⟨rfl, hs.touch.below⟩
  · rw [List.concat_eq_append] at h0
    subst h0
    have hl : (ms' ++ [m]).length = ms'.length + 1 := by simp
    have hat : ((ms' ++ [m]).map Mr.mb)[ms'.length]? = some m.mb := Mr.mb_at (by simp)
    have hlt : ms'.length * 2 < (mbE.fl ((ms' ++ [m]).map Mr.mb)).length := by rw [mbE_len, List.length_map, hl]; omega
    have hml' : ms'.length + 1 ≤ 1000000 := by omega
    rw [hl]
    ((try refine sU ?_);repeat(refine sN fun _=>?_;try refine sU ?_))
    refine SxLd.rd 0 rfl rfl (j := 2) (v := .slice mo (ms'.length + 1) mc) rfl rfl ?_
    ((try refine sU ?_);repeat(refine sN fun _=>?_;try refine sU ?_))
    refine SxLd.rd 0 rfl rfl (j := 2) (v := .slice mo (ms'.length + 1) mc) rfl rfl ?_
    ((try refine sU ?_);repeat(refine sN fun _=>?_;try refine sU ?_))
    refine SxIA.rd 1 _ rfl ms'.length (by first | omega | (dsimp only; omega)) (by omega) hlt fun g1 off ha => ?_
    ((try refine sU ?_);repeat(refine sN fun _=>?_;try refine sU ?_))
    refine SxLd.rd 1 rfl ha (by omega) (j := ms'.length * 2 + 1) (v := m.2.v) (mbE.fl_cell hat rfl) ?_
    ((try refine sU ?_);repeat(refine sN fun _=>?_;try refine sU ?_))
    refine SxDone.mk fun w' hs => ⟨?_, hs.touch.below⟩
    rw [List.getLast?_concat]; rfl
end Go.Proofs.YtlmefcepdadfjaaGreat
/- Layer 23: what was laid, as one's own. -/
namespace Go.Proofs.YtlmefcepdadfjaaGreat
open Go.RowKit

theorem mb_set1 {l : List Mb} {k : Nat} {x : Mb} (h : l[k]? = some x) (a : Option Addr) (n c : Nat) : splice (k * 2 + 1) [.slice a n c] (mbE.fl l) = mbE.fl (l.set k (x.1, a, n, c)) := by
  obtain ⟨hl, he⟩ := List.getElem?_eq_some_iff.1 h
  have hs : l = l.take k ++ x :: l.drop (k + 1) := by rw [← he, List.getElem_cons_drop, List.take_append_drop]
  have hk : (l.take k).length = k := by rw [List.length_take]; omega
  have e : mbE.fl l = mbE.fl (l.take k) ++ (mbE.enc x ++ mbE.fl (l.drop (k + 1))) := by rw [← Enc.fl_cons, ← Enc.fl_append, ← hs]
  rw [e, splice_app (by rw [mbE_len, hk]), List.set_eq_take_append_cons_drop, if_pos hl, Enc.fl_append, Enc.fl_cons]
  rfl
set_option maxHeartbeats 8000000 in
theorem lcopied_sat {W : World} {M : List Nat} {R : Hp} {w : World} (σ : Sr) (hml : σ.ms.length ≤ 1000000) (hbl : σ.bs.length ≤ 1000000) (hcl : ∀ b ∈ σ.bs, b.2.l.length ≤ 1000000) (g : Nat) (hs : Sat W M (.blk g 101 σ.cells :: .gen (rdsG σ.rds) :: R) w) :
    Calls Tryz.prog 59 #[.pointer (some ⟨g, 0, none⟩)] w fun e w' => ∃ mo mc bo bc ds, e = .returned (.agg (ldC σ.box σ.man (.slice mo σ.ms.length mc) (.slice bo σ.bs.length bc) σ.last σ.fresh).toArray) ∧ ds.map Nb.bx = σ.bs.map Nb.bx ∧
      Sat W M (.row bo σ.bs.length bc 60 2 (mbE.fl (ds.map Nb.mb)) :: topRow ds :: .gen (rdsG (bxL ds.dropLast)) :: .row mo σ.ms.length mc 67 2 (mbE.fl (σ.ms.map Mr.mb)) :: .blk g 101 σ.cells :: .gen (rdsG σ.rds) :: R) w' := by
  have hmm : (σ.ms.map Mr.mb).length = σ.ms.length := List.length_map ..
  have hbm : (σ.bs.map Nb.mb).length = σ.bs.length := List.length_map ..
  refine sx_fn (S := SX) (N := 40) Tryz.func59 rfl rfl rfl hs ?_
  ((try refine sU ?_);repeat(refine sN fun _=>?_;try refine sU ?_))
  refine SxCall.newRow (v := fun ao cap => .slice ao σ.ms.length cap) (fun w1 hs1 => by
    have h := CloneMf_any (σ.ms.map Mr.mb) σ.mo σ.mc (by omega) w1 (hs1.rdIn 3 rfl σ.rds_ms)
    rw [hmm] at h
    exact h) fun mo mc => ?_
  ((try refine sU ?_);repeat(refine sN fun _=>?_;try refine sU ?_))
  refine SxCall.newRow (v := fun ao cap => .slice ao σ.bs.length cap) (fun w1 hs1 => by
    have h := CloneNb_any (σ.bs.map Nb.mb) σ.bo σ.bc (by omega) w1 (hs1.rdIn 4 rfl σ.rds_bs)
    rw [hbm] at h
    exact h) fun bo bc => ?_
  ((try refine sU ?_);repeat(refine sN fun _=>?_;try refine sU ?_))
  rename_i b2 b3
  refine SxCode.wk (Weak.trans (Weak.nil 9 1) (Weak.rds0 _)) ?_
  refine SxCode.loop (σ := List Nb) [23] [24, 25, 4, 26, 27, 28, 29, 30, 31, 32, 33, 34, 35, 36, 37, 38, 23] (fun ds => [.int .i64 (ds.length : Nat)]) (fun ds => .row bo σ.bs.length bc 60 2 (mbE.fl (ds.map Nb.mb ++ (σ.bs.drop ds.length).map Nb.mb)) :: topRow ds :: .gen (rdsG (bxL ds.dropLast)) :: .row mo σ.ms.length mc 67 2 (mbE.fl (σ.ms.map Mr.mb)) :: .blk b3 98 (ldC σ.box σ.man (.slice mo σ.ms.length mc) (.slice bo σ.bs.length bc) σ.last σ.fresh) :: .blk b2 98 (ldC 0 0 nilS nilS 0 0) :: .blk g 101 σ.cells :: .gen (rdsG σ.rds) :: R)
    (fun ds => ds.map Nb.bx = (σ.bs.take ds.length).map Nb.bx ∧ ds.length ≤ σ.bs.length) (fun ds => σ.bs.length - ds.length) [] ([2, 1, 0, 3, 4, 5, 6, 7] ++ tailIx 8 R.length) rfl rfl (pickH_append (A := [_, _, _, _, _, _, _, _]) rfl (pickH_tail 8 rfl rfl)) (nodup_tail 8 _ rfl rfl) ⟨rfl, Nat.zero_le _⟩ ?_
  rintro ds ⟨hds, hdl⟩
  have hdm : ∀ b ∈ ds, b.2.l.length ≤ 1000000 := fun b hb => by
    have h1 : b.bx ∈ (σ.bs.take ds.length).map Nb.bx := by rw [← hds]; exact List.mem_map.2 ⟨b, hb, rfl⟩
    obtain ⟨b', hb', he⟩ := List.mem_map.1 h1
    have h2 := hcl b' (List.mem_of_mem_take hb')
    have h3 : b'.2.l = b.2.l := congrArg Prod.snd he
    rw [← h3]; exact h2
  by_cases hlt : ds.length < σ.bs.length
  · obtain ⟨b, hb⟩ : ∃ b, σ.bs[ds.length]? = some b := ⟨σ.bs[ds.length], by simp [hlt]⟩
    have hbm := List.mem_of_getElem? hb
    have hbl1 := hcl b hbm
    have hdrop : σ.bs.drop ds.length = b :: σ.bs.drop (ds.length + 1) := by
      obtain ⟨hl, he⟩ := List.getElem?_eq_some_iff.1 hb
      rw [List.drop_eq_getElem_cons hl, he]
    have hat : (ds.map Nb.mb ++ (σ.bs.drop ds.length).map Nb.mb)[ds.length]? = some b.mb := by
      rw [List.getElem?_append_right (by rw [List.length_map]; exact Nat.le_refl _), List.length_map, Nat.sub_self, hdrop]; rfl
    refine sx_weaken (Weak.boxes hdm 1 2 (by decide) rfl rfl) ?_
    refine sx_base 0 rfl fun hbo _ => ?_
    obtain ⟨gb, rfl⟩ := hbo (by omega)
    ((try refine sU ?_);repeat(refine sN fun _=>?_;try refine sU ?_))
    refine SxCode.draw rfl [.blk b3 98 (ldC σ.box σ.man (.slice mo σ.ms.length mc) (.slice (some ⟨gb, 0, none⟩) σ.bs.length bc) σ.last σ.fresh), .row (some ⟨gb, 0, none⟩) σ.bs.length bc 60 2 (mbE.fl (ds.map Nb.mb ++ (σ.bs.drop ds.length).map Nb.mb))] [12] [4, 0] rfl rfl ?_
    ((try refine sU ?_);repeat(refine sN fun _=>?_;try refine sU ?_))
    refine SxIA.row 1 _ _ _ rfl ds.length rfl hlt fun g' hg' => ?_
    obtain rfl : gb = g' := by simpa using hg'
    ((try refine sU ?_);repeat(refine sN fun _=>?_;try refine sU ?_))
    refine SxLd.row 1 rfl rfl (j := ds.length * 2 + 1) (by omega) (v := .slice b.2.ao b.2.l.length b.2.cap) (mbE.fl_cell hat rfl) ?_
    ((try refine sU ?_);repeat(refine sN fun _=>?_;try refine sU ?_))
    refine SxCall.newRow (v := fun ao cap => .slice ao b.2.l.length cap) (fun w1 hs1 => CloneSr_any b.2.l b.2.ao b.2.cap hbl1 w1 (hs1.rdIn 7 rfl (σ.rds_b hbm))) fun ao cap => ?_
    ((try refine sU ?_);repeat(refine sN fun _=>?_;try refine sU ?_))
    refine SxStable.mk [5, 1] rfl rfl ?_
    ((try refine sU ?_);repeat(refine sN fun _=>?_;try refine sU ?_))
    refine SxIA.row 1 _ _ _ rfl ds.length rfl hlt fun g' hg' => ?_
    obtain rfl : gb = g' := by simpa using hg'
    ((try refine sU ?_);repeat(refine sN fun _=>?_;try refine sU ?_))
    have hset : splice (ds.length * 2 + 1) [.slice ao b.2.l.length cap] (mbE.fl (ds.map Nb.mb ++ (σ.bs.drop ds.length).map Nb.mb)) = mbE.fl ((ds ++ [((b.1, ⟨ao, cap, b.2.l⟩) : Nb)]).map Nb.mb ++ (σ.bs.drop (ds.length + 1)).map Nb.mb) := by
      rw [mb_set1 hat, hdrop, List.map_cons, List.set_append_right _ _ (by rw [List.length_map]; exact Nat.le_refl _), List.length_map, Nat.sub_self, List.map_append, List.append_assoc]; rfl
    refine SxStable.mk [5, 1] rfl rfl ?_
    ((try refine sU ?_);repeat(refine sN fun _=>?_;try refine sU ?_))
    refine SxSt.row 1 rfl rfl (j := ds.length * 2 + 1) (by omega) (by rw [mbE_len, List.length_append, List.length_map, List.length_map, List.length_drop]; show ds.length * 2 + 1 + 1 ≤ _; omega) rfl hset ?_
    ((try refine sU ?_);repeat(refine sN fun _=>?_;try refine sU ?_))
    have hlen : (ds ++ [((b.1, ⟨ao, cap, b.2.l⟩) : Nb)]).length = ds.length + 1 := by simp
    refine SxRound.mk (ds ++ [(b.1, ⟨ao, cap, b.2.l⟩)]) ([1, 0, 3, 4, 5, 6, 7, 8] ++ tailIx 9 R.length) (by rw [hlen]; rfl) (by
      rw [hlen, topRow_snoc, List.dropLast_concat]
      exact pickH_append (A := [_, _, _, _, _, _, _, _]) rfl (pickH_tail 9 rfl rfl)) (nodup_tail 9 _ rfl rfl) ⟨?_, by omega⟩ (by omega)
    rw [hlen, List.map_append, hds, take_snocE hb, List.map_append]; rfl
  · have hl : ds.length = σ.bs.length := by omega
    rw [hl, List.take_length] at hds
    rw [hl, List.drop_of_length_le (Nat.le_refl _), List.map_nil, List.append_nil]
    ((try refine sU ?_);repeat(refine sN fun _=>?_;try refine sU ?_))
    exact SxDone.mk fun w' hs => ⟨mo, mc, bo, bc, ds, rfl, hds, hs.pick (ks := [0, 1, 2, 3, 6, 7] ++ tailIx 8 R.length) (pickH_append (A := [_, _, _, _, _, _]) rfl (pickH_tail 8 rfl rfl)) (nodup_tail 8 _ rfl rfl)⟩
end Go.Proofs.YtlmefcepdadfjaaGreat
/- Layer 23: a stream of its own. -/
namespace Go.Proofs.YtlmefcepdadfjaaGreat
open Go.RowKit

def Sr.own (σ : Sr) (g : Nat) : Hp := [.blk g 101 σ.cells, .row σ.mo σ.ms.length σ.mc 67 2 (mbE.fl (σ.ms.map Mr.mb)), .row σ.bo σ.bs.length σ.bc 60 2 (mbE.fl (σ.bs.map Nb.mb)), topRow σ.bs, .gen (rdsG (bxL σ.bs.dropLast)), .gen (offR σ.co σ.ch.length σ.cc 9 1 (strE.fl σ.ch)), .gen (offR σ.fo σ.ch.length σ.fc 69 32 (fqE.fl (σ.ch.map bFq))), .gen (rdsG (maL σ.ms))]
structure Sr.small (σ : Sr) : Prop where
  ms : σ.ms.length ≤ 100000
  bs : σ.bs.length ≤ 100000
  ch : σ.ch.length ≤ 100000
  cs : ∀ b ∈ σ.bs, b.2.l.length ≤ 100000
set_option maxHeartbeats 8000000 in
theorem copied_sat {W : World} {M : List Nat} {R : Hp} {w : World} (σ : Sr) (hsm : σ.small) (g : Nat) (hs : Sat W M (.blk g 101 σ.cells :: .gen (rdsG σ.rds) :: R) w) :
    Calls Tryz.prog 39 #[.pointer (some ⟨g, 0, none⟩)] w fun e w' => ∃ gn mo mc bo bc ds co cc fo fc, e = .returned (.pointer (some ⟨gn, 0, none⟩)) ∧ ds.map Nb.bx = σ.bs.map Nb.bx ∧
      Sat W M (({ σ with mo := mo, mc := mc, bo := bo, bc := bc, bs := ds, co := co, cc := cc, fo := fo, fc := fc } : Sr).own gn ++ (.blk g 101 σ.cells :: .gen (rdsG σ.rds) :: R)) w' := by
  have hm1 := hsm.ms
  have hb1 := hsm.bs
  have hc1 := hsm.ch
  refine sx_fn (S := SX) (N := 24) Tryz.func39 rfl rfl rfl hs ?_
  ((try refine sU ?_);repeat(refine sN fun _=>?_;try refine sU ?_))
  rename_i gn
  refine SxCall.mk fun w1 hs1 => (lcopied_sat (R := _ :: R) σ (by omega) (by omega) (fun b hb => by have := hsm.cs b hb; omega) g (hs1.pick (ks := [1, 2, 0] ++ tailIx 3 R.length) (pickH_append (A := [_, _, _]) rfl (pickH_tail 3 rfl rfl)) (nodup_tail 3 _ rfl rfl))).mono ?_
  rintro e w2 ⟨mo, mc, bo, bc, ds, rfl, hds, hs2⟩
  have hdl : ds.length = σ.bs.length := by have := congrArg List.length hds; simpa using this
  rw [← hdl] at hs2
  refine ⟨.agg (ldC σ.box σ.man (.slice mo σ.ms.length mc) (.slice bo ds.length bc) σ.last σ.fresh).toArray, _, by rw [hdl], hs2.pick (ks := [6, 0, 1, 2, 3, 4, 5] ++ tailIx 7 R.length) (pickH_append (A := [.blk gn 101 σ.cells, _, _, _, _, _, _]) rfl (pickH_tail 7 rfl rfl)) (nodup_tail 7 _ rfl rfl), ?_⟩
  ((try refine sU ?_);repeat(refine sN fun _=>?_;try refine sU ?_))
  refine SxCall.newRow (v := fun ao cap => .slice ao σ.ch.length cap) (fun w1 hs1 => CloneSr_any σ.ch σ.co σ.cc (by omega) w1 (hs1.rdIn 6 rfl σ.rds_ch)) fun co cc => ?_
  ((try refine sU ?_);repeat(refine sN fun _=>?_;try refine sU ?_))
  have hfl : (σ.ch.map bFq).length = σ.ch.length := List.length_map ..
  refine SxCall.newRow (v := fun ao cap => .slice ao σ.ch.length cap) (fun w1 hs1 => by
    have h := CloneFp_any (σ.ch.map bFq) σ.fo σ.fc (by omega) w1 (hs1.rdIn 7 rfl σ.rds_fp)
    rw [hfl] at h
    exact h) fun fo fc => ?_
  ((try refine sU ?_);repeat(refine sN fun _=>?_;try refine sU ?_))
  refine SxDone.mk fun w' hs => ⟨gn, mo, mc, bo, bc, ds, co, cc, fo, fc, rfl, hds, ?_⟩
  have h1 := Weak.toOff 0 rfl _ _ _ hs
  have h2 := Weak.toOff 1 rfl _ _ _ h1
  have h3 := Weak.subRds (K := maL σ.ms) 8 rfl (fun x hx => by
    unfold maL at hx
    obtain ⟨m, hm, rfl⟩ := List.mem_map.1 hx
    exact σ.rds_m hm) _ _ _ h2
  exact h3.pick (ks := [3, 7, 4, 5, 6, 2, 1, 0, 8, 9] ++ tailIx 10 R.length) (pickH_append (A := [_, _, _, _, _, _, _, _, _, _]) rfl (pickH_tail 10 rfl rfl)) (nodup_tail 10 _ rfl rfl)
end Go.Proofs.YtlmefcepdadfjaaGreat
/- Layer 23: a new chunk is put into a box. -/
namespace Go.Proofs.YtlmefcepdadfjaaGreat
open Go.RowKit

theorem putP_snoc (c : Nat → Int) (box : Int) (bs0 : List Nb) (b : Nb) (s : ByteArray) : putP c box ((bs0 ++ [b]).map Nb.bx) s = if fitsB c b.bx s then (bs0.map Nb.bx ++ [(b.1, b.2.l ++ [s])], b.1, ((b.2.l.length : Nat) : Int)) else ((bs0 ++ [b]).map Nb.bx ++ [((box + ((bs0 ++ [b]).length : Nat)) % 4294967296, [s])], (box + ((bs0 ++ [b]).length : Nat)) % 4294967296, 0) := by
  unfold putP
  rw [List.map_append, List.map_cons, List.map_nil, List.getLast?_concat]
  dsimp only
  rw [List.dropLast_concat]
  rw [show (bs0.map Nb.bx ++ [b.bx]).length = (bs0 ++ [b]).length by simp]
  rfl
def lown (g : Nat) (box man : Int) (ms : List Mr) (mo : Option Addr) (mc : Nat) (bs : List Nb) (bo : Option Addr) (bc : Nat) (last fresh : Int) (c : Nat → Int) (L : Lb) (left : ByteArray) (cv fv wt : Value) (n : Int) : Hp :=
  [.blk g 101 (smC box man (.slice mo ms.length mc) (.slice bo bs.length bc) last fresh c L.kn L.bt left cv fv wt n), .row mo ms.length mc 67 2 (mbE.fl (ms.map Mr.mb)), .row bo bs.length bc 60 2 (mbE.fl (bs.map Nb.mb)), topRow bs, .gen (rdsG (bxL bs.dropLast))]
set_option maxHeartbeats 8000000 in
theorem put_nil_sat {W : World} {M : List Nat} {R : Hp} {w : World} (box man : Int) (ms : List Mr) (mo : Option Addr) (mc : Nat) (bo : Option Addr) (bc : Nat) (last fresh : Int) (c : Nat → Int) (L : Lb) (left : ByteArray) (cv fv wt : Value) (n : Int)
    (_hl0 : 0 ≤ last) (_hl1 : last ≤ 100000000) (hf0 : 0 ≤ fresh) (hf1 : fresh ≤ 100000000) (g : Nat) (s : ByteArray) (hss : s.size ≤ 1000000)
    (hs : Sat W M (lown g box man ms mo mc ([]) bo bc last fresh c L left cv fv wt n ++ R) w) :
    Calls Tryz.prog 72 #[.pointer (some ⟨g, 0, none⟩), confA c, .string s] w fun e w' => ∃ bs' bo' bc' last', e = .returned (.agg #[.int .u32 (putP c box [] s).2.1, .int .i64 (putP c box [] s).2.2]) ∧ bs'.map Nb.bx = (putP c box [] s).1 ∧ (∀ b, bs'.getLast? = some b → last' = (szB b.2.l : Nat)) ∧
      Sat W M (lown g box man ms mo mc bs' bo' bc' last' (fresh + (s.size : Nat)) c L left cv fv wt n ++ R) w' := by
  refine sx_fn (S := SX) (N := 111) Tryz.func72 rfl rfl rfl hs ?_
  ((try refine sU ?_);repeat(refine sN fun _=>?_;try refine sU ?_))
  refine SxCode.drawAll rfl [] ?_
  ((try refine sU ?_);repeat(refine sN fun _=>?_;try refine sU ?_))
  refine SxCode.draw rfl [.blk g 101 (smC box man (.slice mo ms.length mc) (.slice bo 0 bc) last fresh c L.kn L.bt left cv fv wt n)] [17] [2] rfl rfl ?_
  ((try refine sU ?_);repeat(refine sN fun _=>?_;try refine sU ?_))
  refine SxRng.u32 (x := ((0 : Nat) : Int)) (by omega) (by omega) ?_
  ((try refine sU ?_);repeat(refine sN fun _=>?_;try refine sU ?_))
  refine SxRng.u32w ?_
  ((try refine sU ?_);repeat(refine sN fun _=>?_;try refine sU ?_))
  refine SxStable.mk [3] rfl rfl ?_
  ((try refine sU ?_);repeat(refine sN fun _=>?_;try refine sU ?_))
  refine SxApp.mk 5 rfl 0 (.inr (.inr (.inr ⟨by decide, _, rfl⟩))) (vs := mbC ((box + ((0 : Nat) : Int)) % 4294967296, none, 0, 0)) (m := 1) rfl rfl (by unfold maxLen; omega) (by omega) (cs' := mbE.fl [((box + ((0 : Nat) : Int)) % 4294967296, none, 0, 0)]) rfl fun bo1 bc1 => ?_
  ((try refine sU ?_);repeat(refine sN fun _=>?_;try refine sU ?_))
  refine SxStable.mk [3] rfl rfl ?_
  ((try refine sU ?_);repeat(refine sN fun _=>?_;try refine sU ?_))
  refine SxRng.i64 (x := ((0 : Nat) : Int) + 1) (by omega) (by omega) ?_
  ((try refine sU ?_);repeat(refine sN fun _=>?_;try refine sU ?_))
  refine SxIA.row 5 _ _ _ rfl 0 (by omega) (by omega) fun gb hgb => ?_
  subst hgb
  ((try refine sU ?_);repeat(refine sN fun _=>?_;try refine sU ?_))
  refine SxLd.row 5 rfl rfl (j := 1) (by omega) (v := .slice none 0 0) rfl ?_
  ((try refine sU ?_);repeat(refine sN fun _=>?_;try refine sU ?_))
  refine SxApp.mk 7 rfl 0 (.inr (.inr (.inr ⟨by decide, _, rfl⟩))) (vs := [.string s]) (m := 1) rfl rfl (by unfold maxLen; omega) (by omega) (cs' := strE.fl [s]) rfl fun ao cap => ?_
  ((try refine sU ?_);repeat(refine sN fun _=>?_;try refine sU ?_))
  refine SxSt.row 6 rfl rfl (j := 1) (by omega) (by show (2 : Nat) ≤ 2; exact Nat.le_refl _) rfl (cs' := mbE.fl [((box + ((0 : Nat) : Int)) % 4294967296, ao, 1, cap)]) rfl ?_
  ((try refine sU ?_);repeat(refine sN fun _=>?_;try refine sU ?_))
  refine SxCode.draw rfl [.row (some ⟨gb, 0, none⟩) 1 bc1 60 2 (mbE.fl [((box + ((0 : Nat) : Int)) % 4294967296, ao, 1, cap)])] [11] [6] rfl rfl ?_
  ((try refine sU ?_);repeat(refine sN fun _=>?_;try refine sU ?_))
  refine SxLd.row 0 rfl rfl (j := 0) (by omega) rfl ?_
  ((try refine sU ?_);repeat(refine sN fun _=>?_;try refine sU ?_))
  refine SxLd.row 0 rfl rfl (j := 1) (by omega) (v := .slice ao 1 cap) rfl ?_
  ((try refine sU ?_);repeat(refine sN fun _=>?_;try refine sU ?_))
  refine SxDone.mk fun w' hs => ⟨[((box + ((0 : Nat) : Int)) % 4294967296, ⟨ao, cap, [s]⟩)], some ⟨gb, 0, none⟩, bc1, (s.size : Nat), rfl, rfl, fun b hb => ?_, ?_⟩
  · simp only [List.getLast?_singleton, Option.some.injEq] at hb
    subst hb
    simp [szB]
  · have h1 := hs.pick (ks := [4, 5, 6, 7, 8] ++ tailIx 9 R.length) (pickH_append (A := [.blk g 101 (smC box man (.slice mo ms.length mc) (.slice (some ⟨gb, 0, none⟩) 1 bc1) (0 + (s.size : Nat)) (fresh + (s.size : Nat)) c L.kn L.bt left cv fv wt n), _, _, _, _]) rfl (pickH_tail (L := R) 9 rfl rfl)) (nodup_tail 9 _ rfl rfl)
    rw [Int.zero_add] at h1
    exact h1
end Go.Proofs.YtlmefcepdadfjaaGreat
