/- Texts of this claim, one behind the other. -/
import Derived.Test.YtlmefcepdadfjaaGreatZStK
/- Layer 23: a stream of its own. -/
namespace Go.Proofs.YtlmefcepdadfjaaGreat
open Go.RowKit

def Sr.own (σ : Sr) (g : Nat) : Hp := [.blk g 101 σ.cells, .row σ.mo σ.ms.length σ.mc 67 2 (mbE.fl (σ.ms.map Mr.mb)), .row σ.bo σ.bs.length σ.bc 60 2 (mbE.fl (σ.bs.map Nb.mb)), topRow σ.bs, .gen (rdsG (bxL σ.bs.dropLast)), .gen (offR σ.co σ.ch.length σ.cc 9 1 (strE.fl σ.ch)), .gen (offR σ.fo σ.ch.length σ.fc 69 32 (fqE.fl (σ.ch.map bFq))), .gen (rdsG (maL σ.ms))]
structure Sr.small (σ : Sr) : Prop where
  ms : σ.ms.length ≤ 100000
  bs : σ.bs.length ≤ 100000
  ch : σ.ch.length ≤ 100000
  cs : ∀ b ∈ σ.bs, b.2.l.length ≤ 100000
set_option maxHeartbeats 8000000 in
theorem copied_sat {W : World} {M : List Nat} {R : Hp} {w : World} (σ : Sr) (hsm : σ.small) (g : Nat) (hs : Sat W M (.blk g 101 σ.cells :: .gen (rdsG σ.rds) :: R) w) :
    Calls Tryz.prog 39 #[.pointer (some ⟨g, 0, none⟩)] w fun e w' => ∃ gn mo mc bo bc ds co cc fo fc, e = .returned (.pointer (some ⟨gn, 0, none⟩)) ∧ ds.map Nb.bx = σ.bs.map Nb.bx ∧
      Sat W M (({ σ with mo := mo, mc := mc, bo := bo, bc := bc, bs := ds, co := co, cc := cc, fo := fo, fc := fc } : Sr).own gn ++ (.blk g 101 σ.cells :: .gen (rdsG σ.rds) :: R)) w' := by
  have hm1 := hsm.ms
  have hb1 := hsm.bs
  have hc1 := hsm.ch
  refine sx_fn (S := SX) (N := 24) Tryz.func39 rfl rfl rfl hs ?_
  ((try refine sU ?_);repeat(refine sN fun _=>?_;try refine sU ?_))
  rename_i gn
  refine SxCall.mk fun w1 hs1 => (lcopied_sat (R := _ :: R) σ (by omega) (by omega) (fun b hb => by have := hsm.cs b hb; omega) g (hs1.pick (ks := [1, 2, 0] ++ tailIx 3 R.length) (pickH_append (A := [_, _, _]) rfl (pickH_tail 3 rfl rfl)) (nodup_tail 3 _ rfl rfl))).mono ?_
  rintro e w2 ⟨mo, mc, bo, bc, ds, rfl, hds, hs2⟩
  have hdl : ds.length = σ.bs.length := by have := congrArg List.length hds; simpa using this
  rw [← hdl] at hs2
  refine ⟨.agg (ldC σ.box σ.man (.slice mo σ.ms.length mc) (.slice bo ds.length bc) σ.last σ.fresh).toArray, _, by rw [hdl], hs2.pick (ks := [6, 0, 1, 2, 3, 4, 5] ++ tailIx 7 R.length) (pickH_append (A := [.blk gn 101 σ.cells, _, _, _, _, _, _]) rfl (pickH_tail 7 rfl rfl)) (nodup_tail 7 _ rfl rfl), ?_⟩
  ((try refine sU ?_);repeat(refine sN fun _=>?_;try refine sU ?_))
  refine SxCall.newRow (v := fun ao cap => .slice ao σ.ch.length cap) (fun w1 hs1 => CloneSr_any σ.ch σ.co σ.cc (by omega) w1 (hs1.rdIn 6 rfl σ.rds_ch)) fun co cc => ?_
  ((try refine sU ?_);repeat(refine sN fun _=>?_;try refine sU ?_))
  have hfl : (σ.ch.map bFq).length = σ.ch.length := List.length_map ..
  refine SxCall.newRow (v := fun ao cap => .slice ao σ.ch.length cap) (fun w1 hs1 => by
    have h := CloneFp_any (σ.ch.map bFq) σ.fo σ.fc (by omega) w1 (hs1.rdIn 7 rfl σ.rds_fp)
    rw [hfl] at h
    exact h) fun fo fc => ?_
  ((try refine sU ?_);repeat(refine sN fun _=>?_;try refine sU ?_))
  refine SxDone.mk fun w' hs => ⟨gn, mo, mc, bo, bc, ds, co, cc, fo, fc, rfl, hds, ?_⟩
  have h1 := Weak.toOff 0 rfl _ _ _ hs
  have h2 := Weak.toOff 1 rfl _ _ _ h1
  have h3 := Weak.subRds (K := maL σ.ms) 8 rfl (fun x hx => by
    unfold maL at hx
    obtain ⟨m, hm, rfl⟩ := List.mem_map.1 hx
    exact σ.rds_m hm) _ _ _ h2
  exact h3.pick (ks := [3, 7, 4, 5, 6, 2, 1, 0, 8, 9] ++ tailIx 10 R.length) (pickH_append (A := [_, _, _, _, _, _, _, _, _, _]) rfl (pickH_tail 10 rfl rfl)) (nodup_tail 10 _ rfl rfl)
end Go.Proofs.YtlmefcepdadfjaaGreat
/- Layer 23: a new chunk is put into a box. -/
namespace Go.Proofs.YtlmefcepdadfjaaGreat
open Go.RowKit

theorem putP_snoc (c : Nat → Int) (box : Int) (bs0 : List Nb) (b : Nb) (s : ByteArray) : putP c box ((bs0 ++ [b]).map Nb.bx) s = if fitsB c b.bx s then (bs0.map Nb.bx ++ [(b.1, b.2.l ++ [s])], b.1, ((b.2.l.length : Nat) : Int)) else ((bs0 ++ [b]).map Nb.bx ++ [((box + ((bs0 ++ [b]).length : Nat)) % 4294967296, [s])], (box + ((bs0 ++ [b]).length : Nat)) % 4294967296, 0) := by
  unfold putP
  rw [List.map_append, List.map_cons, List.map_nil, List.getLast?_concat]
  dsimp only
  rw [List.dropLast_concat]
  rw [show (bs0.map Nb.bx ++ [b.bx]).length = (bs0 ++ [b]).length by simp]
  rfl
def lown (g : Nat) (box man : Int) (ms : List Mr) (mo : Option Addr) (mc : Nat) (bs : List Nb) (bo : Option Addr) (bc : Nat) (last fresh : Int) (c : Nat → Int) (L : Lb) (left : ByteArray) (cv fv wt : Value) (n : Int) : Hp :=
  [.blk g 101 (smC box man (.slice mo ms.length mc) (.slice bo bs.length bc) last fresh c L.kn L.bt left cv fv wt n), .row mo ms.length mc 67 2 (mbE.fl (ms.map Mr.mb)), .row bo bs.length bc 60 2 (mbE.fl (bs.map Nb.mb)), topRow bs, .gen (rdsG (bxL bs.dropLast))]
set_option maxHeartbeats 8000000 in
theorem put_nil_sat {W : World} {M : List Nat} {R : Hp} {w : World} (box man : Int) (ms : List Mr) (mo : Option Addr) (mc : Nat) (bo : Option Addr) (bc : Nat) (last fresh : Int) (c : Nat → Int) (L : Lb) (left : ByteArray) (cv fv wt : Value) (n : Int)
    (_hl0 : 0 ≤ last) (_hl1 : last ≤ 100000000) (hf0 : 0 ≤ fresh) (hf1 : fresh ≤ 100000000) (g : Nat) (s : ByteArray) (hss : s.size ≤ 1000000)
    (hs : Sat W M (lown g box man ms mo mc ([]) bo bc last fresh c L left cv fv wt n ++ R) w) :
    Calls Tryz.prog 72 #[.pointer (some ⟨g, 0, none⟩), confA c, .string s] w fun e w' => ∃ bs' bo' bc' last', e = .returned (.agg #[.int .u32 (putP c box [] s).2.1, .int .i64 (putP c box [] s).2.2]) ∧ bs'.map Nb.bx = (putP c box [] s).1 ∧ (∀ b, bs'.getLast? = some b → last' = (szB b.2.l : Nat)) ∧
      Sat W M (lown g box man ms mo mc bs' bo' bc' last' (fresh + (s.size : Nat)) c L left cv fv wt n ++ R) w' := by
  refine sx_fn (S := SX) (N := 111) Tryz.func72 rfl rfl rfl hs ?_
  ((try refine sU ?_);repeat(refine sN fun _=>?_;try refine sU ?_))
  refine SxCode.drawAll rfl [] ?_
  ((try refine sU ?_);repeat(refine sN fun _=>?_;try refine sU ?_))
  refine SxCode.draw rfl [.blk g 101 (smC box man (.slice mo ms.length mc) (.slice bo 0 bc) last fresh c L.kn L.bt left cv fv wt n)] [17] [2] rfl rfl ?_
  ((try refine sU ?_);repeat(refine sN fun _=>?_;try refine sU ?_))
  refine SxRng.u32 (x := ((0 : Nat) : Int)) (by omega) (by omega) ?_
  ((try refine sU ?_);repeat(refine sN fun _=>?_;try refine sU ?_))
  refine SxRng.u32w ?_
  ((try refine sU ?_);repeat(refine sN fun _=>?_;try refine sU ?_))
  refine SxStable.mk [3] rfl rfl ?_
  ((try refine sU ?_);repeat(refine sN fun _=>?_;try refine sU ?_))
  refine SxApp.mk 5 rfl 0 (.inr (.inr (.inr ⟨by decide, _, rfl⟩))) (vs := mbC ((box + ((0 : Nat) : Int)) % 4294967296, none, 0, 0)) (m := 1) rfl rfl (by unfold maxLen; omega) (by omega) (cs' := mbE.fl [((box + ((0 : Nat) : Int)) % 4294967296, none, 0, 0)]) rfl fun bo1 bc1 => ?_
  ((try refine sU ?_);repeat(refine sN fun _=>?_;try refine sU ?_))
  refine SxStable.mk [3] rfl rfl ?_
  ((try refine sU ?_);repeat(refine sN fun _=>?_;try refine sU ?_))
  refine SxRng.i64 (x := ((0 : Nat) : Int) + 1) (by omega) (by omega) ?_
  ((try refine sU ?_);repeat(refine sN fun _=>?_;try refine sU ?_))
  refine SxIA.row 5 _ _ _ rfl 0 (by omega) (by omega) fun gb hgb => ?_
  subst hgb
  ((try refine sU ?_);repeat(refine sN fun _=>?_;try refine sU ?_))
  refine SxLd.row 5 rfl rfl (j := 1) (by omega) (v := .slice none 0 0) rfl ?_
  ((try refine sU ?_);repeat(refine sN fun _=>?_;try refine sU ?_))
  refine SxApp.mk 7 rfl 0 (.inr (.inr (.inr ⟨by decide, _, rfl⟩))) (vs := [.string s]) (m := 1) rfl rfl (by unfold maxLen; omega) (by omega) (cs' := strE.fl [s]) rfl fun ao cap => ?_
  ((try refine sU ?_);repeat(refine sN fun _=>?_;try refine sU ?_))
  refine SxSt.row 6 rfl rfl (j := 1) (by omega) (by show (2 : Nat) ≤ 2; exact Nat.le_refl _) rfl (cs' := mbE.fl [((box + ((0 : Nat) : Int)) % 4294967296, ao, 1, cap)]) rfl ?_
  ((try refine sU ?_);repeat(refine sN fun _=>?_;try refine sU ?_))
  refine SxCode.draw rfl [.row (some ⟨gb, 0, none⟩) 1 bc1 60 2 (mbE.fl [((box + ((0 : Nat) : Int)) % 4294967296, ao, 1, cap)])] [11] [6] rfl rfl ?_
  ((try refine sU ?_);repeat(refine sN fun _=>?_;try refine sU ?_))
  refine SxLd.row 0 rfl rfl (j := 0) (by omega) rfl ?_
  ((try refine sU ?_);repeat(refine sN fun _=>?_;try refine sU ?_))
  refine SxLd.row 0 rfl rfl (j := 1) (by omega) (v := .slice ao 1 cap) rfl ?_
  ((try refine sU ?_);repeat(refine sN fun _=>?_;try refine sU ?_))
  refine SxDone.mk fun w' hs => ⟨[((box + ((0 : Nat) : Int)) % 4294967296, ⟨ao, cap, [s]⟩)], some ⟨gb, 0, none⟩, bc1, (s.size : Nat), rfl, rfl, fun b hb => ?_, ?_⟩
  · simp only [List.getLast?_singleton, Option.some.injEq] at hb
    subst hb
    simp [szB]
  · have h1 := hs.pick (ks := [4, 5, 6, 7, 8] ++ tailIx 9 R.length) (pickH_append (A := [.blk g 101 (smC box man (.slice mo ms.length mc) (.slice (some ⟨gb, 0, none⟩) 1 bc1) (0 + (s.size : Nat)) (fresh + (s.size : Nat)) c L.kn L.bt left cv fv wt n), _, _, _, _]) rfl (pickH_tail (L := R) 9 rfl rfl)) (nodup_tail 9 _ rfl rfl)
    rw [Int.zero_add] at h1
    exact h1
end Go.Proofs.YtlmefcepdadfjaaGreat
