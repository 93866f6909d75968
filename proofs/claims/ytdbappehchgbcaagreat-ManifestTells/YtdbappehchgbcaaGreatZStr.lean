/- strings.Builder by the symbolic walk; the rest of it stands on the kit's shelf. -/
import Derived.Test.YtdbappehchgbcaaGreatZSxT
import Derived.Test.YtdbappehchgbcaaGreatZSxb
import Derived.Test.YtdbappehchgbcaaGreatZShelf
import Derived.Shelf.Strings.Builder1
namespace Go.Proofs.YtdbappehchgbcaaGreat
open Go.Shelf Go.RowKit

def strRen : Go.Shelf.Ren := ⟨fun | 240 => 56 | 276 => 84 | n => n, fun | 0 => 0 | 4 => 4 | 9 => 9 | 20 => 20 | 70 => 60 | 37 => 61 | 72 => 63 | 164 => 127 | n => n, fun | n => n⟩
theorem strLays : Go.Proofs.Lays.n240 Tryz.prog strRen := {
  mixed := by kernel_rfl
  f240 := Tryz.func56.trans (congrArg some (by kernel_rfl))
  f276 := Tryz.func84.trans (congrArg some (by kernel_rfl))
  t0 := Tryz.underlying0
  a0 := Tryz.isAgg0
  z0 := Tryz.sizeOf0
  v0 := Tryz.zeroValue0
  t4 := Tryz.underlying4
  a4 := Tryz.isAgg4
  z4 := Tryz.sizeOf4
  v4 := Tryz.zeroValue4
  t9 := Tryz.underlying9
  a9 := Tryz.isAgg9
  z9 := Tryz.sizeOf9
  v9 := Tryz.zeroValue9
  t20 := Tryz.underlying20
  a20 := Tryz.isAgg20
  z20 := Tryz.sizeOf20
  v20 := Tryz.zeroValue20
  t70 := Tryz.underlying60
  a70 := Tryz.isAgg60
  z70 := Tryz.sizeOf60
  v70 := Tryz.zeroValue60
  t72 := Tryz.underlying63
  a72 := Tryz.isAgg63
  z72 := Tryz.sizeOf63
  v72 := Tryz.zeroValue63
  t164 := Tryz.underlying127
  a164 := Tryz.isAgg127
  z164 := Tryz.sizeOf127
  v164 := Tryz.zeroValue127 }
theorem strX : Builder.X72 Tryz.prog strRen where
  sizeBuilder := by kernel_rfl
  liesBuilder := by kernel_rfl
/-- A builder's first cell: not written yet, or its own address. -/
def selfP (b : Nat) (pv : Value) : Prop := pv = .pointer none ∨ pv = .pointer (some ⟨b, 0, none⟩)
section
variable {W : World} {M : List Nat} {H : Hp} {w : World}
/-- A builder's entry: a row of one element. -/
def sbE (b : Nat) (pv sv : Value) : Ent := .row (some ⟨b, 0, none⟩) 1 1 63 2 [pv, sv]
theorem row1_blk {w : World} {b e k : Nat} {cs : List Value} (h : w.ownsRow 0 e k (.slice (some ⟨b, 0, none⟩) 1 1) 1 cs) : ∃ cur, w.heap[b]? = some (.cells cur e (0, 0)) ∧ cur.toList = cs := by
  rcases h.2 with ⟨h2, _⟩ | ⟨g, c, cur, hv, _, hh, _, _, hs, ht⟩
  · cases h2
  · simp only [Value.slice.injEq, Option.some.injEq, Addr.mk.injEq, and_true, true_and] at hv
    obtain ⟨rfl, rfl⟩ := hv
    exact ⟨cur, hh, by rw [← ht, List.take_of_length_le (by simp [hs])]⟩
theorem copyCheck_sat (hs : Sat W M H w) (p b : Nat) (pv sv : Value) (hp : H[p]? = some (sbE b pv sv)) (hpv : selfP b pv) :
    Calls Tryz.prog 56 #[.pointer (some ⟨b, 0, none⟩)] w fun e w' => e = .returned (.tuple #[]) ∧ Sat W M (H.set p (sbE b (.pointer (some ⟨b, 0, none⟩)) sv)) w' := by
  have hr := hs.row p hp
  have hb : Blk w b 63 [pv, sv] := Blk.of_owns hr rfl
  obtain ⟨cur, hh, hc⟩ := row1_blk hr
  have hcur : cur = #[pv, sv] := Array.ext' hc
  subst hcur
  have h0 : w.cell? ⟨b, 0, none⟩ = some pv := hb.cell 0
  have hpl : p < H.length := (List.getElem?_eq_some_iff.1 hp).1
  have hg : H[p] = sbE b pv sv := (List.getElem?_eq_some_iff.1 hp).2
  rcases hpv with rfl | rfl
  · refine (Any.Builder_copyCheck_fresh strLays strX b w h0 ?_ (hb.free 0 (by simp))).mono ?_
    · simp [World.shape?, hh, strRen]
    · rintro e w' ⟨rfl, rfl⟩
      refine ⟨rfl, hs.set hp (setCell_grown w b 0 _) ?_ fun g h => .inl h⟩
      refine ⟨rfl, .inr ⟨b, 1, #[.pointer (some ⟨b, 0, none⟩), sv], rfl, Nat.zero_le _, ?_, Nat.le_refl _, by unfold maxLen; omega, rfl, rfl⟩⟩
      simp [World.setCell, Array.getElem?_modify, hh]
  · refine (Any.Builder_copyCheck_used strLays strX b w h0).mono ?_
    rintro e w' ⟨rfl, rfl⟩
    refine ⟨rfl, ?_⟩
    rw [← hg, List.set_getElem_self]
    exact hs
theorem WriteString_sat (hs : Sat W M H w) (p q b : Nat) (ao : Option Addr) (n cap : Nat) (pv : Value) (bs : List Value) (hp : H[p]? = some (sbE b pv (.slice ao n cap))) (hpv : selfP b pv) (hpq : q ≠ p) (hq : H[q]? = some (.row ao n cap 5 1 bs)) (s : ByteArray) (hlen : n + s.size ≤ 140737488355328) :
    Calls Tryz.prog 28 #[.pointer (some ⟨b, 0, none⟩), .string s] w fun e w' => ∃ ao' cap', e = .returned (.tuple #[.int .i64 s.size, .nilIface]) ∧ Sat W M ((H.set q (.row ao' (n + s.size) cap' 5 1 (bs ++ Go.Lib.strCells s))).set p (sbE b (.pointer (some ⟨b, 0, none⟩)) (.slice ao' (n + s.size) cap'))) w' := by
  have hpl : p < H.length := (List.getElem?_eq_some_iff.1 hp).1
  refine sx_fn (S := SX) (N := 19) Tryz.func28 rfl rfl rfl hs ?_
  ((try refine sx_use ?_); (repeat (refine SxNew.mk fun _ => ?_; (try refine sx_use ?_))))
  refine SxCall.mk fun w hs => (copyCheck_sat hs p b pv _ hp hpv).mono ?_
  rintro e w' ⟨rfl, hs'⟩
  refine ⟨_, _, rfl, hs', ?_⟩
  ((try refine sx_use ?_); (repeat (refine SxNew.mk fun _ => ?_; (try refine sx_use ?_))))
  refine SxLd.row p (List.getElem?_set_self hpl) rfl (j := 1) rfl rfl ?_
  ((try refine sx_use ?_); (repeat (refine SxNew.mk fun _ => ?_; (try refine sx_use ?_))))
  refine SxAppS.mk q (by rw [List.getElem?_set_ne hpq.symm]; exact hq) hlen rfl fun ao' cap' => ?_
  ((try refine sx_use ?_); (repeat (refine SxNew.mk fun _ => ?_; (try refine sx_use ?_))))
  refine SxSt.row p (by rw [List.getElem?_set_ne hpq]; exact List.getElem?_set_self hpl) rfl (j := 1) rfl (by exact Nat.le_refl 2) rfl rfl ?_
  ((try refine sx_use ?_); (repeat (refine SxNew.mk fun _ => ?_; (try refine sx_use ?_))))
  refine SxDone.mk fun w' hs => ⟨ao', cap', rfl, ?_⟩
  rw [List.set_comm _ _ hpq.symm, List.set_set] at hs
  exact hs
theorem String_sat (hs : Sat W [] H w) (p q b : Nat) (ao : Option Addr) (n cap : Nat) (pv : Value) (l : List UInt8) (hp : H[p]? = some (sbE b pv (.slice ao n cap))) (hpv : selfP b pv) (hpq : q ≠ p) (hq : H[q]? = some (.row ao n cap 5 1 (Go.Lib.byteCells l))) :
    Calls Tryz.prog 32 #[.pointer (some ⟨b, 0, none⟩)] w fun e w' => e = .returned (.string ⟨l.toArray⟩) ∧ ∀ H0, Sat W [] H0 W → Sat W [] H0 w' := by
  obtain ⟨cur, hh, hc⟩ := row1_blk (hs.row p hp)
  have hcur : cur = #[pv, .slice ao n cap] := Array.ext' hc
  subst hcur
  have hr := hs.row q hq
  have hB : W.heap.size ≤ b := (hs.own p _ hp b rfl).resolve_right (by simp)
  have hown : w.ownsRow W.heap.size 5 1 (.slice ao n cap) n (Go.Lib.byteCells l) := own_base hr fun g hg => (hs.own q _ hq g hg).resolve_right (by simp)
  have hn : (Go.Lib.byteCells l).length = n := by simpa using hr.1
  have hne : (Value.slice ao n cap).ownBlock ≠ some b := by
    cases ao with
    | none => simp [Value.ownBlock]
    | some a =>
      intro he
      exact hs.sep p q _ _ hpq.symm hp hq b rfl (by simpa [Ent.uses, Value.ownBlock] using he)
  have hat : Go.Lib.BuilderAt 63 5 W.heap.size b pv (Go.Lib.byteCells l) w := ⟨hB, .slice ao n cap, hh, by rw [hn]; exact hown, hne⟩
  have hbuild : Go.Lib.IsBuilder 63 5 W.heap.size b (Go.Lib.byteCells l) w := by
    rcases hpv with rfl | rfl
    · exact .inl hat
    · exact .inr hat
  refine (Tryz.Builder_String_any W.heap.size b l w hbuild hs.touch.size).mono ?_
  rintro e w' ⟨rfl, hbel⟩
  exact ⟨rfl, fun H0 h0 => Sat.back h0 hs.touch hbel⟩
end
end Go.Proofs.YtdbappehchgbcaaGreat
