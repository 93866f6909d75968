/- strings.Builder by the symbolic walk; the rest of it stands on the kit's shelf. -/
import Derived.Test.YtdbappehchgbcaaZSxT
import Derived.Test.YtdbappehchgbcaaZSxb
import Derived.Test.YtdbappehchgbcaaZShelf
import Derived.Shelf.Strings.Builder1
namespace Go.Proofs.Ytdbappehchgbcaa
open Go.Shelf Go.RowKit

def strRen : Go.Shelf.Ren := ⟨fun | 240 => 54 | 276 => 70 | n => n, fun | 0 => 0 | 4 => 4 | 9 => 9 | 20 => 20 | 70 => 59 | 37 => 60 | 72 => 62 | 164 => 117 | n => n, fun | n => n⟩
theorem strLays : Go.Proofs.Lays.n240 Try.prog strRen := {
  mixed := by kernel_rfl
  f240 := Try.func54.trans (congrArg some (by kernel_rfl))
  f276 := Try.func70.trans (congrArg some (by kernel_rfl))
  t0 := Try.underlying0
  a0 := Try.isAgg0
  z0 := Try.sizeOf0
  v0 := Try.zeroValue0
  t4 := Try.underlying4
  a4 := Try.isAgg4
  z4 := Try.sizeOf4
  v4 := Try.zeroValue4
  t9 := Try.underlying9
  a9 := Try.isAgg9
  z9 := Try.sizeOf9
  v9 := Try.zeroValue9
  t20 := Try.underlying20
  a20 := Try.isAgg20
  z20 := Try.sizeOf20
  v20 := Try.zeroValue20
  t70 := Try.underlying59
  a70 := Try.isAgg59
  z70 := Try.sizeOf59
  v70 := Try.zeroValue59
  t72 := Try.underlying62
  a72 := Try.isAgg62
  z72 := Try.sizeOf62
  v72 := Try.zeroValue62
  t164 := Try.underlying117
  a164 := Try.isAgg117
  z164 := Try.sizeOf117
  v164 := Try.zeroValue117 }
theorem strX : Builder.X72 Try.prog strRen where
  sizeBuilder := by kernel_rfl
  liesBuilder := by kernel_rfl
/-- A builder's first cell: not written yet, or its own address. -/
def selfP (b : Nat) (pv : Value) : Prop := pv = .pointer none ∨ pv = .pointer (some ⟨b, 0, none⟩)
section
variable {W : World} {M : List Nat} {H : Hp} {w : World}
/-- A builder's entry: a row of one element. -/
def sbE (b : Nat) (pv sv : Value) : Ent := .row (some ⟨b, 0, none⟩) 1 1 62 2 [pv, sv]
theorem row1_blk {w : World} {b e k : Nat} {cs : List Value} (h : w.ownsRow 0 e k (.slice (some ⟨b, 0, none⟩) 1 1) 1 cs) : ∃ cur, w.heap[b]? = some (.cells cur e (0, 0)) ∧ cur.toList = cs := by
  rcases h.2 with ⟨h2, _⟩ | ⟨g, c, cur, hv, _, hh, _, _, hs, ht⟩
  · cases h2
  · simp only [Value.slice.injEq, Option.some.injEq, Addr.mk.injEq, and_true, true_and] at hv
    obtain ⟨rfl, rfl⟩ := hv
    exact ⟨cur, hh, by rw [← ht, List.take_of_length_le (by simp [hs])]⟩
theorem copyCheck_sat (hs : Sat W M H w) (p b : Nat) (pv sv : Value) (hp : H[p]? = some (sbE b pv sv)) (hpv : selfP b pv) :
    Calls Try.prog 54 #[.pointer (some ⟨b, 0, none⟩)] w fun e w' => e = .returned (.tuple #[]) ∧ Sat W M (H.set p (sbE b (.pointer (some ⟨b, 0, none⟩)) sv)) w' := by
  have hr := hs.row p hp
  have hb : Blk w b 62 [pv, sv] := Blk.of_owns hr rfl
  obtain ⟨cur, hh, hc⟩ := row1_blk hr
  have hcur : cur = #[pv, sv] := Array.ext' hc
  subst hcur
  have h0 : w.cell? ⟨b, 0, none⟩ = some pv := hb.cell 0
  have hpl : p < H.length := (List.getElem?_eq_some_iff.1 hp).1
  have hg : H[p] = sbE b pv sv := (List.getElem?_eq_some_iff.1 hp).2
  rcases hpv with rfl | rfl
  · refine (Any.Builder_copyCheck_fresh strLays strX b w h0 ?_ (hb.free 0 (by simp))).mono ?_
    · simp [World.shape?, hh, strRen]
    · rintro e w' ⟨rfl, rfl⟩
      refine ⟨rfl, hs.set hp (setCell_grown w b 0 _) ?_ fun g h => .inl h⟩
      refine ⟨rfl, .inr ⟨b, 1, #[.pointer (some ⟨b, 0, none⟩), sv], rfl, Nat.zero_le _, ?_, Nat.le_refl _, by unfold maxLen; omega, rfl, rfl⟩⟩
      simp [World.setCell, Array.getElem?_modify, hh]
  · refine (Any.Builder_copyCheck_used strLays strX b w h0).mono ?_
    rintro e w' ⟨rfl, rfl⟩
    refine ⟨rfl, ?_⟩
    rw [← hg, List.set_getElem_self]
    exact hs
theorem WriteString_sat (hs : Sat W M H w) (p q b : Nat) (ao : Option Addr) (n cap : Nat) (pv : Value) (bs : List Value) (hp : H[p]? = some (sbE b pv (.slice ao n cap))) (hpv : selfP b pv) (hpq : q ≠ p) (hq : H[q]? = some (.row ao n cap 5 1 bs)) (s : ByteArray) (hlen : n + s.size ≤ 140737488355328) :
    Calls Try.prog 23 #[.pointer (some ⟨b, 0, none⟩), .string s] w fun e w' => ∃ ao' cap', e = .returned (.tuple #[.int .i64 s.size, .nilIface]) ∧ Sat W M ((H.set q (.row ao' (n + s.size) cap' 5 1 (bs ++ Go.Lib.strCells s))).set p (sbE b (.pointer (some ⟨b, 0, none⟩)) (.slice ao' (n + s.size) cap'))) w' := by
  have hpl : p < H.length := (List.getElem?_eq_some_iff.1 hp).1
  refine sx_fn (S := SX) (N := 19) Try.func23 rfl rfl rfl hs ?_
  ((try refine sx_use ?_); (repeat (refine SxNew.mk fun _ => ?_; (try refine sx_use ?_))))
  refine SxCall.mk fun w hs => (copyCheck_sat hs p b pv _ hp hpv).mono ?_
  rintro e w' ⟨rfl, hs'⟩
  refine ⟨_, _, rfl, hs', ?_⟩
  ((try refine sx_use ?_); (repeat (refine SxNew.mk fun _ => ?_; (try refine sx_use ?_))))
  refine SxLd.row p (List.getElem?_set_self hpl) rfl (j := 1) rfl rfl ?_
  ((try refine sx_use ?_); (repeat (refine SxNew.mk fun _ => ?_; (try refine sx_use ?_))))
  refine SxAppS.mk q (by rw [List.getElem?_set_ne hpq.symm]; exact hq) hlen rfl fun ao' cap' => ?_
  ((try refine sx_use ?_); (repeat (refine SxNew.mk fun _ => ?_; (try refine sx_use ?_))))
  refine SxSt.row p (by rw [List.getElem?_set_ne hpq]; exact List.getElem?_set_self hpl) rfl (j := 1) rfl (by exact Nat.le_refl 2) rfl rfl ?_
  ((try refine sx_use ?_); (repeat (refine SxNew.mk fun _ => ?_; (try refine sx_use ?_))))
  refine SxDone.mk fun w' hs => ⟨ao', cap', rfl, ?_⟩
  rw [List.set_comm _ _ hpq.symm, List.set_set] at hs
  exact hs
theorem String_sat (hs : Sat W [] H w) (p q b : Nat) (ao : Option Addr) (n cap : Nat) (pv : Value) (l : List UInt8) (hp : H[p]? = some (sbE b pv (.slice ao n cap))) (hpv : selfP b pv) (hpq : q ≠ p) (hq : H[q]? = some (.row ao n cap 5 1 (Go.Lib.byteCells l))) :
    Calls Try.prog 27 #[.pointer (some ⟨b, 0, none⟩)] w fun e w' => e = .returned (.string ⟨l.toArray⟩) ∧ ∀ H0, Sat W [] H0 W → Sat W [] H0 w' := by
  obtain ⟨cur, hh, hc⟩ := row1_blk (hs.row p hp)
  have hcur : cur = #[pv, .slice ao n cap] := Array.ext' hc
  subst hcur
  have hr := hs.row q hq
  have hB : W.heap.size ≤ b := (hs.own p _ hp b rfl).resolve_right (by simp)
  have hown : w.ownsRow W.heap.size 5 1 (.slice ao n cap) n (Go.Lib.byteCells l) := own_base hr fun g hg => (hs.own q _ hq g hg).resolve_right (by simp)
  have hn : (Go.Lib.byteCells l).length = n := by simpa using hr.1
  have hne : (Value.slice ao n cap).ownBlock ≠ some b := by
    cases ao with
    | none => simp [Value.ownBlock]
    | some a =>
      intro he
      exact hs.sep p q _ _ hpq.symm hp hq b rfl (by simpa [Ent.uses, Value.ownBlock] using he)
  have hat : Go.Lib.BuilderAt 62 5 W.heap.size b pv (Go.Lib.byteCells l) w := ⟨hB, .slice ao n cap, hh, by rw [hn]; exact hown, hne⟩
  have hbuild : Go.Lib.IsBuilder 62 5 W.heap.size b (Go.Lib.byteCells l) w := by
    rcases hpv with rfl | rfl
    · exact .inl hat
    · exact .inr hat
  refine (Try.Builder_String_any W.heap.size b l w hbuild hs.touch.size).mono ?_
  rintro e w' ⟨rfl, hbel⟩
  exact ⟨rfl, fun H0 h0 => Sat.back h0 hs.touch hbel⟩
end
end Go.Proofs.Ytdbappehchgbcaa
