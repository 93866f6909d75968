/- A symbolic walk: copy of a text into a slice as long. No program is named here. -/
import Derived.Test.YtdbappehchgbcaaZRow
namespace Go.Proofs.Ytdbappehchgbcaa
open Go.RowKit

section
variable {S : Sx} {W : World} {M : List Nat} {H : Hp} {N : Nat} {F : Fr}
/-- copy(b, s). -/
theorem SxSem.copyS {o : Oper} {A : Value → Hp → Prop} {t e : Nat} {x y : Operand} {tys : Array TypeId} {i : TInf} {g off n cap : Nat} {l : List UInt8} (hop : o.op = .call ⟨.builtin .copy, #[x, y], tys⟩) (hty : tys[0]? = some t) (ht : S.P.underlying t = some (.slice e)) (hi : tl S.T e = some i)
    (hx : ev F x = some (.slice (some ⟨g, off, none⟩) n cap)) (hy : ev F y = some (.string ⟨l.toArray⟩)) (hn : l.length = n) (h : SxSt H g off (l.map fun b => .int .u8 (b.toNat : Int)) fun H' => A (.int .i64 (n : Nat)) H') : SxSem S W M N o F H A := by
  refine ⟨fun a w Q ha hs => ?_⟩
  obtain ⟨op, dst, ty, pos, after, guard⟩ := o
  simp only at hop
  subst hop
  obtain ⟨w', H', hr, hs', hA⟩ := h.get (P := S.P) hs
  have hsz : (⟨l.toArray⟩ : ByteArray).size = n := hn
  have hex : List.take n (List.map (fun b => Value.int .u8 (b.toNat : Int)) l) = List.map (fun b => Value.int .u8 (b.toNat : Int)) l := List.take_of_length_le (by rw [List.length_map]; omega)
  refine op_value (w' := w') ?_ hs' hA
  simp [execOp, resolve, invoke, builtin, Builtin.copy_, Builtin.lenOf, Builtin.firstCells, hty, ev_eval ha hx, ev_eval ha hy, run_underlying ht, run_size' hi, hsz, goInt]
  rw [hex, hr]
  rfl
end
end Go.Proofs.Ytdbappehchgbcaa
