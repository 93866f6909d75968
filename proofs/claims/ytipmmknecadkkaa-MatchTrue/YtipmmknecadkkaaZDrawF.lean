/- A variable that a drawn region makes and fills, under an existence. No program is named here. -/
import Derived.Test.YtipmmknecadkkaaZBase
namespace Go.Proofs.Ytipmmknecadkkaa
open Go.RowKit

def VarD (L : Nat → Bool) (m f : Nat) (a : Act) (sl B : Nat) (w : World) (T : TypeId) (n : Nat) (fin zero : Nat → Value) : Prop := ∃ g, Cell3 (L m) (L f) (a.tmps.getD sl undef) B g w T n fin zero
section
variable {L : Nat → Bool} {m f sl B n : Nat} {a : Act} {w w' : World} {T : TypeId} {fin zero : Nat → Value}
theorem VarD.start (hm : L m = false) (hf : L f = false) : VarD L m f a sl B w T n fin zero := ⟨0, by rw [hm, hf]; exact Cell3.start _ _ _ _ _ _ _ _⟩
theorem VarD.put (h : VarD L m f a sl B w T n fin zero) {i s : Nat} (hm : m ≠ i) (hf : f ≠ i) (hs : sl ≠ s) (v : Value) (hb : Below w.heap.size w w') : VarD (setL L i) m f (a.put (some s) v) sl B w' T n fin zero := by
  obtain ⟨g, c⟩ := h
  exact ⟨g, by rw [setL_ne hm, setL_ne hf]; exact (c.kept hb).slot (slot_other rfl hs)⟩
theorem VarD.made (h : VarD L m f a sl B w T n fin zero) (hL : L m = false) (hmf : f ≠ m) (hsz : sl < a.tmps.size) (hB : B ≤ w.heap.size) (hb : Blk w' w.heap.size T (tab n zero)) : VarD (setL L m) m f (a.put (some sl) (.pointer (some ⟨w.heap.size, 0, none⟩))) sl B w' T n fin zero := by
  obtain ⟨g, c⟩ := h
  exact ⟨w.heap.size, by rw [setL_eq, setL_ne hmf]; exact Cell3.new (c.empty hL) (slot_same hsz) hB hb⟩
theorem VarD.at (h : VarD L m f a sl B w T n fin zero) (hm : L m = true) : ∃ g, a.tmps.getD sl undef = .pointer (some ⟨g, 0, none⟩) ∧ B ≤ g ∧ (L f = false → Blk w g T (tab n zero)) ∧ (L f = true → Blk w g T (tab n fin)) := by
  obtain ⟨g, c⟩ := h
  obtain ⟨h1, h2, h3, h4⟩ := c.2 hm
  exact ⟨g, h1, h2, h4, h3⟩
theorem VarD.filled {g : Nat} (hm : L m = true) (hmf : m ≠ f) (hv : a.tmps.getD sl undef = .pointer (some ⟨g, 0, none⟩)) (hB : B ≤ g) (hb : Blk w' g T (tab n fin)) : VarD (setL L f) m f a sl B w' T n fin zero :=
  ⟨g, by rw [setL_eq, setL_ne hmf, hm]; exact ⟨fun _ => rfl, fun _ => ⟨hv, hB, fun _ => hb, fun h => by cases h⟩⟩⟩
end
theorem run_index_tab {P : Program} (w : World) (t e : TypeId) (n k : Nat) (f : Nat → Value) (d : TypeDesc) (ki : IntKind) (ht : P.underlying t = some (.array n e)) (he : P.underlying e = some d) (hd : (match d with | .struct _ | .array _ _ => true | _ => false) = false)
    (hs : (P.info? e).map (·.size) = some 1) (hk : k < n) : (Instr.index t (.agg (tab n f).toArray) (.int ki (k : Nat))).run P w = .ok (f k) w := by
  have hagg : ∀ w : World, (isAgg e).run P w = .ok false w := by
    intro w
    unfold isAgg
    rw [Sem.run_bind, run_underlying he w]
    cases d <;> simp_all
  have hx : (tab n f).toArray[k]? = some (f k) := by rw [List.getElem?_toArray]; exact tab_get n f k hk
  cases hq : P.info? e with
  | none => simp [hq] at hs
  | some i =>
    have hi : i.size = 1 := by simpa [hq] using hs
    have h1 : (0 : Int) ≤ (k : Int) ∧ (k : Int) < (n : Int) := by omega
    simp [Instr.index, asIntOf, run_underlying ht, h1, sizeOf, typeInfo, hq, hi, part, hagg, hx]
    have hx' : (tab n f)[k]? = some (f k) := tab_get n f k hk
    simp [hx', hk]
end Go.Proofs.Ytipmmknecadkkaa
