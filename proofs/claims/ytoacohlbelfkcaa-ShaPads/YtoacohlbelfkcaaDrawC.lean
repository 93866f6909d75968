/- Slots and variables of a drawn region, in its midst. No program is named here. -/
import Derived.Test.YtoacohlbelfkcaaDrawB
namespace Go.Proofs.Ytoacohlbelfkcaa
open Go.RowKit

theorem wp_region_inv2 {P : Program} {ops : Array Oper} {Q : Exit → Act → World → Prop} {id : Nat} {a : Act} {w : World} (hm : P.follows .mixedOrders = true) (hu : upward .any ops = true) (I : Array Value → (Nat → Bool) → Act → World → Prop)
    (h0 : I a.tmps (fun _ => false) a w.drew)
    (hstep : ∀ (L : Nat → Bool) (a' : Act) (w : World) (i : Nat) (o : Oper), I a.tmps L a' w → ops[i]? = some o → L i = false → (∀ e ∈ o.after, Region.binds .any e = true → L e.on = true) → wpOp P ops Q i (I a.tmps (setL L i)) a' w)
    (hdone : ∀ (L : Nat → Bool) (a' : Act) (w : World), I a.tmps L a' w → (∀ i, i < ops.size → L i = true) → Q .normal a' w) : (Code.region id ops true).wp P Q a w :=
  wp_region_inv hm hu (I a.tmps) h0 hstep hdone
theorem imp_set {L : Nat → Bool} {i j : Nat} {p q : Prop} (h : L j = true → p) (hne : j ≠ i) (hpq : p → q) : setL L i j = true → q := by
  unfold setL; rw [if_neg hne]; exact fun hl => hpq (h hl)
theorem setL_ne {L : Nat → Bool} {i j : Nat} (hne : j ≠ i) : setL L i j = L j := by unfold setL; rw [if_neg hne]
theorem setL_eq {L : Nat → Bool} {i : Nat} : setL L i i = true := by unfold setL; rw [if_pos rfl]
theorem absF {p : Prop} (h : false = true) : p := by cases h
theorem slot_same {a : Act} {d : Nat} {u : Value} (hd : d < a.tmps.size) : (a.put (some d) u).tmps.getD d undef = u := by rw [put_getD a d u d hd, if_pos rfl]
theorem slot_other {a : Act} {d s : Nat} {u v : Value} (h : a.tmps.getD s undef = v) (hne : s ≠ d) : (a.put (some d) u).tmps.getD s undef = v := by
  rw [← h]
  unfold Act.put
  by_cases hs : s < a.tmps.size
  · simp [hs, Array.getElem_setIfInBounds, Ne.symm hne]
  · simp [hs]
/-- A variable that an operation of a drawn region makes, and another one fills. -/
def Cell3 (made filled : Bool) (v : Value) (B g : Nat) (w : World) (T : TypeId) (n : Nat) (fin zero : Nat → Value) : Prop :=
  (filled = true → made = true) ∧ (made = true → v = .pointer (some ⟨g, 0, none⟩) ∧ B ≤ g ∧ (filled = true → Blk w g T (tab n fin)) ∧ (filled = false → Blk w g T (tab n zero)))
section
variable {made filled : Bool} {v : Value} {B g : Nat} {w w' : World} {T : TypeId} {n : Nat} {fin zero : Nat → Value}
theorem Cell3.start (v : Value) (B g : Nat) (w : World) (T : TypeId) (n : Nat) (fin zero : Nat → Value) : Cell3 false false v B g w T n fin zero := ⟨fun h => h, fun h => by cases h⟩
theorem Cell3.lt (h : Cell3 made filled v B g w T n fin zero) (hm : made = true) : g < w.heap.size := by
  obtain ⟨_, _, h1, h2⟩ := h.2 hm
  cases filled
  · exact (h2 rfl).lt
  · exact (h1 rfl).lt
theorem Cell3.kept (h : Cell3 made filled v B g w T n fin zero) (hb : Below w.heap.size w w') : Cell3 made filled v B g w' T n fin zero :=
  ⟨h.1, fun hm => ⟨(h.2 hm).1, (h.2 hm).2.1, fun hf => ((h.2 hm).2.2.1 hf).kept hb, fun hf => ((h.2 hm).2.2.2 hf).kept hb⟩⟩
theorem Cell3.only {g' : Nat} (h : Cell3 made filled v B g w T n fin zero) (ho : Only g' w w') (hne : made = true → g ≠ g') : Cell3 made filled v B g w' T n fin zero :=
  ⟨h.1, fun hm => ⟨(h.2 hm).1, (h.2 hm).2.1, fun hf => ho.other ((h.2 hm).2.2.1 hf) (hne hm), fun hf => ho.other ((h.2 hm).2.2.2 hf) (hne hm)⟩⟩
theorem Cell3.slot {v' : Value} (h : Cell3 made filled v B g w T n fin zero) (hv : v' = v) : Cell3 made filled v' B g w T n fin zero := hv ▸ h
theorem Cell3.new (hf : filled = false) (hv : v = .pointer (some ⟨g, 0, none⟩)) (hB : B ≤ g) (hb : Blk w g T (tab n zero)) : Cell3 true filled v B g w T n fin zero :=
  ⟨fun _ => rfl, fun _ => ⟨hv, hB, (fun h => by rw [hf] at h; cases h), fun _ => hb⟩⟩
theorem Cell3.fill (h : Cell3 made filled v B g w T n fin zero) (hm : made = true) (hb : Blk w' g T (tab n fin)) : Cell3 made true v B g w' T n fin zero :=
  ⟨fun _ => hm, fun _ => ⟨(h.2 hm).1, (h.2 hm).2.1, fun _ => hb, fun h => by cases h⟩⟩
theorem Cell3.empty (h : Cell3 made filled v B g w T n fin zero) (hm : made = false) : filled = false := by
  cases hf : filled with
  | false => rfl
  | true => have := h.1 hf; rw [hm] at this; cases this
end
end Go.Proofs.Ytoacohlbelfkcaa
