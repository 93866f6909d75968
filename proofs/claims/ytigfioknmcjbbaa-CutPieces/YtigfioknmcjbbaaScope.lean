/- A scope in which the run jumps to labels, back and on: what holds at each jump, and a measure that goes down. No program is named here. -/
import Derived.Test.YtigfioknmcjbbaaOwn
import Derived.Scope
import Derived.ScopeJumps
import Derived.WalkMore
namespace Go.Proofs.Ytigfioknmcjbbaa
open Go.RowKit

/-- As Q; by a goto to label l: J l. -/
def jumps (J : Nat → Act → World → Prop) (Q : Exit → Act → World → Prop) : Exit → Act → World → Prop
  | .goto l, a, w => J l a w
  | e, a, w => Q e a w
theorem jumps_goto (J : Nat → Act → World → Prop) (Q : Exit → Act → World → Prop) (l : Nat) (a : Act) (w : World) (h : J l a w) : jumps J Q (.goto l) a w := h
theorem jumps_ret (J : Nat → Act → World → Prop) (Q : Exit → Act → World → Prop) (a : Act) (w : World) (h : Q .ret a w) : jumps J Q .ret a w := h
theorem wp_scope_labels {P : Program} {a : Act} {w : World} {Q : Exit → Act → World → Prop} {c : Code} (J : Nat → Act → World → Prop) (μ : Nat → Act → World → Nat)
    (first : c.wp P (jumps J Q) a w)
    (pass : ∀ l a w, J l a w → ∃ rest, findLabel c l = some rest ∧ rest.wp P (jumps (fun l' a' w' => J l' a' w' ∧ μ l' a' w' < μ l a w) Q) a w) : (Code.scope c).wp P Q a w := by
  intro b k cs
  have key : ∀ n l a w, μ l a w = n → J l a w → ∃ rest, gotoIn l (.inScope c :: k) = some (.code rest :: .inScope c :: k) ∧ ∃ e a' w', Q e a' w' ∧ Arrives P (lone (b.at a (.code rest :: .inScope c :: k)) cs w) b k cs e a' w' := by
    intro n
    induction n using Nat.strongRecOn with
    | _ n ih =>
      intro l a w hn hJ
      obtain ⟨rest, hf, hr⟩ := pass l a w hJ
      have hg : gotoIn l (.inScope c :: k) = some (.code rest :: .inScope c :: k) := by simp [gotoIn, hf]
      refine ⟨rest, hg, ?_⟩
      obtain ⟨e, a₁, w₁, hq, harr⟩ := hr b (.inScope c :: k) cs
      cases e with
      | normal => exact ⟨.normal, a₁, w₁, hq, Steps.trans harr (.one step_inScope)⟩
      | exit id => exact ⟨.exit id, a₁, w₁, hq, fun k' hk => harr k' (by simp [exitTo, hk])⟩
      | goto l' =>
        obtain ⟨hJ', hlt⟩ := hq
        obtain ⟨rest', hg', e₂, a₂, w₂, hq₂, harr₂⟩ := ih _ (by omega) l' a₁ w₁ rfl hJ'
        exact ⟨e₂, a₂, w₂, hq₂, .of_steps (harr _ hg') harr₂⟩
      | ret => exact ⟨_, a₁, w₁, hq, harr⟩
      | panic ch => exact ⟨_, a₁, w₁, hq, harr⟩
      | outgrown => exact ⟨_, a₁, w₁, hq, harr⟩
  obtain ⟨e, a₁, w₁, hq, harr⟩ := first b (.inScope c :: k) cs
  cases e with
  | normal => exact ⟨.normal, a₁, w₁, hq, .head step_scope (Steps.trans harr (.one step_inScope))⟩
  | exit id => exact ⟨.exit id, a₁, w₁, hq, fun k' hk => .head step_scope (harr k' (by simp [exitTo, hk]))⟩
  | goto l' =>
    obtain ⟨rest', hg', e₂, a₂, w₂, hq₂, harr₂⟩ := key _ l' a₁ w₁ rfl hq
    exact ⟨e₂, a₂, w₂, hq₂, .of_steps (.head step_scope (harr _ hg')) harr₂⟩
  | ret => exact ⟨_, a₁, w₁, hq, .of_steps (.one step_scope) harr⟩
  | panic ch => exact ⟨_, a₁, w₁, hq, .of_steps (.one step_scope) harr⟩
  | outgrown => exact ⟨_, a₁, w₁, hq, .of_steps (.one step_scope) harr⟩
theorem jumps_mono {J J' : Nat → Act → World → Prop} {Q : Exit → Act → World → Prop} (h : ∀ l a w, J l a w → J' l a w) : ∀ e a w, jumps J Q e a w → jumps J' Q e a w := by
  intro e a w hq
  cases e <;> first | exact h _ _ _ hq | exact hq
/-- A scope that opens with label 0 behind its first piece: the body once, as from the label. -/
theorem wp_scope_l0 {P : Program} {a : Act} {w : World} {Q : Exit → Act → World → Prop} {r b : Code} (hr : ∀ l, findLabel r l = none) (J : Nat → Act → World → Prop) (μ : Nat → Act → World → Nat)
    (pre : r.wp P (Exit.then (J 0) (jumps J Q)) a w)
    (body : ∀ a w, J 0 a w → b.wp P (jumps (fun l' a' w' => J l' a' w' ∧ μ l' a' w' < μ 0 a w) Q) a w)
    (others : ∀ l, l ≠ 0 → ∀ a w, J l a w → ∃ rest, findLabel b l = some rest ∧ rest.wp P (jumps (fun l' a' w' => J l' a' w' ∧ μ l' a' w' < μ l a w) Q) a w) :
    (Code.scope (.seq r (.seq (.label 0) b))).wp P Q a w := by
  have hm : ∀ (m : Nat), ∀ l a w, (J l a w ∧ μ l a w < m) → J l a w := fun _ _ _ _ h => h.1
  refine wp_scope_labels J μ ?_ ?_
  · refine wp_seq (Code.wp_mono ?_ pre)
    intro e a w hq
    cases e with
    | normal => exact wp_seq (wp_label (Code.wp_mono (jumps_mono (fun l a w h => h.1)) (body a w hq)))
    | _ => exact hq
  · intro l a w hJ
    by_cases h0 : l = 0
    · subst h0
      exact ⟨.seq .skip b, by simp [findLabel, hr], wp_seq (wp_skip (body a w hJ))⟩
    · obtain ⟨rest, hf, hw⟩ := others l h0 a w hJ
      refine ⟨rest, ?_, hw⟩
      have h0' : (0 == l) = false := by simpa using fun e => h0 e.symm
      simp [findLabel, hr, h0', hf]
end Go.Proofs.Ytigfioknmcjbbaa
