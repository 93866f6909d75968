/- Slices that are read; slices of the call's own beside blocks that are written. No program is named here. -/
import Derived.Test.YtoacohlbelfkcaaOwnB
import Derived.Test.YtoacohlbelfkcaaOwnC
namespace Go.Proofs.Ytoacohlbelfkcaa
open Go.RowKit

theorem owns_only {w w' : World} {base size n g : Nat} {e : TypeId} {v : Value} {xs : List Value} (h : w.ownsRow base e size v n xs) (ho : Only g w w') (hg : g < base) : w'.ownsRow base e size v n xs := by
  refine ⟨h.1, ?_⟩
  rcases h.2 with h2 | ⟨k, cap, cur, hv, hb, hh, r⟩
  · exact .inl h2
  · exact .inr ⟨k, cap, cur, hv, hb, by rw [ho.block k (by omega)]; exact hh, r⟩
theorem owns_kept {w w' : World} {base size n : Nat} {e : TypeId} {v : Value} {xs : List Value} (h : w.ownsRow base e size v n xs) (hb : Below w.heap.size w w') : w'.ownsRow base e size v n xs := by
  refine ⟨h.1, ?_⟩
  rcases h.2 with h2 | ⟨k, cap, cur, hv, hbk, hh, r⟩
  · exact .inl h2
  · exact .inr ⟨k, cap, cur, hv, hbk, by rw [hb.block k (Array.getElem?_eq_some_iff.1 hh).1]; exact hh, r⟩
theorem owns_base {w : World} {base base' size n : Nat} {e : TypeId} {v : Value} {xs : List Value} (h : w.ownsRow base e size v n xs) (hb : base' ≤ base) : w.ownsRow base' e size v n xs := by
  refine ⟨h.1, ?_⟩
  rcases h.2 with h2 | ⟨k, cap, cur, hv, hbk, hh, r⟩
  · exact .inl h2
  · exact .inr ⟨k, cap, cur, hv, by omega, hh, r⟩
/-- A slice that reads as the cells xs. -/
def Rd (w : World) (ao : Option Addr) (xs : List Value) : Prop :=
  xs.length ≤ maxLen ∧ (0 < xs.length → ∃ g off, ao = some ⟨g, off, none⟩ ∧ g < w.heap.size ∧ ∀ j, j < xs.length → w.cell? ⟨g, off + j, none⟩ = xs[j]?)
theorem Rd.kept {w w' : World} {ao : Option Addr} {xs : List Value} (h : Rd w ao xs) (hb : Below w.heap.size w w') : Rd w' ao xs := by
  refine ⟨h.1, fun hn => ?_⟩
  obtain ⟨g, off, h1, h2, h3⟩ := h.2 hn
  exact ⟨g, off, h1, Nat.lt_of_lt_of_le h2 hb.size, fun j hj => by rw [hb.cell (p := ⟨g, off + j, none⟩) h2]; exact h3 j hj⟩
theorem Rd.drewN {w : World} {ao : Option Addr} {xs : List Value} (h : Rd w ao xs) (n : Nat) : Rd (w.drewN n) ao xs := h
theorem Rd.of_owns {w : World} {base n : Nat} {e : TypeId} {v : Value} {xs : List Value} (h : w.ownsRow base e 1 v n xs) : ∃ ao cap, v = .slice ao n cap ∧ Rd w ao xs ∧ xs.length = n := by
  have hl : xs.length = n := by have := h.1; omega
  have h0 := h
  rcases h.2 with ⟨hv, h2⟩ | ⟨k, cap, cur, hv, hb, hh, hnc, hcm, r⟩
  · subst h2
    exact ⟨none, 0, hv, ⟨by rw [hl]; unfold maxLen; omega, fun hn => by omega⟩, hl⟩
  · refine ⟨_, _, hv, ⟨by omega, fun hn => ⟨k, 0, rfl, (Array.getElem?_eq_some_iff.1 hh).1, fun j hj => ?_⟩⟩, hl⟩
    subst hv
    have := h0.cellAt j (by omega)
    rw [Nat.zero_add]
    exact this
end Go.Proofs.Ytoacohlbelfkcaa
