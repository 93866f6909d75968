/- Arguments that are slices of rows. -/
import Derived.Test.YtdififdnnpgjoaaZGen
import Derived.Test.YtdififdnnpgjoaaZOpen
namespace Go.Proofs.Ytdififdnnpgjoaa
open Go.RowKit

theorem open_rows {P : Program} {α : Type} [Inhabited α] (E : Enc α) (hE : E.k ≤ 100) {w : World} {d : Nat} {e : TypeId} {v : Value} (ks : List CK) (hv : FitK P w (d + 1) (.slice e) v) (hk : kindsOf P 40 e = some ks) (hc : P.cellsOf e = ks.length) (hlen : ks.length = E.k) (hone : ∀ cs, FitR P w d ks cs → ∃ x, cs = E.enc x) :
    ∃ (ao : Option Addr) (n cap : Nat), v = .slice ao n cap ∧ n ≤ maxLen ∧ ∃ l : List α, l.length = min n 1000 ∧ Rd w ao (E.fl l) := by
  obtain ⟨ao, n, cap, rfl, h1, h2, h3⟩ := hv
  obtain ⟨xs, hl, hrd, hx⟩ := h3 ks hk hc
  rw [hlen] at hl
  replace hx : ∀ i j k x, i < n → ks[j]? = some k → xs[i * E.k + j]? = some x → FitK P w d k x := by rw [← hlen]; exact hx
  have hmul : ∀ i, i < n → i * E.k + E.k ≤ xs.length := by
    intro i hi
    have := Nat.mul_le_mul_right E.k (show i + 1 ≤ n from hi)
    rw [Nat.succ_mul] at this
    omega
  have each : ∀ i, i < n → ∃ x : α, (xs.drop (i * E.k)).take E.k = E.enc x := by
    intro i hi
    refine hone _ ⟨?_, fun j k v hk hj => ?_⟩
    · rw [List.length_take, List.length_drop, hlen]
      have := hmul i hi
      omega
    · rw [List.getElem?_take] at hj
      split at hj
      · rw [List.getElem?_drop] at hj
        exact hx i j k v hi hk hj
      · cases hj
  let f : Nat → α := fun i => if h : i < n then Classical.choose (each i h) else default
  have hf : ∀ i, i < n → (xs.drop (i * E.k)).take E.k = E.enc (f i) := by
    intro i hi
    simp only [f, dif_pos hi]
    exact Classical.choose_spec (each i hi)
  have hrow : ∀ m, m ≤ n → E.fl ((List.range m).map f) = xs.take (m * E.k) := by
    intro m
    induction m with
    | zero => intro _; simp [Enc.fl]
    | succ m ih =>
      intro hm
      rw [List.range_succ, List.map_append, E.fl_append, ih (by omega), Nat.succ_mul, List.take_add, hf m (by omega)]
      simp [Enc.fl]
  refine ⟨ao, n, cap, rfl, by omega, (List.range (min n 1000)).map f, by simp, ?_⟩
  rw [hrow _ (Nat.min_le_left _ _)]
  have hb : min n 1000 * E.k ≤ 1000 * 100 := Nat.mul_le_mul (Nat.min_le_right _ _) hE
  refine ⟨by rw [List.length_take]; unfold maxLen; omega, fun hp => ?_⟩
  rw [List.length_take] at hp
  obtain ⟨g, o, hao, hg, hcell⟩ := hrd (by omega)
  refine ⟨g, o, hao, hg, fun j hj => ?_⟩
  rw [List.length_take] at hj
  rw [List.getElem?_take_of_lt (by omega)]
  exact hcell j (by omega)
end Go.Proofs.Ytdififdnnpgjoaa
