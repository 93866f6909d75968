/- Texts of this claim, one behind the other. -/
import Derived.OpenShut
import Derived.ShutString
import Derived.ChangeArms
import Derived.WideShapes
import Derived.Test.YtlmefcepdadfjaaGreatZOwnD
import Derived.Orders
import Derived.Deep.RegionHeld3
/- Arguments that came in, opened by the kinds of their cells: numbers, strings, bools, slices of such rows. No program is named here. -/
namespace Go.Proofs.YtlmefcepdadfjaaGreat
open Go.RowKit Go.ChangeShapes Go.WideShapes

inductive CK where
  | int (k : IntKind)
  | str
  | bool
  | slice (e : TypeId)
deriving DecidableEq
def arrK : Nat → List CK → List CK
  | 0, _ => []
  | n + 1, ks => ks ++ arrK n ks
theorem arrK_length (n : Nat) (ks : List CK) : (arrK n ks).length = n * ks.length := by
  induction n with
  | zero => simp [arrK]
  | succ n ih => simp [arrK, ih, Nat.succ_mul, Nat.add_comm]
mutual
def kindsOf (P : Program) : Nat → TypeId → Option (List CK)
  | 0, _ => none
  | d + 1, t => match P.underlying t with
    | some (.int k) => some [.int k]
    | some .string => some [.str]
    | some .bool => some [.bool]
    | some (.slice e) => some [.slice e]
    | some (.struct fs) => match fieldsK P d fs.toList 0 with
      | some ks => if P.cellsOf t = ks.length then some ks else none
      | none => none
    | some (.array n e) => match kindsOf P d e with
      | some ks => if P.cellsOf e = ks.length ∧ P.cellsOf t = n * ks.length then some (arrK n ks) else none
      | none => none
    | _ => none
def fieldsK (P : Program) : Nat → List Field → Nat → Option (List CK)
  | 0, _, _ => none
  | _ + 1, [], _ => some []
  | d + 1, f :: fs, off => match kindsOf P d f.type with
    | some ks => if f.offset = off ∧ P.cellsOf f.type = ks.length then (fieldsK P d fs (off + ks.length)).map (ks ++ ·) else none
    | none => none
end
def RdM (w : World) (ao : Option Addr) (xs : List Value) : Prop :=
  0 < xs.length → ∃ g off, ao = some ⟨g, off, none⟩ ∧ g < w.heap.size ∧ ∀ j, j < xs.length → w.cell? ⟨g, off + j, none⟩ = xs[j]?
def FitK (P : Program) (w : World) : Nat → CK → Value → Prop
  | _, .int k, v => ∃ n, v = .int k n ∧ (Lit.int k n).wf = true
  | _, .str, v => ∃ s : ByteArray, v = .string s ∧ s.size ≤ maxLen
  | _, .bool, v => ∃ b, v = .bool b
  | 0, .slice _, _ => True
  | d + 1, .slice e, v => ∃ (ao : Option Addr) (n cap : Nat), v = .slice ao n cap ∧ n ≤ cap ∧ cap ≤ maxLen ∧ ∀ ks, kindsOf P 40 e = some ks → P.cellsOf e = ks.length →
      ∃ xs : List Value, xs.length = n * ks.length ∧ RdM w ao xs ∧ ∀ i j k x, i < n → ks[j]? = some k → xs[i * ks.length + j]? = some x → FitK P w d k x
def FitR (P : Program) (w : World) (d : Nat) (ks : List CK) (cs : List Value) : Prop := cs.length = ks.length ∧ ∀ (i : Nat) k v, ks[i]? = some k → cs[i]? = some v → FitK P w d k v
theorem FitR.append {P : Program} {w : World} {d : Nat} {k1 k2 : List CK} {c1 c2 : List Value} (h1 : FitR P w d k1 c1) (h2 : FitR P w d k2 c2) : FitR P w d (k1 ++ k2) (c1 ++ c2) := by
  refine ⟨by simp [h1.1, h2.1], fun i k v hk hv => ?_⟩
  by_cases hi : i < k1.length
  · rw [List.getElem?_append_left hi] at hk
    rw [List.getElem?_append_left (by rw [h1.1]; exact hi)] at hv
    exact h1.2 i k v hk hv
  · rw [List.getElem?_append_right (by omega)] at hk
    rw [List.getElem?_append_right (by rw [h1.1]; omega), h1.1] at hv
    exact h2.2 _ k v hk hv
section
variable {H : Type} {enc : TypeId × Value → H} {P : Program} {w : World} {base : Nat} {spare : Nat → Bool} {held : Bool}

theorem fitR_array (c : Nat) (ks : List CK) (hc : c = ks.length) (D : Nat) : ∀ (n : Nat) (cs : List Value), cs.length = n * c → (∀ i, i < n → FitR P w D ks ((cs.drop (i * c)).take c)) → FitR P w D (arrK n ks) cs
  | 0, cs, hl, _ => by
    have : cs = [] := List.eq_nil_of_length_eq_zero (by simpa using hl)
    subst this
    exact ⟨rfl, fun i k v hk hv => by simp at hv⟩
  | n + 1, cs, hl, h => by
    have h0 := h 0 (by omega)
    simp only [Nat.zero_mul, List.drop_zero] at h0
    have hr := fitR_array c ks hc D n (cs.drop c) (by rw [List.length_drop, hl, Nat.succ_mul]; omega) (fun i hi => by
      have := h (i + 1) (by omega)
      rw [List.drop_drop, show c + i * c = (i + 1) * c by rw [Nat.succ_mul]; omega]
      exact this)
    have := h0.append hr
    rw [List.take_append_drop] at this
    exact this
theorem fitR_fields (D : Nat) (F : TypeId → List Value → Prop) : ∀ (d : Nat) (_hF : ∀ d' t cs ks, d' < d → F t cs → kindsOf P d' t = some ks → FitR P w D ks cs) (fs : List Field) (off : Nat) (ks : List CK) (cs : List Value), fieldsK P d fs off = some ks →
    cs.length = off + ks.length → (∀ f ∈ fs, F f.type ((cs.drop f.offset).take (P.cellsOf f.type))) → FitR P w D ks (cs.drop off)
  | 0, _, fs, off, ks, cs, h, _, _ => by simp [fieldsK] at h
  | d + 1, _, [], off, ks, cs, h, hl, _ => by
    simp [fieldsK] at h
    subst h
    refine ⟨by simp; simp at hl; omega, fun i k v hk hv => by simp at hk⟩
  | d + 1, hF, f :: fs, off, ks, cs, h, hl, hf => by
    simp only [fieldsK] at h
    split at h
    · rename_i k1 hk1
      split at h
      · rename_i hcond
        obtain ⟨rfl, hc⟩ := hcond
        obtain ⟨k2, hk2, rfl⟩ := Option.map_eq_some_iff.1 h
        have h1 := hF d f.type _ k1 (by omega) (hf f (by simp)) hk1
        have h2 := fitR_fields D F d (fun d' t cs ks hd => hF d' t cs ks (by omega)) fs _ k2 cs hk2 (by rw [List.length_append] at hl; omega) (fun f' hf' => hf f' (by simp [hf']))
        have := h1.append h2
        rw [hc, show cs.drop (f.offset + k1.length) = (cs.drop f.offset).drop k1.length by rw [List.drop_drop], List.take_append_drop] at this
        exact this
      · simp at h
    · simp at h
theorem fitR_one {D : Nat} {k : CK} {v : Value} (h : FitK P w D k v) : FitR P w D [k] [v] := by
  refine ⟨rfl, fun i k' v' h1 h2 => ?_⟩
  match i, h1, h2 with
  | 0, h1, h2 => simp at h1 h2; subst h1; subst h2; exact h
  | i + 1, h1, h2 => simp at h1
variable (enc P w base spare held) in
def Rds (t : TypeId) (cs : List Value) : Prop := ∃ n y, DataW.trod enc P w base spare held n t cs = some y
theorem fit_step (D : Nat) (hsl : ∀ t e v, P.underlying t = some (.slice e) → Rds enc P w base spare held t [v] → FitK P w D (.slice e) v) :
    ∀ (d : Nat) (t : TypeId) (cs : List Value) (ks : List CK), Rds enc P w base spare held t cs → kindsOf P d t = some ks → FitR P w D ks cs := by
  intro d
  induction d using Nat.strongRecOn with
  | _ d ihd =>
  intro t cs ks hr hk
  obtain ⟨fuel, x, h⟩ := id hr
  match d, hk, ihd with
  | 0, hk, _ => simp [kindsOf] at hk
  | d + 1, hk, ihd =>
    simp only [kindsOf] at hk
    split at hk
    · rename_i k hu
      obtain rfl : [CK.int k] = ks := by simpa using hk
      obtain ⟨n, rfl, _, hw⟩ := DataW.trod_int hu h
      exact fitR_one (by cases D <;> exact ⟨n, rfl, hw⟩)
    · rename_i hu
      obtain rfl : [CK.str] = ks := by simpa using hk
      obtain ⟨s, rfl, _, hw⟩ := DataW.trod_string hu h
      exact fitR_one (by cases D <;> exact ⟨s, rfl, hw⟩)
    · rename_i hu
      obtain rfl : [CK.bool] = ks := by simpa using hk
      obtain ⟨b, rfl, _⟩ := DataW.trod_bool hu h
      exact fitR_one (by cases D <;> exact ⟨b, rfl⟩)
    · rename_i e hu
      obtain rfl : [CK.slice e] = ks := by simpa using hk
      obtain ⟨v, rfl⟩ : ∃ v, cs = [v] := by
        rcases DataW.trod_slice hu h with ⟨rfl, _⟩ | ⟨a, len, cap, _, _, _, _, rfl, _⟩ <;> exact ⟨_, rfl⟩
      exact fitR_one (hsl t e v hu hr)
    · rename_i fs hu
      split at hk
      · rename_i k1 hf
        split at hk
        · rename_i hcell
          obtain rfl : k1 = ks := by simpa using hk
          obtain ⟨ys, n, rfl, _, hlen, hyl, hff⟩ := DataW.trod_struct hu h
          have := fitR_fields (P := P) (w := w) D (Rds enc P w base spare held) d (fun d' t cs ks hd => ihd d' (by omega) t cs ks) fs.toList 0 k1 cs hf (by rw [hlen, hcell]; omega) (fun f hfm => by
            obtain ⟨i, hi⟩ := List.getElem?_of_mem hfm
            have h1 := hff i f (by simpa using hi)
            have h2 : i < ys.length := by
              have := (List.getElem?_eq_some_iff.1 hi).1
              simp at this; omega
            rw [List.getElem?_eq_getElem h2] at h1
            exact ⟨n, _, h1⟩)
          simpa using this
        · simp at hk
      · simp at hk
    · rename_i n e hu
      split at hk
      · rename_i k1 hf
        split at hk
        · rename_i hcond
          obtain rfl : arrK n k1 = ks := by simpa using hk
          obtain ⟨ys, m, rfl, _, hlen, hyl, hff⟩ := DataW.trod_array hu h
          refine fitR_array (P.cellsOf e) k1 hcond.1 D n cs (by rw [hlen, hcond.2, hcond.1]) (fun i hi => ?_)
          have h1 := hff i hi
          rw [List.getElem?_eq_getElem (by omega)] at h1
          exact ihd d (by omega) e _ k1 ⟨m, _, h1⟩ hf
        · simp at hk
      · simp at hk
    · simp at hk
theorem row_flat (c : Nat) (f : Nat → List Value) : ∀ (n : Nat), (∀ i, i < n → (f i).length = c) → ((List.range n).flatMap f).length = n * c ∧ ∀ i j, i < n → j < c → ((List.range n).flatMap f)[i * c + j]? = (f i)[j]?
  | 0, _ => ⟨by simp, fun i j h => by omega⟩
  | n + 1, h => by
    obtain ⟨h1, h2⟩ := row_flat c f n (fun i hi => h i (by omega))
    rw [List.range_succ, List.flatMap_append]
    refine ⟨by simp [h1, h n (by omega), Nat.succ_mul], fun i j hi hj => ?_⟩
    by_cases hin : i < n
    · have hlt : i * c + j < n * c := by
        have : (i + 1) * c ≤ n * c := Nat.mul_le_mul_right c hin
        rw [Nat.succ_mul] at this; omega
      rw [List.getElem?_append_left (by rw [h1]; exact hlt)]
      exact h2 i j hin hj
    · obtain rfl : i = n := by omega
      rw [List.getElem?_append_right (by rw [h1]; omega), h1]
      simp
theorem div_mod_lt (n c j : Nat) (h : j < n * c) : j / c < n ∧ j % c < c ∧ j / c * c + j % c = j := by
  have hc : 0 < c := by
    rcases Nat.eq_zero_or_pos c with rfl | h0
    · simp at h
    · exact h0
  exact ⟨Nat.div_lt_of_lt_mul (by rw [Nat.mul_comm]; exact h), Nat.mod_lt _ hc, by rw [Nat.mul_comm]; exact Nat.div_add_mod j c⟩
theorem fit_of (D : Nat) : ∀ (d : Nat) (t : TypeId) (cs : List Value) (ks : List CK), Rds enc P w base spare held t cs → kindsOf P d t = some ks → FitR P w D ks cs := by
  induction D with
  | zero => exact fit_step 0 (fun t e v hu hr => by trivial)
  | succ D ih =>
    refine fit_step (D + 1) (fun t e v hu hr => ?_)
    obtain ⟨fuel, x, h⟩ := hr
    rcases DataW.trod_slice hu h with ⟨hcs, _⟩ | ⟨a, len, cap, elems, rest, n, _, hcs, _, hb, hl, hm, hlen, hel, _, _⟩
    · obtain rfl : v = .slice none 0 0 := by simpa using hcs
      exact ⟨none, 0, 0, rfl, Nat.le_refl _, Nat.zero_le _, fun ks _ _ => ⟨[], by simp, fun h => by simp at h, fun i j k x hi => by omega⟩⟩
    · obtain rfl : v = .slice (some a) len cap := by simpa using hcs
      refine ⟨some a, len, cap, rfl, hl, hm, fun ks hks hc => ?_⟩
      have each : ∀ i, i < len → ∃ ce y, w.cells? base (a.add (i * ks.length)) ks.length = some ce ∧ DataW.trod enc P w base spare held n e ce = some y := by
        intro i hi
        have h1 := hel i hi
        rw [List.getElem?_eq_getElem (by omega), hc, Option.bind_eq_some_iff] at h1
        obtain ⟨ce, h1, h2⟩ := h1
        exact ⟨ce, _, h1, h2⟩
      let f : Nat → List Value := fun i => if h : i < len then Classical.choose (each i h) else []
      have hf : ∀ i, i < len → w.cells? base (a.add (i * ks.length)) ks.length = some (f i) ∧ Rds enc P w base spare held e (f i) := by
        intro i hi
        have := Classical.choose_spec (each i hi)
        obtain ⟨y, h1, h2⟩ := this
        simp only [f, dif_pos hi]
        exact ⟨h1, n, y, h2⟩
      have hfl : ∀ i, i < len → (f i).length = ks.length := fun i hi => (World.cells?_some (hf i hi).1).2.1
      obtain ⟨r1, r2⟩ := row_flat ks.length f len hfl
      refine ⟨(List.range len).flatMap f, r1, ?_, ?_⟩
      · intro hpos
        rw [r1] at hpos
        obtain ⟨b, off, spot⟩ := a
        have hk0 : 0 < ks.length ∧ 0 < len := by
          constructor
          · rcases Nat.eq_zero_or_pos ks.length with h0 | h0
            · rw [h0] at hpos; simp at hpos
            · exact h0
          · rcases Nat.eq_zero_or_pos len with h0 | h0
            · rw [h0] at hpos; simp at hpos
            · exact h0
        have c0 := (World.cells?_some (hf 0 hk0.2).1).2.2 0 hk0.1
        rw [List.getElem?_eq_getElem (by rw [hfl 0 hk0.2]; exact hk0.1)] at c0
        have hspot : spot = none := by simpa [Addr.add] using World.cell?_spot c0
        subst hspot
        have hlt := block_lt_of_cell c0
        simp only [Nat.zero_mul, Addr.add_lit] at hlt
        refine ⟨b, off, rfl, hlt, fun j hj => ?_⟩
        rw [r1] at hj
        obtain ⟨q1, q2, q3⟩ := div_mod_lt len ks.length j hj
        have c1 := (World.cells?_some (hf (j / ks.length) q1).1).2.2 (j % ks.length) q2
        rw [Addr.add_lit, Addr.add_lit, Nat.add_assoc, q3] at c1
        rw [c1, ← r2 _ _ q1 q2, q3]
      · intro i j k x hi hkj hx
        have hjl : j < ks.length := (List.getElem?_eq_some_iff.1 hkj).1
        rw [r2 i j hi hjl] at hx
        exact (ih 40 e (f i) ks (hf i hi).2 hks).2 j k x hkj hx
theorem open_agg (D : Nat) {r : Reach} {b0 : Nat} {t : TypeId} {v : Value} {de : DataW H} {p : List MemPlace} {td : TypeDesc} (hu : P.underlying t = some td) (hd : (match td with | .struct _ | .array _ _ => true | _ => false) = true)
    (hv : Value.okWide P w r b0 t v) (h : DataW.Trod enc P w base spare held t v de p) {ks : List CK} (hk : kindsOf P 40 t = some ks) : ∃ cs : List Value, v = .agg cs.toArray ∧ FitR P w D ks cs := by
  have : ∃ cs, v = .agg cs ∧ cs.size = P.cellsOf t := by
    cases td with
    | struct fs => exact okWide_struct hu hv
    | array n e =>
      simp only [Value.okWide, hu] at hv
      obtain ⟨cs, h1, h2, _⟩ := hv
      exact ⟨cs, h1, h2⟩
    | _ => simp at hd
  obtain ⟨cs, rfl, _⟩ := this
  obtain ⟨fuel, hf⟩ := h
  exact ⟨cs.toList, by simp, fit_of D 40 t cs.toList ks ⟨fuel, _, by simpa [Value.cells] using hf⟩ hk⟩
theorem open_sl (D : Nat) {r : Reach} {b0 : Nat} {t e : TypeId} {v : Value} {de : DataW H} {p : List MemPlace} (hu : P.underlying t = some (.slice e))
    (hv : Value.okWide P w r b0 t v) (h : DataW.Trod enc P w base spare held t v de p) : FitK P w D (.slice e) v := by
  obtain ⟨a, len, cap, rfl⟩ := okWide_slice hu hv
  obtain ⟨fuel, hf⟩ := h
  have hk : kindsOf P 40 t = some [.slice e] := by simp [kindsOf, hu]
  exact (fit_of D 40 t [.slice a len cap] [.slice e] ⟨fuel, _, by simpa [Value.cells] using hf⟩ hk).2 0 _ _ rfl rfl
end
section
variable {P : Program} {w : World}
theorem fitK_int {d : Nat} {k : IntKind} {v : Value} (h : FitK P w d (.int k) v) : ∃ n, v = .int k n ∧ (Lit.int k n).wf = true := by cases d <;> exact h
theorem fitK_str {d : Nat} {v : Value} (h : FitK P w d .str v) : ∃ s : ByteArray, v = .string s ∧ s.size ≤ maxLen := by cases d <;> exact h
theorem fitK_bool {d : Nat} {v : Value} (h : FitK P w d .bool v) : ∃ b, v = .bool b := by cases d <;> exact h
theorem fitR_ints {d n : Nat} {k : IntKind} {cs : List Value} (h : FitR P w d (List.replicate n (.int k)) cs) : ∃ c : Nat → Int, cs = tab n (fun i => .int k (c i)) ∧ ∀ i, i < n → (Lit.int k (c i)).wf = true := by
  obtain ⟨hl, hf⟩ := h
  rw [List.length_replicate] at hl
  have each : ∀ i, i < n → ∃ m, cs[i]? = some (.int k m) ∧ (Lit.int k m).wf = true := by
    intro i hi
    have hc : cs[i]? = some (cs[i]'(by omega)) := List.getElem?_eq_getElem (by omega)
    obtain ⟨m, hm, hw⟩ := fitK_int (hf i (.int k) _ (by simp [List.getElem?_replicate, hi]) hc)
    exact ⟨m, by rw [hc, hm], hw⟩
  let f : Nat → Int := fun i => if h : i < n then Classical.choose (each i h) else 0
  have hc : ∀ i, i < n → cs[i]? = some (.int k (f i)) ∧ (Lit.int k (f i)).wf = true := by
    intro i hi
    simp only [f, dif_pos hi]
    exact Classical.choose_spec (each i hi)
  refine ⟨f, ?_, fun i hi => (hc i hi).2⟩
  apply List.ext_getElem?
  intro i
  by_cases hi : i < n
  · rw [tab_get _ _ _ hi, (hc i hi).1]
  · rw [List.getElem?_eq_none (by omega), List.getElem?_eq_none (by rw [tab_length]; omega)]
theorem fitK_strs {d : Nat} {e : TypeId} {v : Value} (h : FitK P w (d + 1) (.slice e) v) (hk : kindsOf P 40 e = some [.str]) (hc : P.cellsOf e = 1) :
    ∃ (ao : Option Addr) (n cap : Nat) (ss : List ByteArray), v = .slice ao n cap ∧ n ≤ cap ∧ cap ≤ maxLen ∧ ss.length = n ∧ Rd w ao (ss.map .string) ∧ ∀ s ∈ ss, s.size ≤ maxLen := by
  obtain ⟨ao, n, cap, rfl, h1, h2, h3⟩ := h
  obtain ⟨xs, hl, hrd, hx⟩ := h3 _ hk hc
  simp at hl
  have each : ∀ i, i < n → ∃ s : ByteArray, xs[i]? = some (.string s) ∧ s.size ≤ maxLen := by
    intro i hi
    have hc : xs[i]? = some (xs[i]'(by omega)) := List.getElem?_eq_getElem (by omega)
    obtain ⟨s, hs, hw⟩ := fitK_str (hx i 0 .str _ hi rfl (by rw [show i * [CK.str].length + 0 = i by simp]; exact hc))
    exact ⟨s, by rw [hc, hs], hw⟩
  let f : Nat → ByteArray := fun i => if h : i < n then Classical.choose (each i h) else default
  have hf : ∀ i, i < n → xs[i]? = some (.string (f i)) ∧ (f i).size ≤ maxLen := by
    intro i hi
    simp only [f, dif_pos hi]
    exact Classical.choose_spec (each i hi)
  have hxs : xs = (tab n f).map .string := by
    apply List.ext_getElem?
    intro i
    by_cases hi : i < n
    · rw [(hf i hi).1, tab_map, tab_get _ _ _ hi]
    · rw [List.getElem?_eq_none (by omega), List.getElem?_eq_none (by rw [List.length_map, tab_length]; omega)]
  refine ⟨ao, n, cap, tab n f, rfl, h1, h2, tab_length _ _, ?_, ?_⟩
  · rw [← hxs]
    exact ⟨by omega, fun hp => hrd (by omega)⟩
  · intro s hs
    simp [tab] at hs
    obtain ⟨i, hi, rfl⟩ := hs
    exact (hf i hi).2
end
end Go.Proofs.YtlmefcepdadfjaaGreat
/- Parameters and values that are boxed: a struct by value, laid into a block. No program is named here. -/
namespace Go.Proofs.YtlmefcepdadfjaaGreat
open Go.RowKit

theorem wpList_box_blk {P : Program} {ops : Array Oper} {rest : List Oper} {o : Oper} {a : Act} {w : World} {Q : Exit → Act → World → Prop} (hgd : o.guard = none) (ty : TypeId) (x : Operand) (ho : o.op = .box ty x)
    (cells : Array Value) (hx : a.eval x = .agg cells)
    (h : ∀ w', Blk w' w.heap.size ty cells.toList → Below w.heap.size w w' → w.heap.size < w'.heap.size → wpList P ops Q rest (a.put o.dst (.pointer (some ⟨w.heap.size, 0, none⟩))) w') : wpList P ops Q (o :: rest) a w := by
  refine wpList_plain hgd fun K hK => ?_
  unfold Oper.wp execOp
  simp [ho, hx]
  exact hK _ _ (h _ (Blk.new w cells ty) ((Below.refl _ _).alloc (Nat.le_refl _) _) (by simp))
theorem wpList_box_tab {P : Program} {ops : Array Oper} {rest : List Oper} {o : Oper} {a : Act} {w : World} {Q : Exit → Act → World → Prop} (hgd : o.guard = none) (ty : TypeId) (x : Operand) (ho : o.op = .box ty x)
    (n : Nat) (f : Nat → Value) (hx : a.eval x = .agg (tab n f).toArray)
    (h : ∀ w', Blk w' w.heap.size ty (tab n f) → Below w.heap.size w w' → w.heap.size < w'.heap.size → wpList P ops Q rest (a.put o.dst (.pointer (some ⟨w.heap.size, 0, none⟩))) w') : wpList P ops Q (o :: rest) a w :=
  wpList_box_blk hgd ty x ho (tab n f).toArray hx fun w' h1 h2 h3 => h w' h1 h2 h3
end Go.Proofs.YtlmefcepdadfjaaGreat
/- Slices of the call's own, more: append of what is read, new rows. No program is named here. -/
namespace Go.Proofs.YtlmefcepdadfjaaGreat
open Go.RowKit

theorem run_append_nil {P : Program} (w : World) (t ty e : TypeId) (i : TypeInfo) (z : Value) (ht : P.underlying t = some (.slice e)) (hi : P.info? e = some i) (hz : i.zero = some z) (ao : Option Addr) (n cap : Nat) (hc : n ≤ cap) :
    (Builtin.append_ #[t, t] ty #[.slice ao n cap, .slice none 0 0]).run P w = .ok (.slice ao n cap) w := by
  simp [Builtin.append_, run_underlying ht, sizeOf, typeInfo, zeroValue, hi, hz, Builtin.lenOf, hc, Builtin.firstCells]
  cases ao <;> simp [storeCells]
theorem wpList_append_nil {P : Program} (w : World) {ops : Array Oper} {rest : List Oper} {o : Oper} {a : Act} {Q : Exit → Act → World → Prop}
    (hgd : o.guard = none) (s x : Operand) (t : TypeId) (hop : o.op = Op.call { callee := Callee.builtin Builtin.append, args := #[s, x], argTypes := #[t, t] })
    (base e : Nat) (z : Value) (bytes : Nat) (ht : P.underlying t = some (.slice e)) (hinf : (P.info? e).map (fun i => (i.zero, i.size, i.bytes)) = some (some z, 1, bytes))
    (v : Value) (n : Nat) (xs : List Value) (hs : a.eval s = v) (hown : w.ownsRow base e 1 v n xs) (hx : a.eval x = .slice none 0 0)
    (hK : wpList P ops Q rest (a.put o.dst v) w) : wpList P ops Q (o :: rest) a w := by
  obtain ⟨i, hi, hz0, hz1, hz2⟩ := info_parts hinf
  have hr : (Builtin.append_ #[t, t] o.type #[v, .slice none 0 0]).run P w = .ok v w := by
    rcases hown.2 with ⟨rfl, rfl⟩ | ⟨g, cap, cur, rfl, _, _, hc, _⟩
    · exact run_append_nil w t o.type e i z ht hi hz0 none 0 0 (Nat.le_refl _)
    · exact run_append_nil w t o.type e i z ht hi hz0 _ n cap hc
  refine wpList_plain hgd fun K hK' => ?_
  unfold Oper.wp execOp
  simp only [hop, resolve, invoke, builtin, Sem.run_bind, Sem.run_pure, Result.andThen_ok, List.map_toArray, List.map_cons, List.map_nil, hs, hx, hr]
  exact hK' _ _ hK
theorem Rd.of_blk {w : World} {g : Nat} {e : TypeId} {xs : List Value} (h : Blk w g e xs) (hl : xs.length ≤ maxLen) : Rd w (some ⟨g, 0, none⟩) xs :=
  ⟨hl, fun _ => ⟨g, 0, rfl, h.lt, fun j _ => by rw [Nat.zero_add]; exact h.cell j⟩⟩
theorem wpList_append_rd {P : Program} (w : World) {ops : Array Oper} {rest : List Oper} {o : Oper} {a : Act} {Q : Exit → Act → World → Prop}
    (hgd : o.guard = none) (s x : Operand) (t : TypeId) (hop : o.op = Op.call { callee := Callee.builtin Builtin.append, args := #[s, x], argTypes := #[t, t] })
    (base e : Nat) (z : Value) (bytes : Nat) (ht : P.underlying t = some (.slice e)) (hinf : (P.info? e).map (fun i => (i.zero, i.size, i.bytes)) = some (some z, 1, bytes)) (hz : z.cells.size = 1)
    (v : Value) (n : Nat) (xs : List Value) (hs : a.eval s = v) (hown : w.ownsRow base e 1 v n xs) (ao : Option Addr) (m c : Nat) (ys : List Value) (hx : a.eval x = .slice ao m c) (hm : ys.length = m) (hr : Rd w ao ys) (hc : ao = none → c = 0) (h1 : ∀ u ∈ ys, u.oneCell' = true)
    (h63 : n + m ≤ maxLen) (hbytes : (n + m) * bytes ≤ 140737488355328) (hbase : base ≤ w.heap.size)
    (hK : ∀ v' w', w'.ownsRow base e 1 v' (n + m) (xs ++ ys) → Below base w w' → w.grownBy w' v.ownBlock → wpList P ops Q rest (a.put o.dst v') w') : wpList P ops Q (o :: rest) a w := by
  obtain ⟨i, hi, hz0, hz1, hz2⟩ := info_parts hinf
  have hrow : ∀ k, v.ownBlock = some k → base ≤ k := fun k hk => (hown.lt k hk).1
  cases ao with
  | none =>
    have h0 : ys = [] := by
      cases ys with
      | nil => rfl
      | cons y ys =>
        obtain ⟨g, off, h, _⟩ := hr.2 (by simp)
        simp at h
    subst h0
    obtain rfl : m = 0 := by simpa using hm.symm
    obtain rfl := hc rfl
    refine wpList_append_nil w hgd s x t hop base e z bytes ht hinf v n xs hs hown hx (hK v w ?_ (Below.refl _ _) (World.grownBy.refl w _))
    simpa using hown
  | some ad =>
    refine wpList_append_own w hgd s x t hop base e i z 1 bytes ht hi hz0 hz1 hz2 hz (by omega) v n xs hs hown ad m c ys hx (by omega)
      (fun j y hj => ?_) h1 h63 hbytes hbase ?_
    · have hjl : j < ys.length := (List.getElem?_eq_some_iff.1 hj).1
      obtain ⟨g, off, h, _, h3⟩ := hr.2 (by omega)
      simp only [Option.some.injEq] at h
      subst h
      rw [Addr.add_lit, h3 j hjl]
      exact hj
    · intro v' w' h1 h2 _
      exact hK v' w' h1 ((Below.refl base w).grown h2 hbase hrow) h2
theorem owns_congr {w : World} {B e sz n : Nat} {v : Value} {xs ys : List Value} (h : w.ownsRow B e sz v n xs) (he : xs = ys) : w.ownsRow B e sz v n ys := he ▸ h
theorem owns_new (w : World) (cur : Array Value) (e B : Nat) (hB : B ≤ w.heap.size) (hm : cur.size ≤ maxLen) : (w.alloc (.cells cur e)).ownsRow B e 1 (.slice (some ⟨w.heap.size, 0, none⟩) cur.size cur.size) cur.size cur.toList :=
  ⟨by simp, .inr ⟨w.heap.size, cur.size, cur, rfl, hB, heap_alloc_new w _, Nat.le_refl _, hm, by simp, by rw [Nat.mul_one]; exact List.take_of_length_le (by simp)⟩⟩
theorem owns_new' (w : World) (cur : Array Value) (e B g n : Nat) (hg : w.heap.size = g) (hn : cur.size = n) (hB : B ≤ g) (hm : n ≤ maxLen) : (w.alloc (.cells cur e)).ownsRow B e 1 (.slice (some ⟨g, 0, none⟩) n n) n cur.toList := by
  subst hg; subst hn; exact owns_new w cur e B hB hm
theorem blk_new' (w : World) (cur : Array Value) (e g : Nat) (hg : w.heap.size = g) : Blk (w.alloc (.cells cur e)) g e cur.toList := by
  subst hg; exact Blk.new w cur e
theorem owns_form {w : World} {B e n : Nat} {v : Value} {xs : List Value} (h : w.ownsRow B e 1 v n xs) (hn : 0 < n) : ∃ g cap, v = .slice (some ⟨g, 0, none⟩) n cap ∧ B ≤ g ∧ g < w.heap.size ∧ n ≤ cap ∧ cap ≤ maxLen ∧ (∀ j, j < n → w.cell? ⟨g, j, none⟩ = xs[j]?) ∧ ∀ j, w.frozen? ⟨g, j, none⟩ = false := by
  have h0 := h
  rcases h.2 with ⟨_, h2⟩ | ⟨g, cap, cur, rfl, hb, hh, hnc, hcm, _⟩
  · omega
  · exact ⟨g, cap, rfl, hb, (Array.getElem?_eq_some_iff.1 hh).1, hnc, hcm, fun j hj => h0.cellAt j (by omega), fun j => h0.frozenAt j⟩
theorem grown_below {B g : Nat} {w w' : World} (h : w.grownBy w' (some g)) (hB : B ≤ g) (hw : B ≤ w.heap.size) : Below B w w' :=
  ⟨h.os, h.tape, h.output, h.size, fun k hk => h.block k (by omega) (fun e => by injection e; omega)⟩
end Go.Proofs.YtlmefcepdadfjaaGreat
/- A region that draws its order, by what holds behind each of its operations: one proof an operation, none an order. No program is named here. -/
namespace Go.Proofs.YtlmefcepdadfjaaGreat
open Go.RowKit

theorem mem_ready' {md : Region.Mode} {ops : Array Oper} {listed : Array Bool} {i : Nat} (h : i ∈ Region.ready md ops listed) :
    i < ops.size ∧ listed.getD i true = false ∧ ∃ o, ops[i]? = some o ∧ ∀ e ∈ o.after, Region.binds md e = true → listed.getD e.on false = true := by
  unfold Region.ready at h
  rw [List.mem_filter, List.mem_range] at h
  obtain ⟨h1, h2⟩ := h
  simp only [Bool.and_eq_true, Bool.not_eq_true'] at h2
  obtain ⟨h2, h3⟩ := h2
  have ho : ops[i]? = some ops[i] := Array.getElem?_eq_getElem h1
  rw [ho] at h3
  simp only [Option.map_some, Option.getD_some, Array.all_eq_true'] at h3
  refine ⟨h1, h2, _, ho, fun e he hb => ?_⟩
  have := h3 e he
  simpa [hb] using this
def upward (md : Region.Mode) (ops : Array Oper) : Bool := (List.range ops.size).all fun i => ((ops[i]?).map (·.after.all fun e => !Region.binds md e || decide (e.on < i))).getD true
theorem ready_nil {md : Region.Mode} {ops : Array Oper} {listed : Array Bool} (hu : upward md ops = true) (hs : listed.size = ops.size) (h : Region.ready md ops listed = []) : ∀ i, i < ops.size → listed.getD i false = true := by
  intro i
  induction i using Nat.strongRecOn with
  | _ i ih =>
    intro hi
    cases hl : listed.getD i false with
    | true => rfl
    | false =>
      exfalso
      have ho : ops[i]? = some ops[i] := Array.getElem?_eq_getElem hi
      have hup := List.all_eq_true.1 hu i (List.mem_range.2 hi)
      rw [ho] at hup
      simp only [Option.map_some, Option.getD_some, Array.all_eq_true'] at hup
      have : i ∈ Region.ready md ops listed := by
        unfold Region.ready
        rw [List.mem_filter, List.mem_range]
        refine ⟨hi, ?_⟩
        rw [ho]
        simp only [Bool.and_eq_true, Bool.not_eq_true', Option.map_some, Option.getD_some, Array.all_eq_true']
        refine ⟨?_, fun e he => ?_⟩
        · have hlt : i < listed.size := by omega
          simp [hlt] at hl ⊢
          exact hl
        · have := hup e he
          simp only [Bool.or_eq_true, Bool.not_eq_true', decide_eq_true_eq] at this ⊢
          rcases this with h1 | h1
          · exact .inl h1
          · exact .inr (ih e.on h1 (by omega))
      rw [h] at this
      cases this
def setL (L : Nat → Bool) (i : Nat) : Nat → Bool := fun j => if j = i then true else L j
theorem getD_set {listed : Array Bool} {i : Nat} (hi : i < listed.size) : (fun j => (listed.setIfInBounds i true).getD j false) = setL (fun j => listed.getD j false) i := by
  funext j
  unfold setL
  by_cases h : j = i
  · subst h; simp [hi]
  · rw [if_neg h]
    by_cases hj : j < listed.size
    · simp [hj, Ne.symm h]
    · simp [hj]
def unlisted (listed : Array Bool) : Nat := (listed.toList.filter (! ·)).length
theorem filter_set (l : List Bool) : ∀ (i : Nat), l[i]? = some false → ((l.set i true).filter (! ·)).length + 1 = (l.filter (! ·)).length := by
  induction l with
  | nil => intro i h; simp at h
  | cons b l ih =>
    intro i h
    cases i with
    | zero => simp at h; subst h; simp
    | succ i =>
      simp at h
      have := ih i h
      cases b <;> simp_all
theorem unlisted_set {listed : Array Bool} {i : Nat} (h : listed.getD i true = false) : unlisted (listed.setIfInBounds i true) + 1 = unlisted listed := by
  unfold unlisted
  have hi : listed.toList[i]? = some false := by
    by_cases hlt : i < listed.size
    · simp [hlt] at h ⊢; exact h
    · simp [hlt] at h
  rw [Array.toList_setIfInBounds]
  exact filter_set _ i hi
theorem unlisted_zero {listed : Array Bool} (h : unlisted listed = 0) (i : Nat) (hi : i < listed.size) : listed.getD i true = true := by
  unfold unlisted at h
  have h1 := List.eq_nil_of_length_eq_zero h
  rw [List.filter_eq_nil_iff] at h1
  have h2 := h1 listed[i] (by simp)
  simpa [hi] using h2
theorem unlisted_replicate (n : Nat) : unlisted (Array.replicate n false) = n := by
  unfold unlisted
  rw [Array.toList_replicate]
  induction n with
  | zero => rfl
  | succ n ih => simp [List.replicate_succ]
section
variable {P : Program} {ops : Array Oper} {Q : Exit → Act → World → Prop} {md : Region.Mode}
theorem wpAny_inv (hu : upward md ops = true) (I : (Nat → Bool) → Act → World → Prop)
    (hstep : ∀ (L : Nat → Bool) (a : Act) (w : World) (i : Nat) (o : Oper), I L a w → ops[i]? = some o → L i = false → (∀ e ∈ o.after, Region.binds md e = true → L e.on = true) → wpOp P ops Q i (I (setL L i)) a w)
    (hdone : ∀ (L : Nat → Bool) (a : Act) (w : World), I L a w → (∀ i, i < ops.size → L i = true) → Q .normal a w) :
    ∀ (fuel : Nat) (listed : Array Bool) (a : Act) (w : World), listed.size = ops.size → unlisted listed = fuel → I (fun i => listed.getD i false) a w → wpAny P md ops Q fuel listed a w
  | 0, listed, a, w, hs, hf, hI => by
    have hr : Region.ready md ops listed = [] := by
      rw [List.eq_nil_iff_forall_not_mem]
      intro i hi
      obtain ⟨h1, h2, _⟩ := mem_ready' hi
      rw [unlisted_zero hf i (by omega)] at h2
      cases h2
    exact ⟨hr, hdone _ _ _ hI (ready_nil hu hs hr)⟩
  | fuel + 1, listed, a, w, hs, hf, hI => by
    refine ⟨fun hr => hdone _ _ _ hI (ready_nil hu hs hr), fun i hi => ?_⟩
    obtain ⟨h1, h2, o, ho, h3⟩ := mem_ready' hi
    have hlt : i < listed.size := by omega
    have h2' : listed.getD i false = false := by simp [hlt] at h2 ⊢; exact h2
    refine wpOp_mono (fun a' w' hI' => ?_) (hstep _ a w i o hI ho h2' h3)
    refine wpAny_inv hu I hstep hdone fuel _ a' w' (by simp [hs]) (by have := unlisted_set h2; omega) ?_
    rw [getD_set hlt]
    exact hI'
theorem wp_region_inv {id : Nat} {a : Act} {w : World} (hm : P.follows .mixedOrders = true) (hu : upward .any ops = true) (I : (Nat → Bool) → Act → World → Prop)
    (h0 : I (fun _ => false) a w.drew)
    (hstep : ∀ (L : Nat → Bool) (a : Act) (w : World) (i : Nat) (o : Oper), I L a w → ops[i]? = some o → L i = false → (∀ e ∈ o.after, Region.binds .any e = true → L e.on = true) → wpOp P ops Q i (I (setL L i)) a w)
    (hdone : ∀ (L : Nat → Bool) (a : Act) (w : World), I L a w → (∀ i, i < ops.size → L i = true) → Q .normal a w) : (Code.region id ops true).wp P Q a w := by
  refine wp_region_any hm (wpAny_inv hu I hstep hdone _ _ _ _ (by simp) (unlisted_replicate _) ?_)
  have : (fun i => (Array.replicate ops.size false).getD i false) = fun _ => false := by
    funext i
    by_cases h : i < ops.size <;> simp [h]
  rw [this]
  exact h0
theorem wpOp_of {i : Nat} {o : Oper} {K : Act → World → Prop} {a : Act} {w : World} (ho : ops[i]? = some o) (hg : o.guard = none) (h : o.wp P a w K Q) : wpOp P ops Q i K a w := by
  unfold wpOp
  rw [ho]
  have hw : Region.wanted o (yielded ops a.tmps) = true := by simp [Region.wanted, hg]
  simp only [hw, if_true]
  exact .inl h
end
structure FrameI (A : Array Value) (D : List Nat) (a : Act) : Prop where
  size : a.tmps.size = A.size
  defers : a.defers = []
  keep : ∀ s, s ∉ D → a.tmps.getD s undef = A.getD s undef
theorem FrameI.refl (A : Array Value) (D : List Nat) : FrameI A D ⟨A, []⟩ := ⟨rfl, rfl, fun _ _ => rfl⟩
theorem put_getD (a : Act) (d : Nat) (v : Value) (s : Nat) (hd : d < a.tmps.size) : (a.put (some d) v).tmps.getD s undef = if s = d then v else a.tmps.getD s undef := by
  unfold Act.put
  by_cases h : s = d
  · subst h; simp [hd]
  · simp only [h, if_false]
    by_cases hs : s < a.tmps.size
    · simp [hs, Ne.symm h]
    · simp [hs]
theorem FrameI.put {A : Array Value} {D : List Nat} {a : Act} (h : FrameI A D a) {d : Nat} (hd : d ∈ D) (v : Value) : FrameI A D (a.put (some d) v) := by
  refine ⟨by simp [Act.put, h.size], h.defers, fun s hs => ?_⟩
  have hne : s ≠ d := fun e => hs (e ▸ hd)
  rw [← h.keep s hs]
  unfold Act.put
  by_cases hlt : s < a.tmps.size
  · simp [hlt, Ne.symm hne]
  · simp [hlt]
def putAll (A : Array Value) : List (Nat × Value) → Array Value
  | [] => A
  | (s, v) :: r => (putAll A r).setIfInBounds s v
theorem putAll_size (A : Array Value) (r : List (Nat × Value)) : (putAll A r).size = A.size := by
  induction r with
  | nil => rfl
  | cons x r ih => simp [putAll, ih]
theorem putAll_get (A : Array Value) : ∀ (r : List (Nat × Value)) (s : Nat), (∀ x ∈ r, x.1 < A.size) → (putAll A r).getD s undef = ((r.find? (·.1 == s)).map (·.2)).getD (A.getD s undef)
  | [], s, _ => by simp [putAll]
  | (t, v) :: r, s, h => by
    have ht : t < A.size := h (t, v) (by simp)
    have ih := putAll_get A r s (fun x hx => h x (by simp [hx]))
    simp only [putAll, List.find?_cons]
    by_cases e : t = s
    · subst e; simp [putAll_size, ht]
    · have e' : (t == s) = false := by simpa using e
      rw [e', ← ih]
      by_cases hs : s < (putAll A r).size
      · simp [hs, e]
      · simp [hs]
theorem FrameI.eq {A : Array Value} {D : List Nat} {a : Act} (h : FrameI A D a) (r : List (Nat × Value)) (hr : ∀ x ∈ r, x.1 < A.size ∧ a.tmps.getD x.1 undef = x.2) (hD : ∀ s ∈ D, (r.find? (·.1 == s)).isSome = true) : a = ⟨putAll A r, []⟩ := by
  obtain ⟨tm, df⟩ := a
  have hd := h.defers
  have hs := h.size
  dsimp only at hd hs hr
  subst hd
  congr 1
  have hget : ∀ s, tm.getD s undef = (putAll A r).getD s undef := by
    intro s
    rw [putAll_get A r s (fun x hx => (hr x hx).1)]
    cases hf : r.find? (·.1 == s) with
    | none =>
      have : s ∉ D := fun hs' => by have := hD s hs'; rw [hf] at this; cases this
      exact h.keep s this
    | some x =>
      have h1 := List.mem_of_find?_eq_some hf
      have h2 := List.find?_some hf
      have h3 : x.1 = s := by simpa using h2
      rw [← h3]
      exact (hr x h1).2
  apply Array.ext
  · rw [hs, putAll_size]
  · intro i h1 h2
    have := hget i
    simpa [h1, h2] using this
end Go.Proofs.YtlmefcepdadfjaaGreat
/- Laws at one operation of a region that draws its order. No program is named here. -/
namespace Go.Proofs.YtlmefcepdadfjaaGreat
open Go.RowKit

section
variable {P : Program} {o : Oper} {a : Act} {w : World} {K : Act → World → Prop} {Q : Exit → Act → World → Prop}
theorem wp_call (f : Nat) (args : Array Operand) (tys : Array TypeId) (ho : o.op = Op.call { callee := Callee.value (Operand.func f), args := args, argTypes := tys }) (fn : Func) (hf : P.funcs[f]? = some fn) (hn : (fn.name == "runtime.NumGoroutine") = false) (hbo : fn.body.isNone = false) (vs : Array Value) (hv : args.map a.eval = vs)
    (h : Calls P f vs w fun e w' => ∃ u, e = .returned u ∧ K (a.put o.dst u) w') : o.wp P a w K Q := by
  unfold Oper.wp execOp
  subst hv
  simp only [ho, resolve, invoke, Sem.run_bind, Act.eval, Oper.upon]
  simp only [Deferred.ofValue, callFunc, Sem.run_bind, Sem.run_pure, Result.andThen_ok, Array.append_empty, Array.empty_append, run_program, hf, hn, hbo, Bool.false_eq_true, if_false]
  refine Calls.mono h fun e w' he => ?_
  obtain ⟨u, rfl, hk⟩ := he
  exact hk
theorem wp_move (x : Operand) (ho : o.op = .move x) (h : K (a.put o.dst (a.eval x)) w) : o.wp P a w K Q := by
  unfold Oper.wp execOp
  simp only [ho, Sem.run_pure, Oper.upon]
  exact h
theorem wp_alloc_blk (ty : TypeId) (ho : o.op = .alloc ty) (z : Value) (hz : (P.info? ty).map (·.zero) = some (some z))
    (h : ∀ w', Blk w' w.heap.size ty z.cells.toList → Below w.heap.size w w' → w.heap.size < w'.heap.size → K (a.put o.dst (.pointer (some ⟨w.heap.size, 0, none⟩))) w') : o.wp P a w K Q := by
  obtain ⟨i, hi, hzz⟩ := Option.map_eq_some_iff.1 hz
  unfold Oper.wp execOp
  simp [ho, Instr.alloc, zeroValue, typeInfo, hi, hzz, newVar, newRow]
  exact h _ (Blk.new w z.cells ty) ((Below.refl _ _).alloc (Nat.le_refl _) _) (by simp)
theorem wp_load_agg (ty : TypeId) (x : Operand) (ho : o.op = .load ty x)
    (g off e : Nat) (hx : a.eval x = .pointer (some ⟨g, off, none⟩)) (cs : List Value) (n : Nat) (d : TypeDesc) (hb : Blk w g e cs)
    (hu : P.underlying ty = some d) (hd : (match d with | .struct _ | .array _ _ => true | _ => false) = true) (hi : (P.info? ty).map (·.size) = some n) (hn : off + n ≤ cs.length)
    (h : K (a.put o.dst (.agg ((cs.drop off).take n).toArray)) w) : o.wp P a w K Q := by
  unfold Oper.wp execOp
  simp only [ho, hx, Instr.loadAt, Instr.sureAddr, Sem.run_bind, Sem.run_pure, Result.andThen_ok, run_loadVar_blk w g off e ty cs n d hb hu hd hi hn]
  exact h
theorem wp_load_tab (ty : TypeId) (x : Operand) (ho : o.op = .load ty x)
    (g e : Nat) (hx : a.eval x = .pointer (some ⟨g, 0, none⟩)) (n : Nat) (f : Nat → Value) (d : TypeDesc) (hb : Blk w g e (tab n f))
    (hu : P.underlying ty = some d) (hd : (match d with | .struct _ | .array _ _ => true | _ => false) = true) (hi : (P.info? ty).map (·.size) = some n)
    (h : K (a.put o.dst (.agg (tab n f).toArray)) w) : o.wp P a w K Q := by
  refine wp_load_agg ty x ho g 0 e hx (tab n f) n d hb hu hd hi (by rw [tab_length]; omega) ?_
  rw [List.drop_zero, List.take_of_length_le (by rw [tab_length]; omega)]
  exact h
theorem wp_store_agg (ty : TypeId) (x y : Operand) (ho : o.op = .store ty x y)
    (g off e : Nat) (cells : Array Value) (hx : a.eval x = .pointer (some ⟨g, off, none⟩)) (hy : a.eval y = .agg cells)
    (cs : List Value) (hb : Blk w g e cs) (hi : (P.info? ty).map (·.size) = some cells.size) (hn : off + cells.size ≤ cs.length) (h1 : ∀ v ∈ cells.toList, v.oneCell' = true)
    (h : ∀ w', Blk w' g e (cs.take off ++ cells.toList ++ cs.drop (off + cells.size)) → Only g w w' → K (a.put o.dst undef) w') : o.wp P a w K Q := by
  obtain ⟨w', hr, hb', hoo⟩ := run_storeVar_blk (P := P) w g off e ty cs cells hb hi hn h1
  unfold Oper.wp execOp
  simp only [ho, hx, hy, Instr.storeAt, Instr.sureAddr, Sem.run_bind, Sem.run_pure, Result.andThen_ok, hr]
  exact h w' hb' hoo
theorem wp_store_tab (ty : TypeId) (x y : Operand) (ho : o.op = .store ty x y)
    (g e n : Nat) (f f0 : Nat → Value) (hx : a.eval x = .pointer (some ⟨g, 0, none⟩)) (hy : a.eval y = .agg (tab n f).toArray)
    (hb : Blk w g e (tab n f0)) (hi : (P.info? ty).map (·.size) = some n) (h1 : ∀ j, (f j).oneCell' = true)
    (h : ∀ w', Blk w' g e (tab n f) → Only g w w' → K (a.put o.dst undef) w') : o.wp P a w K Q := by
  have hs : (tab n f).toArray.size = n := by rw [List.size_toArray, tab_length]
  refine wp_store_agg ty x y ho g 0 e _ hx hy (tab n f0) hb (by rw [hs]; exact hi) (by rw [hs, tab_length]; omega) (oneCell_tab h1) fun w' hb' ho' => h w' (hb'.congr ?_) ho'
  rw [hs, List.take_zero, List.nil_append, Nat.zero_add, List.drop_of_length_le (by rw [tab_length]; omega), List.append_nil]
end
end Go.Proofs.YtlmefcepdadfjaaGreat
/- Slots and variables of a drawn region, in its midst. No program is named here. -/
namespace Go.Proofs.YtlmefcepdadfjaaGreat
open Go.RowKit

theorem wp_region_inv2 {P : Program} {ops : Array Oper} {Q : Exit → Act → World → Prop} {id : Nat} {a : Act} {w : World} (hm : P.follows .mixedOrders = true) (hu : upward .any ops = true) (I : Array Value → (Nat → Bool) → Act → World → Prop)
    (h0 : I a.tmps (fun _ => false) a w.drew)
    (hstep : ∀ (L : Nat → Bool) (a' : Act) (w : World) (i : Nat) (o : Oper), I a.tmps L a' w → ops[i]? = some o → L i = false → (∀ e ∈ o.after, Region.binds .any e = true → L e.on = true) → wpOp P ops Q i (I a.tmps (setL L i)) a' w)
    (hdone : ∀ (L : Nat → Bool) (a' : Act) (w : World), I a.tmps L a' w → (∀ i, i < ops.size → L i = true) → Q .normal a' w) : (Code.region id ops true).wp P Q a w :=
  wp_region_inv hm hu (I a.tmps) h0 hstep hdone
theorem imp_set {L : Nat → Bool} {i j : Nat} {p q : Prop} (h : L j = true → p) (hne : j ≠ i) (hpq : p → q) : setL L i j = true → q := by
  unfold setL; rw [if_neg hne]; exact fun hl => hpq (h hl)
theorem setL_ne {L : Nat → Bool} {i j : Nat} (hne : j ≠ i) : setL L i j = L j := by unfold setL; rw [if_neg hne]
theorem setL_eq {L : Nat → Bool} {i : Nat} : setL L i i = true := by unfold setL; rw [if_pos rfl]
theorem absF {p : Prop} (h : false = true) : p := by cases h
theorem slot_same {a : Act} {d : Nat} {u : Value} (hd : d < a.tmps.size) : (a.put (some d) u).tmps.getD d undef = u := by rw [put_getD a d u d hd, if_pos rfl]
theorem slot_other {a : Act} {d s : Nat} {u v : Value} (h : a.tmps.getD s undef = v) (hne : s ≠ d) : (a.put (some d) u).tmps.getD s undef = v := by
  rw [← h]
  unfold Act.put
  by_cases hs : s < a.tmps.size
  · simp [hs, Ne.symm hne]
  · simp [hs]
def Cell3 (made filled : Bool) (v : Value) (B g : Nat) (w : World) (T : TypeId) (n : Nat) (fin zero : Nat → Value) : Prop :=
  (filled = true → made = true) ∧ (made = true → v = .pointer (some ⟨g, 0, none⟩) ∧ B ≤ g ∧ (filled = true → Blk w g T (tab n fin)) ∧ (filled = false → Blk w g T (tab n zero)))
section
variable {made filled : Bool} {v : Value} {B g : Nat} {w w' : World} {T : TypeId} {n : Nat} {fin zero : Nat → Value}
theorem Cell3.start (v : Value) (B g : Nat) (w : World) (T : TypeId) (n : Nat) (fin zero : Nat → Value) : Cell3 false false v B g w T n fin zero := ⟨fun h => h, fun h => by cases h⟩
theorem Cell3.lt (h : Cell3 made filled v B g w T n fin zero) (hm : made = true) : g < w.heap.size := by
  obtain ⟨_, _, h1, h2⟩ := h.2 hm
  cases filled
  · exact (h2 rfl).lt
  · exact (h1 rfl).lt
theorem Cell3.kept (h : Cell3 made filled v B g w T n fin zero) (hb : Below w.heap.size w w') : Cell3 made filled v B g w' T n fin zero :=
  ⟨h.1, fun hm => ⟨(h.2 hm).1, (h.2 hm).2.1, fun hf => ((h.2 hm).2.2.1 hf).kept hb, fun hf => ((h.2 hm).2.2.2 hf).kept hb⟩⟩
theorem Cell3.only {g' : Nat} (h : Cell3 made filled v B g w T n fin zero) (ho : Only g' w w') (hne : made = true → g ≠ g') : Cell3 made filled v B g w' T n fin zero :=
  ⟨h.1, fun hm => ⟨(h.2 hm).1, (h.2 hm).2.1, fun hf => ho.other ((h.2 hm).2.2.1 hf) (hne hm), fun hf => ho.other ((h.2 hm).2.2.2 hf) (hne hm)⟩⟩
theorem Cell3.slot {v' : Value} (h : Cell3 made filled v B g w T n fin zero) (hv : v' = v) : Cell3 made filled v' B g w T n fin zero := hv ▸ h
theorem Cell3.new (hf : filled = false) (hv : v = .pointer (some ⟨g, 0, none⟩)) (hB : B ≤ g) (hb : Blk w g T (tab n zero)) : Cell3 true filled v B g w T n fin zero :=
  ⟨fun _ => rfl, fun _ => ⟨hv, hB, (fun h => by rw [hf] at h; cases h), fun _ => hb⟩⟩
theorem Cell3.fill (h : Cell3 made filled v B g w T n fin zero) (hm : made = true) (hb : Blk w' g T (tab n fin)) : Cell3 made true v B g w' T n fin zero :=
  ⟨fun _ => hm, fun _ => ⟨(h.2 hm).1, (h.2 hm).2.1, fun _ => hb, fun h => by cases h⟩⟩
theorem Cell3.empty (h : Cell3 made filled v B g w T n fin zero) (hm : made = false) : filled = false := by
  cases hf : filled with
  | false => rfl
  | true => have := h.1 hf; rw [hm] at this; cases this
end
end Go.Proofs.YtlmefcepdadfjaaGreat
