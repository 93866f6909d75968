/- Arguments that came in, opened by the kinds of their cells: numbers, strings, bools, slices of such rows. No program is named here. -/
import Derived.Test.YtdififdnnpgjoaaZBase
import Derived.OpenShut
import Derived.ShutString
import Derived.ChangeArms
import Derived.WideShapes
namespace Go.Proofs.Ytdififdnnpgjoaa
open Go.RowKit Go.ChangeShapes Go.WideShapes

/-- The kind of one cell. -/
inductive CK where
  | int (k : IntKind)
  | str
  | bool
  | slice (e : TypeId)
deriving DecidableEq
def arrK : Nat → List CK → List CK
  | 0, _ => []
  | n + 1, ks => ks ++ arrK n ks
theorem arrK_length (n : Nat) (ks : List CK) : (arrK n ks).length = n * ks.length := by
  induction n with
  | zero => simp [arrK]
  | succ n ih => simp [arrK, ih, Nat.succ_mul, Nat.add_comm]
mutual
/-- The kinds of the cells of a type. -/
def kindsOf (P : Program) : Nat → TypeId → Option (List CK)
  | 0, _ => none
  | d + 1, t => match P.underlying t with
    | some (.int k) => some [.int k]
    | some .string => some [.str]
    | some .bool => some [.bool]
    | some (.slice e) => some [.slice e]
    | some (.struct fs) => match fieldsK P d fs.toList 0 with
      | some ks => if P.cellsOf t = ks.length then some ks else none
      | none => none
    | some (.array n e) => match kindsOf P d e with
      | some ks => if P.cellsOf e = ks.length ∧ P.cellsOf t = n * ks.length then some (arrK n ks) else none
      | none => none
    | _ => none
def fieldsK (P : Program) : Nat → List Field → Nat → Option (List CK)
  | 0, _, _ => none
  | _ + 1, [], _ => some []
  | d + 1, f :: fs, off => match kindsOf P d f.type with
    | some ks => if f.offset = off ∧ P.cellsOf f.type = ks.length then (fieldsK P d fs (off + ks.length)).map (ks ++ ·) else none
    | none => none
end
/-- A slice's cells in memory. -/
def RdM (w : World) (ao : Option Addr) (xs : List Value) : Prop :=
  0 < xs.length → ∃ g off, ao = some ⟨g, off, none⟩ ∧ g < w.heap.size ∧ ∀ j, j < xs.length → w.cell? ⟨g, off + j, none⟩ = xs[j]?
/-- One cell fits its kind. -/
def FitK (P : Program) (w : World) : Nat → CK → Value → Prop
  | _, .int k, v => ∃ n, v = .int k n ∧ (Lit.int k n).wf = true
  | _, .str, v => ∃ s : ByteArray, v = .string s ∧ s.size ≤ maxLen
  | _, .bool, v => ∃ b, v = .bool b
  | 0, .slice _, _ => True
  | d + 1, .slice e, v => ∃ (ao : Option Addr) (n cap : Nat), v = .slice ao n cap ∧ n ≤ cap ∧ cap ≤ maxLen ∧ ∀ ks, kindsOf P 40 e = some ks → P.cellsOf e = ks.length →
      ∃ xs : List Value, xs.length = n * ks.length ∧ RdM w ao xs ∧ ∀ i j k x, i < n → ks[j]? = some k → xs[i * ks.length + j]? = some x → FitK P w d k x
def FitR (P : Program) (w : World) (d : Nat) (ks : List CK) (cs : List Value) : Prop := cs.length = ks.length ∧ ∀ (i : Nat) k v, ks[i]? = some k → cs[i]? = some v → FitK P w d k v
theorem FitR.append {P : Program} {w : World} {d : Nat} {k1 k2 : List CK} {c1 c2 : List Value} (h1 : FitR P w d k1 c1) (h2 : FitR P w d k2 c2) : FitR P w d (k1 ++ k2) (c1 ++ c2) := by
  refine ⟨by simp [h1.1, h2.1], fun i k v hk hv => ?_⟩
  by_cases hi : i < k1.length
  · rw [List.getElem?_append_left hi] at hk
    rw [List.getElem?_append_left (by rw [h1.1]; exact hi)] at hv
    exact h1.2 i k v hk hv
  · rw [List.getElem?_append_right (by omega)] at hk
    rw [List.getElem?_append_right (by rw [h1.1]; omega), h1.1] at hv
    exact h2.2 _ k v hk hv
section
variable {H : Type} {enc : TypeId × Value → H} {P : Program} {w : World} {base : Nat} {spare : Nat → Bool} {held : Bool}

theorem fitR_array (c : Nat) (ks : List CK) (hc : c = ks.length) (D : Nat) : ∀ (n : Nat) (cs : List Value), cs.length = n * c → (∀ i, i < n → FitR P w D ks ((cs.drop (i * c)).take c)) → FitR P w D (arrK n ks) cs
  | 0, cs, hl, _ => by
    have : cs = [] := List.eq_nil_of_length_eq_zero (by simpa using hl)
    subst this
    exact ⟨rfl, fun i k v hk hv => by simp at hv⟩
  | n + 1, cs, hl, h => by
    have h0 := h 0 (by omega)
    simp only [Nat.zero_mul, List.drop_zero] at h0
    have hr := fitR_array c ks hc D n (cs.drop c) (by rw [List.length_drop, hl, Nat.succ_mul]; omega) (fun i hi => by
      have := h (i + 1) (by omega)
      rw [List.drop_drop, show c + i * c = (i + 1) * c by rw [Nat.succ_mul]; omega]
      exact this)
    have := h0.append hr
    rw [List.take_append_drop] at this
    exact this
theorem fitR_fields (D : Nat) (F : TypeId → List Value → Prop) : ∀ (d : Nat) (hF : ∀ d' t cs ks, d' < d → F t cs → kindsOf P d' t = some ks → FitR P w D ks cs) (fs : List Field) (off : Nat) (ks : List CK) (cs : List Value), fieldsK P d fs off = some ks →
    cs.length = off + ks.length → (∀ f ∈ fs, F f.type ((cs.drop f.offset).take (P.cellsOf f.type))) → FitR P w D ks (cs.drop off)
  | 0, _, fs, off, ks, cs, h, _, _ => by simp [fieldsK] at h
  | d + 1, _, [], off, ks, cs, h, hl, _ => by
    simp [fieldsK] at h
    subst h
    refine ⟨by simp; simp at hl; omega, fun i k v hk hv => by simp at hk⟩
  | d + 1, hF, f :: fs, off, ks, cs, h, hl, hf => by
    simp only [fieldsK] at h
    split at h
    · rename_i k1 hk1
      split at h
      · rename_i hcond
        obtain ⟨rfl, hc⟩ := hcond
        obtain ⟨k2, hk2, rfl⟩ := Option.map_eq_some_iff.1 h
        have h1 := hF d f.type _ k1 (by omega) (hf f (by simp)) hk1
        have h2 := fitR_fields D F d (fun d' t cs ks hd => hF d' t cs ks (by omega)) fs _ k2 cs hk2 (by rw [List.length_append] at hl; omega) (fun f' hf' => hf f' (by simp [hf']))
        have := h1.append h2
        rw [hc, show cs.drop (f.offset + k1.length) = (cs.drop f.offset).drop k1.length by rw [List.drop_drop], List.take_append_drop] at this
        exact this
      · simp at h
    · simp at h
theorem fitR_one {D : Nat} {k : CK} {v : Value} (h : FitK P w D k v) : FitR P w D [k] [v] := by
  refine ⟨rfl, fun i k' v' h1 h2 => ?_⟩
  match i, h1, h2 with
  | 0, h1, h2 => simp at h1 h2; subst h1; subst h2; exact h
  | i + 1, h1, h2 => simp at h1
variable (enc P w base spare held) in
def Rds (t : TypeId) (cs : List Value) : Prop := ∃ n y, DataW.trod enc P w base spare held n t cs = some y
theorem fit_step (D : Nat) (hsl : ∀ t e v, P.underlying t = some (.slice e) → Rds enc P w base spare held t [v] → FitK P w D (.slice e) v) :
    ∀ (d : Nat) (t : TypeId) (cs : List Value) (ks : List CK), Rds enc P w base spare held t cs → kindsOf P d t = some ks → FitR P w D ks cs := by
  intro d
  induction d using Nat.strongRecOn with
  | _ d ihd =>
  intro t cs ks hr hk
  obtain ⟨fuel, x, h⟩ := id hr
  match d, hk, ihd with
  | 0, hk, _ => simp [kindsOf] at hk
  | d + 1, hk, ihd =>
    simp only [kindsOf] at hk
    split at hk
    · rename_i k hu
      obtain rfl : [CK.int k] = ks := by simpa using hk
      obtain ⟨n, rfl, _, hw⟩ := DataW.trod_int hu h
      exact fitR_one (by cases D <;> exact ⟨n, rfl, hw⟩)
    · rename_i hu
      obtain rfl : [CK.str] = ks := by simpa using hk
      obtain ⟨s, rfl, _, hw⟩ := DataW.trod_string hu h
      exact fitR_one (by cases D <;> exact ⟨s, rfl, hw⟩)
    · rename_i hu
      obtain rfl : [CK.bool] = ks := by simpa using hk
      obtain ⟨b, rfl, _⟩ := DataW.trod_bool hu h
      exact fitR_one (by cases D <;> exact ⟨b, rfl⟩)
    · rename_i e hu
      obtain rfl : [CK.slice e] = ks := by simpa using hk
      obtain ⟨v, rfl⟩ : ∃ v, cs = [v] := by
        rcases DataW.trod_slice hu h with ⟨rfl, _⟩ | ⟨a, len, cap, _, _, _, _, rfl, _⟩ <;> exact ⟨_, rfl⟩
      exact fitR_one (hsl t e v hu hr)
    · rename_i fs hu
      split at hk
      · rename_i k1 hf
        split at hk
        · rename_i hcell
          obtain rfl : k1 = ks := by simpa using hk
          obtain ⟨ys, n, rfl, _, hlen, hyl, hff⟩ := DataW.trod_struct hu h
          have := fitR_fields (P := P) (w := w) D (Rds enc P w base spare held) d (fun d' t cs ks hd => ihd d' (by omega) t cs ks) fs.toList 0 k1 cs hf (by rw [hlen, hcell]; omega) (fun f hfm => by
            obtain ⟨i, hi⟩ := List.getElem?_of_mem hfm
            have h1 := hff i f (by simpa using hi)
            have h2 : i < ys.length := by
              have := (List.getElem?_eq_some_iff.1 hi).1
              simp at this; omega
            rw [List.getElem?_eq_getElem h2] at h1
            exact ⟨n, _, h1⟩)
          simpa using this
        · simp at hk
      · simp at hk
    · rename_i n e hu
      split at hk
      · rename_i k1 hf
        split at hk
        · rename_i hcond
          obtain rfl : arrK n k1 = ks := by simpa using hk
          obtain ⟨ys, m, rfl, _, hlen, hyl, hff⟩ := DataW.trod_array hu h
          refine fitR_array (P.cellsOf e) k1 hcond.1 D n cs (by rw [hlen, hcond.2, hcond.1]) (fun i hi => ?_)
          have h1 := hff i hi
          rw [List.getElem?_eq_getElem (by omega)] at h1
          exact ihd d (by omega) e _ k1 ⟨m, _, h1⟩ hf
        · simp at hk
      · simp at hk
    · simp at hk
theorem row_flat (c : Nat) (f : Nat → List Value) : ∀ (n : Nat), (∀ i, i < n → (f i).length = c) → ((List.range n).flatMap f).length = n * c ∧ ∀ i j, i < n → j < c → ((List.range n).flatMap f)[i * c + j]? = (f i)[j]?
  | 0, _ => ⟨by simp, fun i j h => by omega⟩
  | n + 1, h => by
    obtain ⟨h1, h2⟩ := row_flat c f n (fun i hi => h i (by omega))
    rw [List.range_succ, List.flatMap_append]
    refine ⟨by simp [h1, h n (by omega), Nat.succ_mul], fun i j hi hj => ?_⟩
    by_cases hin : i < n
    · have hlt : i * c + j < n * c := by
        have : (i + 1) * c ≤ n * c := Nat.mul_le_mul_right c hin
        rw [Nat.succ_mul] at this; omega
      rw [List.getElem?_append_left (by rw [h1]; exact hlt)]
      exact h2 i j hin hj
    · obtain rfl : i = n := by omega
      rw [List.getElem?_append_right (by rw [h1]; omega), h1]
      simp
theorem div_mod_lt (n c j : Nat) (h : j < n * c) : j / c < n ∧ j % c < c ∧ j / c * c + j % c = j := by
  have hc : 0 < c := by
    rcases Nat.eq_zero_or_pos c with rfl | h0
    · simp at h
    · exact h0
  exact ⟨Nat.div_lt_of_lt_mul (by rw [Nat.mul_comm]; exact h), Nat.mod_lt _ hc, by rw [Nat.mul_comm]; exact Nat.div_add_mod j c⟩
theorem fit_of (D : Nat) : ∀ (d : Nat) (t : TypeId) (cs : List Value) (ks : List CK), Rds enc P w base spare held t cs → kindsOf P d t = some ks → FitR P w D ks cs := by
  induction D with
  | zero => exact fit_step 0 (fun t e v hu hr => by trivial)
  | succ D ih =>
    refine fit_step (D + 1) (fun t e v hu hr => ?_)
    obtain ⟨fuel, x, h⟩ := hr
    rcases DataW.trod_slice hu h with ⟨hcs, _⟩ | ⟨a, len, cap, elems, rest, n, _, hcs, _, hb, hl, hm, hlen, hel, _, _⟩
    · obtain rfl : v = .slice none 0 0 := by simpa using hcs
      exact ⟨none, 0, 0, rfl, Nat.le_refl _, Nat.zero_le _, fun ks _ _ => ⟨[], by simp, fun h => by simp at h, fun i j k x hi => by omega⟩⟩
    · obtain rfl : v = .slice (some a) len cap := by simpa using hcs
      refine ⟨some a, len, cap, rfl, hl, hm, fun ks hks hc => ?_⟩
      have each : ∀ i, i < len → ∃ ce y, w.cells? base (a.add (i * ks.length)) ks.length = some ce ∧ DataW.trod enc P w base spare held n e ce = some y := by
        intro i hi
        have h1 := hel i hi
        rw [List.getElem?_eq_getElem (by omega), hc, Option.bind_eq_some_iff] at h1
        obtain ⟨ce, h1, h2⟩ := h1
        exact ⟨ce, _, h1, h2⟩
      let f : Nat → List Value := fun i => if h : i < len then Classical.choose (each i h) else []
      have hf : ∀ i, i < len → w.cells? base (a.add (i * ks.length)) ks.length = some (f i) ∧ Rds enc P w base spare held e (f i) := by
        intro i hi
        have := Classical.choose_spec (each i hi)
        obtain ⟨y, h1, h2⟩ := this
        simp only [f, dif_pos hi]
        exact ⟨h1, n, y, h2⟩
      have hfl : ∀ i, i < len → (f i).length = ks.length := fun i hi => (World.cells?_some (hf i hi).1).2.1
      obtain ⟨r1, r2⟩ := row_flat ks.length f len hfl
      refine ⟨(List.range len).flatMap f, r1, ?_, ?_⟩
      · intro hpos
        rw [r1] at hpos
        obtain ⟨b, off, spot⟩ := a
        have hk0 : 0 < ks.length ∧ 0 < len := by
          constructor
          · rcases Nat.eq_zero_or_pos ks.length with h0 | h0
            · rw [h0] at hpos; simp at hpos
            · exact h0
          · rcases Nat.eq_zero_or_pos len with h0 | h0
            · rw [h0] at hpos; simp at hpos
            · exact h0
        have c0 := (World.cells?_some (hf 0 hk0.2).1).2.2 0 hk0.1
        rw [List.getElem?_eq_getElem (by rw [hfl 0 hk0.2]; exact hk0.1)] at c0
        have hspot : spot = none := by simpa [Addr.add] using World.cell?_spot c0
        subst hspot
        have hlt := block_lt_of_cell c0
        simp only [Nat.zero_mul, Addr.add_lit] at hlt
        refine ⟨b, off, rfl, hlt, fun j hj => ?_⟩
        rw [r1] at hj
        obtain ⟨q1, q2, q3⟩ := div_mod_lt len ks.length j hj
        have c1 := (World.cells?_some (hf (j / ks.length) q1).1).2.2 (j % ks.length) q2
        rw [Addr.add_lit, Addr.add_lit, Nat.add_assoc, q3] at c1
        rw [c1, ← r2 _ _ q1 q2, q3]
      · intro i j k x hi hkj hx
        have hjl : j < ks.length := (List.getElem?_eq_some_iff.1 hkj).1
        rw [r2 i j hi hjl] at hx
        exact (ih 40 e (f i) ks (hf i hi).2 hks).2 j k x hkj hx
/-- A struct or an array by value. -/
theorem open_agg (D : Nat) {r : Reach} {b0 : Nat} {t : TypeId} {v : Value} {de : DataW H} {p : List MemPlace} {td : TypeDesc} (hu : P.underlying t = some td) (hd : (match td with | .struct _ | .array _ _ => true | _ => false) = true)
    (hv : Value.okWide P w r b0 t v) (h : DataW.Trod enc P w base spare held t v de p) {ks : List CK} (hk : kindsOf P 40 t = some ks) : ∃ cs : List Value, v = .agg cs.toArray ∧ FitR P w D ks cs := by
  have : ∃ cs, v = .agg cs ∧ cs.size = P.cellsOf t := by
    cases td with
    | struct fs => exact okWide_struct hu hv
    | array n e =>
      simp only [Value.okWide, hu] at hv
      obtain ⟨cs, h1, h2, _⟩ := hv
      exact ⟨cs, h1, h2⟩
    | _ => simp at hd
  obtain ⟨cs, rfl, _⟩ := this
  obtain ⟨fuel, hf⟩ := h
  exact ⟨cs.toList, by simp, fit_of D 40 t cs.toList ks ⟨fuel, _, by simpa [Value.cells] using hf⟩ hk⟩
/-- A slice. -/
theorem open_sl (D : Nat) {r : Reach} {b0 : Nat} {t e : TypeId} {v : Value} {de : DataW H} {p : List MemPlace} (hu : P.underlying t = some (.slice e))
    (hv : Value.okWide P w r b0 t v) (h : DataW.Trod enc P w base spare held t v de p) : FitK P w D (.slice e) v := by
  obtain ⟨a, len, cap, rfl⟩ := okWide_slice hu hv
  obtain ⟨fuel, hf⟩ := h
  have hk : kindsOf P 40 t = some [.slice e] := by simp [kindsOf, hu]
  exact (fit_of D 40 t [.slice a len cap] [.slice e] ⟨fuel, _, by simpa [Value.cells] using hf⟩ hk).2 0 _ _ rfl rfl
end
section
variable {P : Program} {w : World}
theorem fitK_int {d : Nat} {k : IntKind} {v : Value} (h : FitK P w d (.int k) v) : ∃ n, v = .int k n ∧ (Lit.int k n).wf = true := by cases d <;> exact h
theorem fitK_str {d : Nat} {v : Value} (h : FitK P w d .str v) : ∃ s : ByteArray, v = .string s ∧ s.size ≤ maxLen := by cases d <;> exact h
theorem fitK_bool {d : Nat} {v : Value} (h : FitK P w d .bool v) : ∃ b, v = .bool b := by cases d <;> exact h
/-- A row of numbers of one kind. -/
theorem fitR_ints {d n : Nat} {k : IntKind} {cs : List Value} (h : FitR P w d (List.replicate n (.int k)) cs) : ∃ c : Nat → Int, cs = tab n (fun i => .int k (c i)) ∧ ∀ i, i < n → (Lit.int k (c i)).wf = true := by
  obtain ⟨hl, hf⟩ := h
  rw [List.length_replicate] at hl
  have each : ∀ i, i < n → ∃ m, cs[i]? = some (.int k m) ∧ (Lit.int k m).wf = true := by
    intro i hi
    have hc : cs[i]? = some (cs[i]'(by omega)) := List.getElem?_eq_getElem (by omega)
    obtain ⟨m, hm, hw⟩ := fitK_int (hf i (.int k) _ (by simp [List.getElem?_replicate, hi]) hc)
    exact ⟨m, by rw [hc, hm], hw⟩
  let f : Nat → Int := fun i => if h : i < n then Classical.choose (each i h) else 0
  have hc : ∀ i, i < n → cs[i]? = some (.int k (f i)) ∧ (Lit.int k (f i)).wf = true := by
    intro i hi
    simp only [f, dif_pos hi]
    exact Classical.choose_spec (each i hi)
  refine ⟨f, ?_, fun i hi => (hc i hi).2⟩
  apply List.ext_getElem?
  intro i
  by_cases hi : i < n
  · rw [tab_get _ _ _ hi, (hc i hi).1]
  · rw [List.getElem?_eq_none (by omega), List.getElem?_eq_none (by rw [tab_length]; omega)]
/-- A slice of strings. -/
theorem fitK_strs {d : Nat} {e : TypeId} {v : Value} (h : FitK P w (d + 1) (.slice e) v) (hk : kindsOf P 40 e = some [.str]) (hc : P.cellsOf e = 1) :
    ∃ (ao : Option Addr) (n cap : Nat) (ss : List ByteArray), v = .slice ao n cap ∧ n ≤ cap ∧ cap ≤ maxLen ∧ ss.length = n ∧ Rd w ao (ss.map .string) ∧ ∀ s ∈ ss, s.size ≤ maxLen := by
  obtain ⟨ao, n, cap, rfl, h1, h2, h3⟩ := h
  obtain ⟨xs, hl, hrd, hx⟩ := h3 _ hk hc
  simp at hl
  have each : ∀ i, i < n → ∃ s : ByteArray, xs[i]? = some (.string s) ∧ s.size ≤ maxLen := by
    intro i hi
    have hc : xs[i]? = some (xs[i]'(by omega)) := List.getElem?_eq_getElem (by omega)
    obtain ⟨s, hs, hw⟩ := fitK_str (hx i 0 .str _ hi rfl (by rw [show i * [CK.str].length + 0 = i by simp]; exact hc))
    exact ⟨s, by rw [hc, hs], hw⟩
  let f : Nat → ByteArray := fun i => if h : i < n then Classical.choose (each i h) else default
  have hf : ∀ i, i < n → xs[i]? = some (.string (f i)) ∧ (f i).size ≤ maxLen := by
    intro i hi
    simp only [f, dif_pos hi]
    exact Classical.choose_spec (each i hi)
  have hxs : xs = (tab n f).map .string := by
    apply List.ext_getElem?
    intro i
    by_cases hi : i < n
    · rw [(hf i hi).1, tab_map, tab_get _ _ _ hi]
    · rw [List.getElem?_eq_none (by omega), List.getElem?_eq_none (by rw [List.length_map, tab_length]; omega)]
  refine ⟨ao, n, cap, tab n f, rfl, h1, h2, tab_length _ _, ?_, ?_⟩
  · rw [← hxs]
    exact ⟨by omega, fun hp => hrd (by omega)⟩
  · intro s hs
    simp [tab] at hs
    obtain ⟨i, hi, rfl⟩ := hs
    exact (hf i hi).2
end
end Go.Proofs.Ytdififdnnpgjoaa
