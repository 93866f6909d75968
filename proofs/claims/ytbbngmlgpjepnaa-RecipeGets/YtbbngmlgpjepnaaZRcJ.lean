/- The laws of layer 16: RecipeGets, RecipePuts. -/
import Derived.Test.YtbbngmlgpjepnaaZRcI
import Derived.Test.YtbbngmlgpjepnaaZOpen
namespace Go.Proofs.Ytbbngmlgpjepnaa
open Go.RowKit

section
variable {P : Program} {A : Value → Prop} {t : Nat} {x y : Operand}
theorem SxRun.bNe {a b : Bool} (h : P.underlying t = some .bool) (hA : A (.bool (a != b))) : SxRun P (do eqGuard .neq t x y (.bool a) (.bool b); binOp .neq t (.bool a) (.bool b)) A :=
  ⟨_, fun w => by have : (Op.equal t (.bool a) (.bool b)).run P w = .ok (a == b) w := run_equalIn_bool' (P := P) w 9999 t a b h; simp [eqGuard, binOp, this, bne], hA⟩
end
theorem Rd_nil (w : World) : Rd w none ([] : List Value) := ⟨by simp [maxLen], fun h => by simp at h⟩
/-- A slice of numbers. -/
theorem fitK_nums {P : Program} {w : World} {d : Nat} {e : TypeId} {kk : IntKind} {v : Value} (h : FitK P w (d + 1) (.slice e) v) (hk : kindsOf P 40 e = some [.int kk]) (hc : P.cellsOf e = 1) :
    ∃ (ao : Option Addr) (n cap : Nat) (ss : List Int), v = .slice ao n cap ∧ n ≤ cap ∧ cap ≤ maxLen ∧ ss.length = n ∧ Rd w ao (ss.map (.int kk)) ∧ ∀ s ∈ ss, (Lit.int kk s).wf = true := by
  obtain ⟨ao, n, cap, rfl, h1, h2, h3⟩ := h
  obtain ⟨xs, hl, hrd, hx⟩ := h3 _ hk hc
  simp at hl
  have each : ∀ i, i < n → ∃ s : Int, xs[i]? = some (.int kk s) ∧ (Lit.int kk s).wf = true := by
    intro i hi
    have hc : xs[i]? = some (xs[i]'(by omega)) := List.getElem?_eq_getElem (by omega)
    obtain ⟨s, hs, hw⟩ := fitK_int (hx i 0 (.int kk) _ hi rfl (by rw [show i * [CK.int kk].length + 0 = i by simp]; exact hc))
    exact ⟨s, by rw [hc, hs], hw⟩
  let f : Nat → Int := fun i => if h : i < n then Classical.choose (each i h) else 0
  have hf : ∀ i, i < n → xs[i]? = some (.int kk (f i)) ∧ (Lit.int kk (f i)).wf = true := by
    intro i hi
    simp only [f, dif_pos hi]
    exact Classical.choose_spec (each i hi)
  have hxs : xs = (tab n f).map (.int kk) := by
    apply List.ext_getElem?
    intro i
    by_cases hi : i < n
    · rw [(hf i hi).1, tab_map, tab_get _ _ _ hi]
    · rw [List.getElem?_eq_none (by omega), List.getElem?_eq_none (by rw [List.length_map, tab_length]; omega)]
  refine ⟨ao, n, cap, tab n f, rfl, h1, h2, tab_length _ _, ?_, ?_⟩
  · rw [← hxs]
    exact ⟨by omega, fun hp => hrd (by omega)⟩
  · intro s hs
    simp [tab] at hs
    obtain ⟨i, hi, rfl⟩ := hs
    exact (hf i hi).2
set_option maxHeartbeats 4000000 in
theorem RecipeGets_law (w : World) (s : ByteArray) (hs : s.size ≤ maxLen) :
    Calls Try.prog 6 #[.string s] w fun e w' => e = .returned (.bool true) ∧ Below w.heap.size w w' := by
  obtain ⟨l, rfl⟩ : ∃ l : List UInt8, s = ⟨l.toArray⟩ := ⟨s.data.toList, rfl⟩
  rw [mk_size] at hs
  refine sx_fn (S := SX) (M := []) (N := 54) (H0 := []) Try.func6 rfl rfl rfl (Sat.nil _ _) ?_
  ((try refine sx_use ?_); (repeat (refine SxNew.mk fun _ => ?_; (try refine sx_use ?_))))
  refine SxIf.dec (fun h => ?_) (fun h => ?_)
  · rw [mk_size] at h
    ((try refine sx_use ?_); (repeat (refine SxNew.mk fun _ => ?_; (try refine sx_use ?_))))
    refine SxBnd.mk 0 5000 rfl rfl (by omega) (by rw [mk_size]; omega) ?_
    have hex : (⟨l.toArray⟩ : ByteArray).extract 0 5000 = ⟨(l.take 5000).toArray⟩ := by rw [mk_extract]; simp
    rw [hex]
    have hl : (l.take 5000).length ≤ 5000 := by rw [List.length_take]; omega
    clear hex h hs
    generalize l.take 5000 = l at hl
    ((try refine sx_use ?_); (repeat (refine SxNew.mk fun _ => ?_; (try refine sx_use ?_))))
    by_cases hok : isRc l
    · obtain ⟨r, hr, hp⟩ := hok
      have hG := fun (w : World) => (Get_any l (by omega) w).mono fun e w' h => h.1 r hr hp
      have hRG := fun (w : World) => (RGet_any l (by omega) w).mono fun e w' h => h.1 r hr hp
      have hml : r.ms.length ≤ 1024 := hr.2.2.1
      have hnl : r.nm.length ≤ maxLen := by have := hr.2.1; unfold maxLen; omega
      have hlm : (r.ms.map u4V).length ≤ maxLen := by rw [List.length_map]; unfold maxLen; omega
      refine SxCall.newRow (v := fun ao cap => .tuple #[r.v ao cap, .int .i64 0]) (fun w _ => hG w) fun ao cap => ?_
      ((try refine sx_use ?_); (repeat (refine SxNew.mk fun _ => ?_; (try refine sx_use ?_))))
      refine SxCall.newRow (v := fun ao cap => .tuple #[r.v ao cap, .bool true]) (fun w _ => hRG w) fun bo bcap => ?_
      ((try refine sx_use ?_); (repeat (refine SxNew.mk fun _ => ?_; (try refine sx_use ?_))))
      refine SxCall.quietS (v := .bool true) (fun w hs => by
        have h := RRSame_any r r ao bo cap bcap w (hs.rowRd 3 rfl hlm) (hs.rowRd 1 rfl hlm) (by omega)
        rw [decide_eq_true rfl] at h
        exact h) ?_
      ((try refine sx_use ?_); (repeat (refine SxNew.mk fun _ => ?_; (try refine sx_use ?_))))
      refine SxRun.bNe Try.underlying4 ?_
      ((try refine sx_use ?_); (repeat (refine SxNew.mk fun _ => ?_; (try refine sx_use ?_))))
      refine SxCall.quiet awake_any ?_
      ((try refine sx_use ?_); (repeat (refine SxNew.mk fun _ => ?_; (try refine sx_use ?_))))
      refine SxCall.quietS (v := .tuple #[txV l, .int .i64 0]) (fun w hs => by
        have h := Put_any r.nm r.sz r.re r.im r.ms hnl ao cap w (hs.rowRd 3 rfl hlm)
        rw [if_pos (show mayR r.nm.length r.sz r.re r.im r.ms from hr), show putL r.nm r.sz r.re r.im r.ms = l from hp] at h
        exact h) ?_
      ((try refine sx_use ?_); (repeat (refine SxNew.mk fun _ => ?_; (try refine sx_use ?_))))
      refine SxIf.strT rfl ?_
      ((try refine sx_use ?_); (repeat (refine SxNew.mk fun _ => ?_; (try refine sx_use ?_))))
      exact SxDone.mk fun w' hs => ⟨rfl, hs.touch.below⟩
    · refine SxCall.quiet (fun w => (Get_any l (by omega) w).mono fun e w' h => h.2 hok) ?_
      ((try refine sx_use ?_); (repeat (refine SxNew.mk fun _ => ?_; (try refine sx_use ?_))))
      refine SxCall.quiet (fun w => (RGet_any l (by omega) w).mono fun e w' h => h.2 hok) ?_
      ((try refine sx_use ?_); (repeat (refine SxNew.mk fun _ => ?_; (try refine sx_use ?_))))
      refine SxCall.quiet (v := .bool true) (fun w => by
        have h := RRSame_any zrc zrc none none 0 0 w (Rd_nil w) (Rd_nil w) (by decide)
        rw [decide_eq_true rfl] at h
        exact h) ?_
      ((try refine sx_use ?_); (repeat (refine SxNew.mk fun _ => ?_; (try refine sx_use ?_))))
      refine SxRun.bNe Try.underlying4 ?_
      ((try refine sx_use ?_); (repeat (refine SxNew.mk fun _ => ?_; (try refine sx_use ?_))))
      refine SxCall.quiet awake_any ?_
      ((try refine sx_use ?_); (repeat (refine SxNew.mk fun _ => ?_; (try refine sx_use ?_))))
      exact SxDone.mk fun w' hs => ⟨rfl, hs.touch.below⟩
  · rw [mk_size] at h
    have hl : l.length ≤ 5000 := by omega
    ((try refine sx_use ?_); (repeat (refine SxNew.mk fun _ => ?_; (try refine sx_use ?_))))
    by_cases hok : isRc l
    · obtain ⟨r, hr, hp⟩ := hok
      have hG := fun (w : World) => (Get_any l (by omega) w).mono fun e w' h => h.1 r hr hp
      have hRG := fun (w : World) => (RGet_any l (by omega) w).mono fun e w' h => h.1 r hr hp
      have hml : r.ms.length ≤ 1024 := hr.2.2.1
      have hnl : r.nm.length ≤ maxLen := by have := hr.2.1; unfold maxLen; omega
      have hlm : (r.ms.map u4V).length ≤ maxLen := by rw [List.length_map]; unfold maxLen; omega
      refine SxCall.newRow (v := fun ao cap => .tuple #[r.v ao cap, .int .i64 0]) (fun w _ => hG w) fun ao cap => ?_
      ((try refine sx_use ?_); (repeat (refine SxNew.mk fun _ => ?_; (try refine sx_use ?_))))
      refine SxCall.newRow (v := fun ao cap => .tuple #[r.v ao cap, .bool true]) (fun w _ => hRG w) fun bo bcap => ?_
      ((try refine sx_use ?_); (repeat (refine SxNew.mk fun _ => ?_; (try refine sx_use ?_))))
      refine SxCall.quietS (v := .bool true) (fun w hs => by
        have h := RRSame_any r r ao bo cap bcap w (hs.rowRd 3 rfl hlm) (hs.rowRd 1 rfl hlm) (by omega)
        rw [decide_eq_true rfl] at h
        exact h) ?_
      ((try refine sx_use ?_); (repeat (refine SxNew.mk fun _ => ?_; (try refine sx_use ?_))))
      refine SxRun.bNe Try.underlying4 ?_
      ((try refine sx_use ?_); (repeat (refine SxNew.mk fun _ => ?_; (try refine sx_use ?_))))
      refine SxCall.quiet awake_any ?_
      ((try refine sx_use ?_); (repeat (refine SxNew.mk fun _ => ?_; (try refine sx_use ?_))))
      refine SxCall.quietS (v := .tuple #[txV l, .int .i64 0]) (fun w hs => by
        have h := Put_any r.nm r.sz r.re r.im r.ms hnl ao cap w (hs.rowRd 3 rfl hlm)
        rw [if_pos (show mayR r.nm.length r.sz r.re r.im r.ms from hr), show putL r.nm r.sz r.re r.im r.ms = l from hp] at h
        exact h) ?_
      ((try refine sx_use ?_); (repeat (refine SxNew.mk fun _ => ?_; (try refine sx_use ?_))))
      refine SxIf.strT rfl ?_
      ((try refine sx_use ?_); (repeat (refine SxNew.mk fun _ => ?_; (try refine sx_use ?_))))
      exact SxDone.mk fun w' hs => ⟨rfl, hs.touch.below⟩
    · refine SxCall.quiet (fun w => (Get_any l (by omega) w).mono fun e w' h => h.2 hok) ?_
      ((try refine sx_use ?_); (repeat (refine SxNew.mk fun _ => ?_; (try refine sx_use ?_))))
      refine SxCall.quiet (fun w => (RGet_any l (by omega) w).mono fun e w' h => h.2 hok) ?_
      ((try refine sx_use ?_); (repeat (refine SxNew.mk fun _ => ?_; (try refine sx_use ?_))))
      refine SxCall.quiet (v := .bool true) (fun w => by
        have h := RRSame_any zrc zrc none none 0 0 w (Rd_nil w) (Rd_nil w) (by decide)
        rw [decide_eq_true rfl] at h
        exact h) ?_
      ((try refine sx_use ?_); (repeat (refine SxNew.mk fun _ => ?_; (try refine sx_use ?_))))
      refine SxRun.bNe Try.underlying4 ?_
      ((try refine sx_use ?_); (repeat (refine SxNew.mk fun _ => ?_; (try refine sx_use ?_))))
      refine SxCall.quiet awake_any ?_
      ((try refine sx_use ?_); (repeat (refine SxNew.mk fun _ => ?_; (try refine sx_use ?_))))
      exact SxDone.mk fun w' hs => ⟨rfl, hs.touch.below⟩
end Go.Proofs.Ytbbngmlgpjepnaa
