/- Layer 20: manifests that came in; LiveBack. -/
import Derived.Test.YtcpbgacdoigpnaaZLvG
import Derived.Test.YtcpbgacdoigpnaaZGen
namespace Go.Proofs.Ytcpbgacdoigpnaa
open Go.RowKit

/-- A manifest as it came in. -/
structure Mr where
  id : Int
  ao : Option Addr
  n : Nat
  cap : Nat
def okMr (w : World) (m : Mr) : Prop := m.n ≤ m.cap ∧ ∃ es : List En, es.length = min m.n 1000 ∧ Rd w m.ao (enE.fl es)
abbrev Mw (w : World) := {m : Mr // okMr w m}
instance (w : World) : Inhabited (Mw w) := ⟨⟨⟨0, none, 0, 0⟩, Nat.le_refl _, [], rfl, by decide, fun h => absurd h (by decide)⟩⟩
def mwE (w : World) : Enc (Mw w) := ⟨fun m => [.int .u32 m.1.id, .slice m.1.ao m.1.n m.1.cap], 2, by decide, fun _ => rfl, fun _ => rfl⟩
noncomputable def Mw.es {w : World} (m : Mw w) : List En := Classical.choose m.2.2
theorem Mw.es_spec {w : World} (m : Mw w) : m.es.length = min m.1.n 1000 ∧ Rd w m.1.ao (enE.fl m.es) := Classical.choose_spec m.2.2
/-- The first forty entries. -/
noncomputable def Mw.few {w : World} (m : Mw w) : Mf := ⟨m.1.id, m.1.ao, m.1.cap, m.es.take 40⟩
theorem Mw.few_len {w : World} (m : Mw w) : m.few.es.length = min m.1.n 40 := by
  show (m.es.take 40).length = _
  rw [List.length_take, m.es_spec.1]; omega
theorem Mw.few_rd {w : World} (m : Mw w) : Rd w m.few.ao (enE.fl m.few.es) := by
  have h := m.es_spec.2.take (40 * 35)
  have e : (enE.fl m.es).take (40 * 35) = enE.fl (m.es.take 40) := enE.fl_take m.es 40
  rw [e] at h
  exact h
theorem Mw.few_any {w0 : World} (m : Mw w0) (w : World) : Calls Try.prog 7 #[.agg ((mwE w0).enc m).toArray] w fun e w' => e = .returned (.agg (mfE.enc m.few).toArray) ∧ Below w.heap.size w w' := by
  refine (few20_any m.1.id m.1.ao m.1.n m.1.cap m.2.1 w).mono fun e w' h => ⟨?_, h.2⟩
  rw [h.1, ← m.few_len]
  rfl
theorem open_mws {w : World} {d : Nat} {v : Value} (hv : FitK Try.prog w (d + 2) (.slice 31) v) : ∃ (ao : Option Addr) (n cap : Nat), v = .slice ao n cap ∧ n ≤ maxLen ∧ ∃ l : List (Mw w), l.length = min n 1000 ∧ Rd w ao ((mwE w).fl l) :=
  open_rows (mwE w) (by show 2 ≤ 100; decide) [.int .u32, .slice 65] hv (by kernel_rfl) (by kernel_rfl) rfl fun cs h => by
    obtain ⟨hl, hf⟩ := h
    match cs, hl with
    | [x, y], _ =>
      obtain ⟨a, rfl, _⟩ := fitK_int (hf 0 _ _ rfl rfl)
      have hy := hf 1 _ _ rfl rfl
      obtain ⟨ao, n, cap, rfl, h1, h2⟩ := open_ens hy
      obtain ⟨ao', n', cap', he, h3, _⟩ := hy
      simp only [Value.slice.injEq] at he
      obtain ⟨rfl, rfl, rfl⟩ := he
      exact ⟨⟨⟨a, ao, n, cap⟩, h3, h2⟩, rfl⟩
theorem rowMw_len {w : World} (l : List (Mw w)) : ((mwE w).fl l).length = l.length * 2 := (mwE w).fl_len l
theorem rowMw_at {w : World} {l : List (Mw w)} {k : Nat} {x : Mw w} (h : l[k]? = some x) : (((mwE w).fl l).drop (k * 2)).take 2 = (mwE w).enc x := (mwE w).fl_at h
noncomputable def fewMs {w : World} (l : List (Mw w)) : List Mf := l.map Mw.few
theorem fewMs_le {w : World} (l : List (Mw w)) : (plsM (fewMs l)).length ≤ l.length * 40 := by
  induction l with
  | nil => exact Nat.le_refl _
  | cons x l ih =>
    have e : plsM (fewMs (x :: l)) = plsOf x.few.es ++ plsM (fewMs l) := by unfold plsM fewMs; rw [List.map_cons, List.flatMap_cons]
    rw [e, List.length_append, plsOf_len, x.few_len, List.length_cons]
    omega
theorem plsM_cons (m : Mf) (ms : List Mf) : plsM (m :: ms) = plsOf m.es ++ plsM ms := by unfold plsM; rw [List.flatMap_cons]
theorem plsM_app (a b : List Mf) : plsM (a ++ b) = plsM a ++ plsM b := by unfold plsM; rw [List.flatMap_append]
section
variable {W : World} {M : List Nat} {H : Hp} {A : Value → Hp → Prop}
/-- A call of Sub. -/
theorem SxCall.sub (p q : Nat) {gt gm : Nat} {d : List (Pl × Nat)} {l : List Pl} (m : Mf) (hp : H[p]? = some (tabE gt gm)) (hq : H[q]? = some (mapE plKey gm (kvT d))) (hd : Tab d l) (hl : l.length ≤ 1000000) (hes : m.es.length ≤ 1000000)
    (hr : ∀ w, Sat W M H w → Rd w m.ao (enE.fl m.es) ∧ ¬ (Ent.rd m.ao (enE.fl m.es)).uses gm)
    (h : ∀ d', Tab d' (if okSub l (plsOf m.es) then subL l (plsOf m.es) else l) → A (.int .i64 (if okSub l (plsOf m.es) then 0 else 6)) (H.set q (mapE plKey gm (kvT d')))) : SxCall SX W M 9 #[.pointer (some ⟨gt, 0, none⟩), mnV m.id m.ao m.es.length m.cap] H A :=
  ⟨fun w hs => by
    have hne : gt ≠ gm := fun e => hs.sep p q _ _ (fun e => by subst e; rw [hp] at hq; cases hq) hp hq gt rfl e
    refine (Sub_any gt gm d l hd hl m.id m.es hes m.ao m.cap w (tabR_of hs p hp) (mapT_of hs q hq) hne (hr w hs).1 (hr w hs).2).mono ?_
    rintro e w' ⟨rfl, hg, d', h1, h2⟩
    exact ⟨_, _, rfl, hs.set hq (e' := mapE plKey gm (kvT d')) hg h2 (fun b hb => .inl (by rw [show b = gm from hb]; rfl)), h d' h1⟩⟩
/-- A call of Same. -/
theorem SxCall.sameT (p q p' q' : Nat) {gt gm gt' gm' : Nat} {d d' : List (Pl × Nat)} {l l' : List Pl} (b : Bool) (hp : H[p]? = some (tabE gt gm)) (hq : H[q]? = some (mapE plKey gm (kvT d))) (hd : Tab d l) (hp' : H[p']? = some (tabE gt' gm')) (hq' : H[q']? = some (mapE plKey gm' (kvT d'))) (hd' : Tab d' l') (hl : l.length ≤ 1000000) (hl' : l'.length ≤ 1000000)
    (hb : b = true ↔ ∀ p, l.count p = l'.count p) (h : A (.bool b) H) : SxCall SX W M 16 #[.pointer (some ⟨gt, 0, none⟩), .pointer (some ⟨gt', 0, none⟩)] H A :=
  ⟨fun w hs => (Same_tv hl hl' w (tv_of hs p q hp hq hd) (tv_of hs p' q' hp' hq' hd')).mono fun e w' ⟨b', h1, h2, h3⟩ => by
    have : b' = b := Bool.eq_iff_iff.2 (h2.trans hb.symm)
    rw [this] at h1
    exact ⟨_, _, h1, hs.below h3, h⟩⟩
/-- A call of New. -/
theorem SxCall.newT (h : ∀ gt gm, A (.pointer (some ⟨gt, 0, none⟩)) (tabE gt gm :: mapE plKey gm (kvT []) :: H)) : SxCall SX W M 6 #[] H A :=
  ⟨fun w hs => (New_sat hs).mono fun e w' ⟨gt, gm, he, hs'⟩ => ⟨_, _, he, hs', h gt gm⟩⟩
end
set_option maxHeartbeats 16000000 in
theorem LiveBack_law (w : World) (v1 : Value) (hv1 : FitK Try.prog w 4 (.slice 31) v1) (v2 : Value) (hv2 : FitK Try.prog w 4 (.slice 31) v2) :
    Calls Try.prog 4 #[v1, v2] w fun e w' => e = .returned (.bool true) ∧ Below w.heap.size w w' := by
  obtain ⟨oo, no, oc, rfl, hno, os, hos, hor⟩ := open_mws hv1
  obtain ⟨lo, nl, lc, rfl, hnl, ls, hls, hlr⟩ := open_mws hv2
  clear hv1 hv2
  unfold maxLen at hno hnl
  refine sx_fn (S := SX) (M := []) (H0 := [.rd oo ((mwE w).fl os), .rd lo ((mwE w).fl ls)]) (N := 125) Try.func4 rfl rfl rfl (Sat.twoRd _ hor hlr) ?_
  ((try refine sx_use ?_); (repeat (refine SxNew.mk fun _ => ?_; (try refine sx_use ?_))))
  refine SxCall.newT fun ga ma => ?_
  ((try refine sx_use ?_); (repeat (refine SxNew.mk fun _ => ?_; (try refine sx_use ?_))))
  refine SxCall.newT fun gb mb => ?_
  ((try refine sx_use ?_); (repeat (refine SxNew.mk fun _ => ?_; (try refine sx_use ?_))))
  obtain ⟨N, hN⟩ : ∃ N, N = min no 6 := ⟨_, rfl⟩
  have hNo : N ≤ os.length := by omega
  refine SxCode.loop (σ := Nat × List (Pl × Nat)) [7] [16, 17, 18, 19, 20, 21, 22, 23, 26, 27, 28, 29, 30, 31, 32, 33, 24, 25, 7] (fun x => [.int .i64 (x.1 : Nat)]) (fun x => [tabE gb mb, mapE plKey mb (kvT []), tabE ga ma, mapE plKey ma (kvT x.2), .rd oo ((mwE w).fl os), .rd lo ((mwE w).fl ls)]) (fun x => x.1 ≤ N ∧ Tab x.2 (plsM (fewMs (os.take x.1)))) (fun x => N - x.1) (0, []) [0, 1, 2, 3, 4, 5] rfl rfl rfl rfl ⟨Nat.zero_le _, Tab.nil⟩ ?_
  rintro ⟨k, da⟩ ⟨hk, hda⟩
  dsimp only at hk hda ⊢
  have hlk := fewMs_le (os.take k)
  rw [List.length_take] at hlk
  by_cases hlt : k < N
  · obtain ⟨m, hm⟩ : ∃ m, os[k]? = some m := ⟨os[k]'(by omega), by simp [show k < os.length by omega]⟩
    have hml := m.few_len
    have hT : ∀ l', Tab l' (plsM (fewMs (os.take k)) ++ plsM [m.few]) → Tab l' (plsM (fewMs (os.take (k + 1)))) := fun l' h => by
      rw [take_snocE hm]
      unfold fewMs
      rw [List.map_append, plsM_app]
      exact h
    ((try refine sx_use ?_); (repeat (refine SxNew.mk fun _ => ?_; (try refine sx_use ?_))))
    (try refine SxIf.yes (by omega) ?_)
    (try ((try refine sx_use ?_); (repeat (refine SxNew.mk fun _ => ?_; (try refine sx_use ?_)))))
    refine SxIA.rd 4 _ rfl k rfl (by omega) (by rw [rowMw_len]; omega) fun g off ha => ?_
    ((try refine sx_use ?_); (repeat (refine SxNew.mk fun _ => ?_; (try refine sx_use ?_))))
    refine SxLdN.rd 4 rfl ha rfl (vs := (mwE w).enc m) rfl (rowMw_at hm) ?_
    ((try refine sx_use ?_); (repeat (refine SxNew.mk fun _ => ?_; (try refine sx_use ?_))))
    refine SxCall.quiet (fun w' => m.few_any w') ?_
    ((try refine sx_use ?_); (repeat (refine SxNew.mk fun _ => ?_; (try refine sx_use ?_))))
    refine SxCall.add 3 4 [m.few] rfl rfl hda (by rw [show plsM [m.few] = plsOf m.few.es ++ [] from plsM_cons _ _, List.append_nil, plsOf_len]; omega) (fun w' hs => ⟨hs.rowRd 0 rfl (by show 2 ≤ maxLen; decide), row_apart hs (q := 4) (r := 0) rfl rfl⟩) (fun m' hm' w' hs => by
      simp only [List.mem_singleton] at hm'
      subst hm'
      exact ⟨m.few_rd.kept hs.touch.below, old_apart hs (q := 4) rfl m.few_rd⟩) fun da' hda' => ?_
    ((try refine sx_use ?_); (repeat (refine SxNew.mk fun _ => ?_; (try refine sx_use ?_))))
    exact SxRound.mk (k + 1, da') [1, 2, 3, 4, 5, 6] rfl rfl rfl ⟨hlt, hT _ hda'⟩ (by dsimp only; omega)
  obtain rfl : k = N := by omega
  clear hlt hk hlk
  obtain ⟨A, hA⟩ : ∃ A, A = plsM (fewMs (os.take k)) := ⟨_, rfl⟩
  have hAl : A.length ≤ 240 := by
    have := fewMs_le (os.take k)
    rw [List.length_take, ← hA] at this
    omega
  rw [← hA] at hda
  have hval : (if (6 : Int) < (no : Nat) then (6 : Int) else (no : Nat)) = (k : Nat) := by split <;> omega
  by_cases h6 : no ≤ 6
  case' pos => ((try refine sx_use ?_); (repeat (refine SxNew.mk fun _ => ?_; (try refine sx_use ?_))))
  case' neg => ((try refine sx_use ?_); (repeat (refine SxNew.mk fun _ => ?_; (try refine sx_use ?_))))
  all_goals
    refine SxCode.loop (σ := Nat × List (Pl × Nat)) [8] [38, 39, 42, 43, 44, 45, 46, 47, 48, 49, 40, 41, 8] (fun x => [.int .i64 ((x.1 : Nat) - 1)]) (fun x => [tabE gb mb, mapE plKey mb (kvT x.2), tabE ga ma, mapE plKey ma (kvT da), .rd oo ((mwE w).fl os), .rd lo ((mwE w).fl ls)]) (fun x => x.1 ≤ k ∧ Tab x.2 (plsM (fewMs ((os.take k).drop x.1)))) (fun x => x.1) (k, []) [0, 1, 2, 3, 4, 5] rfl (by first | rfl | (rw [← hval]; rfl)) rfl rfl ⟨Nat.le_refl _, by rw [List.drop_of_length_le (by rw [List.length_take]; omega)]; exact Tab.nil⟩ ?_
    rintro ⟨r, db⟩ ⟨hrk, hdb⟩
    dsimp only at hrk hdb ⊢
    have hlb := fewMs_le ((os.take k).drop r)
    rw [List.length_drop, List.length_take] at hlb
    by_cases hr0 : 0 < r
    · obtain ⟨q, rfl⟩ : ∃ q, r = q + 1 := ⟨r - 1, by omega⟩
      obtain ⟨m, hm⟩ : ∃ m, os[q]? = some m := ⟨os[q]'(by omega), by simp [show q < os.length by omega]⟩
      have hml := m.few_len
      have hdr : (os.take k).drop q = m :: (os.take k).drop (q + 1) := by
        have hq : q < (os.take k).length := by rw [List.length_take]; omega
        rw [List.drop_eq_getElem_cons hq]
        congr 1
        rw [List.getElem_take]
        exact (List.getElem?_eq_some_iff.1 hm).2
      have hT : ∀ l', Tab l' (plsM (fewMs ((os.take k).drop (q + 1))) ++ plsM [m.few]) → Tab l' (plsM (fewMs ((os.take k).drop q))) := fun l' h => h.congr fun p => by
        rw [hdr]
        have e : plsM (fewMs (m :: (os.take k).drop (q + 1))) = plsM [m.few] ++ plsM (fewMs ((os.take k).drop (q + 1))) := by
          rw [← plsM_app]; rfl
        rw [e, List.count_append, List.count_append]
        omega
      ((try refine sx_use ?_); (repeat (refine SxNew.mk fun _ => ?_; (try refine sx_use ?_))))
      (try refine SxIf.yes (by omega) ?_)
      (try ((try refine sx_use ?_); (repeat (refine SxNew.mk fun _ => ?_; (try refine sx_use ?_)))))
      refine SxIA.rd 4 _ rfl q (by omega) (by omega) (by rw [rowMw_len]; omega) fun g off ha => ?_
      ((try refine sx_use ?_); (repeat (refine SxNew.mk fun _ => ?_; (try refine sx_use ?_))))
      refine SxLdN.rd 4 rfl ha rfl (vs := (mwE w).enc m) rfl (rowMw_at hm) ?_
      ((try refine sx_use ?_); (repeat (refine SxNew.mk fun _ => ?_; (try refine sx_use ?_))))
      refine SxCall.quiet (fun w' => m.few_any w') ?_
      ((try refine sx_use ?_); (repeat (refine SxNew.mk fun _ => ?_; (try refine sx_use ?_))))
      refine SxCall.add 1 2 [m.few] rfl rfl hdb (by rw [show plsM [m.few] = plsOf m.few.es ++ [] from plsM_cons _ _, List.append_nil, plsOf_len]; omega) (fun w' hs => ⟨hs.rowRd 0 rfl (by show 2 ≤ maxLen; decide), row_apart hs (q := 2) (r := 0) rfl rfl⟩) (fun m' hm' w' hs => by
        simp only [List.mem_singleton] at hm'
        subst hm'
        exact ⟨m.few_rd.kept hs.touch.below, old_apart hs (q := 2) rfl m.few_rd⟩) fun db' hdb' => ?_
      ((try refine sx_use ?_); (repeat (refine SxNew.mk fun _ => ?_; (try refine sx_use ?_))))
      exact SxRound.mk (q, db') [1, 2, 3, 4, 5, 6] (by first | rfl | (show some [Value.int .i64 (((q + 1 : Nat) : Int) - 1 - 1)] = some [Value.int .i64 ((q : Nat) - 1)]; congr 3; omega)) rfl rfl ⟨by dsimp only; omega, hT _ hdb'⟩ (by dsimp only; omega)
    obtain rfl : r = 0 := by omega
    rw [List.drop_zero, ← hA] at hdb
    ((try refine sx_use ?_); (repeat (refine SxNew.mk fun _ => ?_; (try refine sx_use ?_))))
    (try refine SxIf.no (by omega) ?_)
    (try ((try refine sx_use ?_); (repeat (refine SxNew.mk fun _ => ?_; (try refine sx_use ?_)))))
    refine SxCall.sameT 2 3 0 1 true rfl rfl hda rfl rfl hdb (by omega) (by omega) ⟨fun _ _ => rfl, fun _ => rfl⟩ ?_
    ((try refine sx_use ?_); (repeat (refine SxNew.mk fun _ => ?_; (try refine sx_use ?_))))
    refine SxCall.sameT 0 1 2 3 true rfl rfl hdb rfl rfl hda (by omega) (by omega) ⟨fun _ _ => rfl, fun _ => rfl⟩ ?_
    ((try refine sx_use ?_); (repeat (refine SxNew.mk fun _ => ?_; (try refine sx_use ?_))))
    refine SxCode.nil 31 2 ?_
    obtain ⟨N, hN⟩ : ∃ N, N = min nl 6 := ⟨_, rfl⟩
    refine SxCode.loop (σ := Nat × Option Addr × Nat) [10, 9] [60, 61, 62, 63, 64, 65, 66, 67, 70, 71, 72, 73, 74, 75, 76, 77, 9, 68, 69, 10] (fun x => [.int .i64 (x.1 : Nat), .slice x.2.1 (fewMs (ls.take x.1)).length x.2.2]) (fun x => [.row x.2.1 (fewMs (ls.take x.1)).length x.2.2 31 2 (mfE.fl (fewMs (ls.take x.1))), tabE gb mb, mapE plKey mb (kvT db), tabE ga ma, mapE plKey ma (kvT da), .rd lo ((mwE w).fl ls)]) (fun x => x.1 ≤ N) (fun x => N - x.1) (0, none, 0) [0, 1, 2, 3, 4, 6] rfl rfl rfl rfl (Nat.zero_le _) ?_
    rintro ⟨i, mo, mc⟩ hi
    dsimp only at hi ⊢
    have hfl : (fewMs (ls.take i)).length = i := by unfold fewMs; rw [List.length_map, List.length_take]; omega
    by_cases hiN : i < N
    · obtain ⟨m, hm⟩ : ∃ m, ls[i]? = some m := ⟨ls[i]'(by omega), by simp [show i < ls.length by omega]⟩
      have hsn : fewMs (ls.take (i + 1)) = fewMs (ls.take i) ++ [m.few] := by rw [take_snocE hm]; unfold fewMs; rw [List.map_append]; rfl
      ((try refine sx_use ?_); (repeat (refine SxNew.mk fun _ => ?_; (try refine sx_use ?_))))
      (try refine SxIf.yes (by omega) ?_)
      (try ((try refine sx_use ?_); (repeat (refine SxNew.mk fun _ => ?_; (try refine sx_use ?_)))))
      refine SxIA.rd 5 _ rfl i rfl (by omega) (by rw [rowMw_len]; omega) fun g off ha => ?_
      ((try refine sx_use ?_); (repeat (refine SxNew.mk fun _ => ?_; (try refine sx_use ?_))))
      refine SxLdN.rd 5 rfl ha rfl (vs := (mwE w).enc m) rfl (rowMw_at hm) ?_
      ((try refine sx_use ?_); (repeat (refine SxNew.mk fun _ => ?_; (try refine sx_use ?_))))
      refine SxCall.quiet (fun w' => m.few_any w') ?_
      ((try refine sx_use ?_); (repeat (refine SxNew.mk fun _ => ?_; (try refine sx_use ?_))))
      refine SxApp.mk 1 rfl 0 (.inr (.inr (.inr ⟨by decide, _, rfl⟩))) (vs := mfE.enc m.few) (m := 1) rfl rfl (by unfold maxLen; omega) (by omega) (cs' := mfE.fl (fewMs (ls.take (i + 1)))) (by rw [hsn, mfE.fl_append, mfE.fl_one]) fun mo' mc' => ?_
      ((try refine sx_use ?_); (repeat (refine SxNew.mk fun _ => ?_; (try refine sx_use ?_))))
      exact SxRound.mk (i + 1, mo', mc') [1, 2, 3, 4, 5, 6] (by dsimp only; rw [hsn, List.length_append]; rfl) (by dsimp only; rw [hsn, List.length_append]; rfl) rfl hiN (by dsimp only; omega)
    obtain rfl : i = N := by omega
    obtain ⟨MS, hMS⟩ : ∃ MS, MS = fewMs (ls.take i) := ⟨_, rfl⟩
    have hMl : (plsM MS).length ≤ 240 := by
      have := fewMs_le (ls.take i)
      rw [List.length_take, ← hMS] at this
      omega
    have hMr : ∀ m ∈ MS, Rd w m.ao (enE.fl m.es) ∧ m.es.length ≤ 40 := by
      intro m hm
      rw [hMS] at hm
      unfold fewMs at hm
      obtain ⟨x, _, rfl⟩ := List.mem_map.1 hm
      exact ⟨x.few_rd, by rw [x.few_len]; omega⟩
    rw [← hMS] at hfl ⊢
    refine sx_base 0 rfl fun hmo _ => ?_
    obtain ⟨B, hB⟩ : ∃ B, B = plsM MS := ⟨_, rfl⟩
    by_cases h7 : nl ≤ 6
    case' pos => ((try refine sx_use ?_); (repeat (refine SxNew.mk fun _ => ?_; (try refine sx_use ?_))))
    case' neg => ((try refine sx_use ?_); (repeat (refine SxNew.mk fun _ => ?_; (try refine sx_use ?_))))
    all_goals
      refine SxCall.add 3 4 MS rfl rfl hda (by omega) (fun w' hs => ⟨hs.rowRd 0 rfl (by rw [rowMf_len, hfl]; unfold maxLen; omega), row_apart hs (q := 4) (r := 0) rfl rfl⟩) (fun m hm w' hs => ⟨(hMr m hm).1.kept hs.touch.below, old_apart hs (q := 4) rfl (hMr m hm).1⟩) fun da2 hda2 => ?_
      ((try refine sx_use ?_); (repeat (refine SxNew.mk fun _ => ?_; (try refine sx_use ?_))))
      refine SxCode.loop (σ := Nat) [12, 11] [81, 82, 83, 84, 87, 88, 89, 90, 91, 92, 93, 94, 11, 85, 86, 12] (fun j => [.int .i64 (j : Nat), .int .i64 ((plsM (MS.take j)).length : Nat)]) (fun _ => [.row mo MS.length mc 31 2 (mfE.fl MS), tabE gb mb, mapE plKey mb (kvT db), tabE ga ma, mapE plKey ma (kvT da2)]) (fun j => j ≤ MS.length) (fun j => MS.length - j) 0 [0, 1, 2, 3, 4] rfl rfl rfl rfl (Nat.zero_le _) ?_
      rintro j hj
      have hlj := plsM_le MS j
      ((try refine sx_use ?_); (repeat (refine SxNew.mk fun _ => ?_; (try refine sx_use ?_))))
      refine SxIf.dec (fun h => ?_) (fun h => ?_)
      · have hjl : j < MS.length := by omega
        obtain ⟨m, hm⟩ : ∃ m, MS[j]? = some m := ⟨MS[j], by simp [hjl]⟩
        obtain ⟨gmo, rfl⟩ := hmo (by omega)
        have hsn := plsM_snoc hm
        have hml := (hMr m (List.mem_of_getElem? hm)).2
        ((try refine sx_use ?_); (repeat (refine SxNew.mk fun _ => ?_; (try refine sx_use ?_))))
        refine SxIA.row 0 _ _ _ rfl j rfl hjl fun g' hg' => ?_
        obtain rfl : gmo = g' := by simpa using hg'
        ((try refine sx_use ?_); (repeat (refine SxNew.mk fun _ => ?_; (try refine sx_use ?_))))
        refine SxLd.row 0 rfl rfl (j := j * 2 + 1) (by omega) (v := .slice m.ao m.es.length m.cap) (mfE.fl_cell (j := 1) hm rfl) ?_
        ((try refine sx_use ?_); (repeat (refine SxNew.mk fun _ => ?_; (try refine sx_use ?_))))
        exact SxRound.mk (j + 1) [0, 1, 2, 3, 4] (by rw [hsn, List.length_append, plsOf_len]; rfl) rfl rfl hjl (by omega)
      obtain rfl : j = MS.length := by omega
      rw [List.take_length, ← hB]
      rw [← hB] at hMl hda2
      ((try refine sx_use ?_); (repeat (refine SxNew.mk fun _ => ?_; (try refine sx_use ?_))))
      have hbb : (((B.length : Nat) : Int) == 0) = true ↔ ∀ p, (A ++ B).count p = A.count p := by
        rw [beq_iff_eq]
        constructor
        · intro h p
          have : B = [] := List.eq_nil_of_length_eq_zero (by omega)
          rw [this, List.append_nil]
        · intro h
          cases hBc : B with
          | nil => rfl
          | cons x r =>
            have := h x
            rw [List.count_append, hBc, List.count_cons_self] at this
            omega
      refine SxCall.sameT 3 4 1 2 (((B.length : Nat) : Int) == 0) rfl rfl hda2 rfl rfl hdb (by rw [List.length_append]; omega) (by omega) hbb ?_
      ((try refine sx_use ?_); (repeat (refine SxNew.mk fun _ => ?_; (try refine sx_use ?_))))
      refine SxRun.blNe Try.underlying4 ?_
      rw [bne_self_eq_false]
      ((try refine sx_use ?_); (repeat (refine SxNew.mk fun _ => ?_; (try refine sx_use ?_))))
      refine SxCode.loop (σ := Nat × List (Pl × Nat)) [13, 4] [101, 102, 103, 104, 107, 108, 109, 110, 111, 112, 113, 4, 105, 106, 13] (fun x => [.int .i64 (x.1 : Nat), .bool false]) (fun x => [.row mo MS.length mc 31 2 (mfE.fl MS), tabE gb mb, mapE plKey mb (kvT db), tabE ga ma, mapE plKey ma (kvT x.2)]) (fun x => x.1 ≤ MS.length ∧ Tab x.2 (A ++ plsM (MS.drop x.1))) (fun x => MS.length - x.1) (0, da2) [0, 1, 2, 3, 4] rfl rfl rfl rfl ⟨Nat.zero_le _, by rw [List.drop_zero, ← hB]; exact hda2⟩ ?_
      rintro ⟨u, dx⟩ ⟨hu, hdx⟩
      dsimp only at hu hdx ⊢
      ((try refine sx_use ?_); (repeat (refine SxNew.mk fun _ => ?_; (try refine sx_use ?_))))
      refine SxIf.dec (fun h => ?_) (fun h => ?_)
      · have hul : u < MS.length := by omega
        obtain ⟨m, hm⟩ : ∃ m, MS[u]? = some m := ⟨MS[u], by simp [hul]⟩
        obtain ⟨gmo, rfl⟩ := hmo (by omega)
        have hml := (hMr m (List.mem_of_getElem? hm)).2
        have hdr : MS.drop u = m :: MS.drop (u + 1) := by rw [List.drop_eq_getElem_cons hul]; congr 1; exact (List.getElem?_eq_some_iff.1 hm).2
        have hle : (plsM (MS.drop u)).length ≤ B.length := by
          have e : plsM MS = plsM (MS.take u) ++ plsM (MS.drop u) := by rw [← plsM_app, List.take_append_drop]
          rw [hB, e, List.length_append]; omega
        have hct : ∀ p, (A ++ plsM (MS.drop u)).count p = A.count p + ((plsOf m.es).count p + (plsM (MS.drop (u + 1))).count p) := fun p => by rw [hdr, plsM_cons, List.count_append, List.count_append]
        have hok : okSub (A ++ plsM (MS.drop u)) (plsOf m.es) := fun p _ => by rw [hct]; omega
        have hT : ∀ d', Tab d' (subL (A ++ plsM (MS.drop u)) (plsOf m.es)) → Tab d' (A ++ plsM (MS.drop (u + 1))) := fun d' h => h.congr fun p => by rw [subL_count, hct, List.count_append]; omega
        ((try refine sx_use ?_); (repeat (refine SxNew.mk fun _ => ?_; (try refine sx_use ?_))))
        refine SxIA.row 0 _ _ _ rfl u rfl hul fun g' hg' => ?_
        obtain rfl : gmo = g' := by simpa using hg'
        ((try refine sx_use ?_); (repeat (refine SxNew.mk fun _ => ?_; (try refine sx_use ?_))))
        refine SxLdN.row 0 rfl rfl rfl (vs := mfE.enc m) rfl (rowMf_at hm) ?_
        ((try refine sx_use ?_); (repeat (refine SxNew.mk fun _ => ?_; (try refine sx_use ?_))))
        refine SxCall.sub 3 4 m rfl rfl hdx (by rw [List.length_append]; omega) (by omega) (fun w' hs => ⟨(hMr m (List.mem_of_getElem? hm)).1.kept hs.touch.below, old_apart hs (q := 4) rfl (hMr m (List.mem_of_getElem? hm)).1⟩) fun d' hd' => ?_
        rw [if_pos hok] at hd' ⊢
        ((try refine sx_use ?_); (repeat (refine SxNew.mk fun _ => ?_; (try refine sx_use ?_))))
        exact SxRound.mk (u + 1, d') [0, 1, 2, 3, 4] rfl rfl rfl ⟨hul, hT d' hd'⟩ (by dsimp only; omega)
      obtain rfl : u = MS.length := by omega
      rw [List.drop_length, show plsM [] = [] from rfl, List.append_nil] at hdx
      ((try refine sx_use ?_); (repeat (refine SxNew.mk fun _ => ?_; (try refine sx_use ?_))))
      refine SxCall.sameT 3 4 1 2 true rfl rfl hdx rfl rfl hdb (by omega) (by omega) ⟨fun _ _ => rfl, fun _ => rfl⟩ ?_
      ((try refine sx_use ?_); (repeat (refine SxNew.mk fun _ => ?_; (try refine sx_use ?_))))
      refine SxCall.sameT 1 2 3 4 true rfl rfl hdb rfl rfl hdx (by omega) (by omega) ⟨fun _ _ => rfl, fun _ => rfl⟩ ?_
      ((try refine sx_use ?_); (repeat (refine SxNew.mk fun _ => ?_; (try refine sx_use ?_))))
      refine SxCall.quiet lv_awake ?_
      ((try refine sx_use ?_); (repeat (refine SxNew.mk fun _ => ?_; (try refine sx_use ?_))))
      exact SxDone.mk fun w' hs => ⟨rfl, hs.touch.below⟩
end Go.Proofs.Ytcpbgacdoigpnaa
