/- Package slices at api.Place. -/
import Derived.Test.YtcpbgacdoigpnaaZGen
import Derived.Test.YtcpbgacdoigpnaaZPlA
namespace Go.Proofs.Ytcpbgacdoigpnaa
open Go.RowKit

theorem rowPl_at {l : List Pl} {k : Nat} {x : Pl} (h : l[k]? = some x) : ((plE.fl l).drop (k * 2)).take 2 = plE.enc x := plE.fl_at h
theorem rowPl_cell {l : List Pl} {k j : Nat} {x : Pl} {v : Value} (h : l[k]? = some x) (hj : (plE.enc x)[j]? = some v) : (plE.fl l)[k * 2 + j]? = some v := plE.fl_cell h hj
theorem rowPl_all (x : Pl) : ((plE.enc x).drop 0).take 2 = plE.enc x := by
  have h : (plE.enc x).length ≤ 2 := Nat.le_of_eq (plE.len x)
  rw [List.drop_zero, List.take_of_length_le h]
theorem rowPl_len (l : List Pl) : (plE.fl l).length = l.length * 2 := plE.fl_len l
theorem CompactPl_sat {W : World} {M : List Nat} {H : Hp} {w : World} (hs : Sat W M H w) (p : Nat) {ao : Option Addr} {cap : Nat} {l : List Pl} (hl : l.length ≤ 1000000) (hp : H[p]? = some (.row ao l.length cap 25 2 (plE.fl l))) :
    Calls Try.prog 40 #[.slice ao l.length cap] w fun e w' => e = .returned (.slice ao (dd l).length cap) ∧ Sat W M (H.set p (.row ao (dd l).length cap 25 2 (plE.fl (dd l)))) w' := by
  have hrow := hs.row p hp
  by_cases hn : l.length < 2
  · have hdd : dd l = l := by
      match l, hn with
      | [], _ => rfl
      | [x], _ => rfl
    rw [hdd, setH_same hp]
    refine sx_fn (S := SX) (N := 61) Try.func40 rfl rfl rfl hs ?_
    ((try refine sx_use ?_); (repeat (refine SxNew.mk fun _ => ?_; (try refine sx_use ?_))))
    exact SxDone.mk fun w' hs => ⟨rfl, hs⟩
  obtain ⟨g, rfl, hcap⟩ : ∃ g, ao = some ⟨g, 0, none⟩ ∧ l.length ≤ cap := by
    rcases hrow.2 with ⟨h, h0⟩ | ⟨g, c, cur, hv, _, _, hnc, _⟩
    · omega
    · simp only [Value.slice.injEq, true_and] at hv
      obtain ⟨rfl, rfl⟩ := hv
      exact ⟨g, rfl, hnc⟩
  have hp0 : ∀ e', (H.set p e')[p]? = some e' := fun e' => setH_get hp
  have hd1 : dd (l.take 1) = l.take 1 := by
    clear hp hrow hcap
    cases l with
    | nil => rfl
    | cons x r => rfl
  refine sx_fn (S := SX) (N := 61) Try.func40 rfl rfl rfl hs ?_
  ((try refine sx_use ?_); (repeat (refine SxNew.mk fun _ => ?_; (try refine sx_use ?_))))
  refine SxCode.loop (σ := Nat) [3] [10, 11, 12, 13, 16, 17, 18, 19, 20, 21, 22, 23, 24, 25, 26, 27, 28, 4, 5, 29, 30, 31, 32, 35, 36, 37, 38, 39, 40, 41, 42, 43, 44, 45, 46, 47, 48, 49, 50, 51, 52, 53, 3, 33, 34, 54, 55, 56, 57, 58, 59, 2, 14, 15] (fun k => [.int .i64 (k : Nat)]) (fun _ => H) (fun k => 1 ≤ k ∧ k ≤ l.length ∧ dd (l.take k) = l.take k) (fun k => l.length - k) 1 (allI H) rfl rfl (pickH_all H) (nodupB_all H) ⟨Nat.le_refl _, by omega, hd1⟩ ?_
  rintro k ⟨hk1, hk, hd⟩
  ((try refine sx_use ?_); (repeat (refine SxNew.mk fun _ => ?_; (try refine sx_use ?_))))
  refine SxIf.dec (fun h => ?_) (fun h => ?_)
  · have hlt : k < l.length := by omega
    obtain ⟨j, rfl⟩ : ∃ j, k = j + 1 := ⟨k - 1, by omega⟩
    obtain ⟨x, hx⟩ : ∃ x, l[j + 1]? = some x := ⟨l[j + 1], by simp [hlt]⟩
    obtain ⟨a, ha⟩ : ∃ a, l[j]? = some a := ⟨l[j], by simp [show j < l.length by omega]⟩
    have hdt := dd_take ha hx
    ((try refine sx_use ?_); (repeat (refine SxNew.mk fun _ => ?_; (try refine sx_use ?_))))
    refine SxCode.drawAll rfl [] ?_
    ((try refine sx_use ?_); (repeat (refine SxNew.mk fun _ => ?_; (try refine sx_use ?_))))
    refine SxIA.row p _ _ _ hp (j + 1) rfl hlt fun g' hg' => ?_
    obtain rfl : g = g' := by simpa using hg'
    ((try refine sx_use ?_); (repeat (refine SxNew.mk fun _ => ?_; (try refine sx_use ?_))))
    refine SxLdN.row p hp rfl rfl (vs := plE.enc x) (plE.len x) (rowPl_at hx) ?_
    ((try refine sx_use ?_); (repeat (refine SxNew.mk fun _ => ?_; (try refine sx_use ?_))))
    refine SxIA.row p _ _ _ hp j (by omega) (by omega) fun g' hg' => ?_
    obtain rfl : g = g' := by simpa using hg'
    ((try refine sx_use ?_); (repeat (refine SxNew.mk fun _ => ?_; (try refine sx_use ?_))))
    refine SxLdN.row p hp rfl rfl (vs := plE.enc a) (plE.len a) (rowPl_at ha) ?_
    ((try refine sx_use ?_); (repeat (refine SxNew.mk fun _ => ?_; (try refine sx_use ?_))))
    refine SxRun.eqPl (x := x) (y := a) ?_
    ((try refine sx_use ?_); (repeat (refine SxNew.mk fun _ => ?_; (try refine sx_use ?_))))
    refine SxIf.dec (fun h1 => ?_) (fun h1 => ?_)
    · rw [if_pos h1.symm] at hdt
      ((try refine sx_use ?_); (repeat (refine SxNew.mk fun _ => ?_; (try refine sx_use ?_))))
      refine SxBnd.mk (j + 1) l.length rfl rfl (by omega) (by omega) fun ao' h2 h3 => ?_
      have h4 := h2 (by omega)
      subst h4
      ((try refine sx_use ?_); (repeat (refine SxNew.mk fun _ => ?_; (try refine sx_use ?_))))
      refine SxCode.loop (σ := Nat × Nat × List Pl) [5, 3] [29, 30, 31, 32, 35, 36, 37, 38, 39, 40, 41, 42, 43, 44, 45, 46, 47, 48, 49, 50, 51, 52, 53, 3, 33, 34, 5] (fun s => [.int .i64 (s.1 : Nat), .int .i64 (s.2.1 : Nat)]) (fun s => H.set p (.row (some ⟨g, 0, none⟩) l.length cap 25 2 (plE.fl s.2.2)))
        (fun s => 1 ≤ s.1 ∧ j + 1 + s.1 ≤ l.length ∧ 1 ≤ s.2.1 ∧ s.2.1 ≤ j + s.1 ∧ s.2.2.length = l.length ∧ s.2.2.take s.2.1 = dd (l.take (j + 1 + s.1)) ∧ ∀ i, s.2.1 ≤ i → s.2.2[i]? = l[i]?)
        (fun s => l.length - s.1) (1, j + 1, l) (allI H) rfl rfl (by rw [pickH_all, setH_same hp]) (nodupB_all H) ⟨Nat.le_refl _, by dsimp only; omega, by dsimp only; omega, by dsimp only; omega, rfl, by dsimp only; rw [show j + 1 + 1 = j + 2 by omega, hdt, hd], fun i _ => rfl⟩ ?_
      rintro ⟨k2, kk, m⟩ ⟨i1, i2, i3, i4, i5, i6, i7⟩
      dsimp only at i1 i2 i3 i4 i5 i6 i7 ⊢
      ((try refine sx_use ?_); (repeat (refine SxNew.mk fun _ => ?_; (try refine sx_use ?_))))
      refine SxIf.dec (fun h5 => ?_) (fun h5 => ?_)
      · have hlt2 : j + 1 + k2 < l.length := by omega
        obtain ⟨y, hy⟩ : ∃ y, l[j + 1 + k2]? = some y := ⟨l[j + 1 + k2], by simp [hlt2]⟩
        obtain ⟨b, hb⟩ : ∃ b, l[j + k2]? = some b := ⟨l[j + k2], by simp [show j + k2 < l.length by omega]⟩
        have hdt2 := dd_take (k := j + k2) hb (by rw [show j + k2 + 1 = j + 1 + k2 by omega]; exact hy)
        rw [show j + k2 + 2 = j + 1 + (k2 + 1) by omega, show j + k2 + 1 = j + 1 + k2 by omega, ← i6] at hdt2
        have hmy : m[j + 1 + k2]? = some y := by rw [i7 _ (by omega)]; exact hy
        have hmb : m[j + k2]? = some b := by rw [i7 _ (by omega)]; exact hb
        ((try refine sx_use ?_); (repeat (refine SxNew.mk fun _ => ?_; (try refine sx_use ?_))))
        refine SxCode.drawAll rfl [] ?_
        ((try refine sx_use ?_); (repeat (refine SxNew.mk fun _ => ?_; (try refine sx_use ?_))))
        refine SxIA.ptr g (0 + (j + 1) * 2) rfl k2 rfl (by omega) ?_
        ((try refine sx_use ?_); (repeat (refine SxNew.mk fun _ => ?_; (try refine sx_use ?_))))
        refine SxLdN.row p (hp0 _) rfl (j := (j + 1 + k2) * 2) (by omega) (vs := plE.enc y) (plE.len y) (rowPl_at hmy) ?_
        ((try refine sx_use ?_); (repeat (refine SxNew.mk fun _ => ?_; (try refine sx_use ?_))))
        refine SxIA.ptr g (0 + (j + 1) * 2) rfl (k2 - 1) (by omega) (by omega) ?_
        ((try refine sx_use ?_); (repeat (refine SxNew.mk fun _ => ?_; (try refine sx_use ?_))))
        refine SxLdN.row p (hp0 _) rfl (j := (j + k2) * 2) (by omega) (vs := plE.enc b) (plE.len b) (rowPl_at hmb) ?_
        ((try refine sx_use ?_); (repeat (refine SxNew.mk fun _ => ?_; (try refine sx_use ?_))))
        refine SxRun.nePl (x := y) (y := b) ?_
        ((try refine sx_use ?_); (repeat (refine SxNew.mk fun _ => ?_; (try refine sx_use ?_))))
        refine SxIf.nt (SxIf.dec (fun h6 => ?_) (fun h6 => ?_))
        · rw [if_pos h6.symm] at hdt2
          ((try refine sx_use ?_); (repeat (refine SxNew.mk fun _ => ?_; (try refine sx_use ?_))))
          exact SxRound.mk (k2 + 1, kk, m) (allI _) rfl (pickH_all _) (nodupB_all _) ⟨by dsimp only; omega, by dsimp only; omega, i3, by dsimp only; omega, i5, hdt2.symm, i7⟩ (by dsimp only; omega)
        · rw [if_neg fun e => h6 e.symm] at hdt2
          ((try refine sx_use ?_); (repeat (refine SxNew.mk fun _ => ?_; (try refine sx_use ?_))))
          refine SxIA.ptr g (0 + (j + 1) * 2) rfl k2 rfl (by omega) ?_
          ((try refine sx_use ?_); (repeat (refine SxNew.mk fun _ => ?_; (try refine sx_use ?_))))
          refine SxLdN.row p (hp0 _) rfl (j := (j + 1 + k2) * 2) (by omega) (vs := plE.enc y) (plE.len y) (rowPl_at hmy) ?_
          ((try refine sx_use ?_); (repeat (refine SxNew.mk fun _ => ?_; (try refine sx_use ?_))))
          refine SxIA.row p _ _ _ (hp0 _) kk rfl (by omega) fun g' hg' => ?_
          obtain rfl : g = g' := by simpa using hg'
          ((try refine sx_use ?_); (repeat (refine SxNew.mk fun _ => ?_; (try refine sx_use ?_))))
          (try refine SxP.mk (by show (plE.enc y).toArray.size = 2; rw [List.size_toArray]; exact plE.len y) ?_)
          refine SxSt.row p (hp0 _) rfl (j := kk * 2) rfl (by
            have h7 := rowPl_len m
            have h8 := plE.len y
            show kk * 2 + (plE.enc y).length ≤ _
            rw [h7, h8, i5]
            show kk * 2 + 2 ≤ _
            omega) (plE.one y) (cs' := plE.fl (m.set kk y)) (plE.fl_set (by omega)) ?_
          rw [setH_set]
          ((try refine sx_use ?_); (repeat (refine SxNew.mk fun _ => ?_; (try refine sx_use ?_))))
          refine SxRound.mk (k2 + 1, kk + 1, m.set kk y) (allI _) rfl (pickH_all _) (nodupB_all _) ⟨by dsimp only; omega, by dsimp only; omega, by dsimp only; omega, by dsimp only; omega, by dsimp only; rw [List.length_set, i5], ?_, ?_⟩ (by dsimp only; omega)
          · dsimp only
            rw [List.take_add_one, List.getElem?_set_self (by omega), List.take_set_of_le (Nat.le_refl _), hdt2]
            rfl
          · dsimp only
            intro i hi
            rw [List.getElem?_set_ne (by omega)]
            exact i7 i (by omega)
      · obtain rfl : k2 = l.length - (j + 1) := by omega
        rw [show j + 1 + (l.length - (j + 1)) = l.length by omega, List.take_length] at i6
        have hkk : kk = (dd l).length := by rw [← i6, List.length_take]; omega
        ((try refine sx_use ?_); (repeat (refine SxNew.mk fun _ => ?_; (try refine sx_use ?_))))
        refine SxBnd.mk kk l.length rfl rfl (by omega) (by omega) fun ao' h6 h7 => ?_
        have h8 := h6 (by omega)
        subst h8
        ((try refine sx_use ?_); (repeat (refine SxNew.mk fun _ => ?_; (try refine sx_use ?_))))
        refine SxSem.clear rfl rfl Try.underlying28 rfl rfl rfl (by decide) ⟨fun h9 => by omega, fun h9 => ⟨g, 0 + kk * 2, by rw [Option.map_some, Addr.add_lit], ?_⟩⟩
        refine SxSt.row p (hp0 _) rfl (j := kk * 2) rfl ?_ ?_ rfl ?_
        · have h7 := rowPl_len m
          have h8 := zerosL_length ([.int .u32 0, .int .i64 0]) (l.length - kk)
          rw [show (([.int .u32 0, .int .i64 0]) : List Value).length = 2 from rfl] at h8
          show kk * 2 + (zerosL ([.int .u32 0, .int .i64 0]) (l.length - kk)).length ≤ _
          rw [h7, i5, h8]
          have : kk * 2 + (l.length - kk) * 2 = l.length * 2 := by rw [← Nat.add_mul]; congr 1; omega
          omega
        · exact allOne_zeros (by rfl) _
        · rw [setH_set]
          ((try refine sx_use ?_); (repeat (refine SxNew.mk fun _ => ?_; (try refine sx_use ?_))))
          refine SxBnd.mk 0 kk rfl rfl (by omega) (by omega) fun ao' h6 h7 => ?_
          have h8 := h6 (by omega)
          subst h8
          ((try refine sx_use ?_); (repeat (refine SxNew.mk fun _ => ?_; (try refine sx_use ?_))))
          refine SxDone.mk fun w' hs => ?_
          have h9 := hs.cut (m := kk) (hp0 _) (by omega)
          rw [setH_set] at h9
          have e1 : (splice (kk * 2) (zerosL ([.int .u32 0, .int .i64 0]) (l.length - kk)) (plE.fl m)).take (kk * 2) = plE.fl (dd l) := by
            have h10 := plE.fl_take m kk
            unfold splice
            rw [List.append_assoc, List.take_left' (by rw [List.length_take, rowPl_len, i5]; have := Nat.mul_le_mul_right 2 (show kk ≤ l.length by omega); omega), ← i6]
            exact h10
          rw [hkk] at h9 e1 ⊢
          refine ⟨rfl, ?_⟩
          rw [← e1]
          exact h9
    · rw [if_neg fun e => h1 e.symm] at hdt
      ((try refine sx_use ?_); (repeat (refine SxNew.mk fun _ => ?_; (try refine sx_use ?_))))
      exact SxRound.mk (j + 2) (allI _) rfl (pickH_all _) (nodupB_all _) ⟨by omega, by omega, by rw [hdt, hd]; exact (take_snocE hx).symm⟩ (by omega)
  · obtain rfl : k = l.length := by omega
    rw [List.take_length] at hd
    ((try refine sx_use ?_); (repeat (refine SxNew.mk fun _ => ?_; (try refine sx_use ?_))))
    refine SxDone.mk fun w' hs => ?_
    rw [hd, setH_same hp]
    exact ⟨rfl, hs⟩
theorem EqualPl_any (a b : List Pl) (ao bo : Option Addr) (ac bc : Nat) (w : World) (ha : Rd w ao (plE.fl a)) (hb : Rd w bo (plE.fl b)) :
    Calls Try.prog 30 #[.slice ao a.length ac, .slice bo b.length bc] w fun e w' => e = .returned (.bool (decide (a = b))) ∧ Below w.heap.size w w' := by
  have hal : a.length * 2 ≤ maxLen := by have := ha.1; rw [rowPl_len] at this; exact this
  unfold maxLen at hal
  refine sx_fn (S := SX) (M := []) (N := 26) (H0 := [.rd ao (plE.fl a), .rd bo (plE.fl b)]) Try.func30 rfl rfl rfl (Sat.twoRd _ ha hb) ?_
  ((try refine sx_use ?_); (repeat (refine SxNew.mk fun _ => ?_; (try refine sx_use ?_))))
  refine SxIf.ne (fun h => ?_) (fun h => ?_)
  · ((try refine sx_use ?_); (repeat (refine SxNew.mk fun _ => ?_; (try refine sx_use ?_))))
    exact SxDone.mk fun w' hs => ⟨by rw [decide_eq_false fun he => h (by rw [he])]; rfl, hs.touch.below⟩
  have hl : a.length = b.length := by omega
  ((try refine sx_use ?_); (repeat (refine SxNew.mk fun _ => ?_; (try refine sx_use ?_))))
  refine SxCode.loop (σ := Nat) [13] [14, 15, 5, 16, 17, 18, 19, 20, 21, 22, 23, 24, 4, 25, 13] (fun k => [.int .i64 (k : Nat)]) (fun _ => [.rd ao (plE.fl a), .rd bo (plE.fl b)]) (fun k => k ≤ a.length ∧ a.take k = b.take k) (fun k => a.length - k) 0 [0, 1] rfl rfl rfl rfl ⟨Nat.zero_le _, rfl⟩ ?_
  rintro k ⟨hk, he⟩
  ((try refine sx_use ?_); (repeat (refine SxNew.mk fun _ => ?_; (try refine sx_use ?_))))
  refine SxIf.dec (fun h => ?_) (fun h => ?_)
  · have hlt : k < a.length := by omega
    have hlt2 : k < b.length := by omega
    obtain ⟨x, hx⟩ : ∃ x, a[k]? = some x := ⟨a[k], by simp [hlt]⟩
    obtain ⟨y, hy⟩ : ∃ y, b[k]? = some y := ⟨b[k], by simp [hlt2]⟩
    ((try refine sx_use ?_); (repeat (refine SxNew.mk fun _ => ?_; (try refine sx_use ?_))))
    refine SxCode.drawAll rfl [] ?_
    ((try refine sx_use ?_); (repeat (refine SxNew.mk fun _ => ?_; (try refine sx_use ?_))))
    refine SxIA.rd 0 _ rfl k rfl hlt (by rw [rowPl_len]; omega) fun g off ha => ?_
    ((try refine sx_use ?_); (repeat (refine SxNew.mk fun _ => ?_; (try refine sx_use ?_))))
    refine SxLdN.rd 0 rfl ha rfl (vs := plE.enc x) (plE.len x) (rowPl_at hx) ?_
    ((try refine sx_use ?_); (repeat (refine SxNew.mk fun _ => ?_; (try refine sx_use ?_))))
    refine SxIA.rd 1 _ rfl k rfl hlt2 (by rw [rowPl_len]; omega) fun g off ha => ?_
    ((try refine sx_use ?_); (repeat (refine SxNew.mk fun _ => ?_; (try refine sx_use ?_))))
    refine SxLdN.rd 1 rfl ha rfl (vs := plE.enc y) (plE.len y) (rowPl_at hy) ?_
    ((try refine sx_use ?_); (repeat (refine SxNew.mk fun _ => ?_; (try refine sx_use ?_))))
    refine SxRun.nePl (x := x) (y := y) ?_
    ((try refine sx_use ?_); (repeat (refine SxNew.mk fun _ => ?_; (try refine sx_use ?_))))
    refine SxIf.nt (SxIf.dec (fun h2 => ?_) (fun h2 => ?_))
    · subst h2
      ((try refine sx_use ?_); (repeat (refine SxNew.mk fun _ => ?_; (try refine sx_use ?_))))
      exact SxRound.mk (k + 1) [0, 1] rfl rfl rfl ⟨hlt, by rw [take_snocE hx, take_snocE hy, he]⟩ (by omega)
    · have h3 : a ≠ b := fun e => h2 (by subst e; exact Option.some.inj (hx.symm.trans hy))
      ((try refine sx_use ?_); (repeat (refine SxNew.mk fun _ => ?_; (try refine sx_use ?_))))
      exact SxDone.mk fun w' hs => ⟨by rw [decide_eq_false h3]; rfl, hs.touch.below⟩
  · obtain rfl : k = a.length := by omega
    rw [List.take_length, hl, List.take_length] at he
    ((try refine sx_use ?_); (repeat (refine SxNew.mk fun _ => ?_; (try refine sx_use ?_))))
    exact SxDone.mk fun w' hs => ⟨by rw [decide_eq_true he]; rfl, hs.touch.below⟩
end Go.Proofs.Ytcpbgacdoigpnaa
