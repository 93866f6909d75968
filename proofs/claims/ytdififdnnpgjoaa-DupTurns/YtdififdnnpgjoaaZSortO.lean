/- slices.SortFunc over a call's own row of elements of one cell. No program is named here. -/
import Derived.Test.YtdififdnnpgjoaaZGen
namespace Go.Proofs.Ytdififdnnpgjoaa
open Go.RowKit Go.Sort Go.Shelf

theorem flO {α : Type} (E : Enc α) (enc : α → Value) (he : ∀ x, E.enc x = [enc x]) : ∀ (l : List α) (j : Nat), (E.fl l)[j]? = l[j]?.map enc
  | [], j => rfl
  | x :: l, 0 => by rw [E.fl_cons, he]; rfl
  | x :: l, j + 1 => by rw [E.fl_cons, he]; exact flO E enc he l j
section
variable {α : Type} [Inhabited α]
theorem putRowO_grown {w : World} {blk : Nat} (enc : α → Value) (F : Array α) (m : Nat) (os : Array Obj) : w.grownBy (grow (putRow enc (Sort.ahead w m) blk 0 F) os) (some blk) := by
  refine ⟨rfl, rfl, rfl, ?_, fun k hk hne => ?_⟩
  · simp [grow, putRow, mapBlock, Sort.ahead]
  · show ((w.heap.modify blk _) ++ os)[k]? = w.heap[k]?
    rw [Array.getElem?_append_left (by simpa using hk), Array.getElem?_modify, if_neg (fun e => hne (by rw [e]))]
theorem putRowO_own (E : Enc α) (enc : α → Value) (he : ∀ x, E.enc x = [enc x]) (hk : E.k = 1) {w : World} {e g n cap : Nat} {cs : List Value} (hr : w.ownsRow 0 e E.k (.slice (some ⟨g, 0, none⟩) n cap) n cs) (d : Array α) (hd : d.size = n) (m : Nat) (os : Array Obj) :
    (grow (putRow enc (Sort.ahead w m) g 0 d) os).ownsRow 0 e E.k (.slice (some ⟨g, 0, none⟩) n cap) n (E.fl d.toList) := by
  refine ⟨by rw [E.fl_len, Array.length_toList, hd], .inr ?_⟩
  rcases hr.2 with ⟨h, _⟩ | ⟨g', c', cur, hv, _, hh, hnc, hcm, hs, _⟩
  · cases h
  · simp only [Value.slice.injEq, Option.some.injEq, Addr.mk.injEq, and_true, true_and] at hv
    obtain ⟨rfl, rfl⟩ := hv
    have hg := (Array.getElem?_eq_some_iff.1 hh).1
    refine ⟨g, cap, putCells enc 0 d cur, rfl, Nat.zero_le _, ?_, hnc, hcm, by simp [putCells, hs], ?_⟩
    · show ((w.heap.modify g _) ++ os)[g]? = _
      rw [Array.getElem?_append_left (by simpa using hg), Array.getElem?_modify, if_pos rfl, hh]
      rfl
    · apply List.ext_getElem?
      intro j
      rw [List.getElem?_take, hk, Nat.mul_one]
      by_cases hj : j < n
      · rw [if_pos hj, Array.getElem?_toList, flO E enc he]
        have hjc : j < cur.size := by rw [hs, hk]; omega
        have hjd : j < d.size := by omega
        simp only [putCells, Array.getElem?_mapIdx, Array.getElem?_eq_getElem hjc, Option.map_some, Nat.zero_le, true_and, Nat.zero_add, Nat.sub_zero]
        rw [if_pos hjd, Array.getElem?_toList, Array.getElem?_eq_getElem hjd, getElem!_pos d j hjd]
        rfl
      · rw [if_neg hj, List.getElem?_eq_none (by rw [E.fl_len, Array.length_toList, hd, hk]; omega)]
theorem sortO_calls {P : Program} {ρ : Ren} (L : SlLaysF.n6 P ρ) (E : Enc α) (enc : α → Value) (he : ∀ x, E.enc x = [enc x]) (hk : E.k = 1) (h1 : OneCell enc)
    {cf : α → α → Int} (hO : CmpOk cf) (g : Nat) (cb : Array Value) (eg : ∀ args w, (callFunc g args).run P w = .ok (.enter g args) w) {w : World} {e cap n b : Nat} {l : List α}
    (hr : w.ownsRow 0 e E.k (.slice (some ⟨b, 0, none⟩) n cap) n (E.fl l)) (hn : n < 4611686018427387904)
    (hc : ∀ x y w', w.grownBy w' (some b) → Calls P g (#[enc x, enc y] ++ cb) w' fun e w'' => e = .returned (.int .i64 (cf x y)) ∧ Below w'.heap.size w' w'') :
    Calls P (ρ.f 6) #[.slice (some ⟨b, 0, none⟩) n cap, .func (.func g) #[] cb] w fun en w' => en = .returned (.tuple #[]) ∧ w.grownBy w' (some b) ∧ w'.ownsRow 0 e E.k (.slice (some ⟨b, 0, none⟩) n cap) n (E.fl (sorted cf l)) := by
  have hnl : n = l.length := by
    have := hr.1
    rw [E.fl_len] at this
    exact (Nat.eq_of_mul_eq_mul_right E.k0 this).symm
  subst hnl
  have hlt : b < w.heap.size := (World.ownsRow.lt hr b (by simp [Value.ownBlock])).2
  have hH : Holds enc w b 0 l.toArray := by
    intro j hj
    rw [List.size_toArray] at hj
    rcases hr.2 with ⟨h, _⟩ | ⟨g', c', cur, hv, _, hh, hnc, hcm, hs, ht⟩
    · cases h
    · simp only [Value.slice.injEq, Option.some.injEq, Addr.mk.injEq, and_true, true_and] at hv
      obtain ⟨rfl, rfl⟩ := hv
      have hjc : j < cur.size := by rw [hs, hk]; omega
      refine ⟨?_, ?_⟩
      · rw [World.cell?, Nat.zero_add]
        dsimp only
        rw [hh]
        dsimp only
        have e1 := flO E enc he l j
        rw [← ht, List.getElem?_take, hk, Nat.mul_one, if_pos hj, Array.getElem?_toList] at e1
        rw [e1]
        show (if (Option.isSome _) = true then none else l[j]?.map enc) = _
        rw [List.getElem?_eq_getElem hj]
        show some (enc l[j]) = _
        rw [getElem!_pos l.toArray j (by simpa using hj)]
        rfl
      · unfold World.frozen?
        dsimp only
        rw [hh]
        simp
  have hcmp : CmpLays1 P g cb enc cf b 0 l.toArray.size w := by
    intro m os dk hdk x y
    have h := Calls.drawn (hc x y (sortWorld enc w b 0 m dk os) (putRowO_grown enc dk m os))
    exact h.mono fun en w'' hh => ⟨hh.1.1, drew_of_below hh.1.2 (hh.2 _ hh.1.1)⟩
  have h := Any.slices_SortFunc_total L enc h1 cf hO.swo g cb b 0 cap l.toArray w eg hcmp hH hlt (by simpa using hn) hO.tot
  refine h.mono fun en w' hh => ?_
  obtain ⟨h1, m, os, rfl⟩ := hh
  refine ⟨h1, putRowO_grown enc _ m os, ?_⟩
  exact putRowO_own E enc he hk hr (sorted cf l).toArray (by simp [sorted_len]) m os
end
section
variable {α : Type} [Inhabited α] {S : Sx} {W : World} {M : List Nat} {H : Hp} {A : Value → Hp → Prop}
theorem SxCall.sortO {ρ : Ren} (L : SlLaysF.n6 S.P ρ) (E : Enc α) (enc : α → Value) (he : ∀ x, E.enc x = [enc x]) (hk : E.k = 1) (h1 : OneCell enc)
    {cf : α → α → Int} (hO : CmpOk cf) {g : Nat} {cb : Array Value} (eg : ∀ args w, (callFunc g args).run S.P w = .ok (.enter g args) w) (p : Nat) {e cap n b : Nat} {l : List α}
    (hp : H[p]? = some (.row (some ⟨b, 0, none⟩) n cap e E.k (E.fl l))) (hn : n < 4611686018427387904)
    (hc : ∀ x y w w', Sat W M H w → w.grownBy w' (some b) → Calls S.P g (#[enc x, enc y] ++ cb) w' fun e w'' => e = .returned (.int .i64 (cf x y)) ∧ Below w'.heap.size w' w'')
    (h : A (.tuple #[]) (H.set p (.row (some ⟨b, 0, none⟩) n cap e E.k (E.fl (sorted cf l))))) : SxCall S W M (ρ.f 6) #[.slice (some ⟨b, 0, none⟩) n cap, .func (.func g) #[] cb] H A :=
  ⟨fun w hs => (sortO_calls L E enc he hk h1 hO g cb eg (hs.row p hp) hn (fun x y w' hg => hc x y w w' hs hg)).mono fun en w' hh => by
    obtain ⟨h1, h2, h3⟩ := hh
    exact ⟨_, _, h1, hs.set hp h2 (e' := .row (some ⟨b, 0, none⟩) n cap e E.k (E.fl (sorted cf l))) h3 (fun g hg => .inl hg), h⟩⟩
end
end Go.Proofs.Ytdififdnnpgjoaa
