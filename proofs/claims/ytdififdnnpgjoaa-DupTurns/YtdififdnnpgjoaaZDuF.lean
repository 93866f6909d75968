/- Layer 26: classes. -/
import Derived.Test.YtdififdnnpgjoaaZDuB
import Derived.Test.YtdififdnnpgjoaaZDyn
import Derived.Test.YtdififdnnpgjoaaZSortO
import Derived.Test.YtdififdnnpgjoaaZLyCs
namespace Go.Proofs.Ytdififdnnpgjoaa
open Go.RowKit

section
variable {α : Type} (E : Enc α)
/-- Rows that a call has made, to be read. -/
structure NewReads (w w' : World) (ds : List (Drow α)) : Prop where
  rd : ∀ d ∈ ds, Rd w' d.ao (E.fl d.l)
  up : ∀ d ∈ ds, ∀ g, (Ent.rd d.ao (E.fl d.l)).uses g → w.heap.size ≤ g
def dvE : Enc (Drow α) := ⟨fun d => [d.v], 1, by decide, fun _ => rfl, fun _ => rfl⟩
theorem dvE_len (ds : List (Drow α)) : ((dvE (α := α)).fl ds).length = ds.length * 1 := (dvE (α := α)).fl_len ds
theorem dvE_at {ds : List (Drow α)} {k : Nat} {d : Drow α} (h : ds[k]? = some d) : ((dvE (α := α)).fl ds)[k * 1]? = some d.v := (dvE (α := α)).fl_cell (j := 0) h rfl
def rowsD (e : Nat) (ds : List (Drow α)) : Hp := ds.map (Drow.ent E e)
theorem rowsD_len (e : Nat) (ds : List (Drow α)) : (rowsD E e ds).length = ds.length := List.length_map ..
theorem rowsD_at (e : Nat) {ds : List (Drow α)} {j : Nat} {d : Drow α} (h : ds[j]? = some d) : (rowsD E e ds)[j]? = some (.row d.ao d.l.length d.cap e E.k (E.fl d.l)) := by unfold rowsD; rw [List.getElem?_map, h]; rfl
theorem rowsD_set (e : Nat) (ds : List (Drow α)) (j : Nat) (d : Drow α) : rowsD E e (ds.set j d) = (rowsD E e ds).set j (.row d.ao d.l.length d.cap e E.k (E.fl d.l)) := by unfold rowsD; rw [List.map_set]; rfl
theorem rowsD_snoc (e : Nat) (ds : List (Drow α)) (d : Drow α) : rowsD E e (ds ++ [d]) = rowsD E e ds ++ [.row d.ao d.l.length d.cap e E.k (E.fl d.l)] := by unfold rowsD; rw [List.map_append]; rfl
variable {E} {W : World} {M : List Nat} {H : Hp} {w w' : World}
theorem Sat.newReads (hs : Sat W M H w) {ao : Option Addr} {n cap e k : Nat} {cs : List Value} (h : NewRow w w' ao n cap e k cs) (hm : cs.length ≤ maxLen) {ds : List (Drow α)} (hd : NewReads E w w' ds) : Sat W M (.rd ao cs :: readsG E ds :: H) w' := by
  refine (hs.cons (e := readsG E ds) (Below.toGrown h.below) hd.rd fun g hg => ?_).cons_rd ((hs.addNew h).rowRd 0 rfl hm) fun i e g hi ho hu => ?_
  · obtain ⟨d, h1, h2⟩ := hg
    exact hd.up d h1 g h2
  · cases i with
    | zero => simp at hi; subst hi; cases ho
    | succ i =>
      have a := Ent.uses_lt (hs.holds i e (by simpa using hi)) (Ent.own_uses ho)
      have b := h.above hu
      omega
theorem SxCall.newReads {S : Sx} {f : Nat} {args : Array Value} {A : Value → Hp → Prop} {Q : List (Drow α) → Prop} {e k : Nat} {v : Option Addr → Nat → List (Drow α) → Value} {cs : List (Drow α) → List Value} {n : List (Drow α) → Nat} (hm : ∀ ds, Q ds → (cs ds).length ≤ maxLen)
    (hc : ∀ w, Sat W M H w → Calls S.P f args w fun en w' => ∃ ds ao cap, en = .returned (v ao cap ds) ∧ Q ds ∧ NewRow w w' ao (n ds) cap e k (cs ds) ∧ NewReads E w w' ds) (h : ∀ ds ao cap, Q ds → A (v ao cap ds) (.rd ao (cs ds) :: readsG E ds :: H)) : SxCall S W M f args H A :=
  ⟨fun w hs => (hc w hs).mono fun _ _ he => by
    obtain ⟨ds, ao, cap, h1, h2, h3, h4⟩ := he
    exact ⟨_, _, h1, hs.newReads h3 (hm ds h2) h4, h ds ao cap h2⟩⟩
end
theorem classes1_any (a b : List Ck) (ha0 : a ≠ []) (hb0 : b ≠ []) (ao bo : Option Addr) (ac bc : Nat) (w : World) (ha : Rd w ao (ckE.fl a)) (hb : Rd w bo (ckE.fl b)) :
    Calls Try.prog 51 #[.slice ao a.length ac, .slice bo b.length bc] w fun e w' => e = .returned (.int .i64 (cfP (hdp a) (hdp b))) ∧ Below w.heap.size w w' := by
  obtain ⟨x, hx, hxp, r, rfl⟩ := hdp_mem ha0
  obtain ⟨y, hy, hyp, s, rfl⟩ := hdp_mem hb0
  have h1 : (x :: r)[0]? = some x := rfl
  have h2 : (y :: s)[0]? = some y := rfl
  refine sx_fn (S := SX) (M := []) (N := 14) (H0 := [.rd ao (ckE.fl (x :: r)), .rd bo (ckE.fl (y :: s))]) Try.func51 rfl rfl rfl (Sat.twoRd _ ha hb) ?_
  ((try refine sx_use ?_); (repeat (refine SxNew.mk fun _ => ?_; (try refine sx_use ?_))))
  refine SxCode.drawAll rfl [] ?_
  ((try refine sx_use ?_); (repeat (refine SxNew.mk fun _ => ?_; (try refine sx_use ?_))))
  refine SxIA.rd 0 _ rfl 0 rfl (by simp) (by rw [ckE_len]; simp) fun g off ha => ?_
  ((try refine sx_use ?_); (repeat (refine SxNew.mk fun _ => ?_; (try refine sx_use ?_))))
  refine SxLdN.rd 0 rfl ha rfl (j := 0 * 35) (vs := plC x.pl) rfl (ckE_pl h1) ?_
  ((try refine sx_use ?_); (repeat (refine SxNew.mk fun _ => ?_; (try refine sx_use ?_))))
  refine SxIA.rd 1 _ rfl 0 rfl (by simp) (by rw [ckE_len]; simp) fun g off ha => ?_
  ((try refine sx_use ?_); (repeat (refine SxNew.mk fun _ => ?_; (try refine sx_use ?_))))
  refine SxLdN.rd 1 rfl ha rfl (j := 0 * 35) (vs := plC y.pl) rfl (ckE_pl h2) ?_
  ((try refine sx_use ?_); (repeat (refine SxNew.mk fun _ => ?_; (try refine sx_use ?_))))
  refine SxCall.quiet (places_any x.pl y.pl) ?_
  ((try refine sx_use ?_); (repeat (refine SxNew.mk fun _ => ?_; (try refine sx_use ?_))))
  exact SxDone.mk fun w' hs => ⟨rfl, hs.touch.below⟩
def grL (ds : List (Drow Ck)) : List (List Ck) := ds.map (·.l)
/-- Classes by their first places. -/
abbrev Dm (ds : List (Drow Ck)) := {d : Drow Ck // d ∈ ds}
def cfD {ds : List (Drow Ck)} (x y : Dm ds) : Int := cfP (hdp x.1.l) (hdp y.1.l)
def ltD {ds : List (Drow Ck)} (x y : Dm ds) : Prop := ltP (hdp x.1.l) (hdp y.1.l)
theorem cfD_iff {ds : List (Drow Ck)} (x y : Dm ds) : cfD x y < 0 ↔ ltD x y := cfP_iff _ _
def dmE (ds : List (Drow Ck)) : Enc (Dm ds) := ⟨fun d => [d.1.v], 1, by decide, fun _ => rfl, fun _ => rfl⟩
theorem dmE_fl (ds : List (Drow Ck)) : ∀ q : List (Dm ds), (dmE ds).fl q = (dvE (α := Ck)).fl (q.map (·.1))
  | [] => rfl
  | x :: q => by rw [Enc.fl_cons, dmE_fl ds q, List.map_cons, Enc.fl_cons]; rfl
theorem dm_attach (ds : List (Drow Ck)) : ds.attach.map (·.1) = ds := List.attach_map_subtype_val ds
theorem hd_apart {ds : List (Drow Ck)} {S : List Ck} (hg : Grp (grL ds) S) (hu : ∀ a ∈ S, ∀ b ∈ S, a.pl = b.pl → a = b) {a b : List Ck} (ha : a ∈ grL ds) (hb : b ∈ grL ds) (h : ∀ x ∈ a, ∀ y ∈ b, tkey x ≠ tkey y) : hdp a ≠ hdp b := fun e => by
  obtain ⟨x, hx, hxp, _⟩ := hdp_mem (hg.ne a ha)
  obtain ⟨y, hy, hyp, _⟩ := hdp_mem (hg.ne b hb)
  have hxS : x ∈ S := by rw [← hg.flat]; exact List.mem_flatten.2 ⟨a, ha, hx⟩
  have hyS : y ∈ S := by rw [← hg.flat]; exact List.mem_flatten.2 ⟨b, hb, hy⟩
  have := hu x hxS y hyS (by rw [hxp, hyp, e])
  exact h x hx y hy (by rw [this])
theorem ltD_ord {ds : List (Drow Ck)} {S : List Ck} (hg : Grp (grL ds) S) (hu : ∀ a ∈ S, ∀ b ∈ S, a.pl = b.pl → a = b) : Ordr (ltD (ds := ds)) where
  irr := fun x => ltP_ord.irr _
  tr := fun x y z => ltP_ord.tr _ _ _
  tri := fun x y h1 h2 => by
    have e := ltP_ord.tri _ _ h1 h2
    obtain ⟨i, hi⟩ := List.getElem?_of_mem x.2
    obtain ⟨j, hj⟩ := List.getElem?_of_mem y.2
    obtain ⟨il, ie⟩ := List.getElem?_eq_some_iff.1 hi
    obtain ⟨jl, je⟩ := List.getElem?_eq_some_iff.1 hj
    have hx : x.1.l ∈ grL ds := List.mem_map.2 ⟨x.1, x.2, rfl⟩
    have hy : y.1.l ∈ grL ds := List.mem_map.2 ⟨y.1, y.2, rfl⟩
    have hp := List.pairwise_iff_getElem.1 (List.pairwise_map.1 hg.apart)
    rcases Nat.lt_trichotomy i j with e1 | e1 | e1
    · have := hp i j il jl e1
      rw [ie, je] at this
      exact absurd e (hd_apart hg hu hx hy this)
    · subst e1; exact Subtype.ext (ie.symm.trans je)
    · have := hp j i jl il e1
      rw [ie, je] at this
      exact absurd e.symm (hd_apart hg hu hy hx this)
def srtD (ds : List (Drow Ck)) : List (Drow Ck) := (sorted (cfD (ds := ds)) ds.attach).map (·.1)
theorem srtD_perm {ds : List (Drow Ck)} : (srtD ds).Perm ds := by
  have := (sorted_perm (cfD (ds := ds)) ds.attach).map (·.1)
  rw [dm_attach] at this
  exact this
theorem srtD_cls {ds : List (Drow Ck)} {S : List Ck} (hg : Grp (grL ds) S) (hu : ∀ a ∈ S, ∀ b ∈ S, a.pl = b.pl → a = b) {L : List Ck} (hS : S.Pairwise ltC) (hm : ∀ c, c ∈ S ↔ c ∈ L) : Cls L (grL (srtD ds)) := by
  have hpm : (grL (srtD ds)).Perm (grL ds) := (srtD_perm).map _
  refine Cls.of hg hS hm hpm ?_
  have h1 := sorted_ord (ltD_ord hg hu) cfD_iff ds.attach
  have h2 : (grL (srtD ds)).Pairwise fun g h => ∀ x ∈ g, ∀ y ∈ h, tkey x ≠ tkey y := (hpm.pairwise_iff fun {x y} hxy a ha b hb e => hxy b hb a ha e.symm).2 hg.apart
  have h3 : (srtD ds).Pairwise fun x y => ¬ ltP (hdp y.l) (hdp x.l) := by unfold srtD; exact List.pairwise_map.2 h1
  have h4 : (grL (srtD ds)).Pairwise fun g h => ¬ ltP (hdp h) (hdp g) := by unfold grL; exact List.pairwise_map.2 h3
  refine (h4.and h2).imp_of_mem fun {x y} hx hy hh => ?_
  rcases Classical.em (ltP (hdp x) (hdp y)) with e | e
  · exact e
  · exact absurd (ltP_ord.tri _ _ e hh.1) (hd_apart hg hu (hpm.mem_iff.1 hx) (hpm.mem_iff.1 hy) hh.2)
theorem Rd.grown {w w' : World} {row : Option Nat} {ao : Option Addr} {cs : List Value} (h : Rd w ao cs) (hg : w.grownBy w' row) (hr : ∀ g, row = some g → ¬ (Ent.rd ao cs).uses g) : Rd w' ao cs := Ent.Holds.kept (e := .rd ao cs) h hg hr
set_option maxHeartbeats 8000000 in
theorem classes_any (l : List Ck) (hl : l.length ≤ 100000) (ao : Option Addr) (ac : Nat) (w : World) (hr : Rd w ao (ckE.fl l)) :
    Calls Try.prog 33 #[.slice ao l.length ac] w fun e w' => ∃ (ds : List (Drow Ck)) (ao' : Option Addr) (cap' : Nat), e = .returned (.slice ao' ds.length cap') ∧ (Cls (cnt l) (grL ds) ∧ ds.length ≤ l.length ∧ ∀ d ∈ ds, d.l.length ≤ l.length ∧ d.l.length ≤ d.cap) ∧ NewRow w w' ao' ds.length cap' 23 1 (dvE.fl ds) ∧ NewReads ckE w w' ds := by
  obtain ⟨S, hS⟩ : ∃ S, S = srt l := ⟨_, rfl⟩
  have hSl : S.length ≤ l.length := by rw [hS, srt_len]; exact cnt_len l
  have hSp : S.Pairwise ltC := by rw [hS]; exact srt_strict l
  refine sx_fn (S := SX) (M := []) (N := 51) (H0 := [.row none 0 0 23 1 [], .rd ao (ckE.fl l)]) Try.func33 rfl rfl rfl ((Sat.oneRd _ hr).nilRow 23 1) ?_
  ((try refine sx_use ?_); (repeat (refine SxNew.mk fun _ => ?_; (try refine sx_use ?_))))
  refine SxCall.newRd (by rw [ckE_len, srt_len]; have := cnt_len l; unfold maxLen; omega) (fun w1 hs => Sort_any l hl ao ac w1 (hs.rd 1 rfl)) fun so sc => ?_
  rw [← hS]
  ((try refine sx_use ?_); (repeat (refine SxNew.mk fun _ => ?_; (try refine sx_use ?_))))
  refine SxCode.loop (σ := Nat × List (Drow Ck) × Option Addr × Nat) [10, 3] [11, 12, 13, 5, 14, 15, 6, 16, 17, 18, 19, 20, 21, 22, 23, 24, 25, 26, 27, 28, 29, 30, 31, 32, 33, 34, 35, 36, 37, 38, 39, 40, 41, 42, 43, 44, 45, 46, 3, 47, 10] (fun x => [.int .i64 (x.1 : Nat), .slice x.2.2.1 x.2.1.length x.2.2.2]) (fun x => .row x.2.2.1 x.2.1.length x.2.2.2 23 1 (dvE.fl x.2.1) :: .rd so (ckE.fl S) :: rowsD ckE 33 x.2.1) (fun x => x.1 ≤ S.length ∧ Grp (grL x.2.1) (S.take x.1) ∧ x.2.1.length ≤ x.1 ∧ (x.2.1 = [] → x.2.2.1 = none) ∧ ∀ d ∈ x.2.1, d.l.length ≤ x.1) (fun x => S.length - x.1) (0, [], none, 0) [1, 0] rfl rfl rfl rfl ⟨Nat.zero_le _, Grp.nil, Nat.le_refl _, fun _ => rfl, fun d hd => by simp at hd⟩ ?_
  rintro ⟨k, ds, ro, rc⟩ ⟨hk, hg, hdl, hnil, hdk⟩
  dsimp only at hk hg hdl hnil hdk ⊢
  refine sx_base 0 rfl fun hro hrc => ?_
  by_cases hlt : k < S.length
  · obtain ⟨c, hc⟩ : ∃ c, S[k]? = some c := ⟨S[k], by simp [hlt]⟩
    have hts := take_snocE hc
    rcases List.eq_nil_or_concat ds with h0 | ⟨ds', d, h0⟩
    case' inl =>
      have hn0 : ds.length = 0 := by rw [h0]; rfl
      have hnew : Grp (grL ds ++ [[c]]) (S.take (k + 1)) := by
        rw [hts]
        refine hg.new (by rw [← hts]; exact List.Pairwise.sublist (List.take_sublist _ _) hSp) fun g hg' => ?_
        rw [h0] at hg'; cases hg'
      ((try refine sx_use ?_); (repeat (refine SxNew.mk fun _ => ?_; (try refine sx_use ?_))))
      refine SxIA.rd 1 _ rfl k rfl hlt (by rw [ckE_len]; omega) fun g off ha => ?_
      ((try refine sx_use ?_); (repeat (refine SxNew.mk fun _ => ?_; (try refine sx_use ?_))))
      refine SxLdN.rd 1 rfl ha rfl (vs := ckC c) (ckC_len c) (ckE_at hc) ?_
      ((try refine sx_use ?_); (repeat (refine SxNew.mk fun _ => ?_; (try refine sx_use ?_))))
      rename_i bc
      refine SxSt.elem ckE (x := c) 0 rfl rfl ?_
      ((try refine sx_use ?_); (repeat (refine SxNew.mk fun _ => ?_; (try refine sx_use ?_))))
      (try refine SxCode.drawAll rfl [] ?_)
      (try ((try refine sx_use ?_); (repeat (refine SxNew.mk fun _ => ?_; (try refine sx_use ?_)))))
    case' inr =>
      rw [List.concat_eq_append] at h0
      have hdj : ds[ds'.length]? = some d := by rw [h0, List.getElem?_append_right (Nat.le_refl _), Nat.sub_self]; rfl
      have hgl : grL ds = grL ds' ++ [d.l] := by unfold grL; rw [h0, List.map_append]; rfl
      have hd0 : d.l ≠ [] := hg.ne d.l (by rw [hgl]; simp)
      have hdlk := hdk d (List.mem_of_getElem? hdj)
      obtain ⟨y, hy, hyp, r, hyr⟩ := hdp_mem hd0
      have hy0 : d.l[0]? = some y := by rw [hyr]; rfl
      have hn0 : ds.length = ds'.length + 1 := by rw [h0, List.length_append]; rfl
      have hd1 : 0 < d.l.length := by rw [hyr]; simp
      obtain ⟨gr, rfl⟩ := hro (by omega)
      refine sx_base (ds'.length + 2) (rowsD_at ckE 33 hdj) fun hdo hdc => ?_
      obtain ⟨gd, hgd⟩ := hdo hd1
      ((try refine sx_use ?_); (repeat (refine SxNew.mk fun _ => ?_; (try refine sx_use ?_))))
      refine SxIA.rd 1 _ rfl k rfl hlt (by rw [ckE_len]; omega) fun g off ha => ?_
      ((try refine sx_use ?_); (repeat (refine SxNew.mk fun _ => ?_; (try refine sx_use ?_))))
      refine SxLdN.rd 1 rfl ha rfl (vs := ckC c) (ckC_len c) (ckE_at hc) ?_
      ((try refine sx_use ?_); (repeat (refine SxNew.mk fun _ => ?_; (try refine sx_use ?_))))
      rename_i bc
      refine SxSt.elem ckE (x := c) 0 rfl rfl ?_
      ((try refine sx_use ?_); (repeat (refine SxNew.mk fun _ => ?_; (try refine sx_use ?_))))
      refine SxCode.drawAll rfl [] ?_
      ((try refine sx_use ?_); (repeat (refine SxNew.mk fun _ => ?_; (try refine sx_use ?_))))
      refine SxIA.row 1 _ _ _ rfl ds'.length (by omega) (by omega) fun g' hg' => ?_
      obtain rfl : gr = g' := by simpa using hg'
      ((try refine sx_use ?_); (repeat (refine SxNew.mk fun _ => ?_; (try refine sx_use ?_))))
      refine SxLd.row 1 rfl rfl (j := ds'.length * 1) rfl (v := .slice d.ao d.l.length d.cap) (dvE_at hdj) ?_
      ((try refine sx_use ?_); (repeat (refine SxNew.mk fun _ => ?_; (try refine sx_use ?_))))
      refine SxIA.row (ds'.length + 3) _ _ _ (rowsD_at ckE 33 hdj) 0 rfl hd1 fun g' hg' => ?_
      obtain rfl : gd = g' := by rw [hgd] at hg'; simpa using hg'
      ((try refine sx_use ?_); (repeat (refine SxNew.mk fun _ => ?_; (try refine sx_use ?_))))
      refine SxLdN.row (ds'.length + 3) (rowsD_at ckE 33 hdj) hgd (j := 0 * 35) rfl (vs := ckC y) (ckC_len y) (ckE_at hy0) ?_
      ((try refine sx_use ?_); (repeat (refine SxNew.mk fun _ => ?_; (try refine sx_use ?_))))
      refine SxLdN.blk 0 rfl (vs := ckC c) (ckC_len c) (ckC_all c) ?_
      ((try refine sx_use ?_); (repeat (refine SxNew.mk fun _ => ?_; (try refine sx_use ?_))))
      refine SxCall.quiet (twins_any y c) ?_
      ((try refine sx_use ?_); (repeat (refine SxNew.mk fun _ => ?_; (try refine sx_use ?_))))
      refine SxIf.eq (fun h => ?_) (fun h => ?_)
      case refine_1 =>
        have hkey : tkey y = tkey c := (cmpT.zero _ _).1 h
        ((try refine sx_use ?_); (repeat (refine SxNew.mk fun _ => ?_; (try refine sx_use ?_))))
        refine SxCode.draw rfl [.blk bc 33 (ckC c), .row (some ⟨gr, 0, none⟩) ds.length rc 23 1 (dvE.fl ds)] [12] [0, 1] rfl rfl ?_
        ((try refine sx_use ?_); (repeat (refine SxNew.mk fun _ => ?_; (try refine sx_use ?_))))
        refine SxIA.row 1 _ _ _ rfl ds'.length (by omega) (by omega) fun g' hg' => ?_
        obtain rfl : gr = g' := by simpa using hg'
        ((try refine sx_use ?_); (repeat (refine SxNew.mk fun _ => ?_; (try refine sx_use ?_))))
        refine SxLd.row 1 rfl rfl (j := ds'.length * 1) rfl (v := .slice d.ao d.l.length d.cap) (dvE_at hdj) ?_
        ((try refine sx_use ?_); (repeat (refine SxNew.mk fun _ => ?_; (try refine sx_use ?_))))
        refine SxLdN.blk 0 rfl (vs := ckC c) (ckC_len c) (ckC_all c) ?_
        ((try refine sx_use ?_); (repeat (refine SxNew.mk fun _ => ?_; (try refine sx_use ?_))))
        refine SxFill.one rfl (ckC_len c) ?_
        ((try refine sx_use ?_); (repeat (refine SxNew.mk fun _ => ?_; (try refine sx_use ?_))))
        refine SxApp.mk (ds'.length + 4) (rowsD_at ckE 33 hdj) 0 (.inr (.inr (.inr ⟨by omega, _, rfl⟩))) (vs := ckC c) (m := 1) (by rw [ckC_len]) (ckC_one c) (by unfold maxLen; omega) (by omega) (cs' := ckE.fl (d.l ++ [c])) (by rw [ckE.fl_append, ckE.fl_one]; rfl) fun ao' cap' => ?_
        ((try refine sx_use ?_); (repeat (refine SxNew.mk fun _ => ?_; (try refine sx_use ?_))))
        refine SxIA.row 1 _ _ _ rfl ds'.length (by omega) (by omega) fun g' hg' => ?_
        obtain rfl : gr = g' := by simpa using hg'
        ((try refine sx_use ?_); (repeat (refine SxNew.mk fun _ => ?_; (try refine sx_use ?_))))
        have hset : splice (ds'.length * 1) [Value.slice ao' (d.l.length + 1) cap'] ((dvE (α := Ck)).fl ds) = (dvE (α := Ck)).fl (ds.set ds'.length ⟨ao', cap', d.l ++ [c]⟩) := by
          rw [← (dvE (α := Ck)).fl_set (l := ds) (i := ds'.length) (x := ⟨ao', cap', d.l ++ [c]⟩) (by omega)]
          show splice _ _ _ = splice _ [Value.slice ao' (d.l ++ [c]).length cap'] _
          rw [List.length_append]; rfl
        refine SxSt.row 2 rfl rfl (j := ds'.length * 1) rfl (by rw [dvE_len]; show ds'.length * 1 + 1 ≤ _; omega) rfl hset ?_
        ((try refine sx_use ?_); (repeat (refine SxNew.mk fun _ => ?_; (try refine sx_use ?_))))
        have hgl2 : grL (ds.set ds'.length ⟨ao', cap', d.l ++ [c]⟩) = grL ds' ++ [d.l ++ [c]] := by
          unfold grL
          rw [h0, List.set_append_right _ _ (Nat.le_refl _), Nat.sub_self, List.map_append]; rfl
        have hl : ((rowsD ckE 33 ds).set ds'.length (.row ao' (d.l.length + 1) cap' 33 35 (ckE.fl (d.l ++ [c])))).length = ds.length := by rw [List.length_set, rowsD_len]
        exact SxRound.mk (k + 1, ds.set ds'.length ⟨ao', cap', d.l ++ [c]⟩, some ⟨gr, 0, none⟩, rc) ([2, 3] ++ tailIx 4 ds.length) (by dsimp only; rw [List.length_set]; rfl) (by
          dsimp only
          rw [rowsD_set, List.length_set]
          dsimp only
          rw [List.length_append]
          exact pickH_append (A := [_, _]) rfl (pickH_tail 4 rfl hl)) (nodup_tail 4 _ rfl rfl) ⟨hlt, by dsimp only; rw [hgl2, hts]; rw [hgl] at hg; exact hg.more hy hkey, by dsimp only; rw [List.length_set]; omega, fun hz => (by dsimp only at hz; have h9 := congrArg List.length hz; rw [List.length_set, List.length_nil] at h9; omega), fun e he => by
            dsimp only at he ⊢
            rcases List.mem_or_eq_of_mem_set he with e1 | e1
            · have := hdk e e1; omega
            · rw [e1]; dsimp only; rw [List.length_append]; simp; omega⟩ (by first | omega | (dsimp only; omega))
      have hnew : Grp (grL ds ++ [[c]]) (S.take (k + 1)) := by
        rw [hts]
        refine hg.new (by rw [← hts]; exact List.Pairwise.sublist (List.take_sublist _ _) hSp) fun g hg' => ?_
        rw [hgl] at hg'
        simp only [List.getLast?_append, List.getLast?_singleton, Option.some_or, Option.some.injEq] at hg'
        exact ⟨y, hg' ▸ hy, fun e => h ((cmpT.zero _ _).2 e)⟩
      clear hgd hdo hdc
      ((try refine sx_use ?_); (repeat (refine SxNew.mk fun _ => ?_; (try refine sx_use ?_))))
    all_goals
      refine SxLdN.blk 0 rfl (vs := ckC c) (ckC_len c) (ckC_all c) ?_
      ((try refine sx_use ?_); (repeat (refine SxNew.mk fun _ => ?_; (try refine sx_use ?_))))
      refine SxFill.one rfl (ckC_len c) ?_
      ((try refine sx_use ?_); (repeat (refine SxNew.mk fun _ => ?_; (try refine sx_use ?_))))
      rename_i b1 b2
      refine SxApp.mk 3 rfl 0 (.inr (.inr (.inr ⟨by decide, _, rfl⟩))) (vs := [.slice (some ⟨b1, 0, none⟩) 1 1]) (m := 1) rfl rfl (by unfold maxLen; omega) (by omega) (cs' := (dvE (α := Ck)).fl (ds ++ [⟨some ⟨b1, 0, none⟩, 1, [c]⟩])) (by rw [Enc.fl_append, Enc.fl_one]; rfl) fun ao' cap' => ?_
      ((try refine sx_use ?_); (repeat (refine SxNew.mk fun _ => ?_; (try refine sx_use ?_))))
      exact SxRound.mk (k + 1, ds ++ [⟨some ⟨b1, 0, none⟩, 1, [c]⟩], ao', cap') ([3, 4] ++ (tailIx 5 ds.length ++ [1])) (by dsimp only; rw [List.length_append]; rfl) (by
        dsimp only
        rw [rowsD_snoc, List.length_append]
        dsimp only
        rw [ckE.fl_one]
        exact pickH_append (A := [_, _]) rfl (pickH_append (pickH_tail 5 rfl (rowsD_len ckE _ ds)) rfl)) (nodup_tail_new 5 _ 1 rfl rfl) ⟨hlt, by dsimp only; unfold grL; rw [List.map_append]; exact hnew, by dsimp only; rw [List.length_append]; simp; omega, fun hz => (by dsimp only at hz; simp at hz), fun e he => by
          dsimp only at he ⊢
          rcases List.mem_append.1 he with e1 | e1
          · have := hdk e e1; omega
          · simp only [List.mem_singleton] at e1; rw [e1]; simp⟩ (by first | omega | (dsimp only; omega))
  · obtain rfl : k = S.length := by omega
    rw [List.take_length] at hg
    have hu : ∀ a ∈ S, ∀ b ∈ S, a.pl = b.pl → a = b := fun a ha b hb h => by
      rw [hS, srt_mem] at ha hb; exact cnt_inj ha hb h
    have hcls := srtD_cls hg hu hSp (L := cnt l) fun c => by rw [hS, srt_mem]
    have hsl : (srtD ds).length = ds.length := srtD_perm.length_eq
    have hrow : ∀ (d : Drow Ck), d ∈ ds → ∃ j : Nat, ds[j]? = some d ∧ (ckE.fl d.l).length ≤ maxLen := fun d hd => by
      obtain ⟨j, hj⟩ := List.getElem?_of_mem hd
      have := hdk d hd
      exact ⟨j, hj, by rw [ckE_len]; unfold maxLen; omega⟩
    by_cases h0 : ds = []
    · have hro0 := hnil h0
      subst hro0
      have hsr : srtD ds = ds := by
        have := srtD_perm (ds := ds)
        rw [h0] at this ⊢
        exact List.eq_nil_of_length_eq_zero this.length_eq
      rw [hsr] at hcls
      have hl0 : ds.length = 0 := by rw [h0]; rfl
      ((try refine sx_use ?_); (repeat (refine SxNew.mk fun _ => ?_; (try refine sx_use ?_))))
      refine SxCall.pure (v := .tuple #[]) (fun w1 => by
        rw [hl0]
        exact (AnyF.slices_SortFunc_none { Try.layCs with } none rc _ w1).mono fun e w' h => ⟨h.1, h.2.symm⟩) ?_
      ((try refine sx_use ?_); (repeat (refine SxNew.mk fun _ => ?_; (try refine sx_use ?_))))
      exact SxDone.mk fun w' hs => ⟨ds, none, rc, rfl, ⟨hcls, by omega, fun d hd => by rw [h0] at hd; simp at hd⟩, hs.newRow 0 rfl, fun d hd => by rw [h0] at hd; simp at hd, fun d hd => by rw [h0] at hd; simp at hd⟩
    · obtain ⟨d0, hd0⟩ : ∃ d, d ∈ ds := List.exists_mem_of_ne_nil ds h0
      have hpos : 0 < ds.length := List.length_pos_of_mem hd0
      obtain ⟨gr, rfl⟩ := hro hpos
      haveI : Inhabited (Dm ds) := ⟨⟨d0, hd0⟩⟩
      ((try refine sx_use ?_); (repeat (refine SxNew.mk fun _ => ?_; (try refine sx_use ?_))))
      have hflat : (dvE (α := Ck)).fl ds = (dmE ds).fl ds.attach := by rw [dmE_fl, dm_attach]
      refine SxCall.sortO (S := SX) (cf := cfD) (g := 51) (cb := #[]) (l := ds.attach) (n := ds.length) Try.layCs (dmE ds) (fun d => d.1.v) (fun _ => rfl) rfl (fun _ => rfl) (cmpOk_of (ltD_ord hg hu) cfD_iff) (enters_of Try.func51 (by kernel_rfl) rfl) 0 (by rw [← hflat]; rfl) (by omega) (fun x y w1 w2 hs hgr => ?_) ?_
      · obtain ⟨i, hi, hil⟩ := hrow x.1 x.2
        obtain ⟨j, hj, hjl⟩ := hrow y.1 y.2
        have sep : ∀ (q : Nat) (d : Drow Ck), ds[q]? = some d → ∀ g, some gr = some g → ¬ (Ent.rd d.ao (ckE.fl d.l)).uses g := fun q d hq g he hu => by
          obtain rfl := Option.some.inj he
          exact hs.sep 0 (q + 2) _ _ (by omega) rfl (rowsD_at ckE 33 hq) gr rfl hu.2
        exact classes1_any x.1.l y.1.l (hg.ne _ (List.mem_map.2 ⟨x.1, x.2, rfl⟩)) (hg.ne _ (List.mem_map.2 ⟨y.1, y.2, rfl⟩)) _ _ _ _ w2 ((hs.rowRd (i + 2) (rowsD_at ckE 33 hi) hil).grown hgr (sep i _ hi)) ((hs.rowRd (j + 2) (rowsD_at ckE 33 hj) hjl).grown hgr (sep j _ hj))
      · rw [dmE_fl]
        ((try refine sx_use ?_); (repeat (refine SxNew.mk fun _ => ?_; (try refine sx_use ?_))))
        refine SxDone.mk fun w' hs => ⟨srtD ds, some ⟨gr, 0, none⟩, rc, by rw [hsl]; rfl, ⟨hcls, by omega, fun d hd => ⟨by have := hdk d (srtD_perm.mem_iff.1 hd); omega, by obtain ⟨i, hi, _⟩ := hrow d (srtD_perm.mem_iff.1 hd); exact (Row.base (hs.row (i + 2) (rowsD_at ckE 33 hi))).2⟩⟩, by rw [hsl]; exact hs.newRow 0 rfl, fun d hd => ?_, fun d hd g hg' => ?_⟩
        · obtain ⟨i, hi, hil⟩ := hrow d (srtD_perm.mem_iff.1 hd)
          exact hs.rowRd (i + 2) (rowsD_at ckE 33 hi) hil
        · obtain ⟨i, hi, hil⟩ := hrow d (srtD_perm.mem_iff.1 hd)
          exact (hs.own (i + 2) _ (rowsD_at ckE 33 hi) g hg'.2).resolve_right (by simp)
end Go.Proofs.Ytdififdnnpgjoaa
