/- Plain: what bytes that were built hold, and that right bytes are what their chunks build. -/
import Derived.Test.YtdhdminocboipaaZBoxL
namespace Go.Proofs.Ytdhdminocboipaa
open Go.RowKit

theorem encB_inj {a b : Int × Int} (ha : 0 ≤ a.1 ∧ a.1 < 65536 ∧ 0 ≤ a.2 ∧ a.2 < 4294967296) (hb : 0 ≤ b.1 ∧ b.1 < 65536 ∧ 0 ≤ b.2 ∧ b.2 < 4294967296) (h : encB a = encB b) : a = b := by
  unfold encB at h
  obtain ⟨h1, h2⟩ := List.append_inj h (by rw [numL_length, numL_length])
  have e1 := congrArg leV h1
  have e2 := congrArg leV h2
  rw [leV_num _ 2 (by omega), leV_num _ 2 (by omega)] at e1
  rw [leV_num _ 4 (by omega), leV_num _ 4 (by omega)] at e2
  exact Prod.ext (by omega) (by omega)
theorem flatB_inj : ∀ {a b : List (Int × Int)}, okF a → okF b → a.length = b.length → a.flatMap encB = b.flatMap encB → a = b
  | [], [], _, _, _, _ => rfl
  | [], _ :: _, _, _, h, _ => by simp at h
  | _ :: _, [], _, _, h, _ => by simp at h
  | x :: a, y :: b, ha, hb, hl, h => by
    simp only [List.flatMap_cons] at h
    obtain ⟨h1, h2⟩ := List.append_inj h (by rw [encB_len, encB_len])
    rw [encB_inj (ha x (List.mem_cons_self ..)) (hb y (List.mem_cons_self ..)) h1, flatB_inj (fun s hs => ha s (List.mem_cons_of_mem _ hs)) (fun s hs => hb s (List.mem_cons_of_mem _ hs)) (by simpa using hl) h2]
theorem frontL_inj {id id' : Int} {a b : List (Int × Int)} (hi : 0 ≤ id ∧ id < 4294967296) (hi' : 0 ≤ id' ∧ id' < 4294967296) (ha : okF a) (hb : okF b) (hl : a.length = b.length) (h : frontL id a = frontL id' b) : id = id' ∧ a = b := by
  unfold frontL preL at h
  obtain ⟨h1, h2⟩ := List.append_inj h (by simp [numL_length])
  refine ⟨?_, flatB_inj ha hb hl h2⟩
  obtain ⟨h3, _⟩ := List.append_inj h1 (by simp [numL_length])
  obtain ⟨_, h4⟩ := List.append_inj h3 rfl
  have e := congrArg leV h4
  rw [leV_num _ 4 (by omega), leV_num _ 4 (by omega)] at e
  omega
theorem okF_slP (s : List UInt8) (n : Nat) : okF (slP s n) := by
  intro x hx
  simp only [slP, tab, List.mem_map] at hx
  obtain ⟨j, _, rfl⟩ := hx
  have h1 := sliceN_lt2 s (10 + 6 * j)
  have h2 := sliceN_lt4 s (12 + 6 * j)
  unfold slotP
  dsimp only
  omega
/-- A box's bytes whose chunks have been changed, but not in length. -/
def mixL (id : Int) (ls ls' : List (List UInt8)) : List UInt8 := sealL (frontL id (slOf ls)) ++ ls'.flatten
theorem lenL_flat : ∀ (ls : List (List UInt8)), ((ls.flatten.length : Nat) : Int) = (lenL ls).sum
  | [] => rfl
  | x :: l => by
    have := lenL_flat l
    simp only [lenL, List.map_cons, List.sum_cons, List.flatten_cons, List.length_append] at this ⊢
    omega
theorem flat_slice : ∀ (ls : List (List UInt8)) (i : Nat) (x : List UInt8), ls[i]? = some x → (ls.flatten.drop (lenL (ls.take i)).sum.toNat).take x.length = x
  | [], i, x, h => by simp at h
  | y :: l, 0, x, h => by
    simp at h; subst h
    simp [lenL]
  | y :: l, i + 1, x, h => by
    have h1 := flat_slice l i x (by simpa using h)
    have h2 : (0 : Int) ≤ (lenL (l.take i)).sum := by rw [← lenL_flat]; omega
    simp only [List.take_succ_cons, lenL, List.map_cons, List.sum_cons, List.flatten_cons] at h1 h2 ⊢
    rw [show ((y.length : Int) + (List.map (fun x => (x.length : Int)) (l.take i)).sum).toNat = y.length + (List.map (fun x => (x.length : Int)) (l.take i)).sum.toNat by omega]
    rw [List.drop_append, List.drop_of_length_le (by omega), List.nil_append, show y.length + (List.map (fun x => (x.length : Int)) (l.take i)).sum.toNat - y.length = (List.map (fun x => (x.length : Int)) (l.take i)).sum.toNat by omega]
    exact h1
structure Mixed (id : Int) (ls ls' : List (List UInt8)) (s : List UInt8) : Prop where
  ok : headOk s
  id : idN s = id
  cnt : cntP s = ls.length
  slots : slH s = slOf ls
  chunk : ∀ (i : Nat) (x : List UInt8), ls'[i]? = some x → chunkL s i = x
theorem sumS_slOf (ls : List (List UInt8)) : sumS (slOf ls) = (lenL ls).sum := by
  unfold sumS
  have := slLens_slOf ls
  unfold slLens at this
  rw [this]
theorem slOf_take (ls : List (List UInt8)) (k : Nat) : (slOf ls).take k = slOf (ls.take k) := by unfold slOf; rw [List.map_take]
theorem lenL_take {ls ls' : List (List UInt8)} (h : lenL ls = lenL ls') (k : Nat) : lenL (ls.take k) = lenL (ls'.take k) := by
  have := congrArg (List.take k) h
  unfold lenL at this ⊢
  rw [List.map_take, List.map_take]; exact this
theorem mixed (id : Int) (ls ls' : List (List UInt8)) (hm : mayB id ls = true) (hl : lenL ls = lenL ls') : Mixed id ls ls' (mixL id ls ls') := by
  have hg : goodB id (slOf ls) = true := by rw [good_slOf]; exact hm
  have hP := goodB_P hg
  obtain ⟨p1, p2, p3, p4, p5, p6⟩ := hP
  rw [slOf_len] at p3 p4
  have hF : okF (slOf ls) := by
    intro x hx
    have h1 := p5 x hx
    refine ⟨by omega, by omega, ?_⟩
    simp only [slOf, List.mem_map] at hx
    obtain ⟨y, _, rfl⟩ := hx
    have := crcMore_lt 0 y
    unfold crcI
    dsimp only
    omega
  generalize hs : mixL id ls ls' = s
  have hfl := frontL_len id (slOf ls)
  rw [slOf_len] at hfl
  have hsl := sealL_len (frontL id (slOf ls))
  have htot : (s.length : Int) = 14 + 6 * (ls.length : Int) + (lenL ls).sum := by
    rw [← hs, mixL, List.length_append, hsl, hfl, hl, ← lenL_flat]; omega
  have hsum : 0 ≤ (lenL ls).sum := by rw [← lenL_flat]; omega
  have hlong : 14 + 6 * ls.length ≤ s.length := by omega
  have htake : s.take (14 + 6 * ls.length) = sealL (frontL id (slOf ls)) := by rw [← hs, mixL]; exact List.take_left' (by omega)
  have hdrop : s.drop (14 + 6 * ls.length) = ls'.flatten := by rw [← hs, mixL]; exact List.drop_left' (by omega)
  have htake2 : s.take (10 + 6 * ls.length) = frontL id (slOf ls) := by
    have := congrArg (List.take (10 + 6 * ls.length)) htake
    rw [List.take_take, Nat.min_eq_left (by omega)] at this
    rw [this, sealL]
    exact List.take_left' (by omega)
  have hcnt : cntP s = ls.length := by
    have h1 : (s.take 10).drop 8 = numL ls.length 2 := by
      have : s.take 10 = preL id ls.length := by
        have h := congrArg (List.take 10) htake2
        rw [List.take_take, Nat.min_eq_left (by omega), frontL, slOf_len] at h
        rw [h]
        exact List.take_left' (by rw [preL_len])
      rw [this, preL]
      exact List.drop_left' (by simp [numL_length])
    unfold cntP sliceN
    rw [List.drop_take] at h1
    have h2 : (s.drop 8).take 2 = numL ls.length 2 := h1
    rw [h2, leV_num _ 2 (by omega)]
  have hmag : s.take 4 = magicL := by
    have h := congrArg (List.take 4) htake2
    rw [List.take_take, Nat.min_eq_left (by omega)] at h
    rw [h]
    simp [frontL, preL, magicL]
  have hfe := (front_eq s ls.length hcnt.symm (by omega)).2 hmag
  rw [htake2] at hfe
  obtain ⟨e1, e2⟩ := frontL_inj ⟨by unfold idN; omega, by have := sliceN_lt4 s 4; unfold idN; omega⟩ ⟨by omega, by omega⟩ (okF_slP s _) hF (by rw [slP_len, slOf_len]) hfe
  have hsize : sizeV (idN s) (slP s (cntP s)) = s.length := by
    rw [hcnt, e1, e2]
    unfold sizeV
    rw [if_pos hg, slOf_len, sumS_slOf, htot]
  have hok : headOk s := (headOk_R s (by omega)).2 ⟨by omega, hsize, by rw [hcnt, e1, e2, htake]⟩
  have hslH : slH s = slOf ls := by unfold slH; rw [hcnt, e2]
  refine ⟨hok, e1, hcnt, hslH, fun i x hx => ?_⟩
  have hi : i < ls.length := by
    have h1 := (List.getElem?_eq_some_iff.1 hx).1
    have h2 := congrArg List.length hl
    simp [lenL] at h2
    omega
  have hget := slH_get s (i := i) (by omega)
  rw [hslH] at hget
  have hlen : (slotP s i).1 = x.length := by
    have h1 : (lenL ls)[i]? = some (slotP s i).1 := by
      have := congrArg (Option.map Prod.fst) hget
      rw [← List.getElem?_map] at this
      exact (slLens_slOf ls) ▸ this
    rw [hl] at h1
    simp only [lenL, List.getElem?_map, hx, Option.map_some, Option.some.injEq] at h1
    exact h1.symm
  unfold chunkL
  rw [hlen, Int.toNat_natCast]
  have hfrom : (fromV (slH s) i).toNat = (14 + 6 * ls.length) + (lenL (ls'.take i)).sum.toNat := by
    unfold fromV
    rw [hslH, slOf_len, slOf_take, sumS_slOf, lenL_take hl]
    have : (0 : Int) ≤ (lenL (ls'.take i)).sum := by rw [← lenL_flat]; omega
    omega
  rw [hfrom, ← List.drop_drop, hdrop]
  exact flat_slice ls' i x hx
theorem buildL_mix (id : Int) (ls : List (List UInt8)) : buildL id ls = mixL id ls ls := rfl
theorem Mixed.crc {id : Int} {ls ls' : List (List UInt8)} {s : List UInt8} (h : Mixed id ls ls' s) {i : Nat} {x y : List UInt8} (hx : ls[i]? = some x) (hy : ls'[i]? = some y) : crcOk s i ↔ crcI y = crcI x := by
  have hi := (List.getElem?_eq_some_iff.1 hx).1
  have hget := slH_get s (i := i) (by rw [h.cnt]; exact hi)
  rw [h.slots] at hget
  simp only [slOf, List.getElem?_map, hx, Option.map_some, Option.some.injEq] at hget
  unfold crcOk
  rw [h.chunk i y hy, ← hget]
theorem built_all {id : Int} {ls : List (List UInt8)} (hm : mayB id ls = true) : allOk (buildL id ls) ∧ chunksL (buildL id ls) ls.length = ls := by
  have h := mixed id ls ls hm rfl
  rw [← buildL_mix] at h
  refine ⟨⟨h.ok, fun i hi => ?_⟩, ?_⟩
  · rw [h.cnt] at hi
    have hx : ls[i]? = some ls[i] := by simp [hi]
    exact (h.crc hx hx).2 rfl
  · apply List.ext_getElem?
    intro i
    by_cases hi : i < ls.length
    · have hx : ls[i]? = some ls[i] := by simp [hi]
      unfold chunksL
      rw [tab_get _ _ _ hi, h.chunk i _ hx, hx]
    · rw [List.getElem?_eq_none (by rw [chunksL_len]; omega), List.getElem?_eq_none (by omega)]
theorem once {s : List UInt8} (h : allOk s) : mayB (idN s) (chunksL s (cntP s)) = true ∧ buildL (idN s) (chunksL s (cntP s)) = s := by
  obtain ⟨hok, hall⟩ := h
  have hf := headFacts hok
  have hlen : ∀ i, i < cntP s → ((chunkL s i).length : Int) = (slotP s i).1 := by
    intro i hi
    obtain ⟨h1, h2, h3, h4⟩ := from_in hok hi
    unfold chunkL
    rw [List.length_take, List.length_drop]
    omega
  have hsl : slOf (chunksL s (cntP s)) = slH s := by
    apply List.ext_getElem?
    intro i
    by_cases hi : i < cntP s
    · rw [slH_get s hi, slOf, List.getElem?_map, chunksL, tab_get _ _ _ hi]
      simp only [Option.map_some, Option.some.injEq]
      exact Prod.ext (hlen i hi) (hall i hi)
    · rw [List.getElem?_eq_none (by rw [slOf_len, chunksL_len]; omega), List.getElem?_eq_none (by rw [slH_len]; omega)]
  have hflat : ∀ k, k ≤ cntP s → (chunksL s k).flatten = (s.drop (14 + 6 * cntP s)).take (sumS ((slH s).take k)).toNat := by
    intro k
    induction k with
    | zero => intro _; simp [chunksL, tab, sumS]
    | succ k ih =>
      intro hk
      have h1 := sum_le _ (okS_take hf.ok k)
      have h2 := hf.ok _ (List.mem_of_getElem? (slH_get s (i := k) (by omega)))
      have h3 := sumS_snoc (slH s) k _ (slH_get s (by omega))
      rw [chunksL_snoc, List.flatten_append, ih (by omega), h3, show (sumS ((slH s).take k) + (slotP s k).1).toNat = (sumS ((slH s).take k)).toNat + (slotP s k).1.toNat by omega, List.take_add, List.drop_drop]
      congr 1
      simp only [List.flatten_cons, List.flatten_nil, List.append_nil]
      unfold chunkL fromV
      rw [slH_len, show (14 + 6 * (cntP s : Int) + sumS ((slH s).take k)).toNat = 14 + 6 * cntP s + (sumS ((slH s).take k)).toNat by omega]
  refine ⟨by rw [← good_slOf, hsl]; exact hf.good, ?_⟩
  have hR := (headOk_R s (by have := hf.long; omega)).1 hok
  unfold buildL
  rw [hsl]
  have h1 := hflat (cntP s) (Nat.le_refl _)
  rw [← slH_len s, List.take_length, slH_len] at h1
  rw [h1, show slH s = slP s (cntP s) from rfl, ← hR.2.2, List.take_of_length_le (l := s.drop (14 + 6 * cntP s)), List.take_append_drop]
  rw [List.length_drop]
  have := hf.all
  unfold slH at this
  omega
end Go.Proofs.Ytdhdminocboipaa
