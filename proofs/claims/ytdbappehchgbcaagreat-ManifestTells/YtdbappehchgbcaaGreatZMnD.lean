/- Entries out of bytes. -/
import Derived.Test.YtdbappehchgbcaaGreatZMnC
import Derived.Test.YtdbappehchgbcaaGreatZGen
namespace Go.Proofs.YtdbappehchgbcaaGreat
open Go.RowKit

/-- The entry that stands first in bytes. -/
def enOf (l : List UInt8) : En := ⟨(l ++ List.replicate 32 0).take 32, leV ((l.drop 32).take 2), leV ((l.drop 34).take 4), leV ((l.drop 38).take 2), by simp⟩
theorem enOf_fp {l : List UInt8} (h : 40 ≤ l.length) : (enOf l).fp = l.take 32 := by
  show (l ++ List.replicate 32 0).take 32 = _
  rw [List.take_append_of_le_length (by omega)]
theorem leV_lt2 {l : List UInt8} (h : l.length ≤ 2) : leV l < 65536 := by
  have h1 := leV_lt l
  have h2 : 2 ^ (8 * l.length) ≤ 2 ^ 16 := Nat.pow_le_pow_right (by decide) (by omega)
  omega
theorem leV_lt4 {l : List UInt8} (h : l.length ≤ 4) : leV l < 4294967296 := by
  have h1 := leV_lt l
  have h2 : 2 ^ (8 * l.length) ≤ 2 ^ 32 := Nat.pow_le_pow_right (by decide) (by omega)
  omega
theorem numL_take {l : List UInt8} {k : Nat} (h : l.length = k) : numL ((leV l : Nat) : Int).toNat k = l := by
  subst h; exact numL_leV l
theorem enB_of {l : List UInt8} (h : 40 ≤ l.length) : enB (enOf l) = l.take 40 := by
  unfold enB
  rw [enOf_fp h]
  show l.take 32 ++ numL ((leV ((l.drop 32).take 2) : Nat) : Int).toNat 2 ++ numL ((leV ((l.drop 34).take 4) : Nat) : Int).toNat 4 ++ numL ((leV ((l.drop 38).take 2) : Nat) : Int).toNat 2 = _
  rw [numL_take (by rw [List.length_take, List.length_drop]; omega), numL_take (by rw [List.length_take, List.length_drop]; omega), numL_take (by rw [List.length_take, List.length_drop]; omega)]
  rw [← List.take_add, ← List.take_add, ← List.take_add]
theorem enOf_B {e : En} (he : okEn e) (rest : List UInt8) : enOf (enB e ++ rest) = e := by
  obtain ⟨h1, h2, ⟨h3, h4⟩, h5, h6⟩ := he
  have hn : ∀ (x : Int) (k : Nat), 0 ≤ x → x.toNat < 2 ^ (8 * k) → ((leV (numL x.toNat k) : Nat) : Int) = x := fun x k g1 g2 => by
    rw [leV_num x.toNat k g2]; omega
  have a : enB e ++ rest = e.fp ++ (numL e.ln.toNat 2 ++ (numL e.bx.toNat 4 ++ (numL e.sl.toNat 2 ++ rest))) := by unfold enB; simp only [List.append_assoc]
  rw [a]
  have d1 : (e.fp ++ (numL e.ln.toNat 2 ++ (numL e.bx.toNat 4 ++ (numL e.sl.toNat 2 ++ rest)))).drop 32 = numL e.ln.toNat 2 ++ (numL e.bx.toNat 4 ++ (numL e.sl.toNat 2 ++ rest)) := List.drop_left' e.hf
  have d2 : (e.fp ++ (numL e.ln.toNat 2 ++ (numL e.bx.toNat 4 ++ (numL e.sl.toNat 2 ++ rest)))).drop 34 = numL e.bx.toNat 4 ++ (numL e.sl.toNat 2 ++ rest) := by
    rw [show 34 = 32 + 2 from rfl, ← List.drop_drop, d1]; exact List.drop_left' (numL_len _ _)
  have d3 : (e.fp ++ (numL e.ln.toNat 2 ++ (numL e.bx.toNat 4 ++ (numL e.sl.toNat 2 ++ rest)))).drop 38 = numL e.sl.toNat 2 ++ rest := by
    rw [show 38 = 34 + 4 from rfl, ← List.drop_drop, d2]; exact List.drop_left' (numL_len _ _)
  have t1 : (e.fp ++ (numL e.ln.toNat 2 ++ (numL e.bx.toNat 4 ++ (numL e.sl.toNat 2 ++ rest))) ++ List.replicate 32 0).take 32 = e.fp := by
    rw [List.append_assoc]; exact List.take_left' e.hf
  unfold enOf
  obtain ⟨f, ln, bx, sl, hf⟩ := e
  simp only [En.mk.injEq]
  dsimp only at *
  refine ⟨t1, ?_, ?_, ?_⟩
  · rw [d1, List.take_left' (numL_len _ _)]; exact hn ln 2 (by omega) (by omega)
  · rw [d2, List.take_left' (numL_len _ _)]; exact hn bx 4 (by omega) (by omega)
  · rw [d3, List.take_left' (numL_len _ _)]; exact hn sl 2 (by omega) (by omega)
/-- So many entries, one behind the other. -/
def esOf (l : List UInt8) : Nat → List En
  | 0 => []
  | k + 1 => esOf l k ++ [enOf (l.drop (40 * k))]
theorem esOf_len (l : List UInt8) : ∀ k, (esOf l k).length = k
  | 0 => rfl
  | k + 1 => by rw [esOf, List.length_append, esOf_len l k]; rfl
theorem esOf_B (l : List UInt8) : ∀ k, 40 * k ≤ l.length → (esOf l k).flatMap enB = l.take (40 * k)
  | 0, _ => by simp [esOf]
  | k + 1, h => by
    rw [esOf, List.flatMap_append, esOf_B l k (by omega), List.flatMap_cons, List.flatMap_nil, List.append_nil, enB_of (by rw [List.length_drop]; omega), Nat.mul_succ, List.take_add]
theorem esOf_flat (es : List En) (h : allEn es) : ∀ k, k ≤ es.length → esOf (es.flatMap enB) k = es.take k
  | 0, _ => by simp [esOf]
  | k + 1, hk => by
    obtain ⟨x, hx⟩ : ∃ x, es[k]? = some x := ⟨es[k], by simp⟩
    have hd : es.drop k = x :: es.drop (k + 1) := by
      rw [List.drop_eq_getElem_cons (by omega)]
      congr 1
      exact (List.getElem?_eq_some_iff.1 hx).2
    have hdr : (es.flatMap enB).drop (40 * k) = enB x ++ (es.drop (k + 1)).flatMap enB := by
      have e1 : es.flatMap enB = (es.take k).flatMap enB ++ (es.drop k).flatMap enB := by rw [← List.flatMap_append, List.take_append_drop]
      rw [e1, hd, List.flatMap_cons]
      exact List.drop_left' (by rw [flatE_len, List.length_take]; omega)
    rw [esOf, esOf_flat es h k (by omega), hdr, enOf_B (h x (List.mem_of_getElem? hx)), List.take_add_one, hx]; rfl
theorem takeR_ok {n : Nat} {l : List UInt8} (h : n ≤ l.length) : takeR n l 0 = (l.take n, l.drop n, 0) := by unfold takeR; rw [if_neg (by simp), if_neg (by omega)]
theorem takeR_at {n a : Nat} {l : List UInt8} (h : a + n ≤ l.length) : takeR n (l.drop a) 0 = ((l.drop a).take n, l.drop (a + n), 0) := by rw [takeR_ok (by rw [List.length_drop]; omega), List.drop_drop]
theorem allOne_u8m (f : List UInt8) : allOne (f.map u8V) = true := by have := allOne_u8 f []; rw [List.append_nil] at this; exact this
theorem splice_tail {A T vs : List Value} {n j : Nat} (h : A.length = n) : splice (n + j) vs (A ++ T) = A ++ splice j vs T := by
  unfold splice
  subst h
  rw [Nat.add_assoc, List.take_length_add_append, List.drop_length_add_append]
  simp only [List.append_assoc]
theorem splice_front {vs cs : List Value} {n : Nat} (h : vs.length = n) : splice 0 vs cs = vs ++ cs.drop n := by unfold splice; rw [List.take_zero, List.nil_append, Nat.zero_add, h]
section
variable {W : World} {M : List Nat} {H : Hp} {w : World}
theorem U16at {a b c : Ent} {p g k : Nat} {l : List UInt8} (hs : Sat W M (a :: b :: c :: H.set p (rdE g (l.drop k) 0)) w) (hpl : p < H.length) (hk : k + 2 ≤ l.length) :
    Calls Tryz.prog 37 #[.pointer (some ⟨g, 0, none⟩)] w fun e w' => e = .returned (.int .u16 (leV ((l.drop k).take 2) : Nat)) ∧ Sat W M (a :: b :: c :: H.set p (rdE g (l.drop (k + 2)) 0)) w' :=
  (U16_sat hs (p + 3) g (l.drop k) 0 (List.getElem?_set_self hpl)).mono fun e w' h => by
    rw [takeR_at hk] at h
    have h2 : Sat W M (a :: b :: c :: (H.set p (rdE g (l.drop k) 0)).set p (rdE g (l.drop (k + 2)) 0)) w' := h.2
    rw [List.set_set] at h2
    exact ⟨h.1, h2⟩
theorem U32at {a b c : Ent} {p g k : Nat} {l : List UInt8} (hs : Sat W M (a :: b :: c :: H.set p (rdE g (l.drop k) 0)) w) (hpl : p < H.length) (hk : k + 4 ≤ l.length) :
    Calls Tryz.prog 36 #[.pointer (some ⟨g, 0, none⟩)] w fun e w' => e = .returned (.int .u32 (leV ((l.drop k).take 4) : Nat)) ∧ Sat W M (a :: b :: c :: H.set p (rdE g (l.drop (k + 4)) 0)) w' :=
  (U32_sat hs (p + 3) g (l.drop k) 0 (List.getElem?_set_self hpl)).mono fun e w' h => by
    rw [takeR_at hk] at h
    have h2 : Sat W M (a :: b :: c :: (H.set p (rdE g (l.drop k) 0)).set p (rdE g (l.drop (k + 4)) 0)) w' := h.2
    rw [List.set_set] at h2
    exact ⟨h.1, h2⟩
set_option maxHeartbeats 2000000 in
theorem entry_sat (hs : Sat W M H w) (p b : Nat) (l : List UInt8) (hl : 40 ≤ l.length) (hp : H[p]? = some (rdE b l 0)) :
    Calls Tryz.prog 38 #[.agg #[.pointer (some ⟨b, 0, none⟩)]] w fun en w' => en = .returned (.agg (enC (enOf l)).toArray) ∧ Sat W M (H.set p (rdE b (l.drop 40) 0)) w' := by
  have hpl : p < H.length := (List.getElem?_eq_some_iff.1 hp).1
  refine sx_fn (S := SX) (N := 25) Tryz.func38 rfl rfl rfl hs ?_
  ((try refine sx_use ?_); (repeat (refine SxNew.mk fun _ => ?_; (try refine sx_use ?_))))
  rename_i g1 g2 g3
  refine SxCode.draw rfl [.blk g1 77 [.pointer (some ⟨b, 0, none⟩)]] [] [2] rfl rfl ?_
  ((try refine sx_use ?_); (repeat (refine SxNew.mk fun _ => ?_; (try refine sx_use ?_))))
  refine SxBnd.mk 0 32 rfl rfl (by omega) (by omega) fun off' ho => ?_
  obtain rfl : off' = 0 := ho (by omega)
  ((try refine sx_use ?_); (repeat (refine SxNew.mk fun _ => ?_; (try refine sx_use ?_))))
  refine SxCall.sat (_ :: _ :: _ :: H.set p (rdE b (l.drop 32) 0)) (fun w hs => by
    have h := Take_sat hs (p + 3) b l 0 hp 32 (by decide)
    rw [takeR_ok (by omega)] at h
    exact h) ?_
  ((try refine sx_use ?_); (repeat (refine SxNew.mk fun _ => ?_; (try refine sx_use ?_))))
  (try refine SxStable.mk [2] rfl rfl ?_)
  (try ((try refine sx_use ?_); (repeat (refine SxNew.mk fun _ => ?_; (try refine sx_use ?_)))))
  have b1 : leV ((l.drop 32).take 2) < 65536 := leV_lt2 (by rw [List.length_take]; omega)
  have b2 : leV ((l.drop 34).take 4) < 4294967296 := leV_lt4 (by rw [List.length_take]; omega)
  have b3 : leV ((l.drop 38).take 2) < 65536 := leV_lt2 (by rw [List.length_take]; omega)
  have h32 : ((l.take 32).map u8V).length = 32 := by rw [List.length_map, List.length_take]; omega
  refine SxSem.copyS (l := l.take 32) rfl rfl Tryz.underlying61 rfl rfl rfl (by rw [List.length_take]; omega) ?_
  refine SxSt.blk 0 rfl (by rw [Nat.ble_eq, Nat.zero_add]; show ((l.take 32).map u8V).length ≤ 35; omega) (allOne_u8m _) (cs' := (l.take 32).map u8V ++ enT 0 0 0) (by exact splice_front h32) ?_
  ((try refine sx_use ?_); (repeat (refine SxNew.mk fun _ => ?_; (try refine sx_use ?_))))
  refine SxStable.mk [2] rfl rfl ?_
  ((try refine sx_use ?_); (repeat (refine SxNew.mk fun _ => ?_; (try refine sx_use ?_))))
  refine SxCall.sat (_ :: _ :: _ :: H.set p (rdE b (l.drop 34) 0)) (fun w hs => U16at hs hpl (by omega)) ?_
  ((try refine sx_use ?_); (repeat (refine SxNew.mk fun _ => ?_; (try refine sx_use ?_))))
  refine SxSt.blk 0 rfl (by rw [Nat.ble_eq, List.length_append, h32]; show 33 ≤ 35; decide) rfl (cs' := (l.take 32).map u8V ++ enT (leV ((l.drop 32).take 2) : Nat) 0 0) (by exact splice_tail (j := 0) h32) ?_
  ((try refine sx_use ?_); (repeat (refine SxNew.mk fun _ => ?_; (try refine sx_use ?_))))
  refine SxCall.sat (_ :: _ :: _ :: H.set p (rdE b (l.drop 38) 0)) (fun w hs => U32at hs hpl (by omega)) ?_
  ((try refine sx_use ?_); (repeat (refine SxNew.mk fun _ => ?_; (try refine sx_use ?_))))
  refine SxSt.blk 0 rfl (by rw [Nat.ble_eq, List.length_append, h32]; show 34 ≤ 35; decide) rfl (cs' := (l.take 32).map u8V ++ enT (leV ((l.drop 32).take 2) : Nat) (leV ((l.drop 34).take 4) : Nat) 0) (by exact splice_tail (j := 1) h32) ?_
  ((try refine sx_use ?_); (repeat (refine SxNew.mk fun _ => ?_; (try refine sx_use ?_))))
  refine SxCall.sat (_ :: _ :: _ :: H.set p (rdE b (l.drop 40) 0)) (fun w hs => U16at hs hpl (by omega)) ?_
  ((try refine sx_use ?_); (repeat (refine SxNew.mk fun _ => ?_; (try refine sx_use ?_))))
  refine SxSt.blk 0 rfl (by rw [Nat.ble_eq, List.length_append, h32]; show 35 ≤ 35; decide) rfl (cs' := (l.take 32).map u8V ++ enT (leV ((l.drop 32).take 2) : Nat) (leV ((l.drop 34).take 4) : Nat) (leV ((l.drop 38).take 2) : Nat)) (by exact splice_tail (j := 2) h32) ?_
  ((try refine sx_use ?_); (repeat (refine SxNew.mk fun _ => ?_; (try refine sx_use ?_))))
  have hE : (l.take 32).map u8V ++ enT (leV ((l.drop 32).take 2) : Nat) (leV ((l.drop 34).take 4) : Nat) (leV ((l.drop 38).take 2) : Nat) = enE.enc (enOf l) := by
    show _ = enC (enOf l)
    unfold enC
    rw [enOf_fp hl]; rfl
  rw [hE]
  refine SxLdN.blk 0 rfl (vs := enE.enc (enOf l)) (enE.len _) (rowEn_all _) ?_
  ((try refine sx_use ?_); (repeat (refine SxNew.mk fun _ => ?_; (try refine sx_use ?_))))
  refine SxSt.elem enE (x := enOf l) 1 rfl rfl ?_
  ((try refine sx_use ?_); (repeat (refine SxNew.mk fun _ => ?_; (try refine sx_use ?_))))
  refine SxLdN.blk 1 rfl (vs := enE.enc (enOf l)) (enE.len _) (rowEn_all _) ?_
  ((try refine sx_use ?_); (repeat (refine SxNew.mk fun _ => ?_; (try refine sx_use ?_))))
  exact SxDone.mk fun w' hs => ⟨rfl, hs.tail.tail.tail⟩
end
end Go.Proofs.YtdbappehchgbcaaGreat
