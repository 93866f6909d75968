/- Texts of this claim, one behind the other. -/
import Derived.Test.YtlmefcepdadfjaaGreatZWg
import Derived.Test.YtlmefcepdadfjaaGreatZStO
import Derived.Test.YtlmefcepdadfjaaGreatZSlFp
import Derived.Test.YtlmefcepdadfjaaGreatZSlSr
/- The walks: Turn and Join of package weigh; Of, Turn and Join of the document's. -/
namespace Go.Proofs.YtlmefcepdadfjaaGreat
open Go.RowKit

theorem xor_top (R : Nat) (h : R < 2 ^ 63) : R ^^^ 2 ^ 63 = 2 ^ 63 + R := by
  have h1 := Nat.two_pow_add_eq_or_of_lt (i := 63) h 1
  rw [Nat.mul_one] at h1
  rw [h1]
  apply Nat.eq_of_testBit_eq
  intro i
  rw [Nat.testBit_xor, Nat.testBit_or, Nat.testBit_two_pow]
  by_cases hi : 63 = i
  · subst hi
    have : R.testBit 63 = false := Nat.testBit_lt_two_pow h
    simp [this]
  · simp [hi]
theorem negF_W {a : Nat} {n : Int} (ha : IsW a n) : IsW (Op.negFloat .f64 a) (-n) := by
  obtain ⟨_, hb, s, rfl, h1, h2⟩ := ha
  have hneg : Op.negFloat .f64 (fW s n.natAbs) = fW (!s) n.natAbs := by
    rcases Nat.eq_zero_or_pos n.natAbs with h0 | h0
    · rw [h0, fW_zero, fW_zero]; cases s <;> decide +kernel
    · rw [fW_word s _ h0 hb, fW_word (!s) _ h0 hb]
      have hf := full_bounds h0 hb
      have hl := log2_lt53 h0 hb
      have hr : rungOf n.natAbs < 9223372036854775808 := by unfold rungOf; omega
      have hx := xor_top (rungOf n.natAbs) hr
      have hx2 : (2 ^ 63 + rungOf n.natAbs) ^^^ 2 ^ 63 = rungOf n.natAbs := by rw [← hx, Nat.xor_assoc, Nat.xor_self, Nat.xor_zero]
      have hsw : Ieee.double.signWeight = 2 ^ 63 := dbl_sign
      show (Ieee.double.word s (rungOf n.natAbs)) ^^^ 2 ^ 63 = Ieee.double.word (!s) (rungOf n.natAbs)
      unfold Ieee.Format.word
      rw [hsw]
      cases s
      · exact hx
      · exact hx2
  rw [hneg, ← Int.natAbs_neg]
  exact isW_fW (!s) (-n) (by rw [Int.natAbs_neg]; exact hb) (fun h => by rw [h2 (by omega)]; rfl) (fun h => by rw [h1 (by omega)]; rfl)
def turnW (a b : Int) : Nat → Int × Int
  | 0 => (a, b)
  | k + 1 => (-(turnW a b k).2, (turnW a b k).1)
theorem turnW_bd (a b : Int) : ∀ k, (turnW a b k).1.natAbs ≤ max a.natAbs b.natAbs ∧ (turnW a b k).2.natAbs ≤ max a.natAbs b.natAbs
  | 0 => by simp only [turnW]; omega
  | k + 1 => by have := turnW_bd a b k; simp only [turnW, Int.natAbs_neg]; omega
theorem Turn_any (a b : Nat) (m n : Int) (ha : IsW a m) (hb : IsW b n) (k : Nat) (hk : k ≤ 1000000000) (w : World) :
    Calls Tryz.prog 91 #[.complex .f64 a b, .int .i64 k] w fun e w' => e = .returned (wv (turnW m n (k % 4)).1 (turnW m n (k % 4)).2) ∧ Below w.heap.size w w' := by
  refine sx_fn (S := SX) (M := []) (N := 23) (H0 := []) Tryz.func91 rfl rfl rfl (Sat.nil _ _) ?_
  ((try refine sU ?_);repeat(refine sN fun _=>?_;try refine sU ?_))
  refine SxCall.quiet (may_any a b m n ha hb) ?_
  ((try refine sU ?_);repeat(refine sN fun _=>?_;try refine sU ?_))
  refine SxCode.loop (σ := Nat × Nat × Nat) [12, 0] [13, 14, 15, 16, 17, 18, 19, 0, 20, 12] (fun x => [.int .i64 (x.1 : Nat), .complex .f64 x.2.1 x.2.2]) (fun _ => []) (fun x => x.1 ≤ k % 4 ∧ IsW x.2.1 (turnW m n x.1).1 ∧ IsW x.2.2 (turnW m n x.1).2) (fun x => k % 4 - x.1) (0, a, b) [] rfl rfl rfl rfl ⟨Nat.zero_le _, ha, hb⟩ ?_
  rintro ⟨j, U, V⟩ ⟨hj, hU, hV⟩
  dsimp only at hj hU hV ⊢
  ((try refine sU ?_);repeat(refine sN fun _=>?_;try refine sU ?_))
  refine SxIf.dec (fun h => ?_) (fun h => ?_)
  · have hlt : j < k % 4 := by omega
    ((try refine sU ?_);repeat(refine sN fun _=>?_;try refine sU ?_))
    refine SxRun.fneg (r := Op.negFloat .f64 V) rfl ?_
    ((try refine sU ?_);repeat(refine sN fun _=>?_;try refine sU ?_))
    exact SxRound.mk (j + 1, Op.negFloat .f64 V, U) [] rfl rfl rfl ⟨by dsimp only; omega, negF_W hV, hU⟩ (by dsimp only; omega)
  · obtain rfl : j = k % 4 := by omega
    ((try refine sU ?_);repeat(refine sN fun _=>?_;try refine sU ?_))
    refine SxCall.quiet (plain_any U V _ _ hU hV) ?_
    ((try refine sU ?_);repeat(refine sN fun _=>?_;try refine sU ?_))
    exact SxDone.mk fun w' hs => ⟨rfl, hs.touch.below⟩
theorem WJoin_any (a b c d : Nat) (A B C D : Int) (ha : IsW a A) (hb : IsW b B) (hc : IsW c C) (hd : IsW d D) (k : Nat) (hk : k ≤ 1000000000) (h1 : (A + (turnW C D (k % 4)).1).natAbs < 9007199254740992) (h2 : (B + (turnW C D (k % 4)).2).natAbs < 9007199254740992) (w : World) :
    Calls Tryz.prog 62 #[.complex .f64 a b, .int .i64 k, .complex .f64 c d] w fun e w' => e = .returned (wv (A + (turnW C D (k % 4)).1) (B + (turnW C D (k % 4)).2)) ∧ Below w.heap.size w w' := by
  have hbd := turnW_bd C D (k % 4)
  have hcb := hc.2.1
  have hdb := hd.2.1
  have e1 := cadd_W ha hb (isW_fI (turnW C D (k % 4)).1 (by omega)) (isW_fI (turnW C D (k % 4)).2 (by omega)) h1 h2 (.inr rfl) (.inr rfl)
  refine sx_fn (S := SX) (M := []) (N := 21) (H0 := []) Tryz.func62 rfl rfl rfl (Sat.nil _ _) ?_
  ((try refine sU ?_);repeat(refine sN fun _=>?_;try refine sU ?_))
  refine SxCall.quiet (may_any a b A B ha hb) ?_
  ((try refine sU ?_);repeat(refine sN fun _=>?_;try refine sU ?_))
  refine SxCall.quiet (may_any c d C D hc hd) ?_
  ((try refine sU ?_);repeat(refine sN fun _=>?_;try refine sU ?_))
  refine SxCall.quiet (Turn_any c d C D hc hd k hk) ?_
  ((try refine sU ?_);repeat(refine sN fun _=>?_;try refine sU ?_))
  refine SxRun.cadd e1 ?_
  ((try refine sU ?_);repeat(refine sN fun _=>?_;try refine sU ?_))
  refine SxCall.quiet (plain_any _ _ _ _ (isW_fI _ h1) (isW_fI _ h2)) ?_
  ((try refine sU ?_);repeat(refine sN fun _=>?_;try refine sU ?_))
  exact SxDone.mk fun w' hs => ⟨rfl, hs.touch.below⟩
end Go.Proofs.YtlmefcepdadfjaaGreat
/- The walks: Of, Turn and Join of the document's weights. -/
namespace Go.Proofs.YtlmefcepdadfjaaGreat
open Go.RowKit

theorem wAt_succ (l : List UInt8) (j k : Nat) : wAt l j (k + 1) = wAt l j k + (if k % 4 = j then ((l.getD k 0).toNat : Int) else 0) := rfl
end Go.Proofs.YtlmefcepdadfjaaGreat
/- Layer 23: how much is laid of a text; texts that come one behind the other; plain. -/
namespace Go.Proofs.YtlmefcepdadfjaaGreat
open Go.RowKit

theorem wAt_leftS (a b : List UInt8) (j : Nat) : ∀ k, k ≤ a.length → wAt (a ++ b) j k = wAt a j k
  | 0, _ => rfl
  | k + 1, h => by
    rw [wAt_succ, wAt_succ, wAt_leftS a b j k (by omega)]
    congr 2
    rw [List.getD_eq_getElem?_getD, List.getD_eq_getElem?_getD, List.getElem?_append_left (by omega)]
theorem wAt_catS (a b : List UInt8) (j i : Nat) (hi : i < 4) (hj : j < 4) (he : (a.length + i) % 4 = j) : ∀ k, wAt (a ++ b) j (a.length + k) = wAt a j a.length + wAt b i k
  | 0 => by rw [Nat.add_zero, wAt_leftS a b j _ (Nat.le_refl _)]; show _ = _ + 0; omega
  | k + 1 => by
    rw [← Nat.add_assoc, wAt_succ, wAt_succ, wAt_catS a b j i hi hj he k, Int.add_assoc]
    congr 2
    have hg : (a ++ b).getD (a.length + k) 0 = b.getD k 0 := by
      rw [List.getD_eq_getElem?_getD, List.getD_eq_getElem?_getD, List.getElem?_append_right (by omega), Nat.add_sub_cancel_left]
    rw [hg]
    by_cases h : k % 4 = i
    · rw [if_pos h, if_pos (by omega)]
    · rw [if_neg h, if_neg (by omega)]
theorem cat_WS (a b : List UInt8) : reW (a ++ b) (a ++ b).length = reW a a.length + (turnW (reW b b.length) (imW b b.length) (a.length % 4)).1 ∧ imW (a ++ b) (a ++ b).length = imW a a.length + (turnW (reW b b.length) (imW b b.length) (a.length % 4)).2 := by
  have hl : (a ++ b).length = a.length + b.length := List.length_append
  unfold reW imW
  rw [hl]
  have h4 : a.length % 4 = 0 ∨ a.length % 4 = 1 ∨ a.length % 4 = 2 ∨ a.length % 4 = 3 := by omega
  rcases h4 with h | h | h | h
  · rw [wAt_catS a b 0 0 (by omega) (by omega) (by omega), wAt_catS a b 1 1 (by omega) (by omega) (by omega), wAt_catS a b 2 2 (by omega) (by omega) (by omega), wAt_catS a b 3 3 (by omega) (by omega) (by omega), h]
    simp only [turnW]
    omega
  · rw [wAt_catS a b 0 3 (by omega) (by omega) (by omega), wAt_catS a b 1 0 (by omega) (by omega) (by omega), wAt_catS a b 2 1 (by omega) (by omega) (by omega), wAt_catS a b 3 2 (by omega) (by omega) (by omega), h]
    simp only [turnW]
    omega
  · rw [wAt_catS a b 0 2 (by omega) (by omega) (by omega), wAt_catS a b 1 3 (by omega) (by omega) (by omega), wAt_catS a b 2 0 (by omega) (by omega) (by omega), wAt_catS a b 3 1 (by omega) (by omega) (by omega), h]
    simp only [turnW]
    omega
  · rw [wAt_catS a b 0 1 (by omega) (by omega) (by omega), wAt_catS a b 1 2 (by omega) (by omega) (by omega), wAt_catS a b 2 3 (by omega) (by omega) (by omega), wAt_catS a b 3 0 (by omega) (by omega) (by omega), h]
    simp only [turnW]
    omega
theorem ba_extS {a b : ByteArray} (h : a.data.toList = b.data.toList) : a = b := by
  apply ByteArray.ext
  exact Array.ext' h
theorem ba_extractS (s : ByteArray) (i j : Nat) : (s.extract i j).data.toList = (s.data.toList.drop i).take (j - i) := by simp
theorem ba_appendS (s t : ByteArray) : (s ++ t).data.toList = s.data.toList ++ t.data.toList := by simp
theorem ba_lenS (s : ByteArray) : s.data.toList.length = s.size := by simp
theorem app_preS (r t : ByteArray) (n : Nat) (h : n ≤ r.size) : (r ++ t).extract 0 n = r.extract 0 n := by
  apply ba_extS
  rw [ba_extractS, ba_extractS, ba_appendS, List.drop_zero, List.drop_zero, List.take_append_of_le_length (by rw [ba_lenS]; omega)]
theorem app_postS (r t : ByteArray) (n : Nat) (h : n ≤ r.size) : (r ++ t).extract n (r ++ t).size = r.extract n r.size ++ t := by
  apply ba_extS
  have hl := ba_lenS r
  have hl2 := ba_lenS t
  rw [ba_extractS, ba_appendS, ba_appendS, ba_extractS, List.drop_append_of_le_length (by omega), List.take_of_length_le (by simp; omega), List.take_of_length_le (by simp)]
theorem Cuts.moreS {k : Conf4} {s r : ByteArray} (t : ByteArray) {cs : List ByteArray} (h : Cuts k s cs r) : Cuts k (s ++ t) cs (r ++ t) := by
  induction h with
  | nil => exact .nil
  | @snoc cs r h hn ih =>
    have h1 : (r ++ t).data.toList = r.data.toList ++ t.data.toList := by simp
    have h2 := cutN_app k r.data.toList t.data.toList hn
    rw [← h1] at h2
    have hle := cutN_le k r.data.toList
    rw [ba_lenS] at hle
    have h3 := ih.snoc (by rw [h2]; exact hn)
    rw [h2, app_preS r t _ hle, app_postS r t _ hle] at h3
    exact h3
theorem Cuts.sizeS {k : Conf4} {s r : ByteArray} {cs : List ByteArray} (h : Cuts k s cs r) : r.size ≤ s.size := by have := h.len; omega
def joinB (cs : List ByteArray) : List UInt8 := cs.flatMap fun s => s.data.toList
theorem joinB_snoc (cs : List ByteArray) (s : ByteArray) : joinB (cs ++ [s]) = joinB cs ++ s.data.toList := by simp [joinB]
theorem joinB_len : ∀ cs : List ByteArray, (joinB cs).length = szB cs
  | [] => rfl
  | s :: cs => by
    have ih := joinB_len cs
    unfold joinB szB at *
    rw [List.flatMap_cons, List.length_append, ih, ba_lenS]; simp
theorem Cuts.joinS {k : Conf4} {s r : ByteArray} {cs : List ByteArray} (h : Cuts k s cs r) : joinB cs ++ r.data.toList = s.data.toList := by
  induction h with
  | nil => rfl
  | @snoc cs r h hn ih =>
    have hle := cutN_le k r.data.toList
    have hl := ba_lenS r
    rw [joinB_snoc, ba_extractS, ba_extractS, List.append_assoc, List.drop_zero, Nat.sub_zero, ← ih]
    congr 1
    rw [List.take_of_length_le (l := r.data.toList.drop (cutN k r.data.toList)) (by rw [List.length_drop]; omega), List.take_append_drop]
theorem Cuts.sumS {k : Conf4} {s r : ByteArray} {cs : List ByteArray} (h : Cuts k s cs r) : szB cs + r.size = s.size := by
  have h1 := congrArg List.length h.joinS
  rw [List.length_append, joinB_len, ba_lenS, ba_lenS] at h1
  exact h1
section
variable {c : Nat → Int} {box man : Int} {G : List (List Rk)}
theorem layStep_es (kn : List En) (st : List Bx × List En) (x : ByteArray × (Int × Int)) : (layStep c box kn st x).2.length = st.2.length + 1 := by
  unfold layStep
  split <;> simp
theorem layStep_bs (kn : List En) (st : List Bx × List En) (x : ByteArray × (Int × Int)) : (layStep c box kn st x).1 = st.1 ∨ (layStep c box kn st x).1 = (putP c box st.1 x.1).1 := by
  unfold layStep
  split
  · exact .inl rfl
  · exact .inr rfl
theorem layFold (kn : List En) : ∀ (l : List (ByteArray × (Int × Int))) (st : List Bx × List En) (m : Nat), (∀ b ∈ st.1, b.2.length ≤ m) → ((l.foldl (layStep c box kn) st).2.length = st.2.length + l.length ∧ (l.foldl (layStep c box kn) st).1.length ≤ st.1.length + l.length ∧ (∀ b ∈ (l.foldl (layStep c box kn) st).1, b.2.length ≤ m + l.length) ∧ freshX (l.foldl (layStep c box kn) st).1 ≤ freshX st.1 + szB (l.map (·.1)))
  | [], st, m, h => ⟨rfl, Nat.le_refl _, h, Nat.le_refl _⟩
  | x :: l, st, m, h => by
    rw [List.foldl_cons]
    have h1 := layStep_es (c := c) (box := box) kn st x
    have h2 : (layStep c box kn st x).1.length ≤ st.1.length + 1 ∧ (∀ b ∈ (layStep c box kn st x).1, b.2.length ≤ m + 1) ∧ freshX (layStep c box kn st x).1 ≤ freshX st.1 + x.1.size := by
      rcases layStep_bs (c := c) (box := box) kn st x with e | e <;> rw [e]
      · exact ⟨by omega, fun b hb => by have := h b hb; omega, by omega⟩
      · exact ⟨putP_len _ _ _ _, putP_lens _ _ _ _ h, by rw [putP_fresh]; exact Nat.le_refl _⟩
    obtain ⟨i1, i2, i3, i4⟩ := layFold kn l (layStep c box kn st x) (m + 1) h2.2.1
    refine ⟨by rw [i1, h1, List.length_cons]; omega, by rw [List.length_cons]; omega, fun b hb => by have := i3 b hb; rw [List.length_cons]; omega, ?_⟩
    have : szB ((x :: l).map (·.1)) = x.1.size + szB (l.map (·.1)) := by simp [szB]
    rw [this]; omega
theorem zip_fst (cs : List ByteArray) (fs : List (Int × Int)) (h : fs.length = cs.length) : (cs.zip fs).map (·.1) = cs := List.map_fst_zip (by omega)
theorem fsL_len (σ : Ls) (cs : List ByteArray) : (fsL c G σ cs).length = cs.length := segG_len cs _ _ _ (Nat.le_refl _)
theorem layP_much (σ : Ls) (cs : List ByteArray) {m : Nat} (h : ∀ b ∈ σ.bs, b.2.length ≤ m) : (layP c box man G σ cs).ms.length = σ.ms.length + 1 ∧ (∀ x ∈ (layP c box man G σ cs).ms, x ∈ σ.ms ∨ x.2.length = cs.length) ∧ (layP c box man G σ cs).bs.length ≤ σ.bs.length + cs.length ∧ (∀ b ∈ (layP c box man G σ cs).bs, b.2.length ≤ m + cs.length) ∧ freshX (layP c box man G σ cs).bs ≤ freshX σ.bs + szB cs := by
  have hz : (cs.zip (fsL c G σ cs)).length = cs.length := by rw [List.length_zip, fsL_len]; omega
  obtain ⟨h1, h2, h3, h4⟩ := layFold (c := c) (box := box) (knL c G σ cs) (cs.zip (fsL c G σ cs)) (σ.bs, []) m h
  rw [hz] at h1 h2 h3
  rw [zip_fst cs _ (fsL_len σ cs)] at h4
  unfold layP
  dsimp only
  refine ⟨by simp, fun x hx => ?_, h2, h3, h4⟩
  rcases List.mem_append.1 hx with h5 | h5
  · exact .inl h5
  · right
    rw [List.mem_singleton.1 h5]
    dsimp only
    rw [h1]; simp
theorem laidP_much (hc : segC c = true) (cs : List ByteArray) : (laidP c box man G cs).1.ms.length + (laidP c box man G cs).2.length ≤ cs.length ∧ (∀ x ∈ (laidP c box man G cs).1.ms, x.2.length ≤ cs.length) ∧ (laidP c box man G cs).1.bs.length + (laidP c box man G cs).2.length ≤ cs.length ∧ (∀ b ∈ (laidP c box man G cs).1.bs, b.2.length + (laidP c box man G cs).2.length ≤ cs.length) ∧ freshX (laidP c box man G cs).1.bs + szB (laidP c box man G cs).2 ≤ szB cs := by
  refine snoc_ind (P := fun cs => (laidP c box man G cs).1.ms.length + (laidP c box man G cs).2.length ≤ cs.length ∧ (∀ x ∈ (laidP c box man G cs).1.ms, x.2.length ≤ cs.length) ∧ (laidP c box man G cs).1.bs.length + (laidP c box man G cs).2.length ≤ cs.length ∧ (∀ b ∈ (laidP c box man G cs).1.bs, b.2.length + (laidP c box man G cs).2.length ≤ cs.length) ∧ freshX (laidP c box man G cs).1.bs + szB (laidP c box man G cs).2 ≤ szB cs) ⟨Nat.le_refl _, fun x hx => (by cases hx), Nat.le_refl _, fun x hx => (by cases hx), Nat.le_refl _⟩ (fun l x ih => ?_) cs
  obtain ⟨h1, h2, h3, h4, h5⟩ := ih
  rw [laidP_snoc]
  have hl : (l ++ [x]).length = l.length + 1 := by simp
  rw [hl, szB_snoc]
  rcases feedP_eq (box := box) (man := man) (G := G) hc (laidP_zero hc l) x with ⟨_, e⟩ | ⟨_, e⟩ <;> rw [e]
  · dsimp only
    rw [List.length_append, szB_snoc]
    simp only [List.length_cons, List.length_nil]
    exact ⟨by omega, fun y hy => by have := h2 y hy; omega, by omega, fun b hb => by have := h4 b hb; omega, by omega⟩
  · obtain ⟨a1, a2, a3, a4, a5⟩ := layP_much (c := c) (box := box) (man := man) (G := G) (laidP c box man G l).1 ((laidP c box man G l).2 ++ [x]) (m := l.length - (laidP c box man G l).2.length) (fun b hb => by have := h4 b hb; omega)
    rw [List.length_append, List.length_singleton] at a2 a3 a4
    rw [szB_snoc] at a5
    dsimp only
    simp only [List.length_nil]
    refine ⟨by omega, fun y hy => ?_, by omega, fun b hb => by have := a4 b hb; omega, by rw [show szB [] = 0 from rfl]; omega⟩
    rcases a2 y hy with h6 | h6
    · have := h2 y h6; omega
    · omega
end
end Go.Proofs.YtlmefcepdadfjaaGreat
/- Layer 23: bytes come. -/
namespace Go.Proofs.YtlmefcepdadfjaaGreat
open Go.RowKit

def cf (c : Nat → Int) : Conf4 := ⟨(c 0).toNat, (c 1).toNat, (c 2).toNat, (c 3).toNat⟩
theorem conC_may {c : Nat → Int} (h : conC c = true) : mayC c = true ∧ segC c = true := by
  unfold conC at h
  simp only [Bool.and_eq_true] at h
  exact ⟨h.1.1.1.1.1.1.1, h.1.1.1.1.1.1.2⟩
theorem cutC_cf {c : Nat → Int} (h : mayC c = true) (s : ByteArray) : cutC c s = cutN (cf c) s.data.toList := by unfold cutC; rw [if_pos h]; rfl
def At (c : Nat → Int) (box man : Int) (G : List (List Rk)) (A : ByteArray) (ms : List Mn) (bs : List Bx) (ch : List ByteArray) (left : ByteArray) : Prop := ∃ cs, Cuts (cf c) A cs left ∧ ((⟨ms, bs⟩ : Ls), ch) = laidP c box man G cs
structure Good (L : Lb) : Prop where
  ok : L.ok
  kn : ∀ hk, (knownG L.G hk).length ≤ 10000
theorem At.fine {c : Nat → Int} {box man : Int} {L : Lb} {A left : ByteArray} {ms : List Mr} {bs : List Nb} {ch : List ByteArray} (hc : segC c = true) (hg : Good L) (hA : A.size ≤ 9000) (h : At c box man L.G A (ms.map Mr.mn) (bs.map Nb.bx) ch left) : Fine L ms bs ch := by
  obtain ⟨cs, h1, h2⟩ := h
  have h3 := h1.len
  have h4 := h1.sumS
  obtain ⟨a1, a2, a3, a4, a5⟩ := laidP_much (box := box) (man := man) (G := L.G) hc cs
  rw [← h2] at a1 a2 a3 a4 a5
  dsimp only at a1 a2 a3 a4 a5
  rw [List.length_map] at a1 a3
  refine ⟨hg.ok, hg.kn, by omega, fun m hm => ?_, by omega, fun b hb => ?_, by omega, by omega, by omega⟩
  · have := a2 m.mn (List.mem_map.2 ⟨m, hm, rfl⟩)
    have e : m.mn.2.length = m.2.l.length := rfl
    omega
  · have := a4 b.bx (List.mem_map.2 ⟨b, hb, rfl⟩)
    have e : b.bx.2.length = b.2.l.length := rfl
    omega
theorem At.left {c : Nat → Int} {box man : Int} {G : List (List Rk)} {A left : ByteArray} {ms : List Mn} {bs : List Bx} {ch : List ByteArray} (h : At c box man G A ms bs ch left) : left.size ≤ A.size := by
  obtain ⟨cs, h1, _⟩ := h
  exact h1.sizeS
theorem At.zero {c : Nat → Int} {box man : Int} {G : List (List Rk)} {A left : ByteArray} {ms : List Mn} {bs : List Bx} {ch : List ByteArray} (hc : segC c = true) (h : At c box man G A ms bs ch left) : segN c (ch.map bFq) = 0 := by
  obtain ⟨cs, _, h2⟩ := h
  have h3 := laidP_zero (box := box) (man := man) (G := G) hc cs
  rw [← h2] at h3
  exact h3
theorem At.more {c : Nat → Int} {box man : Int} {G : List (List Rk)} {A left : ByteArray} {ms : List Mn} {bs : List Bx} {ch : List ByteArray} (b : ByteArray) (h : At c box man G A ms bs ch left) : At c box man G (A ++ b) ms bs ch (left ++ b) := by
  obtain ⟨cs, h1, h2⟩ := h
  exact ⟨cs, h1.moreS b, h2⟩
theorem At.chop {c : Nat → Int} {box man : Int} {G : List (List Rk)} {A left : ByteArray} {ms ms' : List Mn} {bs bs' : List Bx} {ch ch' : List ByteArray} (hm : mayC c = true) (h : At c box man G A ms bs ch left) (hn : 0 < cutC c left) (he : ((⟨ms', bs'⟩ : Ls), ch') = feedP c box man G (⟨ms, bs⟩, ch) (left.extract 0 (cutC c left))) : At c box man G A ms' bs' ch' (left.extract (cutC c left) left.size) := by
  obtain ⟨cs, h1, h2⟩ := h
  rw [cutC_cf hm] at *
  exact ⟨_, h1.snoc hn, by rw [laidP_snoc, ← h2, he]⟩
structure Cj where
  ms : List Mr
  mo : Option Addr
  mc : Nat
  bs : List Nb
  bo : Option Addr
  bc : Nat
  left : ByteArray
  ch : List ByteArray
  co : Option Addr
  cc : Nat
  fo : Option Addr
  fc : Nat
def reA (A : ByteArray) : Int := reW A.data.toList A.data.toList.length
def imA (A : ByteArray) : Int := imW A.data.toList A.data.toList.length
theorem reA_bd (A : ByteArray) : (reA A).natAbs ≤ 255 * A.size ∧ (imA A).natAbs ≤ 255 * A.size := by
  have h0 := wAt_bd A.data.toList 0 A.data.toList.length
  have h1 := wAt_bd A.data.toList 1 A.data.toList.length
  have h2 := wAt_bd A.data.toList 2 A.data.toList.length
  have h3 := wAt_bd A.data.toList 3 A.data.toList.length
  have hl := ba_lenS A
  unfold reA imA reW imW
  rw [hl] at h0 h1 h2 h3 ⊢
  omega
theorem txV_of (b : ByteArray) : txV b.data.toList = .string b := by
  unfold txV
  congr 1
theorem reA_cat (A b : ByteArray) : reA (A ++ b) = reA A + (turnW (reA b) (imA b) (A.size % 4)).1 ∧ imA (A ++ b) = imA A + (turnW (reA b) (imA b) (A.size % 4)).2 := by
  have h := cat_WS A.data.toList b.data.toList
  unfold reA imA
  rw [ba_appendS, ← ba_lenS A]
  exact h
set_option maxHeartbeats 16000000 in
theorem come_sat {W : World} {M : List Nat} {R : Hp} {w : World} (box man : Int) (c : Nat → Int) (hc : conC c = true) (L : Lb) (hg : Good L) (A b : ByteArray) (ms : List Mr) (mo : Option Addr) (mc : Nat) (bs : List Nb) (bo : Option Addr) (bc : Nat) (left : ByteArray) (ch : List ByteArray) (co : Option Addr) (cc : Nat) (fo : Option Addr) (fc wa wb : Nat) (g : Nat)
    (hat : At c box man L.G A (ms.map Mr.mn) (bs.map Nb.bx) ch left) (hwa : IsW wa (reA A)) (hwb : IsW wb (imA A)) (hsz : A.size + b.size ≤ 9000) (hs : Sat W M (stO g box man c L ms mo mc bs bo bc left ch co cc fo fc wa wb (A.size : Nat) ++ (.gen (rdsG L.rds) :: R)) w) :
    Calls Tryz.prog 40 #[.pointer (some ⟨g, 0, none⟩), .string b] w fun e w' => ∃ ms' mo' mc' bs' bo' bc' left' ch' co' cc' fo' fc' wa' wb', e = .returned (.tuple #[]) ∧ At c box man L.G (A ++ b) (ms'.map Mr.mn) (bs'.map Nb.bx) ch' left' ∧ cutC c left' = 0 ∧ IsW wa' (reA (A ++ b)) ∧ IsW wb' (imA (A ++ b)) ∧
      Sat W M (stO g box man c L ms' mo' mc' bs' bo' bc' left' ch' co' cc' fo' fc' wa' wb' ((A ++ b).size : Nat) ++ (.gen (rdsG L.rds) :: R)) w' := by
  obtain ⟨hmay, hseg⟩ := conC_may hc
  have hls := hat.left
  have hab : (A ++ b).size = A.size + b.size := by simp
  have hs' : Sat W M (.blk g 101 (smC box man (.slice mo ms.length mc) (.slice bo bs.length bc) (lastX (bs.map Nb.bx) : Nat) (freshX (bs.map Nb.bx) : Nat) c L.kn L.bt left (.slice co ch.length cc) (.slice fo ch.length fc) (.complex .f64 wa wb) (A.size : Nat)) :: .row mo ms.length mc 67 2 (mbE.fl (ms.map Mr.mb)) :: .row bo bs.length bc 60 2 (mbE.fl (bs.map Nb.mb)) :: topRow bs :: .gen (rdsG (bxL bs.dropLast)) :: .gen (offR co ch.length cc 9 1 (strE.fl ch)) :: .gen (offR fo ch.length fc 69 32 (fqE.fl (ch.map bFq))) :: .gen (rdsG (maL ms)) :: .gen (rdsG L.rds) :: R) w := hs
  refine sx_fn (S := SX) (N := 59) Tryz.func40 rfl rfl rfl hs' ?_
  ((try refine sU ?_);repeat(refine sN fun _=>?_;try refine sU ?_))
  refine SxCode.draw rfl [.blk g 101 (smC box man (.slice mo ms.length mc) (.slice bo bs.length bc) (lastX (bs.map Nb.bx) : Nat) (freshX (bs.map Nb.bx) : Nat) c L.kn L.bt left (.slice co ch.length cc) (.slice fo ch.length fc) (.complex .f64 wa wb) (A.size : Nat))] [14] [0] rfl rfl ?_
  ((try refine sU ?_);repeat(refine sN fun _=>?_;try refine sU ?_))
  have hb1 := reA_bd A
  have hb2 := reA_bd b
  have hb3 := turnW_bd (reA b) (imA b) (A.size % 4)
  have hcat := reA_cat A b
  refine SxCall.quiet (v := wv (reA b) (imA b)) (fun w1 => by
    have h := WOf_any b.data.toList (by rw [ba_lenS]; omega) w1
    rw [txV_of] at h
    exact h) ?_
  ((try refine sU ?_);repeat(refine sN fun _=>?_;try refine sU ?_))
  refine SxCall.quiet (WJoin_any wa wb (fI (reA b)) (fI (imA b)) (reA A) (imA A) (reA b) (imA b) hwa hwb (isW_fI _ (by omega)) (isW_fI _ (by omega)) A.size (by omega) (by omega) (by omega)) ?_
  rw [← hcat.1, ← hcat.2]
  ((try refine sU ?_);repeat(refine sN fun _=>?_;try refine sU ?_))
  refine SxLe.mk (by omega) ?_
  ((try refine sU ?_);repeat(refine sN fun _=>?_;try refine sU ?_))
  have hwa' : IsW (fI (reA (A ++ b))) (reA (A ++ b)) := isW_fI _ (by omega)
  have hwb' : IsW (fI (imA (A ++ b))) (imA (A ++ b)) := isW_fI _ (by omega)
  rw [show ((A.size : Nat) : Int) + (b.size : Nat) = ((A ++ b).size : Nat) by rw [hab]; omega]
  have hlb : (left ++ b).size = left.size + b.size := by simp
  refine SxCode.wk (H' := stO g box man c L ms mo mc bs bo bc (left ++ b) ch co cc fo fc (fI (reA (A ++ b))) (fI (imA (A ++ b))) ((A ++ b).size : Nat) ++ (.gen (rdsG L.rds) :: R)) (Weak.pick (ks := [0, 1, 2, 3, 4, 5, 6, 7, 8] ++ tailIx 9 R.length) (pickH_append (A := [_, _, _, _, _, _, _, _, _]) rfl (pickH_tail (L := R) 9 rfl rfl)) (nodup_tail 9 _ rfl rfl)) ?_
  refine SxCode.drawAll rfl [] ?_
  ((try refine sU ?_);repeat(refine sN fun _=>?_;try refine sU ?_))
  refine SxCall.quiet (Cut_all c (left ++ b) (by omega)) ?_
  ((try refine sU ?_);repeat(refine sN fun _=>?_;try refine sU ?_))
  refine SxCode.loop (σ := Cj) [4] [45, 46, 56, 57, 58, 47, 48, 49, 50, 51, 52, 53, 54, 55, 4] (fun x => [.int .i64 (cutC c x.left : Nat)]) (fun x => stO g box man c L x.ms x.mo x.mc x.bs x.bo x.bc x.left x.ch x.co x.cc x.fo x.fc (fI (reA (A ++ b))) (fI (imA (A ++ b))) ((A ++ b).size : Nat) ++ (.gen (rdsG L.rds) :: R))
    (fun x => At c box man L.G (A ++ b) (x.ms.map Mr.mn) (x.bs.map Nb.bx) x.ch x.left) (fun x => x.left.size) ⟨ms, mo, mc, bs, bo, bc, left ++ b, ch, co, cc, fo, fc⟩ ([0, 1, 2, 3, 4, 5, 6, 7, 8] ++ tailIx 9 R.length) rfl rfl (pickH_append (A := [_, _, _, _, _, _, _, _, _]) rfl (pickH_tail (L := R) 9 rfl rfl)) (nodup_tail 9 _ rfl rfl) (hat.more b) ?_
  rintro ⟨m1, mo1, mc1, b1, bo1, bc1, l1, h1, co1, cc1, fo1, fc1⟩ hat1
  dsimp only at hat1 ⊢
  have hl1 := hat1.left
  have hz1 := hat1.zero hseg
  have hfi := hat1.fine hseg hg (by omega)
  obtain ⟨q, hq⟩ : ∃ q, q = cutC c l1 := ⟨_, rfl⟩
  have hql : q ≤ l1.size := by
    rw [hq, cutC_cf hmay]
    have := cutN_le (cf c) l1.data.toList
    rwa [ba_lenS] at this
  rw [← hq]
  rcases Nat.eq_zero_or_pos q with h0 | h0
  · subst h0
    ((try refine sU ?_);repeat(refine sN fun _=>?_;try refine sU ?_))
    exact SxDone.mk fun w' hs => ⟨m1, mo1, mc1, b1, bo1, bc1, l1, h1, co1, cc1, fo1, fc1, _, _, rfl, hat1, hq.symm, hwa', hwb', hs⟩
  · ((try refine sU ?_);repeat(refine sN fun _=>?_;try refine sU ?_))
    refine SxCall.mk fun w1 hs1 => (chop_sat box man c hseg L m1 mo1 mc1 b1 bo1 bc1 l1 h1 co1 cc1 fo1 fc1 _ _ _ g q hfi hql (by omega) hz1 hs1).mono ?_
    rintro e w2 ⟨m2, mo2, mc2, b2, bo2, bc2, h2, co2, cc2, fo2, fc2, rfl, hf2, hs2⟩
    refine ⟨_, _, rfl, hs2, ?_⟩
    rw [hq] at hf2 h0
    have hat2 := hat1.chop hmay h0 hf2
    have hsz2 : (l1.extract (cutC c l1) l1.size).size < l1.size := by simp; omega
    rw [← hq] at hat2 hsz2
    ((try refine sU ?_);repeat(refine sN fun _=>?_;try refine sU ?_))
    refine SxCode.drawAll rfl [] ?_
    ((try refine sU ?_);repeat(refine sN fun _=>?_;try refine sU ?_))
    refine SxCall.quiet (Cut_all c (l1.extract q l1.size) (by omega)) ?_
    ((try refine sU ?_);repeat(refine sN fun _=>?_;try refine sU ?_))
    exact SxRound.mk ⟨m2, mo2, mc2, b2, bo2, bc2, l1.extract q l1.size, h2, co2, cc2, fo2, fc2⟩ ([0, 1, 2, 3, 4, 5, 6, 7, 8] ++ tailIx 9 R.length) rfl (pickH_append (A := [_, _, _, _, _, _, _, _, _]) rfl (pickH_tail (L := R) 9 rfl rfl)) (nodup_tail 9 _ rfl rfl) hat2 hsz2
end Go.Proofs.YtlmefcepdadfjaaGreat
/- Layers 19 and 23: what is found asks of the text told only where one is told; the document's answer of what a made thing tells; plain. -/
namespace Go.Proofs.YtlmefcepdadfjaaGreat
open Go.RowKit

def tlN (tl : Nat → ByteArray × Bool) (i : Nat) : ByteArray × Bool := (if (tl i).2 then (tl i).1 else ⟨#[]⟩, (tl i).2)
theorem okT_norm (x : En) (t : ByteArray × Bool) (c : ByteArray) : okT x (if t.2 then t.1 else ⟨#[]⟩, t.2) c = okT x t c := by
  obtain ⟨s, b⟩ := t
  cases b <;> simp [okT]
theorem segG_norm (cs : List ByteArray) (kn : List En) (tl : Nat → ByteArray × Bool) (k : Nat) : segG cs kn (tlN tl) k = segG cs kn tl k := by
  have hp : ∀ c, pK kn (tlN tl) c = pK kn tl c := fun c => by
    funext i
    unfold pK
    split
    · exact okT_norm _ _ _
    · rfl
  induction k with
  | zero => rfl
  | succ k ih =>
    unfold segG
    rw [ih]
    split
    · unfold stepG; rw [hp]
    · rfl
def rkOf (G : List (List Rk)) (bs : List Bx) (e : En) : Rk := ⟨e, (toldP G bs e).2, (toldP G bs e).1⟩
theorem knR_up (G : List (List Rk)) (bs : List Bx) (es : List En) : knR (es.map (rkOf G bs)) = es := by unfold knR; rw [List.map_map]; exact List.map_id _
theorem tlR_up (G : List (List Rk)) (bs : List Bx) (es : List En) : tlR (es.map (rkOf G bs)) = tlN (tlL G es bs) := by
  funext i
  unfold tlR tlN tlL
  rw [List.getElem?_map]
  cases es[i]? <;> rfl
theorem docF_up (G : List (List Rk)) (bs : List Bx) (es : List En) (cs : List ByteArray) : docF cs (es.map (rkOf G bs)) cs.length = (segG cs es (tlL G es bs) cs.length).1 := by
  rw [← seg_docF, knR_up, tlR_up, segG_norm]
end Go.Proofs.YtlmefcepdadfjaaGreat
