/- The walks: the document's Same and Put; Weight. -/
import Derived.Test.YtbbngmlgpjepnaaZRcD
namespace Go.Proofs.Ytbbngmlgpjepnaa
open Go.RowKit

theorem RRSame_any (a b : Rc) (ao bo : Option Addr) (ac bc : Nat) (w : World) (ha : Rd w ao (a.ms.map u4V)) (hb : Rd w bo (b.ms.map u4V)) (hal : a.ms.length ≤ 1000000) :
    Calls Try.prog 13 #[a.v ao ac, b.v bo bc] w fun e w' => e = .returned (.bool (decide (a = b))) ∧ Below w.heap.size w w' := by
  obtain ⟨n1, s1, r1, i1, m1⟩ := a
  obtain ⟨n2, s2, r2, i2, m2⟩ := b
  dsimp only at ha hb hal
  have hno : (⟨n1, s1, r1, i1, m1⟩ : Rc) ≠ ⟨n2, s2, r2, i2, m2⟩ → Ending.returned (.bool false) = .returned (.bool (decide ((⟨n1, s1, r1, i1, m1⟩ : Rc) = ⟨n2, s2, r2, i2, m2⟩))) := fun h => by rw [decide_eq_false h]
  refine sx_fn (S := SX) (M := []) (N := 59) (H0 := [.rd ao (m1.map u4V), .rd bo (m2.map u4V)]) Try.func13 rfl rfl rfl (Sat.twoRd _ ha hb) ?_
  ((try refine sx_use ?_); (repeat (refine SxNew.mk fun _ => ?_; (try refine sx_use ?_))))
  refine SxIf.nt (SxIf.str (fun h1 => ?_) (fun h1 => ?_))
  rotate_left
  · ((try refine sx_use ?_); (repeat (refine SxNew.mk fun _ => ?_; (try refine sx_use ?_))))
    exact SxDone.mk fun w' hs => ⟨hno fun h => h1 (by rw [(Rc.mk.inj h).1]), hs.touch.below⟩
  ((try refine sx_use ?_); (repeat (refine SxNew.mk fun _ => ?_; (try refine sx_use ?_))))
  refine SxIf.ne (fun h2 => ?_) (fun h2 => ?_)
  · ((try refine sx_use ?_); (repeat (refine SxNew.mk fun _ => ?_; (try refine sx_use ?_))))
    exact SxDone.mk fun w' hs => ⟨hno fun h => h2 (Rc.mk.inj h).2.1, hs.touch.below⟩
  ((try refine sx_use ?_); (repeat (refine SxNew.mk fun _ => ?_; (try refine sx_use ?_))))
  refine SxIf.ne (fun h3 => ?_) (fun h3 => ?_)
  · ((try refine sx_use ?_); (repeat (refine SxNew.mk fun _ => ?_; (try refine sx_use ?_))))
    exact SxDone.mk fun w' hs => ⟨hno fun h => h3 (Rc.mk.inj h).2.2.1, hs.touch.below⟩
  ((try refine sx_use ?_); (repeat (refine SxNew.mk fun _ => ?_; (try refine sx_use ?_))))
  refine SxIf.ne (fun h4 => ?_) (fun h4 => ?_)
  · ((try refine sx_use ?_); (repeat (refine SxNew.mk fun _ => ?_; (try refine sx_use ?_))))
    exact SxDone.mk fun w' hs => ⟨hno fun h => h4 (Rc.mk.inj h).2.2.2.1, hs.touch.below⟩
  ((try refine sx_use ?_); (repeat (refine SxNew.mk fun _ => ?_; (try refine sx_use ?_))))
  refine SxIf.ne (fun h5 => ?_) (fun h5 => ?_)
  · ((try refine sx_use ?_); (repeat (refine SxNew.mk fun _ => ?_; (try refine sx_use ?_))))
    exact SxDone.mk fun w' hs => ⟨hno fun h => h5 (by rw [(Rc.mk.inj h).2.2.2.2]), hs.touch.below⟩
  have hl : m1.length = m2.length := by dsimp only at h5; omega
  ((try refine sx_use ?_); (repeat (refine SxNew.mk fun _ => ?_; (try refine sx_use ?_))))
  rename_i b1 b2
  refine SxCode.loop (σ := Nat) [5] [41, 42, 43, 44, 45, 48, 49, 50, 51, 52, 53, 54, 55, 56, 57, 58, 4, 46, 47, 5] (fun k => [.int .i64 (k : Nat)]) (fun _ => [.blk b2 28 [.string ⟨n2.toArray⟩, .int .i64 s2, .int .i64 r2, .int .i64 i2, .slice bo m2.length bc], .blk b1 28 [.string ⟨n1.toArray⟩, .int .i64 s1, .int .i64 r1, .int .i64 i1, .slice ao m1.length ac], .rd ao (m1.map u4V), .rd bo (m2.map u4V)]) (fun k => k ≤ m1.length ∧ m1.take k = m2.take k) (fun k => m1.length - k) 0 [0, 1, 2, 3] rfl rfl rfl rfl ⟨Nat.zero_le _, rfl⟩ ?_
  rintro k ⟨hk, he⟩
  ((try refine sx_use ?_); (repeat (refine SxNew.mk fun _ => ?_; (try refine sx_use ?_))))
  refine SxIf.dec (fun h => ?_) (fun h => ?_)
  · have hlt : k < m1.length := by omega
    have hlt2 : k < m2.length := by omega
    obtain ⟨x, hx⟩ : ∃ x, m1[k]? = some x := ⟨m1[k], by simp [hlt]⟩
    obtain ⟨y, hy⟩ : ∃ y, m2[k]? = some y := ⟨m2[k], by simp [hlt2]⟩
    ((try refine sx_use ?_); (repeat (refine SxNew.mk fun _ => ?_; (try refine sx_use ?_))))
    refine SxCode.drawAll rfl [] ?_
    ((try refine sx_use ?_); (repeat (refine SxNew.mk fun _ => ?_; (try refine sx_use ?_))))
    refine SxIA.rd 2 _ rfl k rfl hlt (by simpa using hlt) fun g off ha => ?_
    ((try refine sx_use ?_); (repeat (refine SxNew.mk fun _ => ?_; (try refine sx_use ?_))))
    refine SxLd.rd 2 rfl ha rfl (by rw [Nat.mul_one]; exact u4V_get hx) ?_
    ((try refine sx_use ?_); (repeat (refine SxNew.mk fun _ => ?_; (try refine sx_use ?_))))
    refine SxIA.rd 3 _ rfl k rfl hlt2 (by simpa using hlt2) fun g off ha => ?_
    ((try refine sx_use ?_); (repeat (refine SxNew.mk fun _ => ?_; (try refine sx_use ?_))))
    refine SxLd.rd 3 rfl ha rfl (by rw [Nat.mul_one]; exact u4V_get hy) ?_
    ((try refine sx_use ?_); (repeat (refine SxNew.mk fun _ => ?_; (try refine sx_use ?_))))
    refine SxIf.ne (fun h6 => ?_) (fun h6 => ?_)
    · have h7 : m1 ≠ m2 := fun e => h6 (by subst e; exact Option.some.inj (hx.symm.trans hy))
      ((try refine sx_use ?_); (repeat (refine SxNew.mk fun _ => ?_; (try refine sx_use ?_))))
      exact SxDone.mk fun w' hs => ⟨hno fun h => h7 (Rc.mk.inj h).2.2.2.2, hs.touch.below⟩
    · ((try refine sx_use ?_); (repeat (refine SxNew.mk fun _ => ?_; (try refine sx_use ?_))))
      exact SxRound.mk (k + 1) [0, 1, 2, 3] rfl rfl rfl ⟨hlt, by rw [List.take_add_one, List.take_add_one, he, hx, hy, h6]⟩ (by omega)
  · obtain rfl : k = m1.length := by omega
    rw [List.take_length, hl, List.take_length] at he
    ((try refine sx_use ?_); (repeat (refine SxNew.mk fun _ => ?_; (try refine sx_use ?_))))
    refine SxDone.mk fun w' hs => ⟨?_, hs.touch.below⟩
    have h1 := mkr_inj h1
    subst h1 h2 h3 h4 he
    rw [decide_eq_true rfl]
    rfl
theorem Weight_any (r : Rc) (hn : r.nm.length ≤ maxLen) (ao : Option Addr) (cap : Nat) (w : World) (hr : Rd w ao (r.ms.map u4V)) :
    Calls Try.prog 25 #[r.v ao cap] w fun e w' => e = .returned (if mayR r.nm.length r.sz r.re r.im r.ms then wv r.re r.im else wv 0 0) ∧ Below w.heap.size w w' := by
  obtain ⟨nm, sz, re, im, ms⟩ := r
  dsimp only at hn hr ⊢
  refine sx_fn (S := SX) (M := []) (N := 13) (H0 := [.rd ao (ms.map u4V)]) Try.func25 rfl rfl rfl (Sat.oneRd _ hr) ?_
  ((try refine sx_use ?_); (repeat (refine SxNew.mk fun _ => ?_; (try refine sx_use ?_))))
  refine SxCall.quietS (fun w hs => Check_any nm sz re im ms hn ao cap w (hs.rd 1 rfl)) ?_
  by_cases hm : mayR nm.length sz re im ms
  · rw [show chkR nm.length sz re im ms = 0 from if_pos hm]
    ((try refine sx_use ?_); (repeat (refine SxNew.mk fun _ => ?_; (try refine sx_use ?_))))
    refine SxRun.i2f Try.underlying3 Try.underlying54 ?_
    ((try refine sx_use ?_); (repeat (refine SxNew.mk fun _ => ?_; (try refine sx_use ?_))))
    refine SxRun.i2f Try.underlying3 Try.underlying54 ?_
    ((try refine sx_use ?_); (repeat (refine SxNew.mk fun _ => ?_; (try refine sx_use ?_))))
    exact SxDone.mk fun w' hs => ⟨by rw [if_pos hm]; rfl, hs.touch.below⟩
  · rw [show chkR nm.length sz re im ms = 1 from if_neg hm]
    ((try refine sx_use ?_); (repeat (refine SxNew.mk fun _ => ?_; (try refine sx_use ?_))))
    exact SxDone.mk fun w' hs => ⟨by rw [if_neg hm]; unfold wv; rw [fI_0]; rfl, hs.touch.below⟩
theorem RNumR_any (n k : Nat) (hk : k ≤ 8) (x : Int) (hx : x = n) (hn : n < 18446744073709551616) (w : World) :
    Calls Try.prog 52 #[.int .u64 x, .int .i64 k] w fun e w' => e = .returned (txV (numL n k)) ∧ Below w.heap.size w w' := Num_any k n hn x k hx rfl hk w
theorem RText_any (l : List UInt8) (hl : l.length ≤ 1000000) (w : World) : Calls Try.prog 53 #[txV l] w fun e w' => e = .returned (txV (textL l)) ∧ Below w.heap.size w w' := by
  have hsz : (⟨l.toArray⟩ : ByteArray).size = l.length := mk_size l
  refine sx_fn (S := SX) (M := []) (N := 9) (H0 := []) Try.func53 rfl rfl rfl (Sat.nil _ _) ?_
  ((try refine sx_use ?_); (repeat (refine SxNew.mk fun _ => ?_; (try refine sx_use ?_))))
  refine SxRng.u64 (by omega) (by omega) ?_
  ((try refine sx_use ?_); (repeat (refine SxNew.mk fun _ => ?_; (try refine sx_use ?_))))
  refine SxCall.quiet (RNumR_any l.length 4 (by decide) _ (by omega) (by omega)) ?_
  ((try refine sx_use ?_); (repeat (refine SxNew.mk fun _ => ?_; (try refine sx_use ?_))))
  refine SxLe.mk (by rw [mk_size, numL_len]; omega) ?_
  ((try refine sx_use ?_); (repeat (refine SxNew.mk fun _ => ?_; (try refine sx_use ?_))))
  exact SxDone.mk fun w' hs => ⟨by unfold textL; rw [← txR_append]; rfl, hs.touch.below⟩
theorem Rrcseal_any (l : List UInt8) (h : l.length ≤ 1000000) (w : World) : Calls Try.prog 54 #[txV l] w fun e w' => e = .returned (txV (sealL l)) ∧ Below w.heap.size w w' := RSeal_any ⟨l.toArray⟩ h w
set_option maxHeartbeats 2000000 in
theorem RPut_any (nm : List UInt8) (sz re im : Int) (ms : List Int) (hm : mayR nm.length sz re im ms) (ao : Option Addr) (cap : Nat) (w : World) (hr : Rd w ao (ms.map u4V)) :
    Calls Try.prog 26 #[rcV nm sz re im ao ms.length cap] w fun e w' => e = .returned (txV (putL nm sz re im ms)) ∧ Below w.heap.size w w' := by
  refine sx_fn (S := SX) (M := []) (N := 50) (H0 := [.rd ao (ms.map u4V)]) Try.func26 rfl rfl rfl (Sat.oneRd _ hr) ?_
  obtain ⟨g1, g2, g3, g4, g5, g6, g7, g8⟩ := hm
  have hmag : (⟨#[82, 69, 67, 80]⟩ : ByteArray) = ⟨([82, 69, 67, 80] : List UInt8).toArray⟩ := rfl
  have hszm : m32 sz = sz.toNat := by unfold m32; omega
  ((try refine sx_use ?_); (repeat (refine SxNew.mk fun _ => ?_; (try refine sx_use ?_))))
  rename_i b
  refine SxCode.drawAll rfl [] ?_
  ((try refine sx_use ?_); (repeat (refine SxNew.mk fun _ => ?_; (try refine sx_use ?_))))
  refine SxRng.u64 (by omega) (by omega) ?_
  ((try refine sx_use ?_); (repeat (refine SxNew.mk fun _ => ?_; (try refine sx_use ?_))))
  refine SxRng.u32w ?_
  ((try refine sx_use ?_); (repeat (refine SxNew.mk fun _ => ?_; (try refine sx_use ?_))))
  refine SxRng.u64 (by omega) (by omega) ?_
  ((try refine sx_use ?_); (repeat (refine SxNew.mk fun _ => ?_; (try refine sx_use ?_))))
  refine SxRng.u32w ?_
  ((try refine sx_use ?_); (repeat (refine SxNew.mk fun _ => ?_; (try refine sx_use ?_))))
  refine SxRng.u64 (by omega) (by omega) ?_
  ((try refine sx_use ?_); (repeat (refine SxNew.mk fun _ => ?_; (try refine sx_use ?_))))
  refine SxRng.u64 (by omega) (by omega) ?_
  ((try refine sx_use ?_); (repeat (refine SxNew.mk fun _ => ?_; (try refine sx_use ?_))))
  refine SxCall.quiet (v := txV (numL (m32 sz) 4)) (RNumR_any (m32 sz) 4 (by decide) _ (by unfold m32; omega) (by have := m32_lt sz; omega)) ?_
  ((try refine sx_use ?_); (repeat (refine SxNew.mk fun _ => ?_; (try refine sx_use ?_))))
  refine SxLe.mk (by simp [mk_size, numL_len]) ?_
  rw [hmag, mkr_append]
  ((try refine sx_use ?_); (repeat (refine SxNew.mk fun _ => ?_; (try refine sx_use ?_))))
  refine SxCall.quiet (v := txV (numL (m32 re) 4)) (RNumR_any (m32 re) 4 (by decide) _ (by unfold m32; omega) (by have := m32_lt re; omega)) ?_
  ((try refine sx_use ?_); (repeat (refine SxNew.mk fun _ => ?_; (try refine sx_use ?_))))
  refine SxLe.mk (by simp [mk_size, numL_len]) ?_
  rw [mkr_append]
  ((try refine sx_use ?_); (repeat (refine SxNew.mk fun _ => ?_; (try refine sx_use ?_))))
  refine SxCall.quiet (v := txV (numL (m32 im) 4)) (RNumR_any (m32 im) 4 (by decide) _ (by unfold m32; omega) (by have := m32_lt im; omega)) ?_
  ((try refine sx_use ?_); (repeat (refine SxNew.mk fun _ => ?_; (try refine sx_use ?_))))
  refine SxLe.mk (by simp [mk_size, numL_len]) ?_
  rw [mkr_append]
  ((try refine sx_use ?_); (repeat (refine SxNew.mk fun _ => ?_; (try refine sx_use ?_))))
  refine SxCall.quiet (RText_any nm (by omega)) ?_
  ((try refine sx_use ?_); (repeat (refine SxNew.mk fun _ => ?_; (try refine sx_use ?_))))
  refine SxLe.mk (by simp [mk_size, numL_len, textL_len]; omega) ?_
  rw [mkr_append]
  ((try refine sx_use ?_); (repeat (refine SxNew.mk fun _ => ?_; (try refine sx_use ?_))))
  refine SxCall.quiet (v := txV (numL ms.length 2)) (RNumR_any ms.length 2 (by decide) _ rfl (by omega)) ?_
  ((try refine sx_use ?_); (repeat (refine SxNew.mk fun _ => ?_; (try refine sx_use ?_))))
  refine SxLe.mk (by simp [mk_size, numL_len, textL_len]; omega) ?_
  rw [mkr_append]
  ((try refine sx_use ?_); (repeat (refine SxNew.mk fun _ => ?_; (try refine sx_use ?_))))
  refine SxCode.loop (σ := Nat) [4, 3] [32, 33, 34, 35, 36, 39, 40, 41, 42, 43, 44, 45, 46, 47, 3, 37, 38, 4] (fun k => [.int .i64 (k : Nat), txV (preR nm sz re im ms.length ++ (ms.take k).flatMap idL)]) (fun _ => [.blk b 28 [.string ⟨nm.toArray⟩, .int .i64 sz, .int .i64 re, .int .i64 im, .slice ao ms.length cap], .rd ao (ms.map u4V)]) (fun k => k ≤ ms.length) (fun k => ms.length - k) 0 [0, 1] rfl (by rw [show (ms.take 0).flatMap idL = [] from rfl, List.append_nil]; rfl) rfl rfl (Nat.zero_le _) ?_
  rintro k hk
  have hpl : (preR nm sz re im ms.length ++ (ms.take k).flatMap idL).length ≤ 10000 := by
    rw [List.length_append, preR_len, flatI_len, List.length_take]; omega
  ((try refine sx_use ?_); (repeat (refine SxNew.mk fun _ => ?_; (try refine sx_use ?_))))
  refine SxIf.dec (fun h => ?_) (fun h => ?_)
  · have hlt : k < ms.length := by omega
    obtain ⟨x, hx⟩ : ∃ x, ms[k]? = some x := ⟨ms[k], by simp [hlt]⟩
    obtain ⟨hx1, hx2⟩ := g8 x (List.mem_of_getElem? hx)
    have hsn := flatI_snoc ms k x hx
    ((try refine sx_use ?_); (repeat (refine SxNew.mk fun _ => ?_; (try refine sx_use ?_))))
    refine SxIA.rd 1 _ rfl k rfl hlt (by simpa using hlt) fun g off ha => ?_
    ((try refine sx_use ?_); (repeat (refine SxNew.mk fun _ => ?_; (try refine sx_use ?_))))
    refine SxLd.rd 1 rfl ha rfl (by rw [Nat.mul_one]; exact u4V_get hx) ?_
    ((try refine sx_use ?_); (repeat (refine SxNew.mk fun _ => ?_; (try refine sx_use ?_))))
    refine SxRng.u64 (by omega) (by omega) ?_
    ((try refine sx_use ?_); (repeat (refine SxNew.mk fun _ => ?_; (try refine sx_use ?_))))
    refine SxCall.quiet (v := txV (idL x)) (RNumR_any x.toNat 4 (by decide) _ (by omega) (by omega)) ?_
    ((try refine sx_use ?_); (repeat (refine SxNew.mk fun _ => ?_; (try refine sx_use ?_))))
    refine SxLe.mk (by rw [mk_size, mk_size, idL, numL_len]; omega) ?_
    have hcat : preR nm sz re im ms.length ++ (ms.take k).flatMap idL ++ idL x = preR nm sz re im ms.length ++ (ms.take (k + 1)).flatMap idL := by rw [List.append_assoc, ← hsn]
    rw [mkr_append, hcat]
    ((try refine sx_use ?_); (repeat (refine SxNew.mk fun _ => ?_; (try refine sx_use ?_))))
    exact SxRound.mk (k + 1) [0, 1] rfl rfl rfl hlt (by omega)
  · obtain rfl : k = ms.length := by omega
    rw [List.take_length]
    ((try refine sx_use ?_); (repeat (refine SxNew.mk fun _ => ?_; (try refine sx_use ?_))))
    refine SxCall.quiet (Rrcseal_any (bodyR nm sz re im ms) (by rw [bodyR_len]; omega)) ?_
    ((try refine sx_use ?_); (repeat (refine SxNew.mk fun _ => ?_; (try refine sx_use ?_))))
    exact SxDone.mk fun w' hs => ⟨rfl, hs.touch.below⟩
end Go.Proofs.Ytbbngmlgpjepnaa
