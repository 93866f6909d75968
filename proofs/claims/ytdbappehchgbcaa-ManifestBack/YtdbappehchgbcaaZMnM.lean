/- The laws of layer 15: ManifestPuts, ManifestGets. -/
import Derived.Test.YtdbappehchgbcaaZMnL
namespace Go.Proofs.Ytdbappehchgbcaa
open Go.RowKit

set_option maxHeartbeats 8000000 in
theorem ManifestPuts_law (w : World) (cs : List Value) (h : FitR Try.prog w 4 [.int .u32, .slice 55] cs) (ds : List Value) (h2 : FitR Try.prog w 4 [.int .u32, .slice 55] ds) :
    Calls Try.prog 3 #[.agg cs.toArray, .agg ds.toArray] w fun e w' => e = .returned (.bool true) ∧ Below w.heap.size w w' := by
  obtain ⟨id, ao, n, ac, he, hn, es, hes, hr⟩ := open_mn h
  obtain ⟨jd, bo, m, bc, he2, hm, fs, hfs, hr2⟩ := open_mn h2
  rw [he, he2]
  clear h h2 he he2
  unfold maxLen at hn hm
  have hf1 := few15_any id ao n ac
  have hf2 := few15_any jd bo m bc
  refine sx_fn (S := SX) (M := []) (N := 96) (H0 := [.rd ao (enE.fl es), .rd bo (enE.fl fs)]) Try.func3 rfl rfl rfl (Sat.twoRd _ hr hr2) ?_
  by_cases hn1 : n ≤ 30
  rotate_left
  · rw [decide_eq_false hn1] at hf1
    ((try refine sx_use ?_); (repeat (refine SxNew.mk fun _ => ?_; (try refine sx_use ?_))))
    refine SxCall.quiet hf1 ?_
    ((try refine sx_use ?_); (repeat (refine SxNew.mk fun _ => ?_; (try refine sx_use ?_))))
    refine SxCall.quiet mn_awake ?_
    ((try refine sx_use ?_); (repeat (refine SxNew.mk fun _ => ?_; (try refine sx_use ?_))))
    exact SxDone.mk fun w' hs => ⟨rfl, hs.touch.below⟩
  by_cases hm1 : m ≤ 30
  rotate_left
  · rw [decide_eq_true hn1] at hf1
    rw [decide_eq_false hm1] at hf2
    ((try refine sx_use ?_); (repeat (refine SxNew.mk fun _ => ?_; (try refine sx_use ?_))))
    refine SxCall.quiet hf1 ?_
    ((try refine sx_use ?_); (repeat (refine SxNew.mk fun _ => ?_; (try refine sx_use ?_))))
    refine SxCall.quiet hf2 ?_
    ((try refine sx_use ?_); (repeat (refine SxNew.mk fun _ => ?_; (try refine sx_use ?_))))
    refine SxCall.quiet mn_awake ?_
    ((try refine sx_use ?_); (repeat (refine SxNew.mk fun _ => ?_; (try refine sx_use ?_))))
    exact SxDone.mk fun w' hs => ⟨rfl, hs.touch.below⟩
  rw [decide_eq_true hn1] at hf1
  rw [decide_eq_true hm1] at hf2
  obtain rfl : n = es.length := by omega
  obtain rfl : m = fs.length := by omega
  have hchk := fun (w : World) (hr : Rd w ao (enE.fl es)) => MCheck_any id es ao ac w hr
  have hput := fun (w : World) (hr : Rd w ao (enE.fl es)) => MPut_any id es ao ac w hr
  have hmay := fun (w : World) (hr : Rd w ao (enE.fl es)) => RMay_any id es ao ac w hr
  ((try refine sx_use ?_); (repeat (refine SxNew.mk fun _ => ?_; (try refine sx_use ?_))))
  refine SxCall.quiet hf1 ?_
  ((try refine sx_use ?_); (repeat (refine SxNew.mk fun _ => ?_; (try refine sx_use ?_))))
  refine SxCall.quiet hf2 ?_
  by_cases hM : mayM id es
  · simp only [if_pos hM] at hchk hput
    rw [decide_eq_true hM] at hmay
    obtain ⟨s, hse⟩ : ∃ s, s = putM id es := ⟨_, rfl⟩
    have hsl : s.length = 14 + 40 * es.length := by rw [hse]; exact (put_parts hM).2.2.2
    have hget := fun (w : World) => (MGet_any s (by omega) w).mono fun e w' h => h.1 id es hM hse.symm
    have hrput := fun (w : World) (hr : Rd w ao (enE.fl es)) => RMPut_any id es hM ao ac w hr
    rw [← hse] at hrput
    simp only [← hse] at hput
    clear hse
    ((try refine sx_use ?_); (repeat (refine SxNew.mk fun _ => ?_; (try refine sx_use ?_))))
    refine SxCall.quietS (fun w hs => hput w (hs.rd 2 rfl)) ?_
    ((try refine sx_use ?_); (repeat (refine SxNew.mk fun _ => ?_; (try refine sx_use ?_))))
    refine SxCall.quietS (fun w hs => hmay w (hs.rd 2 rfl)) ?_
    ((try refine sx_use ?_); (repeat (refine SxNew.mk fun _ => ?_; (try refine sx_use ?_))))
    refine SxCode.drawAll rfl [] ?_
    ((try refine sx_use ?_); (repeat (refine SxNew.mk fun _ => ?_; (try refine sx_use ?_))))
    refine SxCall.quietS (fun w hs => hchk w (hs.rd 2 rfl)) ?_
    ((try refine sx_use ?_); (repeat (refine SxNew.mk fun _ => ?_; (try refine sx_use ?_))))
    refine SxRun.blNe Try.underlying4 ?_
    ((try refine sx_use ?_); (repeat (refine SxNew.mk fun _ => ?_; (try refine sx_use ?_))))
    refine SxCall.quietS (fun w hs => MSame_any id jd es fs ao bo ac bc w (hs.rd 2 rfl) (hs.rd 3 rfl)) ?_
    ((try refine sx_use ?_); (repeat (refine SxNew.mk fun _ => ?_; (try refine sx_use ?_))))
    refine SxCall.quietS (fun w hs => RMSame_any id jd es fs ao bo ac bc w (hs.rd 2 rfl) (hs.rd 3 rfl)) ?_
    ((try refine sx_use ?_); (repeat (refine SxNew.mk fun _ => ?_; (try refine sx_use ?_))))
    refine SxRun.blNe Try.underlying4 ?_
    rw [bne_self_eq_false]
    ((try refine sx_use ?_); (repeat (refine SxNew.mk fun _ => ?_; (try refine sx_use ?_))))
    refine SxCall.quietS (fun w hs => MSame_any id id es es ao ao ac ac w (hs.rd 2 rfl) (hs.rd 2 rfl)) ?_
    rw [show decide (id = id ∧ es = es) = true from decide_eq_true ⟨rfl, rfl⟩]
    ((try refine sx_use ?_); (repeat (refine SxNew.mk fun _ => ?_; (try refine sx_use ?_))))
    refine SxCall.newRow (v := fun a c => .tuple #[mnV id a es.length c, .int .i64 0]) (fun w hs => hget w) fun ga gc => ?_
    ((try refine sx_use ?_); (repeat (refine SxNew.mk fun _ => ?_; (try refine sx_use ?_))))
    refine SxCall.quietS (fun w hs => hrput w (hs.rd 4 rfl)) ?_
    ((try refine sx_use ?_); (repeat (refine SxNew.mk fun _ => ?_; (try refine sx_use ?_))))
    refine SxIf.strT rfl ?_
    ((try refine sx_use ?_); (repeat (refine SxNew.mk fun _ => ?_; (try refine sx_use ?_))))
    refine SxCall.quietS (fun w hs => RMSame_any id id es es ga ao gc ac w (hs.rowRd 1 rfl (by rw [rowEn_len]; unfold maxLen; omega)) (hs.rd 4 rfl)) ?_
    rw [show decide (id = id ∧ es = es) = true from decide_eq_true ⟨rfl, rfl⟩]
    ((try refine sx_use ?_); (repeat (refine SxNew.mk fun _ => ?_; (try refine sx_use ?_))))
    refine SxCall.quiet (MSize_any (es.length : Nat)) ?_
    ((try refine sx_use ?_); (repeat (refine SxNew.mk fun _ => ?_; (try refine sx_use ?_))))
    refine SxIf.eqT (by have := hM.2; unfold sizeM; rw [if_pos (by omega), mk_size, hsl]; omega) ?_
    ((try refine sx_use ?_); (repeat (refine SxNew.mk fun _ => ?_; (try refine sx_use ?_))))
    refine SxCall.quiet mn_awake ?_
    ((try refine sx_use ?_); (repeat (refine SxNew.mk fun _ => ?_; (try refine sx_use ?_))))
    exact SxDone.mk fun w' hs => ⟨rfl, hs.touch.below⟩
  · simp only [if_neg hM] at hchk hput
    rw [decide_eq_false hM] at hmay
    ((try refine sx_use ?_); (repeat (refine SxNew.mk fun _ => ?_; (try refine sx_use ?_))))
    refine SxCall.quietS (fun w hs => hput w (hs.rd 2 rfl)) ?_
    ((try refine sx_use ?_); (repeat (refine SxNew.mk fun _ => ?_; (try refine sx_use ?_))))
    refine SxCall.quietS (fun w hs => hmay w (hs.rd 2 rfl)) ?_
    ((try refine sx_use ?_); (repeat (refine SxNew.mk fun _ => ?_; (try refine sx_use ?_))))
    refine SxCode.drawAll rfl [] ?_
    ((try refine sx_use ?_); (repeat (refine SxNew.mk fun _ => ?_; (try refine sx_use ?_))))
    refine SxCall.quietS (fun w hs => hchk w (hs.rd 2 rfl)) ?_
    ((try refine sx_use ?_); (repeat (refine SxNew.mk fun _ => ?_; (try refine sx_use ?_))))
    refine SxRun.blNe Try.underlying4 ?_
    ((try refine sx_use ?_); (repeat (refine SxNew.mk fun _ => ?_; (try refine sx_use ?_))))
    refine SxCall.quietS (fun w hs => MSame_any id jd es fs ao bo ac bc w (hs.rd 2 rfl) (hs.rd 3 rfl)) ?_
    ((try refine sx_use ?_); (repeat (refine SxNew.mk fun _ => ?_; (try refine sx_use ?_))))
    refine SxCall.quietS (fun w hs => RMSame_any id jd es fs ao bo ac bc w (hs.rd 2 rfl) (hs.rd 3 rfl)) ?_
    ((try refine sx_use ?_); (repeat (refine SxNew.mk fun _ => ?_; (try refine sx_use ?_))))
    refine SxRun.blNe Try.underlying4 ?_
    rw [bne_self_eq_false]
    ((try refine sx_use ?_); (repeat (refine SxNew.mk fun _ => ?_; (try refine sx_use ?_))))
    refine SxCall.quietS (fun w hs => MSame_any id id es es ao ao ac ac w (hs.rd 2 rfl) (hs.rd 2 rfl)) ?_
    rw [show decide (id = id ∧ es = es) = true from decide_eq_true ⟨rfl, rfl⟩]
    ((try refine sx_use ?_); (repeat (refine SxNew.mk fun _ => ?_; (try refine sx_use ?_))))
    refine SxIf.strT rfl ?_
    ((try refine sx_use ?_); (repeat (refine SxNew.mk fun _ => ?_; (try refine sx_use ?_))))
    refine SxCall.quietS (fun w hs => hchk w (hs.rd 2 rfl)) ?_
    ((try refine sx_use ?_); (repeat (refine SxNew.mk fun _ => ?_; (try refine sx_use ?_))))
    refine SxCall.quiet mn_awake ?_
    ((try refine sx_use ?_); (repeat (refine SxNew.mk fun _ => ?_; (try refine sx_use ?_))))
    exact SxDone.mk fun w' hs => ⟨rfl, hs.touch.below⟩
theorem nil_rd (w : World) : Rd w none (enE.fl []) := ⟨by decide, fun h => absurd h (by decide)⟩
set_option maxHeartbeats 8000000 in
theorem ManifestGets_law (w : World) (t : ByteArray) (_ht : t.size ≤ maxLen) :
    Calls Try.prog 4 #[.string t] w fun e w' => e = .returned (.bool true) ∧ Below w.heap.size w w' := by
  obtain ⟨s, rfl⟩ : ∃ s : List UInt8, t = ⟨s.toArray⟩ := ⟨t.data.toList, rfl⟩
  have hsz : (⟨s.toArray⟩ : ByteArray).size = s.length := mk_size s
  refine sx_fn (S := SX) (M := []) (N := 40) (H0 := []) Try.func4 rfl rfl rfl (Sat.nil _ _) ?_
  ((try refine sx_use ?_); (repeat (refine SxNew.mk fun _ => ?_; (try refine sx_use ?_))))
  refine SxIf.dec (fun hl => ?_) (fun hl => ?_)
  · ((try refine sx_use ?_); (repeat (refine SxNew.mk fun _ => ?_; (try refine sx_use ?_))))
    refine SxCall.quiet mn_awake ?_
    ((try refine sx_use ?_); (repeat (refine SxNew.mk fun _ => ?_; (try refine sx_use ?_))))
    exact SxDone.mk fun w' hs => ⟨rfl, hs.touch.below⟩
  rw [hsz] at hl
  by_cases hM : isMn s
  · obtain ⟨id, es, hm, hp⟩ := hM
    have h1 := fun (w : World) => (MGet_any s (by omega) w).mono fun e w' h => h.1 id es hm hp
    have h2 := fun (w : World) => (RMGet_any s (by omega) w).mono fun e w' h => h.1 id es hm hp
    have hes := hm.2.2.1
    ((try refine sx_use ?_); (repeat (refine SxNew.mk fun _ => ?_; (try refine sx_use ?_))))
    refine SxCall.newRow (v := fun a c => .tuple #[mnV id a es.length c, .int .i64 0]) (fun w hs => h1 w) fun ga gc => ?_
    ((try refine sx_use ?_); (repeat (refine SxNew.mk fun _ => ?_; (try refine sx_use ?_))))
    refine SxCall.newRow (v := fun a c => .tuple #[mnV id a es.length c, .bool true]) (fun w hs => h2 w) fun ra rc => ?_
    ((try refine sx_use ?_); (repeat (refine SxNew.mk fun _ => ?_; (try refine sx_use ?_))))
    refine SxCall.quietS (fun w hs => RMSame_any id id es es ga ra gc rc w (hs.rowRd 3 rfl (by rw [rowEn_len]; unfold maxLen; omega)) (hs.rowRd 1 rfl (by rw [rowEn_len]; unfold maxLen; omega))) ?_
    rw [show decide (id = id ∧ es = es) = true from decide_eq_true ⟨rfl, rfl⟩]
    ((try refine sx_use ?_); (repeat (refine SxNew.mk fun _ => ?_; (try refine sx_use ?_))))
    refine SxRun.blEq Try.underlying4 ?_
    ((try refine sx_use ?_); (repeat (refine SxNew.mk fun _ => ?_; (try refine sx_use ?_))))
    refine SxCall.quiet mn_awake ?_
    ((try refine sx_use ?_); (repeat (refine SxNew.mk fun _ => ?_; (try refine sx_use ?_))))
    exact SxDone.mk fun w' hs => ⟨rfl, hs.touch.below⟩
  · have h1 := fun (w : World) => (MGet_any s (by omega) w).mono fun e w' h => h.2 hM
    have h2 := fun (w : World) => (RMGet_any s (by omega) w).mono fun e w' h => h.2 hM
    ((try refine sx_use ?_); (repeat (refine SxNew.mk fun _ => ?_; (try refine sx_use ?_))))
    refine SxCall.quiet h1 ?_
    ((try refine sx_use ?_); (repeat (refine SxNew.mk fun _ => ?_; (try refine sx_use ?_))))
    refine SxCall.quiet h2 ?_
    ((try refine sx_use ?_); (repeat (refine SxNew.mk fun _ => ?_; (try refine sx_use ?_))))
    refine SxCall.quiet (v := .bool true) (fun w => RMSame_any 0 0 [] [] none none 0 0 w (nil_rd w) (nil_rd w)) ?_
    ((try refine sx_use ?_); (repeat (refine SxNew.mk fun _ => ?_; (try refine sx_use ?_))))
    refine SxRun.blEq Try.underlying4 ?_
    ((try refine sx_use ?_); (repeat (refine SxNew.mk fun _ => ?_; (try refine sx_use ?_))))
    refine SxCall.quiet mn_awake ?_
    ((try refine sx_use ?_); (repeat (refine SxNew.mk fun _ => ?_; (try refine sx_use ?_))))
    exact SxDone.mk fun w' hs => ⟨rfl, hs.touch.below⟩
end Go.Proofs.Ytdbappehchgbcaa
