/- Layer 26: DupSorts. -/
import Derived.Test.YtdififdnnpgjoaaZDuK
namespace Go.Proofs.Ytdififdnnpgjoaa
open Go.RowKit

theorem open_ck {w : World} {d : Nat} (cs : List Value) (h : FitR Try.prog w d ([.int .u32, .int .i64] ++ (List.replicate 32 (.int .u8) ++ [.str])) cs) : ∃ x : Ck, cs = ckE.enc x := by
  obtain ⟨hl, hf⟩ := h
  match cs, hl, hf with
  | [], hl, _ => cases hl
  | [a], hl, _ => cases hl
  | a :: b :: r, hl, hf =>
    obtain ⟨a, rfl, ha⟩ := fitK_int (hf 0 _ _ rfl rfl)
    obtain ⟨b, rfl, hb⟩ := fitK_int (hf 1 _ _ rfl rfl)
    have hr : FitR Try.prog w d (List.replicate 32 (.int .u8) ++ [.str]) r := ⟨by simpa using hl, fun i k c h1 h2 => hf (i + 2) k c h1 h2⟩
    obtain ⟨f, hfl, r2, rfl, h3⟩ := open_u8L 32 hr
    obtain ⟨hl3, hf3⟩ := h3
    match r2, hl3, hf3 with
    | [s], _, hf3 =>
      obtain ⟨s, rfl, _⟩ := fitK_str (hf3 0 _ _ rfl rfl)
      exact ⟨⟨⟨a, b⟩, ⟨f, hfl⟩, s⟩, rfl⟩
theorem open_cks {w : World} {d : Nat} {v : Value} (hv : FitK Try.prog w (d + 1) (.slice 34) v) : ∃ (ao : Option Addr) (n cap : Nat), v = .slice ao n cap ∧ n ≤ maxLen ∧ ∃ l : List Ck, l.length = min n 1000 ∧ Rd w ao (ckE.fl l) :=
  open_rows ckE (by show 35 ≤ 100; decide) ([.int .u32, .int .i64] ++ (List.replicate 32 (.int .u8) ++ [.str])) hv (by kernel_rfl) (by kernel_rfl) rfl fun cs h => open_ck cs h
theorem ckE_fq {l : List Ck} {k : Nat} {x : Ck} (h : l[k]? = some x) : ((ckE.fl l).drop (k * 35 + 2)).take 32 = fqC x.fq := by
  have h1 := ckE_at h
  have h2 : ((ckE.fl l).drop (k * 35 + 2)).take 32 = (((((ckE.fl l).drop (k * 35)).take 35)).drop 2).take 32 := by
    rw [List.drop_take, List.take_take, List.drop_drop]; rfl
  rw [h2, h1, ckC_fq]
set_option maxHeartbeats 16000000 in
theorem DupSorts_law (w : World) (v1 : Value) (hv1 : FitK Try.prog w 4 (.slice 34) v1) :
    Calls Try.prog 3 #[v1] w fun e w' => e = .returned (.bool true) ∧ Below w.heap.size w w' := by
  obtain ⟨ao, n, ac, rfl, hn, l0, hl0, hr⟩ := open_cks hv1
  clear hv1
  refine sx_fn (S := SX) (M := []) (H0 := [.row none 0 0 34 35 [], .rd ao (ckE.fl l0)]) (N := 47) Try.func3 rfl rfl rfl ((Sat.oneRd _ hr).nilRow 34 35) ?_
  ((try refine sx_use ?_); (repeat (refine SxNew.mk fun _ => ?_; (try refine sx_use ?_))))
  refine SxCall.at (fun w1 hs => ours_any l0 n hl0 ao ac w1 (hs.rd 1 rfl)) fun w1 e w' hs ⟨a1, c1, a2, c2, h1, h2, h3⟩ => ⟨_, _, h1, Sat.twoNew hs h2 h3 (by rw [ckE_len]; have := oursL_len l0; unfold maxLen; omega) (by rw [ckE_len]; have := oursL_len l0; unfold maxLen; omega), ?_⟩
  have hl := oursL_len l0
  obtain ⟨l, hll⟩ : ∃ l, l = oursL l0 := ⟨_, rfl⟩
  rw [← hll] at hl ⊢
  have hcl := cnt_len l
  have hsl := srt_len l
  ((try refine sx_use ?_); (repeat (refine SxNew.mk fun _ => ?_; (try refine sx_use ?_))))
  refine SxCall.newRd (by rw [ckE_len]; unfold maxLen; omega) (fun w1 hs => Sort_any l (by omega) a1 c1 w1 (hs.rd 0 rfl)) fun so sc => ?_
  ((try refine sx_use ?_); (repeat (refine SxNew.mk fun _ => ?_; (try refine sx_use ?_))))
  refine SxCode.loop (σ := Nat × Option Addr × Nat) [7, 5] [15, 16, 17, 18, 21, 22, 23, 24, 25, 26, 27, 28, 29, 30, 31, 32, 33, 34, 35, 36, 37, 38, 39, 5, 19, 20, 7] (fun x => [.int .i64 (x.1 : Nat), .slice x.2.1 x.1 x.2.2]) (fun x => [.row x.2.1 x.1 x.2.2 34 35 (ckE.fl ((srt l).take x.1)), .rd so (ckE.fl (srt l)), .rd a2 (ckE.fl l)]) (fun x => x.1 ≤ (srt l).length) (fun x => (srt l).length - x.1) (0, none, 0) [3, 0, 2] rfl rfl rfl rfl (Nat.zero_le _) ?_
  rintro ⟨k, ro, rc⟩ hk
  dsimp only at hk ⊢
  by_cases hlt : k < (srt l).length
  · obtain ⟨c, hc⟩ : ∃ c, (srt l)[k]? = some c := ⟨(srt l)[k], by simp [hlt]⟩
    have hsn := take_snocE hc
    ((try refine sx_use ?_); (repeat (refine SxNew.mk fun _ => ?_; (try refine sx_use ?_))))
    refine SxCode.draw rfl [.rd so (ckE.fl (srt l))] [] [1] rfl rfl ?_
    ((try refine sx_use ?_); (repeat (refine SxNew.mk fun _ => ?_; (try refine sx_use ?_))))
    refine SxIA.rd 0 _ rfl k rfl hlt (by rw [ckE_len]; omega) fun g off ha => ?_
    ((try refine sx_use ?_); (repeat (refine SxNew.mk fun _ => ?_; (try refine sx_use ?_))))
    refine SxLdN.rd 0 rfl ha rfl (vs := plC c.pl) rfl (ckE_pl hc) ?_
    ((try refine sx_use ?_); (repeat (refine SxNew.mk fun _ => ?_; (try refine sx_use ?_))))
    refine SxIA.rd 0 _ rfl k rfl hlt (by rw [ckE_len]; omega) fun g off ha => ?_
    ((try refine sx_use ?_); (repeat (refine SxNew.mk fun _ => ?_; (try refine sx_use ?_))))
    refine SxLdN.rd 0 rfl ha (by omega) (j := k * 35 + 2) (vs := fqC c.fq) (fqC_len _) (ckE_fq hc) ?_
    ((try refine sx_use ?_); (repeat (refine SxNew.mk fun _ => ?_; (try refine sx_use ?_))))
    refine SxIA.rd 0 _ rfl k rfl hlt (by rw [ckE_len]; omega) fun g off ha => ?_
    ((try refine sx_use ?_); (repeat (refine SxNew.mk fun _ => ?_; (try refine sx_use ?_))))
    refine SxLd.rd 0 rfl ha (by omega) (j := k * 35 + 34) (ckE_s hc) ?_
    ((try refine sx_use ?_); (repeat (refine SxNew.mk fun _ => ?_; (try refine sx_use ?_))))
    refine SxFill.first (n := 2) rfl rfl rfl ?_
    refine SxFill.tail (fun i => match i with | 1 => some (0, 32) | 2 => some (32, 1) | _ => none) rfl (by
      intro y hy
      simp only [List.mem_cons, List.not_mem_nil, or_false] at hy
      rcases hy with rfl | rfl <;> exact ⟨_, _, rfl, rfl⟩) ?_
    refine SxFill.firstI (n := 32) rfl (fqC_len _) rfl ?_
    refine SxFill.tail (fun i => match i with | 2 => some (0, 1) | _ => none) (fqC_len _) (by
      intro y hy
      simp only [List.mem_cons, List.not_mem_nil, or_false] at hy
      rcases hy with rfl; exact ⟨_, _, rfl, rfl⟩) ?_
    refine SxFill.ok rfl rfl ?_
    ((try refine sx_use ?_); (repeat (refine SxNew.mk fun _ => ?_; (try refine sx_use ?_))))
    refine SxFill.one rfl (ckC_len c) ?_
    ((try refine sx_use ?_); (repeat (refine SxNew.mk fun _ => ?_; (try refine sx_use ?_))))
    (try refine SxStable.mk [2] rfl rfl ?_)
    (try ((try refine sx_use ?_); (repeat (refine SxNew.mk fun _ => ?_; (try refine sx_use ?_)))))
    refine SxApp.mk 1 rfl 0 (.inr (.inr (.inr ⟨by decide, _, rfl⟩))) (vs := ckC c) (m := 1) (by rw [ckC_len]) (ckC_one c) (by unfold maxLen; omega) (by omega) (cs' := ckE.fl ((srt l).take (k + 1))) (by rw [hsn, ckE.fl_append, ckE.fl_one]; rfl) fun ao' cap' => ?_
    ((try refine sx_use ?_); (repeat (refine SxNew.mk fun _ => ?_; (try refine sx_use ?_))))
    (try refine SxStable.mk [2] rfl rfl ?_)
    (try ((try refine sx_use ?_); (repeat (refine SxNew.mk fun _ => ?_; (try refine sx_use ?_)))))
    exact SxRound.mk (k + 1, ao', cap') [1, 2, 3] rfl rfl rfl hlt (by first | omega | (dsimp only; omega))
  · obtain rfl : k = (srt l).length := by omega
    rw [List.take_length]
    ((try refine sx_use ?_); (repeat (refine SxNew.mk fun _ => ?_; (try refine sx_use ?_))))
    refine SxCall.newRd (by rw [ckE_len]; unfold maxLen; omega) (fun w1 hs => RSort_any26 l (by omega) a2 c2 w1 (hs.rd 2 rfl)) fun to tc => ?_
    ((try refine sx_use ?_); (repeat (refine SxNew.mk fun _ => ?_; (try refine sx_use ?_))))
    refine SxCall.quietS (v := .bool true) (fun w1 hs => by
      have h := RSame_any26 (srt l) (srt l) (by omega) ro to rc tc w1 (hs.rowRd 1 rfl (by rw [ckE_len]; unfold maxLen; omega)) (hs.rd 0 rfl)
      rw [decide_eq_true rfl] at h
      exact h) ?_
    ((try refine sx_use ?_); (repeat (refine SxNew.mk fun _ => ?_; (try refine sx_use ?_))))
    refine SxCall.quiet du_awake ?_
    ((try refine sx_use ?_); (repeat (refine SxNew.mk fun _ => ?_; (try refine sx_use ?_))))
    exact SxDone.mk fun w' hs => ⟨rfl, hs.touch.below⟩
end Go.Proofs.Ytdififdnnpgjoaa
