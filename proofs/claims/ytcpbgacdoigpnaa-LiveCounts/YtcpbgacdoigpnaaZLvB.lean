/- Layer 20: Live. -/
import Derived.Test.YtcpbgacdoigpnaaZLvA
import Derived.Test.YtcpbgacdoigpnaaZMnJ
namespace Go.Proofs.Ytcpbgacdoigpnaa
open Go.RowKit

theorem nodup_len : ∀ (n : Nat) (js : List Nat), js.Nodup → (∀ j ∈ js, j < n) → js.length ≤ n
  | 0, js, _, h => by
    cases js with
    | nil => exact Nat.le_refl _
    | cons j r => exact absurd (h j (by simp)) (Nat.not_lt_zero _)
  | n + 1, js, hn, h => by
    by_cases hm : n ∈ js
    · have h1 := nodup_len n (js.erase n) (hn.erase n) (fun j hj => by
        have h2 := (hn.mem_erase_iff).1 hj
        have := h j h2.2
        have := h2.1
        omega)
      rw [List.length_erase_of_mem hm] at h1
      omega
    · have := nodup_len n js hn (fun j hj => by
        have := h j hj
        have : j ≠ n := fun e => hm (e ▸ hj)
        omega)
      omega
theorem place_any (x : En) (w : World) : Calls Try.prog 23 #[.agg (enC x).toArray] w fun e w' => e = .returned (plV x.pl) ∧ Below w.heap.size w w' := by
  have l1 : (enC x)[33]? = some (.int .u32 x.bx) := enC_tail x 1 _ rfl
  have l2 : (enC x)[34]? = some (.int .i64 x.sl) := enC_tail x 2 _ rfl
  refine sx_fn (S := SX) (M := []) (H0 := []) (N := 8) Try.func23 rfl rfl rfl (Sat.nil _ _) ?_
  ((try refine sx_use ?_); (repeat (refine SxNew.mk fun _ => ?_; (try refine sx_use ?_))))
  refine SxLd.blk 1 rfl l1 ?_
  ((try refine sx_use ?_); (repeat (refine SxNew.mk fun _ => ?_; (try refine sx_use ?_))))
  refine SxLd.blk 1 rfl l2 ?_
  ((try refine sx_use ?_); (repeat (refine SxNew.mk fun _ => ?_; (try refine sx_use ?_))))
  exact SxDone.mk fun w' hs => ⟨rfl, hs.touch.below⟩
theorem Live1_any (a b : Pl) (w : World) : Calls Try.prog 34 #[.agg (plC a).toArray, .agg (plC b).toArray] w fun e w' => e = .returned (.int .i64 (cfP a b)) ∧ Below w.heap.size w w' := by
  refine sx_fn (S := SX) (M := []) (N := 17) (H0 := []) Try.func34 rfl rfl rfl (Sat.nil _ _) ?_
  ((try refine sx_use ?_); (repeat (refine SxNew.mk fun _ => ?_; (try refine sx_use ?_))))
  refine SxCode.drawAll rfl [] ?_
  ((try refine sx_use ?_); (repeat (refine SxNew.mk fun _ => ?_; (try refine sx_use ?_))))
  refine SxCall.quiet (CmpU_any a.bx b.bx) ?_
  ((try refine sx_use ?_); (repeat (refine SxNew.mk fun _ => ?_; (try refine sx_use ?_))))
  refine SxCall.pure (fun w => (Try.cmp_Compare_int a.sl b.sl w).mono fun e w' h => ⟨h.1, h.2.symm⟩) ?_
  ((try refine sx_use ?_); (repeat (refine SxNew.mk fun _ => ?_; (try refine sx_use ?_))))
  refine SxCall.quietS (fun w hs => Or2_any (cI a.bx b.bx) (cI a.sl b.sl) _ _ w (hs.rowRd 0 rfl (by show (2 : Nat) ≤ maxLen; decide))) ?_
  ((try refine sx_use ?_); (repeat (refine SxNew.mk fun _ => ?_; (try refine sx_use ?_))))
  exact SxDone.mk fun w' hs => ⟨rfl, hs.touch.below⟩
def keyAt (d : List (Pl × Nat)) (j : Nat) : Pl := ((d[j]?).map (·.1)).getD default
theorem sorted_strict {ks : List Pl} (hn : ks.Nodup) {l : List Pl} (he : ∀ x, x ∈ ks ↔ x ∈ l) : sorted cfP ks = setP l := by
  refine (setS_ext ltP_ord cfP_iff ?_ fun x => by rw [(sorted_perm cfP ks).mem_iff]; exact he x).symm
  have h1 := sorted_ord ltP_ord cfP_iff ks
  have h2 : (sorted cfP ks).Nodup := ((sorted_perm cfP ks).nodup_iff).2 hn
  refine (h1.and h2).imp fun {x y} h => ?_
  rcases Classical.em (ltP x y) with h3 | h3
  · exact h3
  · exact absurd (ltP_ord.tri x y h3 h.1) h.2
theorem keys_nodup {d : List (Pl × Nat)} (hd : (d.map (·.1)).Nodup) {js : List Nat} (hn : js.Nodup) (hb : ∀ j ∈ js, j < d.length) : (js.map (keyAt d)).Nodup := by
  refine List.pairwise_map.2 ?_
  refine (List.Pairwise.and_mem.1 hn).imp fun {i j} ⟨hi, hj, hne⟩ he => hne ?_
  have a := hb i hi
  have b := hb j hj
  unfold keyAt at he
  rw [List.getElem?_eq_getElem a, List.getElem?_eq_getElem b] at he
  simp only [Option.map_some, Option.getD_some] at he
  have h2 := (List.nodup_iff_pairwise_ne.1 hd)
  rw [List.pairwise_iff_getElem] at h2
  rcases Nat.lt_trichotomy i j with h | h | h
  · exact absurd (by rw [List.getElem_map, List.getElem_map]; exact he) (h2 i j (by simpa using a) (by simpa using b) h)
  · exact h
  · exact absurd (by rw [List.getElem_map, List.getElem_map]; exact he.symm) (h2 j i (by simpa using b) (by simpa using a) h)
theorem keys_all {d : List (Pl × Nat)} {l : List Pl} (hd : Tab d l) {js : List Nat} (hb : ∀ j ∈ js, j < d.length) (ha : ∀ j, j < d.length → j ∈ js) (x : Pl) : x ∈ js.map (keyAt d) ↔ x ∈ l := by
  rw [List.mem_map]
  constructor
  · rintro ⟨j, hj, rfl⟩
    have a := hb j hj
    have hm : (d[j].1, d[j].2) ∈ d := List.getElem_mem a
    obtain ⟨h1, h2⟩ := hd.cnt _ _ hm
    have : keyAt d j = d[j].1 := by unfold keyAt; rw [List.getElem?_eq_getElem a]; rfl
    rw [this]
    exact List.count_pos_iff.1 (by omega)
  · intro h
    obtain ⟨n, hn⟩ := hd.all x h
    obtain ⟨j, hj⟩ := List.getElem?_of_mem hn
    exact ⟨j, ha j (List.getElem?_eq_some_iff.1 hj).1, by unfold keyAt; rw [hj]; rfl⟩
set_option maxHeartbeats 4000000 in
theorem Live_any (gt gm : Nat) (d : List (Pl × Nat)) (l : List Pl) (hd : Tab d l) (hl : l.length ≤ 1000000) (w : World) (ht : TabR w gt gm) (hm : MapT w gm d) :
    Calls Try.prog 17 #[.pointer (some ⟨gt, 0, none⟩)] w fun e w' => ∃ ao' cap', e = .returned (.slice ao' (setP l).length cap') ∧ NewRow w w' ao' (setP l).length cap' 25 2 (plE.fl (setP l)) := by
  obtain ⟨arr, clock, he, hM⟩ := hm
  have hsz : arr.size = d.length := by
    have := congrArg List.length he
    unfold kvOf kvT at this
    simpa using this
  have hkey : ∀ (j : Nat) (e : MapEntry), arr.toList[j]? = some e → j < d.length ∧ e.key = plV (keyAt d j) := by
    intro j e hj
    have h1 := congrArg (fun x => x[j]?) he
    unfold kvOf kvT at h1
    simp only [List.getElem?_map, hj, Option.map_some] at h1
    cases hdj : d[j]? with
    | none => rw [hdj] at h1; cases h1
    | some x =>
      rw [hdj] at h1
      simp only [Option.map_some, Option.some.injEq, Prod.mk.injEq] at h1
      refine ⟨(List.getElem?_eq_some_iff.1 hdj).1, ?_⟩
      unfold keyAt
      rw [hdj]
      exact h1.1
  refine sx_fn (S := SX) (M := []) (H0 := [.row none 0 0 25 2 [], tabR gt gm, mapY plKey gm arr clock]) (N := 24) Try.func17 rfl rfl rfl (Sat.nilRow 25 2 (Sat.rdsM w [] _ fun i e hi => by
    match i, hi with
    | 0, hi => cases hi; exact ⟨rfl, ht⟩
    | 1, hi => cases hi; exact ⟨rfl, hM⟩)) ?_
  ((try refine sx_use ?_); (repeat (refine SxNew.mk fun _ => ?_; (try refine sx_use ?_))))
  refine SxCall.quietS (fun w hs => made_any gt gm w (hs.rd 1 rfl)) ?_
  ((try refine sx_use ?_); (repeat (refine SxNew.mk fun _ => ?_; (try refine sx_use ?_))))
  refine SxLd.rd 1 rfl rfl (j := 0) rfl rfl ?_
  ((try refine sx_use ?_); (repeat (refine SxNew.mk fun _ => ?_; (try refine sx_use ?_))))
  refine SxSem.range plKey rfl Try.underlying59 rfl (IsMapX.y plKey (p := 2) rfl) fun r => ?_
  ((try refine sx_use ?_); (repeat (refine SxNew.mk fun _ => ?_; (try refine sx_use ?_))))
  refine SxCode.loop (σ := List Nat × Option Addr × Nat) [3] [13, 14, 15, 16, 4, 17, 18, 19, 20, 3] (fun s => [.slice s.2.1 s.1.length s.2.2]) (fun s => [iterE r gm arr clock s.1, .row s.2.1 s.1.length s.2.2 25 2 (plE.fl (s.1.map (keyAt d))), mapY plKey gm arr clock]) (fun s => s.1.Nodup ∧ ∀ j ∈ s.1, j < d.length) (fun s => d.length - s.1.length) ([], none, 0) [0, 1, 3] rfl rfl rfl rfl ⟨List.nodup_nil, fun j hj => by simp at hj⟩ ?_
  rintro ⟨js, ro, rc⟩ ⟨hn, hb⟩
  dsimp only at hn hb ⊢
  have hjl := nodup_len d.length js hn hb
  have hdl : d.length ≤ l.length := by
    have h1 := sorted_strict (ks := (List.range d.length).map (keyAt d)) (keys_nodup hd.nd List.nodup_range fun j hj => by simpa using hj) (l := l) (keys_all hd (fun j hj => by simpa using hj) fun j hj => by simpa using hj)
    have h2 := congrArg List.length h1
    have h3 : (setP l).length ≤ _ := setS_len cfP l
    rw [sorted_len] at h2
    simp only [List.length_map, List.length_range] at h2
    omega
  ((try refine sx_use ?_); (repeat (refine SxNew.mk fun _ => ?_; (try refine sx_use ?_))))
  refine SxSem.next plKey 0 rfl rfl (IsMapX.y plKey (p := 2) rfl) rfl (by rw [hsz]; exact hb) (fun hall => ?_) (fun j e hj hni => ?_)
  · rw [hsz] at hall
    have hS := sorted_strict (keys_nodup hd.nd hn hb) (l := l) (keys_all hd hb hall)
    have hlen : js.length = (setP l).length := by rw [← hS, sorted_len, List.length_map]
    ((try refine sx_use ?_); (repeat (refine SxNew.mk fun _ => ?_; (try refine sx_use ?_))))
    refine SxCall.sort (S := SX) (cf := cfP) (g := 34) (cb := #[]) (l := js.map (keyAt d)) (n := js.length) Try.layPl plE Try.isAgg25 Try.sizeOf25 (cmpOk_of ltP_ord cfP_iff) (enters_of Try.func34 (by kernel_rfl) rfl) 1 rfl (by omega) (fun x y w w' _ _ => Live1_any x y w') ?_
    rw [hS, hlen]
    ((try refine sx_use ?_); (repeat (refine SxNew.mk fun _ => ?_; (try refine sx_use ?_))))
    exact SxDone.mk fun w' hs => ⟨ro, rc, rfl, hs.newRow 1 rfl⟩
  · obtain ⟨hjd, hk⟩ := hkey j e hj
    ((try refine sx_use ?_); (repeat (refine SxNew.mk fun _ => ?_; (try refine sx_use ?_))))
    refine SxSem.entry plKey 0 (js := js) (j := j) rfl rfl (IsMapX.y plKey (p := 2) rfl) rfl hj ?_
    rw [hk]
    ((try refine sx_use ?_); (repeat (refine SxNew.mk fun _ => ?_; (try refine sx_use ?_))))
    refine SxApp.mk 3 rfl 0 (.inr (.inr (.inr ⟨by decide, _, rfl⟩))) (vs := plC (keyAt d j)) (m := 1) rfl rfl (by unfold maxLen; omega) (by omega) (cs' := plE.fl ((js ++ [j]).map (keyAt d))) (by rw [List.map_append, plE.fl_append]; rfl) fun ao' cap' => ?_
    ((try refine sx_use ?_); (repeat (refine SxNew.mk fun _ => ?_; (try refine sx_use ?_))))
    refine SxRound.mk (js ++ [j], ao', cap') [2, 3, 4] (by dsimp only; rw [List.length_append]; rfl) (by dsimp only; rw [List.length_append]; rfl) rfl ⟨?_, fun i hi => ?_⟩ ?_
    · refine List.nodup_append.2 ⟨hn, by simp, fun a ha b hb => ?_⟩
      simp at hb
      subst hb
      exact fun e => hni (e ▸ ha)
    · rcases List.mem_append.1 hi with h | h
      · exact hb i h
      · simp at h; subst h; exact hjd
    · have hn2 : (js ++ [j]).length ≤ d.length := nodup_len d.length (js ++ [j]) (List.nodup_append.2 ⟨hn, by simp, fun a ha b hb => by simp at hb; subst hb; exact fun e => hni (e ▸ ha)⟩) fun i hi => by
        rcases List.mem_append.1 hi with h | h
        · exact hb i h
        · simp at h; subst h; exact hjd
      rw [List.length_append] at hn2
      dsimp only
      rw [List.length_append]
      simp only [List.length_cons, List.length_nil] at hn2 ⊢
      omega
end Go.Proofs.Ytcpbgacdoigpnaa
