/- The law of layer 14: BoxBuilds. -/
import Derived.Test.YtdhdminocboipaaZBoxQ
namespace Go.Proofs.Ytdhdminocboipaa
open Go.RowKit

theorem strs_lists (ss : List ByteArray) : ss.map Value.string = (ss.map fun s => s.data.toList).map txV := by
  rw [List.map_map]; rfl
theorem fewL_le (ls : List (List UInt8)) : (fewL ls).length ≤ 260 ∧ ∀ x ∈ fewL ls, x.length ≤ 4100 := by
  unfold fewL
  refine ⟨by rw [List.length_map, List.length_take]; omega, fun x hx => ?_⟩
  simp only [List.mem_map] at hx
  obtain ⟨y, _, rfl⟩ := hx
  rw [List.length_take]; omega
/-- What comes in: chunks as they lie. -/
theorem open_chunks {w : World} {v : Value} (hv : FitK Try.prog w 4 (.slice 9) v) : ∃ (ao : Option Addr) (cap : Nat) (ls : List (List UInt8)), v = .slice ao ls.length cap ∧ ls.length ≤ cap ∧ Rd w ao (ls.map txV) := by
  obtain ⟨ao, n, cap, ss, rfl, h1, h2, rfl, h4, h5⟩ := fitK_strs hv (by kernel_rfl) (by kernel_rfl)
  exact ⟨ao, cap, ss.map fun s => s.data.toList, by rw [List.length_map], by rw [List.length_map]; exact h1, by rw [← strs_lists]; exact h4⟩
theorem may_one {id : Int} {ls : List (List UInt8)} (h : mayB id ls = true) : 0 < ls.length ∧ ls.length ≤ 256 := by
  rw [← good_slOf] at h
  have := goodB_P h
  have h1 := this.2.2.1
  have h2 := this.2.2.2.1
  rw [slOf_len] at h1 h2
  omega
theorem BoxBuilds_core (w : World) (id : Int) (h0 : 0 ≤ id ∧ id < 4294967296) (ls : List (List UInt8)) (ao : Option Addr) (cap : Nat) (hr : Rd w ao (ls.map txV)) :
    Calls Try.prog 4 #[.int .u32 id, .slice ao ls.length cap] w fun e w' => e = .returned (.bool true) ∧ Below w.heap.size w w' := by
  obtain ⟨hf1, hf2⟩ := fewL_le ls
  refine sx_fn (S := SX) (M := []) (N := 76) (H0 := [.rd ao (ls.map txV)]) Try.func4 rfl rfl rfl (Sat.oneRd _ hr) ?_
  ((try refine sx_use ?_); (repeat (refine SxNew.mk fun _ => ?_; (try refine sx_use ?_))))
  refine SxCall.newRow (v := fun a c => .slice a (fewL ls).length c) (fun w hs => few_any ls ao cap w (hs.rd 0 rfl)) fun bo bcap => ?_
  generalize fewL ls = cs at hf1 hf2
  have hcl : (cs.map txV).length ≤ maxLen := by rw [List.length_map]; unfold maxLen; omega
  have hx : ∀ x ∈ cs, x.length < 65536 := fun x h => by have := hf2 x h; omega
  have hx2 : ∀ x ∈ cs, x.length ≤ 1000000 := fun x h => by have := hf2 x h; omega
  ((try refine sx_use ?_); (repeat (refine SxNew.mk fun _ => ?_; (try refine sx_use ?_))))
  have hB := fun (w : World) (h1 : cs.length ≤ bcap) (hs : Rd w bo (cs.map txV)) => BBuild_any id h0 cs bo bcap h1 w hs (by omega) hx
  have hC := fun (w : World) (hs : Rd w bo (cs.map txV)) => Check_any id cs bo bcap w hs (by omega)
  have hM := fun (w : World) (hs : Rd w bo (cs.map txV)) => May_any id cs bo bcap w hs (by omega)
  unfold buildV at hB
  by_cases hm : mayB id cs = true
  · rw [if_pos hm] at hB
    rw [hm] at hC hM
    refine SxCall.quietS (fun w hs => hB w (row_cap (hs.row 0 rfl)) (hs.rowRd 0 rfl hcl)) ?_
    ((try refine sx_use ?_); (repeat (refine SxNew.mk fun _ => ?_; (try refine sx_use ?_))))
    refine SxCall.quietS (fun w hs => hC w (hs.rowRd 0 rfl hcl)) ?_
    ((try refine sx_use ?_); (repeat (refine SxNew.mk fun _ => ?_; (try refine sx_use ?_))))
    refine SxCall.quiet awake_any ?_
    ((try refine sx_use ?_); (repeat (refine SxNew.mk fun _ => ?_; (try refine sx_use ?_))))
    refine SxCall.quietS (fun w hs => hM w (hs.rowRd 0 rfl hcl)) ?_
    ((try refine sx_use ?_); (repeat (refine SxNew.mk fun _ => ?_; (try refine sx_use ?_))))
    obtain ⟨p1, p2⟩ := may_one hm
    obtain ⟨q1, q2⟩ := built_all hm
    have hmx := mixed id cs cs hm rfl
    rw [← buildL_mix] at hmx
    have hbl : (buildL id cs).length ≤ 1000000 := by
      have h1 := (headFacts hmx.ok).all
      have h2 := (goodB_P (headFacts hmx.ok).good).2.2.2.2.2
      have h3 := (headFacts hmx.ok).cnt
      omega
    have hH := fun (w : World) => (BHead_any (buildL id cs) hbl w).mono fun e w' h => h.1 hmx.ok
    rw [hmx.id, hmx.cnt] at hH
    have hsl : slP (buildL id cs) cs.length = slOf cs := by
      have := hmx.slots
      unfold slH at this
      rw [hmx.cnt] at this
      exact this
    rw [hsl] at hH
    have hCs := fun (w : World) => (BChunks_any (buildL id cs) hbl w).mono fun e w' h => h.1 q1
    rw [hmx.cnt, q2] at hCs
    refine SxCall.newRow (v := fun ao cap => .tuple #[hdV id ao cs.length cap, .int .i64 0]) (fun w _ => hH w) fun co ccap => ?_
    ((try refine sx_use ?_); (repeat (refine SxNew.mk fun _ => ?_; (try refine sx_use ?_))))
    refine SxCall.newRow (v := fun ao cap => .tuple #[.slice ao cs.length cap, .int .i64 0]) (fun w _ => hCs w) fun d dcap => ?_
    ((try refine sx_use ?_); (repeat (refine SxNew.mk fun _ => ?_; (try refine sx_use ?_))))
    refine SxCode.drawAll rfl [] ?_
    ((try refine sx_use ?_); (repeat (refine SxNew.mk fun _ => ?_; (try refine sx_use ?_))))
    refine SxCall.quietS (fun w hs => RBuild_any id h0 cs bo bcap w (hs.rowRd 3 rfl hcl) (by omega) hx) ?_
    refine SxStable.mk (allI _) (pickH_all _) (nodupB_all _) ?_
    ((try refine sx_use ?_); (repeat (refine SxNew.mk fun _ => ?_; (try refine sx_use ?_))))
    refine SxIf.nt (SxIf.strT rfl ?_)
    ((try refine sx_use ?_); (repeat (refine SxNew.mk fun _ => ?_; (try refine sx_use ?_))))
    refine SxCall.newRow (v := fun ao cap => hdV id ao cs.length cap) (fun w hs => ROf_any id cs bo bcap w (hs.rowRd 3 rfl hcl) (by omega) hx2) fun eo ecap => ?_
    refine SxStable.mk [1, 2, 3, 4, 5] rfl rfl ?_
    ((try refine sx_use ?_); (repeat (refine SxNew.mk fun _ => ?_; (try refine sx_use ?_))))
    have hfl : ((slOf cs).flatMap encS).length ≤ maxLen := by rw [flat_len encS 2 (fun _ => rfl), slOf_len]; unfold maxLen; omega
    refine SxCall.quietS (v := .bool true) (fun w hs => by
      have h := RHSame_any id id (slOf cs) (slOf cs) co eo ccap ecap w (hs.rowRd 3 rfl hfl) (hs.rowRd 0 rfl hfl) (by rw [slOf_len]; omega)
      rw [slOf_len, decide_eq_true (show sameP _ _ _ _ from ⟨rfl, rfl⟩)] at h
      exact h) ?_
    refine SxStable.mk [1, 2, 3, 4, 5] rfl rfl ?_
    ((try refine sx_use ?_); (repeat (refine SxNew.mk fun _ => ?_; (try refine sx_use ?_))))
    refine SxCall.quietS (v := .bool true) (fun w hs => by
      have h := RSame_any cs cs d bo dcap bcap w (hs.rowRd 1 rfl hcl) (hs.rowRd 4 rfl hcl)
      rw [decide_eq_true rfl] at h
      exact h) ?_
    ((try refine sx_use ?_); (repeat (refine SxNew.mk fun _ => ?_; (try refine sx_use ?_))))
    exact SxDone.mk fun w' hs => ⟨rfl, hs.touch.below⟩
  · rw [if_neg hm] at hB
    rw [show mayB id cs = false by simpa using hm] at hC hM
    refine SxCall.quietS (fun w hs => hB w (row_cap (hs.row 0 rfl)) (hs.rowRd 0 rfl hcl)) ?_
    ((try refine sx_use ?_); (repeat (refine SxNew.mk fun _ => ?_; (try refine sx_use ?_))))
    refine SxCall.quietS (fun w hs => hC w (hs.rowRd 0 rfl hcl)) ?_
    ((try refine sx_use ?_); (repeat (refine SxNew.mk fun _ => ?_; (try refine sx_use ?_))))
    refine SxCall.quiet awake_any ?_
    ((try refine sx_use ?_); (repeat (refine SxNew.mk fun _ => ?_; (try refine sx_use ?_))))
    refine SxCall.quietS (fun w hs => hM w (hs.rowRd 0 rfl hcl)) ?_
    ((try refine sx_use ?_); (repeat (refine SxNew.mk fun _ => ?_; (try refine sx_use ?_))))
    refine SxIf.strT rfl ?_
    ((try refine sx_use ?_); (repeat (refine SxNew.mk fun _ => ?_; (try refine sx_use ?_))))
    exact SxDone.mk fun w' hs => ⟨rfl, hs.touch.below⟩
theorem BoxBuilds_law (w : World) (id : Nat) (h0 : id < 4294967296) (v : Value) (hv : FitK Try.prog w 4 (.slice 9) v) :
    Calls Try.prog 4 #[.int .u32 (id : Nat), v] w fun e w' => e = .returned (.bool true) ∧ Below w.heap.size w w' := by
  obtain ⟨ao, cap, ls, rfl, h1, h2⟩ := open_chunks hv
  exact BoxBuilds_core w id (by omega) ls ao cap h2
end Go.Proofs.Ytdhdminocboipaa
