/- The law of layer 14: BoxBuilders. -/
import Derived.Test.YtdhdminocboipaaZBoxR
namespace Go.Proofs.Ytdhdminocboipaa
open Go.RowKit

theorem lenSum_nn (ls : List (List UInt8)) : 0 ≤ lenSum ls := by unfold lenSum; rw [← lenL_flat]; omega
theorem lenSum_take (ls : List (List UInt8)) (k : Nat) (x : List UInt8) (h : ls[k]? = some x) : lenSum (ls.take (k + 1)) = lenSum (ls.take k) + x.length := by
  rw [List.take_add_one, h]; exact lenSum_snoc _ _
theorem lenSum_le {B : Int} : ∀ {ls : List (List UInt8)}, (∀ x ∈ ls, (x.length : Int) ≤ B) → lenSum ls ≤ B * ls.length
  | [], _ => by simp [lenSum, lenL]
  | x :: l, h => by
    have h1 := lenSum_le (ls := l) fun y hy => h y (List.mem_cons_of_mem _ hy)
    have h2 := h x (List.mem_cons_self ..)
    simp only [lenSum, lenL, List.map_cons, List.sum_cons, List.length_cons] at h1 ⊢
    rw [Int.natCast_add, Int.mul_add]
    omega
theorem room_any (ls : List (List UInt8)) (hl : ls.length ≤ 1000) (hx : ∀ x ∈ ls, x.length ≤ 65536) (ao : Option Addr) (cap : Nat) (n slots bytes : Int) (hn : 0 ≤ n ∧ n ≤ 1000000) (w : World) (hr : Rd w ao (ls.map txV)) :
    Calls Try.prog 32 #[.slice ao ls.length cap, .int .i64 n, .int .i64 slots, .int .i64 bytes] w fun e w' => e = .returned (.bool (decide (roomP slots bytes ls n))) ∧ Below w.heap.size w w' := by
  refine sx_fn (S := SX) (M := []) (N := 34) (H0 := [.rd ao (ls.map txV)]) Try.func32 rfl rfl rfl (Sat.oneRd _ hr) ?_
  ((try refine sx_use ?_); (repeat (refine SxNew.mk fun _ => ?_; (try refine sx_use ?_))))
  refine SxCode.loop (σ := Nat) [10, 9] [12, 13, 14, 15, 18, 19, 20, 21, 22, 23, 24, 9, 16, 17, 10] (fun k => [.int .i64 (k : Nat), .int .i64 (n + lenSum (ls.take k))]) (fun _ => [.rd ao (ls.map txV)]) (fun k => k ≤ ls.length) (fun k => ls.length - k) 0 [0] rfl (by simp [lenSum, lenL]; rfl) rfl rfl (Nat.zero_le _) ?_
  rintro k hk
  have hb1 := lenSum_nn (ls.take k)
  have hb2 := lenSum_le (B := 65536) (ls := ls.take k) fun x h => by have := hx x (List.mem_of_mem_take h); omega
  rw [List.length_take] at hb2
  ((try refine sx_use ?_); (repeat (refine SxNew.mk fun _ => ?_; (try refine sx_use ?_))))
  refine SxIf.dec (fun h => ?_) (fun h => ?_)
  · have hlt : k < ls.length := by omega
    obtain ⟨x, hxk⟩ : ∃ x, ls[k]? = some x := ⟨ls[k], by simp [hlt]⟩
    have hsn := lenSum_take ls k x hxk
    have hx2 := hx x (List.mem_of_getElem? hxk)
    ((try refine sx_use ?_); (repeat (refine SxNew.mk fun _ => ?_; (try refine sx_use ?_))))
    refine SxIA.rd 0 _ rfl k rfl hlt (by simpa using hlt) fun g off ha => ?_
    ((try refine sx_use ?_); (repeat (refine SxNew.mk fun _ => ?_; (try refine sx_use ?_))))
    refine SxLd.rd 0 rfl ha rfl (by rw [Nat.mul_one]; exact txV_get hxk) ?_
    ((try refine sx_use ?_); (repeat (refine SxNew.mk fun _ => ?_; (try refine sx_use ?_))))
    refine SxRng.i64 (by rw [mk_size]; omega) (by rw [mk_size]; omega) ?_
    ((try refine sx_use ?_); (repeat (refine SxNew.mk fun _ => ?_; (try refine sx_use ?_))))
    exact SxRound.mk (k + 1) [0] (by rw [hsn, ← Int.add_assoc]; rfl) rfl rfl hlt (by omega)
  · obtain rfl : k = ls.length := by omega
    rw [List.take_length]
    ((try refine sx_use ?_); (repeat (refine SxNew.mk fun _ => ?_; (try refine sx_use ?_))))
    refine SxIf.dec (fun h1 => ?_) (fun h1 => ?_)
    · ((try refine sx_use ?_); (repeat (refine SxNew.mk fun _ => ?_; (try refine sx_use ?_))))
      refine SxDone.mk fun w' hs => ⟨?_, hs.touch.below⟩
      show Ending.returned (.bool (decide (n + lenSum ls ≤ bytes))) = _
      by_cases h2 : n + lenSum ls ≤ bytes
      · rw [decide_eq_true h2, decide_eq_true (show roomP slots bytes ls n from ⟨h1, by omega⟩)]
      · rw [decide_eq_false h2, decide_eq_false (fun hh : roomP slots bytes ls n => h2 (by have := hh.2; omega))]
    · ((try refine sx_use ?_); (repeat (refine SxNew.mk fun _ => ?_; (try refine sx_use ?_))))
      exact SxDone.mk fun w' hs => ⟨by rw [decide_eq_false (fun hh : roomP slots bytes ls n => h1 hh.1)]; rfl, hs.touch.below⟩
theorem may_of {id : Int} {ls : List (List UInt8)} (hi : idP id) (h1 : 1 ≤ ls.length) (h2 : ls.length ≤ 256) (h3 : ∀ x ∈ ls, 1 ≤ x.length ∧ x.length ≤ 4096) (h4 : lenSum ls ≤ 65536) : mayB id ls = true := by
  unfold mayB
  rw [decide_eq_true hi, lensB_t (l := lenL ls) ⟨by simpa [lenL] using h1, by simpa [lenL] using h2, ?_, h4⟩]
  · rfl
  · intro n hn
    simp only [lenL, List.mem_map] at hn
    obtain ⟨x, hx, rfl⟩ := hn
    have := h3 x hx
    omega
structure BldSt where
  k : Nat
  l : List (List UInt8)
  ao : Option Addr
  cap : Nat
  bo : Option Addr
  bcap : Nat
structure BldOk (cs : List (List UInt8)) (slots bytes : Int) (x : BldSt) : Prop where
  k1 : x.k ≤ cs.length
  k2 : x.k ≤ 30
  l1 : x.l.length ≤ x.k
  l2 : x.l.length ≤ slots
  each : ∀ y ∈ x.l, 1 ≤ y.length ∧ y.length ≤ 4096
  sum : lenSum x.l ≤ bytes
set_option maxHeartbeats 4000000 in
theorem BoxBuilders_core (W0 : World) (id : Int) (h0 : 0 ≤ id ∧ id < 4294967296) (slots bytes : Int) (ls : List (List UInt8)) (ao : Option Addr) (cap : Nat) (hr : Rd W0 ao (ls.map txV)) (i : Int) :
    Calls Try.prog 8 #[.int .u32 id, .int .i64 slots, .int .i64 bytes, .slice ao ls.length cap, .int .i64 i] W0 fun e w' => e = .returned (.bool true) ∧ Below W0.heap.size W0 w' := by
  obtain ⟨hf1, hf2⟩ := fewL_le ls
  refine sx_fn (S := SX) (M := []) (N := 192) (H0 := [.row none 0 0 9 1 [], .row none 0 0 9 1 [], .rd ao (ls.map txV)]) Try.func8 rfl rfl rfl (((Sat.oneRd _ hr).nilRow 9 1).nilRow 9 1) ?_
  ((try refine sx_use ?_); (repeat (refine SxNew.mk fun _ => ?_; (try refine sx_use ?_))))
  refine SxCall.newRow (v := fun a c => .slice a (fewL ls).length c) (fun w hs => few_any ls ao cap w (hs.rd 2 rfl)) fun fo fcap => ?_
  generalize fewL ls = cs at hf1 hf2
  ((try refine sx_use ?_); (repeat (refine SxNew.mk fun _ => ?_; (try refine sx_use ?_))))
  by_cases hn : newP id slots bytes
  · obtain ⟨h1, h3, h4, h5, h6⟩ := hn
    refine SxCall.mk fun w hs => (New_yes id slots bytes ⟨h1, h3, h4, h5, h6⟩ hs).mono ?_
    rintro e w' ⟨b, c, rfl, hs'⟩
    refine ⟨_, _, rfl, hs', ?_⟩
    clear hs' hs w'
    ((try refine sx_use ?_); (repeat (refine SxNew.mk fun _ => ?_; (try refine sx_use ?_))))
    refine SxCall.quiet (ID_any id) ?_
    rw [decide_eq_true h1]
    ((try refine sx_use ?_); (repeat (refine SxNew.mk fun _ => ?_; (try refine sx_use ?_))))
    refine SxRun.pEqNil Try.underlying56 ?_
    ((try refine sx_use ?_); (repeat (refine SxNew.mk fun _ => ?_; (try refine sx_use ?_))))
    have hcl : (cs.map txV).length ≤ maxLen := by rw [List.length_map]; unfold maxLen; omega
    refine SxCode.loop (σ := BldSt) [14, 13] [66, 67, 68, 69, 70, 71, 72, 73, 76, 77, 78, 79, 15, 81, 82, 83, 80, 84, 85, 16, 17, 18, 86, 87, 88, 89, 90, 91, 92, 93, 94, 95, 96, 97, 98, 99, 100, 101, 102, 103, 104, 105, 106, 107, 108, 109, 110, 111, 112, 113, 114, 115, 116, 117, 118, 119, 120, 121, 10, 122, 123, 124, 125, 126, 127, 13, 128, 129, 130, 131, 132, 74, 75, 14] (fun x => [.int .i64 (x.k : Nat), .slice x.bo x.l.length x.bcap]) (fun x => bldH b c id slots bytes x.ao x.cap x.l [.row x.bo x.l.length x.bcap 9 1 (x.l.map txV), .row fo cs.length fcap 9 1 (cs.map txV), .rd ao (ls.map txV)]) (BldOk cs slots bytes) (fun x => cs.length - x.k) ⟨0, [], none, 0, none, 0⟩ [0, 1, 3, 4, 2, 5] rfl rfl rfl rfl ⟨Nat.zero_le _, Nat.zero_le _, Nat.le_refl _, by simp; omega, by simp, by simp [lenSum, lenL]; omega⟩ ?_
    rintro ⟨k, l, do_, dcap, eo, ecap⟩ ⟨k1, k2, l1, l2, each, sum⟩
    dsimp only at k1 k2 l1 l2 each sum ⊢
    have hl1000 : l.length ≤ 1000 := by omega
    have heach : ∀ y ∈ l, y.length ≤ 65536 := fun y hy => by have := each y hy; omega
    have hsn := lenSum_nn l
    have hll : (l.map txV).length ≤ maxLen := by rw [List.length_map]; unfold maxLen; omega
    ((try refine sx_use ?_); (repeat (refine SxNew.mk fun _ => ?_; (try refine sx_use ?_))))
    refine SxIf.dec (fun h => ?_) (fun h => ?_)
    · have hlt : k < cs.length := by omega
      ((try refine sx_use ?_); (repeat (refine SxNew.mk fun _ => ?_; (try refine sx_use ?_))))
      refine SxIf.dec (fun h30 => ?_) (fun h30 => ?_)
      · obtain ⟨x, hxk⟩ : ∃ x, cs[k]? = some x := ⟨cs[k], by simp [hlt]⟩
        have hxl := hf2 x (List.mem_of_getElem? hxk)
        have hsz : (⟨x.toArray⟩ : ByteArray).size = x.length := mk_size x
        have hRm := fun (w : World) (hs : Rd w eo (l.map txV)) => room_any l hl1000 heach eo ecap x.length slots bytes (by omega) w hs
        ((try refine sx_use ?_); (repeat (refine SxNew.mk fun _ => ?_; (try refine sx_use ?_))))
        refine SxIA.row 4 _ _ _ rfl k rfl hlt fun g ha => ?_
        ((try refine sx_use ?_); (repeat (refine SxNew.mk fun _ => ?_; (try refine sx_use ?_))))
        refine SxLd.row 4 rfl ha (j := k) (by omega) (txV_get hxk) ?_
        ((try refine sx_use ?_); (repeat (refine SxNew.mk fun _ => ?_; (try refine sx_use ?_))))
        by_cases hadd : addE slots bytes l x = 0
        · have hlen : 1 ≤ x.length ∧ x.length ≤ 4096 := by
            unfold addE at hadd
            by_cases h1 : x.length < 1 ∨ x.length > 4096
            · rw [if_pos h1] at hadd; omega
            · omega
          have hroom : roomP slots bytes l x.length := by
            unfold addE at hadd
            rw [if_neg (by omega)] at hadd
            by_cases h1 : roomP slots bytes l x.length
            · exact h1
            · rw [if_neg h1] at hadd; omega
          rw [decide_eq_true hroom] at hRm
          obtain ⟨hr1, hr2⟩ := hroom
          refine SxCall.mk fun w hs => (Add_yes b c id slots bytes do_ dcap l hs x ⟨hsn, by omega⟩ ⟨by omega, by omega⟩ (by omega) hadd).mono ?_
          rintro e w' ⟨rfl, do2, dcap2, hs'⟩
          refine ⟨_, _, rfl, hs', ?_⟩
          clear hs' hs w'
          ((try refine sx_use ?_); (repeat (refine SxNew.mk fun _ => ?_; (try refine sx_use ?_))))
          refine SxCall.quietS (fun w hs => hRm w (hs.rowRd 3 rfl hll)) ?_
          ((try refine sx_use ?_); (repeat (refine SxNew.mk fun _ => ?_; (try refine sx_use ?_))))
          have hln : (l ++ [x]).length = l.length + 1 := by simp
          refine SxApp.mk 4 rfl 0 (.inr (.inr (.inr ⟨by decide, _, rfl⟩))) rfl rfl (by unfold maxLen; omega) (by omega) (cs' := (l ++ [x]).map txV) (by rw [List.map_append]; rfl) fun eo2 ecap2 => ?_
          ((try refine sx_use ?_); (repeat (refine SxNew.mk fun _ => ?_; (try refine sx_use ?_))))
          refine SxCall.sat _ (fun w hs => BLen_sat hs 1 2 b c id slots bytes _ do2 _ dcap2 rfl rfl) ?_
          ((try refine sx_use ?_); (repeat (refine SxNew.mk fun _ => ?_; (try refine sx_use ?_))))
          refine SxRound.mk ⟨k + 1, l ++ [x], do2, dcap2, eo2, ecap2⟩ [1, 2, 3, 4, 5, 6] (by simp only [List.length_append, List.length_singleton]; rfl) (by simp only [List.length_append, List.length_singleton]; rfl) rfl ?_ (by dsimp only; omega)
          refine ⟨by dsimp only; omega, by dsimp only; omega, by dsimp only; omega, by dsimp only; omega, fun y hy => ?_, by dsimp only; rw [lenSum_snoc]; omega⟩
          rcases List.mem_append.1 hy with h1 | h1
          · exact each y h1
          · simp only [List.mem_singleton] at h1
            subst h1
            exact hlen
        · refine SxCall.sat _ (fun w hs => Add_no b c id slots bytes do_ dcap l hs x ⟨hsn, by omega⟩ ⟨by omega, by omega⟩ hadd) ?_
          by_cases g1 : x.length < 1
          · have hv : addE slots bytes l x = 1 := by unfold addE; rw [if_pos (.inl g1)]
            rw [hv]
            ((try refine sx_use ?_); (repeat (refine SxNew.mk fun _ => ?_; (try refine sx_use ?_))))
            refine SxCall.sat _ (fun w hs => BLen_sat hs 0 1 b c id slots bytes _ do_ _ dcap rfl rfl) ?_
            ((try refine sx_use ?_); (repeat (refine SxNew.mk fun _ => ?_; (try refine sx_use ?_))))
            exact SxRound.mk ⟨k + 1, l, do_, dcap, eo, ecap⟩ [0, 1, 2, 3, 4, 5] rfl rfl rfl ⟨by dsimp only; omega, by dsimp only; omega, by dsimp only; omega, l2, each, sum⟩ (by dsimp only; omega)
          by_cases g2 : x.length > 4096
          · have hv : addE slots bytes l x = 1 := by unfold addE; rw [if_pos (.inr g2)]
            rw [hv]
            ((try refine sx_use ?_); (repeat (refine SxNew.mk fun _ => ?_; (try refine sx_use ?_))))
            refine SxCall.sat _ (fun w hs => BLen_sat hs 0 1 b c id slots bytes _ do_ _ dcap rfl rfl) ?_
            ((try refine sx_use ?_); (repeat (refine SxNew.mk fun _ => ?_; (try refine sx_use ?_))))
            exact SxRound.mk ⟨k + 1, l, do_, dcap, eo, ecap⟩ [0, 1, 2, 3, 4, 5] rfl rfl rfl ⟨by dsimp only; omega, by dsimp only; omega, by dsimp only; omega, l2, each, sum⟩ (by dsimp only; omega)
          have g3 : ¬ roomP slots bytes l x.length := by
            intro g3
            apply hadd
            unfold addE
            rw [if_neg (by omega), if_pos g3]
          have hv : addE slots bytes l x = 100 := by unfold addE; rw [if_neg (by omega), if_neg g3]
          rw [hv]
          rw [decide_eq_false g3] at hRm
          ((try refine sx_use ?_); (repeat (refine SxNew.mk fun _ => ?_; (try refine sx_use ?_))))
          refine SxCall.quietS (fun w hs => hRm w (hs.rowRd 3 rfl hll)) ?_
          ((try refine sx_use ?_); (repeat (refine SxNew.mk fun _ => ?_; (try refine sx_use ?_))))
          refine SxCall.sat _ (fun w hs => BLen_sat hs 0 1 b c id slots bytes _ do_ _ dcap rfl rfl) ?_
          ((try refine sx_use ?_); (repeat (refine SxNew.mk fun _ => ?_; (try refine sx_use ?_))))
          exact SxRound.mk ⟨k + 1, l, do_, dcap, eo, ecap⟩ [0, 1, 2, 3, 4, 5] rfl rfl rfl ⟨by dsimp only; omega, by dsimp only; omega, by dsimp only; omega, l2, each, sum⟩ (by dsimp only; omega)
      · ((try refine sx_use ?_); (repeat (refine SxNew.mk fun _ => ?_; (try refine sx_use ?_))))
        by_cases hl0 : l = []
        · subst hl0
          refine SxCall.sat _ (fun w hs => Seal_none b c id slots bytes do_ dcap hs) ?_
          ((try refine sx_use ?_); (repeat (refine SxNew.mk fun _ => ?_; (try refine sx_use ?_))))
          refine SxCall.sat _ (fun w hs => BChunk_sat hs 0 1 2 b c id slots bytes _ do_ dcap [] rfl rfl rfl i) ?_
          have hbv : bchunkV [] i = ([], 5) := by
            unfold bchunkV
            rw [if_neg (by simp)]
          rw [hbv]
          ((try refine sx_use ?_); (repeat (refine SxNew.mk fun _ => ?_; (try refine sx_use ?_))))
          refine SxIf.dec (fun g1 => ?_) (fun g1 => ?_)
          · ((try refine sx_use ?_); (repeat (refine SxNew.mk fun _ => ?_; (try refine sx_use ?_))))
            refine SxIf.nt (SxIf.strT rfl ?_)
            ((try refine sx_use ?_); (repeat (refine SxNew.mk fun _ => ?_; (try refine sx_use ?_))))
            refine SxIf.strT rfl ?_
            ((try refine sx_use ?_); (repeat (refine SxNew.mk fun _ => ?_; (try refine sx_use ?_))))
            refine SxCall.quiet awake_any ?_
            ((try refine sx_use ?_); (repeat (refine SxNew.mk fun _ => ?_; (try refine sx_use ?_))))
            exact SxDone.mk fun w' hs => ⟨rfl, hs.touch.below⟩
          · ((try refine sx_use ?_); (repeat (refine SxNew.mk fun _ => ?_; (try refine sx_use ?_))))
            refine SxIf.yes (by simp only [List.length_nil]; omega) ?_
            ((try refine sx_use ?_); (repeat (refine SxNew.mk fun _ => ?_; (try refine sx_use ?_))))
            refine SxIf.nt (SxIf.strT rfl ?_)
            ((try refine sx_use ?_); (repeat (refine SxNew.mk fun _ => ?_; (try refine sx_use ?_))))
            refine SxIf.strT rfl ?_
            ((try refine sx_use ?_); (repeat (refine SxNew.mk fun _ => ?_; (try refine sx_use ?_))))
            refine SxCall.quiet awake_any ?_
            ((try refine sx_use ?_); (repeat (refine SxNew.mk fun _ => ?_; (try refine sx_use ?_))))
            exact SxDone.mk fun w' hs => ⟨rfl, hs.touch.below⟩
        · have hlp : 0 < l.length := List.length_pos_iff.2 hl0
          have hm : mayB id l = true := may_of h1 hlp (by omega) each (by omega)
          have hx : ∀ x ∈ l, x.length < 65536 := fun x hx => by have := each x hx; omega
          have hSl := fun (w : World) hs => Seal_some (W := W0) (M := []) (H := [.row eo l.length ecap 9 1 (l.map txV), .row fo cs.length fcap 9 1 (cs.map txV), .rd ao (ls.map txV)]) (w := w) b c id slots bytes h0 do_ dcap l hl1000 hx hl0 hs
          unfold buildV at hSl
          rw [if_pos hm] at hSl
          refine SxCall.sat _ hSl ?_
          ((try refine sx_use ?_); (repeat (refine SxNew.mk fun _ => ?_; (try refine sx_use ?_))))
          refine SxCall.sat _ (fun w hs => BChunk_sat hs 0 1 2 b c id slots bytes _ do_ dcap l rfl rfl rfl i) ?_
          have hRB := fun (w : World) (hs : Rd w eo (l.map txV)) => RBuild_any id h0 l eo ecap w hs hl1000 hx
          by_cases hi : 0 ≤ i ∧ i < l.length
          · obtain ⟨q, rfl⟩ : ∃ q : Nat, i = q := ⟨i.toNat, by omega⟩
            have hq : q < l.length := by omega
            obtain ⟨y, hy⟩ : ∃ y, l[q]? = some y := ⟨l[q], by simp [hq]⟩
            have hbv : bchunkV l q = (y, 0) := by
              unfold bchunkV
              rw [if_pos hi, Int.toNat_natCast, List.getD, hy]
              rfl
            rw [hbv]
            ((try refine sx_use ?_); (repeat (refine SxNew.mk fun _ => ?_; (try refine sx_use ?_))))
            refine SxIA.row 3 _ _ _ rfl q rfl hq fun g ha => ?_
            ((try refine sx_use ?_); (repeat (refine SxNew.mk fun _ => ?_; (try refine sx_use ?_))))
            refine SxLd.row 3 rfl ha (j := q) (by omega) (txV_get hy) ?_
            ((try refine sx_use ?_); (repeat (refine SxNew.mk fun _ => ?_; (try refine sx_use ?_))))
            refine SxIf.nt (SxIf.strT rfl ?_)
            ((try refine sx_use ?_); (repeat (refine SxNew.mk fun _ => ?_; (try refine sx_use ?_))))
            refine SxCall.quietS (fun w hs => hRB w (hs.rowRd 3 rfl hll)) ?_
            ((try refine sx_use ?_); (repeat (refine SxNew.mk fun _ => ?_; (try refine sx_use ?_))))
            refine SxIf.strT rfl ?_
            ((try refine sx_use ?_); (repeat (refine SxNew.mk fun _ => ?_; (try refine sx_use ?_))))
            refine SxCall.quiet awake_any ?_
            ((try refine sx_use ?_); (repeat (refine SxNew.mk fun _ => ?_; (try refine sx_use ?_))))
            exact SxDone.mk fun w' hs => ⟨rfl, hs.touch.below⟩
          · have hbv : bchunkV l i = ([], 5) := by unfold bchunkV; rw [if_neg hi]
            rw [hbv]
            ((try refine sx_use ?_); (repeat (refine SxNew.mk fun _ => ?_; (try refine sx_use ?_))))
            refine SxIf.dec (fun g1 => ?_) (fun g1 => ?_)
            · ((try refine sx_use ?_); (repeat (refine SxNew.mk fun _ => ?_; (try refine sx_use ?_))))
              refine SxIf.nt (SxIf.strT rfl ?_)
              ((try refine sx_use ?_); (repeat (refine SxNew.mk fun _ => ?_; (try refine sx_use ?_))))
              refine SxCall.quietS (fun w hs => hRB w (hs.rowRd 3 rfl hll)) ?_
              ((try refine sx_use ?_); (repeat (refine SxNew.mk fun _ => ?_; (try refine sx_use ?_))))
              refine SxIf.strT rfl ?_
              ((try refine sx_use ?_); (repeat (refine SxNew.mk fun _ => ?_; (try refine sx_use ?_))))
              refine SxCall.quiet awake_any ?_
              ((try refine sx_use ?_); (repeat (refine SxNew.mk fun _ => ?_; (try refine sx_use ?_))))
              exact SxDone.mk fun w' hs => ⟨rfl, hs.touch.below⟩
            · ((try refine sx_use ?_); (repeat (refine SxNew.mk fun _ => ?_; (try refine sx_use ?_))))
              refine SxIf.nt (SxIf.strT rfl ?_)
              ((try refine sx_use ?_); (repeat (refine SxNew.mk fun _ => ?_; (try refine sx_use ?_))))
              refine SxCall.quietS (fun w hs => hRB w (hs.rowRd 3 rfl hll)) ?_
              ((try refine sx_use ?_); (repeat (refine SxNew.mk fun _ => ?_; (try refine sx_use ?_))))
              refine SxIf.strT rfl ?_
              ((try refine sx_use ?_); (repeat (refine SxNew.mk fun _ => ?_; (try refine sx_use ?_))))
              refine SxCall.quiet awake_any ?_
              ((try refine sx_use ?_); (repeat (refine SxNew.mk fun _ => ?_; (try refine sx_use ?_))))
              exact SxDone.mk fun w' hs => ⟨rfl, hs.touch.below⟩
    · ((try refine sx_use ?_); (repeat (refine SxNew.mk fun _ => ?_; (try refine sx_use ?_))))
      by_cases hl0 : l = []
      · subst hl0
        refine SxCall.sat _ (fun w hs => Seal_none b c id slots bytes do_ dcap hs) ?_
        ((try refine sx_use ?_); (repeat (refine SxNew.mk fun _ => ?_; (try refine sx_use ?_))))
        refine SxCall.sat _ (fun w hs => BChunk_sat hs 0 1 2 b c id slots bytes _ do_ dcap [] rfl rfl rfl i) ?_
        have hbv : bchunkV [] i = ([], 5) := by
          unfold bchunkV
          rw [if_neg (by simp)]
        rw [hbv]
        ((try refine sx_use ?_); (repeat (refine SxNew.mk fun _ => ?_; (try refine sx_use ?_))))
        refine SxIf.dec (fun g1 => ?_) (fun g1 => ?_)
        · ((try refine sx_use ?_); (repeat (refine SxNew.mk fun _ => ?_; (try refine sx_use ?_))))
          refine SxIf.nt (SxIf.strT rfl ?_)
          ((try refine sx_use ?_); (repeat (refine SxNew.mk fun _ => ?_; (try refine sx_use ?_))))
          refine SxIf.strT rfl ?_
          ((try refine sx_use ?_); (repeat (refine SxNew.mk fun _ => ?_; (try refine sx_use ?_))))
          refine SxCall.quiet awake_any ?_
          ((try refine sx_use ?_); (repeat (refine SxNew.mk fun _ => ?_; (try refine sx_use ?_))))
          exact SxDone.mk fun w' hs => ⟨rfl, hs.touch.below⟩
        · ((try refine sx_use ?_); (repeat (refine SxNew.mk fun _ => ?_; (try refine sx_use ?_))))
          refine SxIf.yes (by simp only [List.length_nil]; omega) ?_
          ((try refine sx_use ?_); (repeat (refine SxNew.mk fun _ => ?_; (try refine sx_use ?_))))
          refine SxIf.nt (SxIf.strT rfl ?_)
          ((try refine sx_use ?_); (repeat (refine SxNew.mk fun _ => ?_; (try refine sx_use ?_))))
          refine SxIf.strT rfl ?_
          ((try refine sx_use ?_); (repeat (refine SxNew.mk fun _ => ?_; (try refine sx_use ?_))))
          refine SxCall.quiet awake_any ?_
          ((try refine sx_use ?_); (repeat (refine SxNew.mk fun _ => ?_; (try refine sx_use ?_))))
          exact SxDone.mk fun w' hs => ⟨rfl, hs.touch.below⟩
      · have hlp : 0 < l.length := List.length_pos_iff.2 hl0
        have hm : mayB id l = true := may_of h1 hlp (by omega) each (by omega)
        have hx : ∀ x ∈ l, x.length < 65536 := fun x hx => by have := each x hx; omega
        have hSl := fun (w : World) hs => Seal_some (W := W0) (M := []) (H := [.row eo l.length ecap 9 1 (l.map txV), .row fo cs.length fcap 9 1 (cs.map txV), .rd ao (ls.map txV)]) (w := w) b c id slots bytes h0 do_ dcap l hl1000 hx hl0 hs
        unfold buildV at hSl
        rw [if_pos hm] at hSl
        refine SxCall.sat _ hSl ?_
        ((try refine sx_use ?_); (repeat (refine SxNew.mk fun _ => ?_; (try refine sx_use ?_))))
        refine SxCall.sat _ (fun w hs => BChunk_sat hs 0 1 2 b c id slots bytes _ do_ dcap l rfl rfl rfl i) ?_
        have hRB := fun (w : World) (hs : Rd w eo (l.map txV)) => RBuild_any id h0 l eo ecap w hs hl1000 hx
        by_cases hi : 0 ≤ i ∧ i < l.length
        · obtain ⟨q, rfl⟩ : ∃ q : Nat, i = q := ⟨i.toNat, by omega⟩
          have hq : q < l.length := by omega
          obtain ⟨y, hy⟩ : ∃ y, l[q]? = some y := ⟨l[q], by simp [hq]⟩
          have hbv : bchunkV l q = (y, 0) := by
            unfold bchunkV
            rw [if_pos hi, Int.toNat_natCast, List.getD, hy]
            rfl
          rw [hbv]
          ((try refine sx_use ?_); (repeat (refine SxNew.mk fun _ => ?_; (try refine sx_use ?_))))
          refine SxIA.row 3 _ _ _ rfl q rfl hq fun g ha => ?_
          ((try refine sx_use ?_); (repeat (refine SxNew.mk fun _ => ?_; (try refine sx_use ?_))))
          refine SxLd.row 3 rfl ha (j := q) (by omega) (txV_get hy) ?_
          ((try refine sx_use ?_); (repeat (refine SxNew.mk fun _ => ?_; (try refine sx_use ?_))))
          refine SxIf.nt (SxIf.strT rfl ?_)
          ((try refine sx_use ?_); (repeat (refine SxNew.mk fun _ => ?_; (try refine sx_use ?_))))
          refine SxCall.quietS (fun w hs => hRB w (hs.rowRd 3 rfl hll)) ?_
          ((try refine sx_use ?_); (repeat (refine SxNew.mk fun _ => ?_; (try refine sx_use ?_))))
          refine SxIf.strT rfl ?_
          ((try refine sx_use ?_); (repeat (refine SxNew.mk fun _ => ?_; (try refine sx_use ?_))))
          refine SxCall.quiet awake_any ?_
          ((try refine sx_use ?_); (repeat (refine SxNew.mk fun _ => ?_; (try refine sx_use ?_))))
          exact SxDone.mk fun w' hs => ⟨rfl, hs.touch.below⟩
        · have hbv : bchunkV l i = ([], 5) := by unfold bchunkV; rw [if_neg hi]
          rw [hbv]
          ((try refine sx_use ?_); (repeat (refine SxNew.mk fun _ => ?_; (try refine sx_use ?_))))
          refine SxIf.dec (fun g1 => ?_) (fun g1 => ?_)
          · ((try refine sx_use ?_); (repeat (refine SxNew.mk fun _ => ?_; (try refine sx_use ?_))))
            refine SxIf.nt (SxIf.strT rfl ?_)
            ((try refine sx_use ?_); (repeat (refine SxNew.mk fun _ => ?_; (try refine sx_use ?_))))
            refine SxCall.quietS (fun w hs => hRB w (hs.rowRd 3 rfl hll)) ?_
            ((try refine sx_use ?_); (repeat (refine SxNew.mk fun _ => ?_; (try refine sx_use ?_))))
            refine SxIf.strT rfl ?_
            ((try refine sx_use ?_); (repeat (refine SxNew.mk fun _ => ?_; (try refine sx_use ?_))))
            refine SxCall.quiet awake_any ?_
            ((try refine sx_use ?_); (repeat (refine SxNew.mk fun _ => ?_; (try refine sx_use ?_))))
            exact SxDone.mk fun w' hs => ⟨rfl, hs.touch.below⟩
          · ((try refine sx_use ?_); (repeat (refine SxNew.mk fun _ => ?_; (try refine sx_use ?_))))
            refine SxIf.nt (SxIf.strT rfl ?_)
            ((try refine sx_use ?_); (repeat (refine SxNew.mk fun _ => ?_; (try refine sx_use ?_))))
            refine SxCall.quietS (fun w hs => hRB w (hs.rowRd 3 rfl hll)) ?_
            ((try refine sx_use ?_); (repeat (refine SxNew.mk fun _ => ?_; (try refine sx_use ?_))))
            refine SxIf.strT rfl ?_
            ((try refine sx_use ?_); (repeat (refine SxNew.mk fun _ => ?_; (try refine sx_use ?_))))
            refine SxCall.quiet awake_any ?_
            ((try refine sx_use ?_); (repeat (refine SxNew.mk fun _ => ?_; (try refine sx_use ?_))))
            exact SxDone.mk fun w' hs => ⟨rfl, hs.touch.below⟩
  · refine SxCall.sat _ (fun w hs => New_no id slots bytes hn hs) ?_
    have hno : ¬ (idP id ∧ 1 ≤ slots ∧ slots ≤ 256 ∧ 1 ≤ bytes ∧ bytes ≤ 65536) := hn
    ((try refine sx_use ?_); (repeat (refine SxNew.mk fun _ => ?_; (try refine sx_use ?_))))
    refine SxCall.quiet (ID_any id) ?_
    ((try refine sx_use ?_); (repeat (refine SxNew.mk fun _ => ?_; (try refine sx_use ?_))))
    by_cases hid : idP id
    · rw [decide_eq_true hid]
      have hno2 : ¬ (1 ≤ slots ∧ slots ≤ 256 ∧ 1 ≤ bytes ∧ bytes ≤ 65536) := fun h => hno ⟨hid, h⟩
      by_cases g1 : slots < 1
      · ((try refine sx_use ?_); (repeat (refine SxNew.mk fun _ => ?_; (try refine sx_use ?_))))
        refine SxRun.pEqNil Try.underlying56 ?_
        ((try refine sx_use ?_); (repeat (refine SxNew.mk fun _ => ?_; (try refine sx_use ?_))))
        refine SxCall.quiet awake_any ?_
        ((try refine sx_use ?_); (repeat (refine SxNew.mk fun _ => ?_; (try refine sx_use ?_))))
        exact SxDone.mk fun w' hs => ⟨rfl, hs.touch.below⟩
      by_cases g2 : slots > 256
      · ((try refine sx_use ?_); (repeat (refine SxNew.mk fun _ => ?_; (try refine sx_use ?_))))
        refine SxRun.pEqNil Try.underlying56 ?_
        ((try refine sx_use ?_); (repeat (refine SxNew.mk fun _ => ?_; (try refine sx_use ?_))))
        refine SxCall.quiet awake_any ?_
        ((try refine sx_use ?_); (repeat (refine SxNew.mk fun _ => ?_; (try refine sx_use ?_))))
        exact SxDone.mk fun w' hs => ⟨rfl, hs.touch.below⟩
      by_cases g3 : bytes < 1
      · ((try refine sx_use ?_); (repeat (refine SxNew.mk fun _ => ?_; (try refine sx_use ?_))))
        refine SxRun.pEqNil Try.underlying56 ?_
        ((try refine sx_use ?_); (repeat (refine SxNew.mk fun _ => ?_; (try refine sx_use ?_))))
        refine SxCall.quiet awake_any ?_
        ((try refine sx_use ?_); (repeat (refine SxNew.mk fun _ => ?_; (try refine sx_use ?_))))
        exact SxDone.mk fun w' hs => ⟨rfl, hs.touch.below⟩
      ((try refine sx_use ?_); (repeat (refine SxNew.mk fun _ => ?_; (try refine sx_use ?_))))
      refine SxRun.pEqNil Try.underlying56 ?_
      ((try refine sx_use ?_); (repeat (refine SxNew.mk fun _ => ?_; (try refine sx_use ?_))))
      refine SxCall.quiet awake_any ?_
      ((try refine sx_use ?_); (repeat (refine SxNew.mk fun _ => ?_; (try refine sx_use ?_))))
      exact SxDone.mk fun w' hs => ⟨rfl, hs.touch.below⟩
    · rw [decide_eq_false hid]
      ((try refine sx_use ?_); (repeat (refine SxNew.mk fun _ => ?_; (try refine sx_use ?_))))
      refine SxRun.pEqNil Try.underlying56 ?_
      ((try refine sx_use ?_); (repeat (refine SxNew.mk fun _ => ?_; (try refine sx_use ?_))))
      refine SxCall.quiet awake_any ?_
      ((try refine sx_use ?_); (repeat (refine SxNew.mk fun _ => ?_; (try refine sx_use ?_))))
      exact SxDone.mk fun w' hs => ⟨rfl, hs.touch.below⟩
theorem BoxBuilders_law (w : World) (id : Nat) (h0 : id < 4294967296) (slots : Int) (_hs : IntKind.i64.min ≤ slots ∧ slots ≤ IntKind.i64.max) (bytes : Int) (_hb : IntKind.i64.min ≤ bytes ∧ bytes ≤ IntKind.i64.max) (v : Value) (hv : FitK Try.prog w 4 (.slice 9) v) (i : Int) (_hi : IntKind.i64.min ≤ i ∧ i ≤ IntKind.i64.max) :
    Calls Try.prog 8 #[.int .u32 (id : Nat), .int .i64 slots, .int .i64 bytes, v, .int .i64 i] w fun e w' => e = .returned (.bool true) ∧ Below w.heap.size w w' := by
  obtain ⟨ao, cap, ls, rfl, h1, h2⟩ := open_chunks hv
  exact BoxBuilders_core w id (by omega) slots bytes ls ao cap h2 i
end Go.Proofs.Ytdhdminocboipaa
