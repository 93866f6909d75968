/- The laws of layer 32: RetainMore. -/
import Derived.Test.YtiobcjahgmkmiaaZRtQ
namespace Go.Proofs.Ytiobcjahgmkmiaa
open Go.RowKit

theorem open_u8s {w : World} {d : Nat} (cs : List Value) (h : FitR Try.prog w d [.int .u8, .int .u8, .int .u8, .int .u8] cs) : ∃ a b c e : Nat, a < 256 ∧ b < 256 ∧ c < 256 ∧ e < 256 ∧ cs = [.int .u8 (a : Nat), .int .u8 (b : Nat), .int .u8 (c : Nat), .int .u8 (e : Nat)] := by
  obtain ⟨hl, hf⟩ := h
  have nat : ∀ n : Int, (Lit.int .u8 n).wf = true → ∃ k : Nat, k < 256 ∧ n = (k : Nat) := fun n hn => by
    have hb : 0 ≤ n ∧ n ≤ 255 := by simpa [Lit.wf, IntKind.min, IntKind.max, IntKind.signed, IntKind.bits] using hn
    exact ⟨n.toNat, by omega, by omega⟩
  match cs, hl with
  | [x, y, z, t], _ =>
    obtain ⟨n1, rfl, h1⟩ := fitK_int (hf 0 _ _ rfl rfl)
    obtain ⟨n2, rfl, h2⟩ := fitK_int (hf 1 _ _ rfl rfl)
    obtain ⟨n3, rfl, h3⟩ := fitK_int (hf 2 _ _ rfl rfl)
    obtain ⟨n4, rfl, h4⟩ := fitK_int (hf 3 _ _ rfl rfl)
    obtain ⟨a, ha, rfl⟩ := nat n1 h1
    obtain ⟨b, hb, rfl⟩ := nat n2 h2
    obtain ⟨c, hc, rfl⟩ := nat n3 h3
    obtain ⟨e, he, rfl⟩ := nat n4 h4
    exact ⟨a, b, c, e, ha, hb, hc, he, rfl⟩
theorem errK_may {p : Pol} (h : mayP p) : errK p = 5 := if_pos h
set_option maxHeartbeats 8000000 in
theorem RetainMore_law (w : World) (l1 : Nat) (hl1 : l1 < 2 ^ 8) (l2 : Nat) (hl2 : l2 < 2 ^ 8) (l3 : Nat) (hl3 : l3 < 2 ^ 8) (l4 : Nat) (hl4 : l4 < 2 ^ 8) (cs : List Value) (h : FitR Try.prog w 4 [.int .u8, .int .u8, .int .u8, .int .u8] cs) (v : Value) (hv : FitK Try.prog w 4 (.slice 61) v) :
    Calls Try.prog 6 #[.int .u8 (l1 : Nat), .int .u8 (l2 : Nat), .int .u8 (l3 : Nat), .int .u8 (l4 : Nat), .agg cs.toArray, v] w fun e w' => e = .returned (.bool true) ∧ Below w.heap.size w w' := by
  obtain ⟨d1, d2, d3, d4, hd1, hd2, hd3, hd4, rfl⟩ := open_u8s cs h
  obtain ⟨ao, n, cap, rfl, hn, l, hl, hr⟩ := open_bks hv
  clear hv h
  have ho := ours_any n hn l hl ao cap
  obtain ⟨L, hL⟩ : ∃ L, L = l.take 40 := ⟨_, rfl⟩
  have hLl : L.length ≤ 40 := by rw [hL, List.length_take]; omega
  rw [← hL] at ho
  have hp : mayP ⟨l1, l2, l3, l4⟩ := ⟨⟨by simp only; omega, by simp only; omega⟩, ⟨by simp only; omega, by simp only; omega⟩, ⟨by simp only; omega, by simp only; omega⟩, ⟨by simp only; omega, by simp only; omega⟩⟩
  have hq : mayP ⟨(l1 : Int) + d1, (l2 : Int) + d2, (l3 : Int) + d3, (l4 : Int) + d4⟩ := ⟨⟨by simp only; omega, by simp only; omega⟩, ⟨by simp only; omega, by simp only; omega⟩, ⟨by simp only; omega, by simp only; omega⟩, ⟨by simp only; omega, by simp only; omega⟩⟩
  have hz : mayP ⟨0, 0, 0, 0⟩ := by unfold mayP; decide
  have hle : leP ⟨l1, l2, l3, l4⟩ ⟨(l1 : Int) + d1, (l2 : Int) + d2, (l3 : Int) + d3, (l4 : Int) + d4⟩ := ⟨by simp only; omega, by simp only; omega, by simp only; omega, by simp only; omega⟩
  have m3 := fun (ao : Option Addr) (cap : Nat) (w : World) (hr : Rd w ao (bkE.fl L)) => May_any ⟨0, 0, 0, 0⟩ L (by omega) ao cap w hr
  rw [errK_may hz] at m3
  by_cases hd : mayD L
  · have m1 := fun (ao : Option Addr) (cap : Nat) (w : World) (hr : Rd w ao (bkE.fl L)) => Keep_ok ⟨l1, l2, l3, l4⟩ L (by omega) hp hd ao cap w hr
    have m2 := fun (ao : Option Addr) (cap : Nat) (w : World) (hr : Rd w ao (bkE.fl L)) => Keep_ok ⟨(l1 : Int) + d1, (l2 : Int) + d2, (l3 : Int) + d3, (l4 : Int) + d4⟩ L (by omega) hq hd ao cap w hr
    have m6 := fun (ao : Option Addr) (cap : Nat) (w : World) (hr : Rd w ao (bkE.fl L)) => RSort_any L (by omega) ao cap w hr
    rw [if_pos ⟨hz, hd⟩] at m3
    rw [sortR_eq] at m6
    have hS : (sortK L).length ≤ L.length := setS_len cfK L
    have hk1 := kept_sum ⟨l1, l2, l3, l4⟩ L
    have hk2 := kept_sum ⟨(l1 : Int) + d1, (l2 : Int) + d2, (l3 : Int) + d3, (l4 : Int) + d4⟩ L
    have hmore : ∀ b, b ∈ (keptK ⟨l1, l2, l3, l4⟩ L).1 → b ∈ (keptK ⟨(l1 : Int) + d1, (l2 : Int) + d2, (l3 : Int) + d3, (l4 : Int) + d4⟩ L).1 := fun b hb => kept_more hle L hb
    have hleast := kept_least ⟨l1, l2, l3, l4⟩ L
    dsimp only at hleast
    obtain ⟨K, hK⟩ : ∃ K, K = (keptK ⟨l1, l2, l3, l4⟩ L).1 := ⟨_, rfl⟩
    obtain ⟨Q, hQ⟩ : ∃ Q, Q = (keptK ⟨(l1 : Int) + d1, (l2 : Int) + d2, (l3 : Int) + d3, (l4 : Int) + d4⟩ L).1 := ⟨_, rfl⟩
    obtain ⟨S, hSe⟩ : ∃ S, S = sortK L := ⟨_, rfl⟩
    rw [← hK] at hk1 hleast
    rw [← hQ] at hk2
    rw [← hSe] at hk1 hk2 hS hleast
    simp only [← hK, ← hQ, ← hSe] at m1 m2 m6 hmore
    clear hK hQ hSe hd hp hq hz hle
    refine sx_fn (S := SX) (M := []) (N := 134) (H0 := [.rd ao (bkE.fl l)]) Try.func6 rfl rfl rfl (Sat.oneRd _ hr) ?_
    ((try refine sx_use ?_); (repeat (refine SxNew.mk fun _ => ?_; (try refine sx_use ?_))))
    refine SxCall.mk fun w hs => (ho w (hs.rd 1 rfl)).mono ?_
    rintro e w' ⟨a1, c1, a2, c2, rfl, k1, k2⟩
    refine ⟨_, _, rfl, hs.twoNew k1 k2 (by rw [rowBk_len]; unfold maxLen; omega) (by rw [rowBk_len]; unfold maxLen; omega), ?_⟩
    ((try refine sx_use ?_); (repeat (refine SxNew.mk fun _ => ?_; (try refine sx_use ?_))))
    refine SxIdx.mk 0 rfl (by decide) ?_
    ((try refine sx_use ?_); (repeat (refine SxNew.mk fun _ => ?_; (try refine sx_use ?_))))
    refine SxIdx.mk 1 rfl (by decide) ?_
    ((try refine sx_use ?_); (repeat (refine SxNew.mk fun _ => ?_; (try refine sx_use ?_))))
    refine SxIdx.mk 2 rfl (by decide) ?_
    ((try refine sx_use ?_); (repeat (refine SxNew.mk fun _ => ?_; (try refine sx_use ?_))))
    refine SxIdx.mk 3 rfl (by decide) ?_
    ((try refine sx_use ?_); (repeat (refine SxNew.mk fun _ => ?_; (try refine sx_use ?_))))
    rename_i gm gp gq0
    refine SxCall.newRowB (v := fun a c => .tuple #[.slice a K.length c, .int .i64 0]) (fun w hs => m1 a1 c1 w (hs.rd 2 rfl)) fun x1 y1 hx1 hy1 => ?_
    ((try refine sx_use ?_); (repeat (refine SxNew.mk fun _ => ?_; (try refine sx_use ?_))))
    refine SxCall.newRowB (v := fun a c => .tuple #[.slice a Q.length c, .int .i64 0]) (fun w hs => m2 a1 c1 w (hs.rd 3 rfl)) fun x2 y2 hx2 hy2 => ?_
    ((try refine sx_use ?_); (repeat (refine SxNew.mk fun _ => ?_; (try refine sx_use ?_))))
    refine SxCall.quietS (fun w hs => m3 a2 c2 w (hs.rd 5 rfl)) ?_
    ((try refine sx_use ?_); (repeat (refine SxNew.mk fun _ => ?_; (try refine sx_use ?_))))
    refine SxCode.loop (σ := Nat) [21, 12] [88, 89, 90, 91, 22, 23, 94, 95, 96, 97, 100, 101, 102, 103, 104, 105, 106, 107, 108, 109, 110, 111, 98, 99, 112, 113, 12, 92, 93, 21] (fun i => [.int .i64 (i : Nat), .bool false]) (fun _ => [.row x2 Q.length y2 55 2 (bkE.fl Q), .row x1 K.length y1 55 2 (bkE.fl K), .blk gp 49 [.int .i64 (l1 : Nat), .int .i64 (l2 : Nat), .int .i64 (l3 : Nat), .int .i64 (l4 : Nat)], .rd a2 (bkE.fl L)]) (fun i => i ≤ K.length) (fun i => K.length - i) 0 [0, 1, 3, 5] rfl rfl rfl rfl (Nat.zero_le _) ?_
    rintro i hi
    ((try refine sx_use ?_); (repeat (refine SxNew.mk fun _ => ?_; (try refine sx_use ?_))))
    refine SxIf.dec (fun h => ?_) (fun h => ?_)
    · have hlt : i < K.length := by omega
      obtain ⟨x, hx⟩ : ∃ x, K[i]? = some x := ⟨K[i], by simp [hlt]⟩
      have hxQ := hmore x (List.mem_of_getElem? hx)
      obtain ⟨gk, rfl⟩ := hx1 (by omega)
      ((try refine sx_use ?_); (repeat (refine SxNew.mk fun _ => ?_; (try refine sx_use ?_))))
      refine SxCode.loop (σ := Nat) [23, 22, 12] [94, 95, 96, 97, 100, 101, 102, 103, 104, 105, 106, 107, 108, 109, 110, 111, 22, 98, 99, 23] (fun j => [.int .i64 (j : Nat), .bool (decide (x ∈ Q.take j)), .bool false]) (fun _ => [.row x2 Q.length y2 55 2 (bkE.fl Q), .row (some ⟨gk, 0, none⟩) K.length y1 55 2 (bkE.fl K), .blk gp 49 [.int .i64 (l1 : Nat), .int .i64 (l2 : Nat), .int .i64 (l3 : Nat), .int .i64 (l4 : Nat)], .rd a2 (bkE.fl L)]) (fun j => j ≤ Q.length) (fun j => Q.length - j) 0 [0, 1, 2, 3] rfl (by rw [List.take_zero]; rfl) rfl rfl (Nat.zero_le _) ?_
      rintro j hj
      ((try refine sx_use ?_); (repeat (refine SxNew.mk fun _ => ?_; (try refine sx_use ?_))))
      refine SxIf.dec (fun h5 => ?_) (fun h5 => ?_)
      · have hjl : j < Q.length := by omega
        obtain ⟨y, hy⟩ : ∃ y, Q[j]? = some y := ⟨Q[j], by simp [hjl]⟩
        obtain ⟨gq, rfl⟩ := hx2 (by omega)
        have hsn : Q.take (j + 1) = Q.take j ++ [y] := by rw [List.take_add_one, hy]; rfl
        ((try refine sx_use ?_); (repeat (refine SxNew.mk fun _ => ?_; (try refine sx_use ?_))))
        refine SxCode.drawAll rfl [] ?_
        ((try refine sx_use ?_); (repeat (refine SxNew.mk fun _ => ?_; (try refine sx_use ?_))))
        refine ⟨fun hg => ?_, fun hg => ?_⟩
        · ((try refine sx_use ?_); (repeat (refine SxNew.mk fun _ => ?_; (try refine sx_use ?_))))
          exact SxRound.mk (j + 1) [0, 1, 2, 3] (by rw [show decide (x ∈ Q.take (j + 1)) = true from decide_eq_true (by rw [hsn]; exact List.mem_append_left _ (of_decide_eq_true hg))]; (try rw [hg]); rfl) rfl rfl hjl (by omega)
        · ((try refine sx_use ?_); (repeat (refine SxNew.mk fun _ => ?_; (try refine sx_use ?_))))
          refine SxIA.row 0 _ _ _ rfl j rfl hjl fun g' hg' => ?_
          obtain rfl : gq = g' := by simpa using hg'
          ((try refine sx_use ?_); (repeat (refine SxNew.mk fun _ => ?_; (try refine sx_use ?_))))
          refine SxLdN.row 0 rfl rfl rfl (vs := bkC y) rfl (rowBk_at hy) ?_
          ((try refine sx_use ?_); (repeat (refine SxNew.mk fun _ => ?_; (try refine sx_use ?_))))
          refine SxIA.row 1 _ _ _ rfl i rfl hlt fun g' hg' => ?_
          obtain rfl : gk = g' := by simpa using hg'
          ((try refine sx_use ?_); (repeat (refine SxNew.mk fun _ => ?_; (try refine sx_use ?_))))
          refine SxLdN.row 1 rfl rfl rfl (vs := bkC x) rfl (rowBk_at hx) ?_
          ((try refine sx_use ?_); (repeat (refine SxNew.mk fun _ => ?_; (try refine sx_use ?_))))
          refine SxRun.eqBk (x := y) (y := x) ?_
          ((try refine sx_use ?_); (repeat (refine SxNew.mk fun _ => ?_; (try refine sx_use ?_))))
          exact SxRound.mk (j + 1) [0, 1, 2, 3] (by rw [show decide (x ∈ Q.take (j + 1)) = decide (y = x) from decide_eq_decide.2 (by
            have := of_decide_eq_false hg
            rw [hsn, List.mem_append, List.mem_singleton]
            exact ⟨fun h => (h.resolve_left this).symm, fun h => .inr h.symm⟩)]; rfl) rfl rfl hjl (by omega)
      · obtain rfl : j = Q.length := by omega
        rw [List.take_length, decide_eq_true hxQ]
        ((try refine sx_use ?_); (repeat (refine SxNew.mk fun _ => ?_; (try refine sx_use ?_))))
        exact SxRound.mk (i + 1) [0, 1, 2, 3] rfl rfl rfl hlt (by omega)
    · obtain rfl : i = K.length := by omega
      ((try refine sx_use ?_); (repeat (refine SxNew.mk fun _ => ?_; (try refine sx_use ?_))))
      refine SxCode.draw rfl [.blk gp 49 [.int .i64 (l1 : Nat), .int .i64 (l2 : Nat), .int .i64 (l3 : Nat), .int .i64 (l4 : Nat)], .rd a2 (bkE.fl L)] [] [2, 3] rfl rfl ?_
      ((try refine sx_use ?_); (repeat (refine SxNew.mk fun _ => ?_; (try refine sx_use ?_))))
      refine SxCall.newRow (fun w hs => m6 a2 c2 w (hs.rd 3 rfl)) fun a3 c3 => ?_
      ((try refine sx_use ?_); (repeat (refine SxNew.mk fun _ => ?_; (try refine sx_use ?_))))
      refine SxStable.mk [3, 4] rfl rfl ?_
      ((try refine sx_use ?_); (repeat (refine SxNew.mk fun _ => ?_; (try refine sx_use ?_))))
      refine SxCall.quiet rt_awake ?_
      ((try refine sx_use ?_); (repeat (refine SxNew.mk fun _ => ?_; (try refine sx_use ?_))))
      refine SxStable.mk [3, 4] rfl rfl ?_
      ((try refine sx_use ?_); (repeat (refine SxNew.mk fun _ => ?_; (try refine sx_use ?_))))
      exact SxDone.mk fun w' hs => ⟨rfl, hs.touch.below⟩
  · have m1 := fun (ao : Option Addr) (cap : Nat) (w : World) (hr : Rd w ao (bkE.fl L)) => Keep_err ⟨l1, l2, l3, l4⟩ L (by omega) (fun h => hd h.2) ao cap w hr
    have m2 := fun (ao : Option Addr) (cap : Nat) (w : World) (hr : Rd w ao (bkE.fl L)) => Keep_err ⟨(l1 : Int) + d1, (l2 : Int) + d2, (l3 : Int) + d3, (l4 : Int) + d4⟩ L (by omega) (fun h => hd h.2) ao cap w hr
    rw [if_neg (fun h => hd h.2)] at m3
    rw [errK_may hp] at m1
    rw [errK_may hq] at m2
    refine sx_fn (S := SX) (M := []) (N := 134) (H0 := [.rd ao (bkE.fl l)]) Try.func6 rfl rfl rfl (Sat.oneRd _ hr) ?_
    ((try refine sx_use ?_); (repeat (refine SxNew.mk fun _ => ?_; (try refine sx_use ?_))))
    refine SxCall.mk fun w hs => (ho w (hs.rd 1 rfl)).mono ?_
    rintro e w' ⟨a1, c1, a2, c2, rfl, k1, k2⟩
    refine ⟨_, _, rfl, hs.twoNew k1 k2 (by rw [rowBk_len]; unfold maxLen; omega) (by rw [rowBk_len]; unfold maxLen; omega), ?_⟩
    ((try refine sx_use ?_); (repeat (refine SxNew.mk fun _ => ?_; (try refine sx_use ?_))))
    refine SxIdx.mk 0 rfl (by decide) ?_
    ((try refine sx_use ?_); (repeat (refine SxNew.mk fun _ => ?_; (try refine sx_use ?_))))
    refine SxIdx.mk 1 rfl (by decide) ?_
    ((try refine sx_use ?_); (repeat (refine SxNew.mk fun _ => ?_; (try refine sx_use ?_))))
    refine SxIdx.mk 2 rfl (by decide) ?_
    ((try refine sx_use ?_); (repeat (refine SxNew.mk fun _ => ?_; (try refine sx_use ?_))))
    refine SxIdx.mk 3 rfl (by decide) ?_
    ((try refine sx_use ?_); (repeat (refine SxNew.mk fun _ => ?_; (try refine sx_use ?_))))
    refine SxCall.quietS (fun w hs => m1 a1 c1 w (hs.rd 2 rfl)) ?_
    ((try refine sx_use ?_); (repeat (refine SxNew.mk fun _ => ?_; (try refine sx_use ?_))))
    refine SxCall.quietS (fun w hs => m2 a1 c1 w (hs.rd 2 rfl)) ?_
    ((try refine sx_use ?_); (repeat (refine SxNew.mk fun _ => ?_; (try refine sx_use ?_))))
    refine SxCall.quietS (fun w hs => m3 a2 c2 w (hs.rd 3 rfl)) ?_
    ((try refine sx_use ?_); (repeat (refine SxNew.mk fun _ => ?_; (try refine sx_use ?_))))
    refine SxCall.quiet rt_awake ?_
    ((try refine sx_use ?_); (repeat (refine SxNew.mk fun _ => ?_; (try refine sx_use ?_))))
    exact SxDone.mk fun w' hs => ⟨rfl, hs.touch.below⟩
end Go.Proofs.Ytiobcjahgmkmiaa
