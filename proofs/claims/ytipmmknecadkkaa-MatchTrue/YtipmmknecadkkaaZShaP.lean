/- The walk over the package's Sum of parts. -/
import Derived.Test.YtipmmknecadkkaaZShaO
namespace Go.Proofs.Ytipmmknecadkkaa
open Go.RowKit

def joinL (ps : List ByteArray) : List UInt8 := (ps.map fun b => b.data.toList).flatten
theorem joinL_snoc (ps : List ByteArray) (k : Nat) (hk : k < ps.length) : joinL (ps.take (k + 1)) = joinL (ps.take k) ++ (ps[k]).data.toList := by
  unfold joinL
  rw [List.take_succ_eq_append_getElem hk, List.map_append, List.flatten_append, List.map_singleton, List.flatten_singleton]
theorem joinL_le (ps : List ByteArray) (k : Nat) : (joinL (ps.take k)).length ≤ (joinL ps).length := by
  have : joinL ps = joinL (ps.take k) ++ joinL (ps.drop k) := by
    unfold joinL
    rw [← List.flatten_append, ← List.map_append, List.take_append_drop]
  rw [this, List.length_append]
  omega
set_option maxHeartbeats 4000000 in
set_option maxRecDepth 100000 in
theorem Sum_any (ps : List ByteArray) (hl : (joinL ps).length ≤ 900000) (hn : ps.length ≤ 1000000) (ao : Option Addr) (cp : Nat) (w : World) (hrd : Rd w ao (ps.map Value.string)) :
    Calls Try.prog 29 #[.slice ao ps.length cp] w fun e w' => e = .returned (shaV (joinL ps)) ∧ Below w.heap.size w w' := by
  obtain ⟨m, hm⟩ : ∃ m, ps.length = m := ⟨_, rfl⟩
  rw [hm] at hn ⊢
  have HM := Go.Lib.hid hm; have HRD := Go.Lib.hid hrd; have HL := Go.Lib.hid hl
  clear hm hrd hl
  go_enter Try.func29, Try.ntmps29
  go_wp2_with (with_reducible refine wpList_alloc_blk (o := ⟨some 2, _, _, _, _, _⟩) rfl 38 rfl (.agg (tab 32 (sumV fun _ => 0)).toArray) (by kernel_rfl) ?_)
  intro w1 hb1 hbel1 hsz1
  obtain ⟨g2, hg2⟩ : ∃ g, w.heap.size = g := ⟨_, rfl⟩
  have HG := Go.Lib.hid hg2
  rw [hg2] at hb1 hbel1
  simp only [hg2]
  have HB1 := Go.Lib.hid hb1; have HBEL := Go.Lib.hid hbel1
  have hg2w : g2 < w1.heap.size := hb1.lt
  clear hb1 hbel1 hsz1 hg2
  go_wp2_with (go_at_call 36; refine (NewL_any _).mono ?_; rintro e w2 ⟨p, c, rfl, hH, hp, hb2⟩; have HH := Go.Lib.hid hH; have HB2 := Go.Lib.hid hb2; clear hH hb2)
  go_loopw [9] (fun i wr => ∃ k : Nat, k ≤ m ∧ i = .int .i64 (k : Nat) ∧ Hid (HashL p c (joinL (ps.take k)) wr) ∧ Below w1.heap.size w1 wr) (fun i _ => (m - intOf i).toNat)
  case atStart => exact ⟨0, by omega, rfl, HH, HB2.out⟩
  case round =>
    obtain ⟨k, hk, rfl, hh, hbl⟩ := hrel
    have HBL := Go.Lib.hid hbl
    clear hbl
    by_cases hkm : k < m
    · have hkp : k < ps.length := by have := HM.out; omega
      obtain ⟨gx, ox, rfl, hgx, hcs⟩ := HRD.out.2 (by rw [List.length_map]; omega)
      have hcx : wr.cell? ⟨gx, ox + k, none⟩ = some (.string ps[k]) := by
        rw [(bcell ((HBEL.out.trans (HBL.out.mono (Nat.le_of_lt hg2w))).mono (by rw [HG.out]; omega))).1 gx _ hgx, hcs k (by rw [List.length_map]; exact hkp)]
        simp [hkp]
      have hlen : (joinL (ps.take k)).length + (ps[k]).size ≤ 900000 := by
        have h1 := joinL_snoc ps k hkp
        have h2 := joinL_le ps (k + 1)
        rw [h1, List.length_append] at h2
        have h3 : (ps[k]).data.toList.length = (ps[k]).size := by simp
        have := HL.out
        omega
      have hsn := joinL_snoc ps k hkp
      have HSN := Go.Lib.hid hsn; have HLEN := Go.Lib.hid hlen
      generalize ps[k] = part at *
      have hps : part.size ≤ 900000 := by omega
      have k0 : (0 : Int) ≤ (k : Int) := by omega
      have k1 : (k : Int) < (m : Int) := by omega
      clear hsn hlen
      go_wp2_with (go_at_call 37; refine (Write_any p c (joinL (ps.take k)) part HLEN.out wr hh.out).mono ?_; rintro e w3 ⟨rfl, hh3, hb3⟩; have HH3 := Go.Lib.hid hh3; have HB3 := Go.Lib.hid hb3; clear hh3 hb3 hh)
      go_roundw
      case rel => exact ⟨k + 1, by omega, by simp, Go.Lib.hid (by rw [HSN.out]; exact HH3.out), HBL.out.trans (HB3.out.mono hp)⟩
      case measure => simp [intOf]; omega
    · obtain rfl : k = m := by omega
      have hfull : ps.take k = ps := List.take_of_length_le (by have := HM.out; omega)
      rw [hfull] at hh
      have HF := Go.Lib.hid hfull
      clear hfull
      have hsum : ∀ W : World, HashL p c (joinL ps) W → Calls Try.prog 38 #[.pointer (some ⟨p, 0, none⟩)] W fun e w' => e = .returned (.agg (tab 32 (sumV (shaS (joinL ps)))).toArray) ∧ Below W.heap.size W w' := fun W h => SumL_any p c (joinL ps) HL.out W h
      generalize hst : shaS (joinL ps) = st at hsum
      have HST := Go.Lib.hid hst; have HSUM := Go.Lib.hid hsum
      clear hst hsum
      go_wp2_with fail
      refine (HSUM.out wr hh.out).mono ?_
      rintro e w3 ⟨rfl, hb3⟩
      have hbt := kp_step HBL.out hb3
      have hb2 := HB1.out.kept hbt
      have HBT := Go.Lib.hid hbt
      clear hb3 hbt
      go_wp2_with (with_reducible refine wpList_store_tab (o := ⟨none, .store _ (.tmp 2) (.tmp 18), _, _, _, _⟩) rfl 38 _ _ rfl g2 38 32 _ _ rfl rfl hb2 (by kernel_rfl) (fun _ => rfl) ?_)
      intro w4 hb4 ho4
      go_wp2_with fail
      refine bodyPost_ret (results_cell_tab rfl _ _ g2 38 32 _ _ rfl hb4 Try.underlying38 rfl (by kernel_rfl)) rfl ⟨by rw [shaV, HST.out], ?_⟩
      rw [HG.out]
      exact (HBEL.out.trans (HBT.out.mono (Nat.le_of_lt hg2w))).trans (ho4.below (Nat.le_refl _))
end Go.Proofs.Ytipmmknecadkkaa
