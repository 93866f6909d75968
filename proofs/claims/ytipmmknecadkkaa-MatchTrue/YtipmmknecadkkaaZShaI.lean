/- The walk over the package's New. -/
import Derived.Test.YtipmmknecadkkaaZShaH
import Derived.Test.YtipmmknecadkkaaZBase
namespace Go.Proofs.Ytipmmknecadkkaa
open Go.RowKit

/-- A hash's eleven cells. -/
def hV (fv : Value) (st : Nat → Nat) (r : ByteArray) (n : Nat) : Nat → Value := fun j => if j < 8 then .int .u32 (st j : Nat) else if j = 8 then .string r else if j = 9 then .int .i64 (n : Nat) else fv
def cloV (c : Nat) : Value := .func (.func 40) #[] #[.pointer (some ⟨c, 0, none⟩)]
theorem hV_take (fv : Value) (st : Nat → Nat) (r : ByteArray) (n : Nat) : ((tab 11 (hV fv st r n)).drop 0).take 8 = tab 8 (stV st) := rfl
theorem hV_put (fv : Value) (st st2 : Nat → Nat) (r : ByteArray) (n : Nat) : (tab 11 (hV fv st r n)).take 0 ++ (tab 8 (stV st2)).toArray.toList ++ (tab 11 (hV fv st r n)).drop (0 + (tab 8 (stV st2)).toArray.size) = tab 11 (hV fv st2 r n) := rfl
theorem hV_set8 (fv : Value) (st : Nat → Nat) (r r2 : ByteArray) (n : Nat) : (tab 11 (hV fv st r n)).set 8 (.string r2) = tab 11 (hV fv st r2 n) := rfl
theorem hV_set9 (fv : Value) (st : Nat → Nat) (r : ByteArray) (n n2 : Nat) : (tab 11 (hV fv st r n)).set 9 (.int .i64 (n2 : Nat)) = tab 11 (hV fv st r n2) := rfl
theorem hV_set10 (fv fv2 : Value) (st : Nat → Nat) (r : ByteArray) (n : Nat) : (tab 11 (hV fv st r n)).set 10 fv2 = tab 11 (hV fv2 st r n) := rfl
theorem hash_built (w : World) : (Instr.build 90 #[(0, .agg (tab 8 (stV hF)).toArray)]).run Try.prog w = .ok (.agg (tab 11 (hV .nilFunc hF ⟨#[]⟩ 0)).toArray) w := by kernel_rfl
theorem hash_field (w : World) (p i o : Nat) (h : (i, o) ∈ [(0, 0), (1, 8), (2, 9), (3, 10)]) : (Instr.fieldAt 90 (.pointer (some ⟨p, 0, none⟩)) i).run Try.prog w = .ok (.pointer (some ⟨p, o, none⟩)) w := by
  simp only [List.mem_cons, Prod.mk.injEq, List.not_mem_nil, or_false] at h
  rcases h with ⟨rfl, rfl⟩ | ⟨rfl, rfl⟩ | ⟨rfl, rfl⟩ | ⟨rfl, rfl⟩ <;> simp [Instr.fieldAt, run_underlying Try.underlying90, Instr.sureAddr, fieldPlace, Addr.add_lit]
set_option maxHeartbeats 4000000 in
set_option maxRecDepth 100000 in
theorem New_any (w : World) : Calls Try.prog 36 #[] w fun e w' => ∃ p c, e = .returned (.pointer (some ⟨p, 0, none⟩)) ∧ Blk w' p 90 (tab 11 (hV (cloV c) hF ⟨#[]⟩ 0)) ∧ Blk w' c 81 [.pointer (some ⟨p, 0, none⟩)] ∧ p < c ∧ w.heap.size ≤ p ∧ Below w.heap.size w w' := by
  go_enter Try.func36, Try.ntmps36
  have hbd : ∀ w, (Instr.build 90 #[(0, .agg (tab 8 (stV hF)).toArray)]).run Try.prog w = .ok (.agg (tab 11 (hV .nilFunc hF ⟨#[]⟩ 0)).toArray) w := hash_built
  go_wp2_with fail
  refine (Start_any _).mono ?_
  rintro e w1 ⟨rfl, hb1⟩
  go_wp2_with (with_reducible refine wpList_box_tab (o := ⟨some 4, _, _, _, _, _⟩) rfl 90 _ rfl 11 (hV .nilFunc hF ⟨#[]⟩ 0) rfl ?_)
  intro w2 hb2 hbel2 hsz2
  go_wp2_with (with_reducible refine wpList_alloc_blk (o := ⟨some 1, _, _, _, _, _⟩) rfl 81 rfl (.pointer none) (by kernel_rfl) ?_)
  intro w3 hb3 hbel3 hsz3
  obtain ⟨p, hp⟩ : ∃ g, w1.heap.size = g := ⟨_, rfl⟩
  obtain ⟨c, hc⟩ : ∃ g, w2.heap.size = g := ⟨_, rfl⟩
  have hb23 := hb2.kept hbel3
  have hbw := kp_step (kp_step hb1 hbel2) hbel3
  have hwp : w.heap.size ≤ p := by have := hb1.size; omega
  have hpc : p < c := by omega
  rw [hp] at hb23
  rw [hc] at hb3
  simp only [hp, hc]
  have HB23 := Go.Lib.hid hb23; have HBW := Go.Lib.hid hbw
  clear hb1 hb2 hbel2 hsz2 hbel3 hsz3 hp hc hb23 hbw
  go_wp2_with (with_reducible refine wpList_store_cell (o := ⟨none, .store 81 _ _, _, _, _, _⟩) rfl 81 _ _ rfl c 0 81 (.pointer (some ⟨p, 0, none⟩)) rfl rfl [.pointer none] hb3 (by kernel_rfl) (by decide) rfl rfl ?_)
  intro w4 hb4 ho4
  have hb44 : Blk w4 c 81 [.pointer (some ⟨p, 0, none⟩)] := hb4
  have hbp := ho4.other HB23.out (by omega)
  have hcc : w4.cell? ⟨c, 0, none⟩ = some (.pointer (some ⟨p, 0, none⟩)) := by rw [hb44.cell]; rfl
  have HB44 := Go.Lib.hid hb44
  clear hb3 hb4 hb44
  have hfld : (Instr.fieldAt 90 (.pointer (some ⟨p, 0, none⟩)) 3).run Try.prog w4 = .ok (.pointer (some ⟨p, 10, none⟩)) w4 := hash_field w4 p 3 10 (by simp)
  go_wp2_with (with_reducible refine wpList_store_cell (o := ⟨none, .store _ (.tmp 8) _, _, _, _, _⟩) rfl _ _ _ rfl p 10 90 (cloV c) rfl rfl (tab 11 (hV .nilFunc hF ⟨#[]⟩ 0)) hbp (by kernel_rfl) (by rw [tab_length]; decide) rfl rfl ?_)
  intro w5 hb5 ho5
  rw [hV_set10] at hb5
  have hb45 := ho5.other HB44.out (by omega)
  have hcc5 : w5.cell? ⟨c, 0, none⟩ = some (.pointer (some ⟨p, 0, none⟩)) := by rw [hb45.cell]; rfl
  clear hbp hcc
  go_wp2_with fail
  refine bodyPost_ret (v := .pointer (some ⟨p, 0, none⟩)) (by simp [results, Try.f36]) rfl ⟨p, c, rfl, hb5, hb45, hpc, hwp, ?_⟩
  exact (HBW.out.trans (ho4.below (by omega))).trans (ho5.below hwp)
end Go.Proofs.Ytipmmknecadkkaa
