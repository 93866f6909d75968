/- The walks over Write and Len. -/
import Derived.Test.YtipmmknecadkkaaZShaJ
namespace Go.Proofs.Ytipmmknecadkkaa
open Go.RowKit

set_option maxHeartbeats 4000000 in
set_option maxRecDepth 100000 in
theorem Write_cells (p c n : Nat) (st : Nat → Nat) (hs : ∀ j, st j < 4294967296) (r str : ByteArray) (hl : r.size + str.size ≤ 1000000) (hn : n ≤ 1000000) (w : World) (hpc : p < c) (hP : Blk w p 90 (tab 11 (hV (cloV c) st r n))) (hC : Blk w c 81 [.pointer (some ⟨p, 0, none⟩)]) :
    Calls Try.prog 37 #[.pointer (some ⟨p, 0, none⟩), .string str] w fun e w' => e = .returned (.int .i64 0) ∧ CloW p c (fedS (r ++ str).data.toList st ((r ++ str).size / 64)) ((r ++ str).extract (64 * ((r ++ str).size / 64)) (r ++ str).size) (n + str.size) w w' := by
  have hc10 : w.cell? ⟨p, 10, none⟩ = some (.func (.func 40) #[] #[.pointer (some ⟨c, 0, none⟩)]) := hP.at 10 (by omega)
  have hfl3 : ∀ W, (Instr.fieldAt 90 (.pointer (some ⟨p, 0, none⟩)) 3).run Try.prog W = .ok (.pointer (some ⟨p, 10, none⟩)) W := fun W => hash_field W p 3 10 (by simp)
  have hfl2 : ∀ W, (Instr.fieldAt 90 (.pointer (some ⟨p, 0, none⟩)) 2).run Try.prog W = .ok (.pointer (some ⟨p, 9, none⟩)) W := fun W => hash_field W p 2 9 (by simp)
  have hnf : ∀ W, (binOp .eql 88 (.func (.func 40) #[] #[.pointer (some ⟨c, 0, none⟩)]) .nilFunc).run Try.prog W = .ok (.bool false) W := fun W => run_eql_func_nil W _ _ _ _ _ _ _ Try.underlying88
  have HP := Go.Lib.hid hP; have HC := Go.Lib.hid hC; have HS := Go.Lib.hid hs; have HL := Go.Lib.hid hl
  have hss : str.size ≤ 1000000 := by omega
  clear hP hC hs hl
  go_enter Try.func37, Try.ntmps37
  go_wp2_with (go_at_call 40; refine (clo_any p c n st HS.out r str HL.out _ hpc ⟨HP.out, HC.out, Below.refl _ _⟩).mono ?_; rintro e w1 ⟨rfl, hW⟩; have hc9 : w1.cell? ⟨p, 9, none⟩ = some (.int .i64 (n : Nat)) := hW.atP.at 9 (by omega); have hfr9 := hW.atP.freeAt 9 (by omega); have HW := Go.Lib.hid hW; clear hW)
  have hb := HW.out.atP.set 9 (.int .i64 ((n + str.size : Nat) : Int))
  rw [hV_set9] at hb
  exact bodyPost_ret (results_tmp rfl _ _ _) rfl ⟨rfl, HW.out.only hb (Only.setCell _ _) hpc⟩
theorem Write_nil (str : ByteArray) (hs : str.size ≤ maxLen) (w : World) : Calls Try.prog 37 #[.pointer none, .string str] w fun e w' => e = .returned (.int .i64 4) ∧ Below w.heap.size w w' := by
  go_enter Try.func37, Try.ntmps37
  go_wp2_with fail
  exact bodyPost_ret (results_tmp rfl _ _ _) rfl ⟨rfl, Below.refl _ _⟩
end Go.Proofs.Ytipmmknecadkkaa
