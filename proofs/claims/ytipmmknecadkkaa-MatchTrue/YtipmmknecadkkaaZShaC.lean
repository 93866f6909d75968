/- The walks over the first state and the words of the rounds, the package's and the document's. -/
import Derived.Test.YtipmmknecadkkaaZShaB
import Derived.Test.YtipmmknecadkkaaZBase
namespace Go.Proofs.Ytipmmknecadkkaa
open Go.RowKit

def kL : List Nat := [0x428a2f98, 0x71374491, 0xb5c0fbcf, 0xe9b5dba5, 0x3956c25b, 0x59f111f1, 0x923f82a4, 0xab1c5ed5, 0xd807aa98, 0x12835b01, 0x243185be, 0x550c7dc3, 0x72be5d74, 0x80deb1fe, 0x9bdc06a7, 0xc19bf174, 0xe49b69c1, 0xefbe4786, 0x0fc19dc6, 0x240ca1cc, 0x2de92c6f, 0x4a7484aa, 0x5cb0a9dc, 0x76f988da, 0x983e5152, 0xa831c66d, 0xb00327c8, 0xbf597fc7, 0xc6e00bf3, 0xd5a79147, 0x06ca6351, 0x14292967, 0x27b70a85, 0x2e1b2138, 0x4d2c6dfc, 0x53380d13, 0x650a7354, 0x766a0abb, 0x81c2c92e, 0x92722c85, 0xa2bfe8a1, 0xa81a664b, 0xc24b8b70, 0xc76c51a3, 0xd192e819, 0xd6990624, 0xf40e3585, 0x106aa070, 0x19a4c116, 0x1e376c08, 0x2748774c, 0x34b0bcb5, 0x391c0cb3, 0x4ed8aa4a, 0x5b9cca4f, 0x682e6ff3, 0x748f82ee, 0x78a5636f, 0x84c87814, 0x8cc70208, 0x90befffa, 0xa4506ceb, 0xbef9a3f7, 0xc67178f2]
def hL : List Nat := [0x6a09e667, 0xbb67ae85, 0x3c6ef372, 0xa54ff53a, 0x510e527f, 0x9b05688c, 0x1f83d9ab, 0x5be0cd19]
def kF (j : Nat) : Nat := kL.getD j 0
def hF (j : Nat) : Nat := hL.getD j 0
theorem kF_lt (j : Nat) : kF j < 4294967296 := by
  unfold kF
  by_cases h : j < 64
  · have : ∀ j : Nat, j < 64 → kL.getD j 0 < 4294967296 := by decide +kernel
    exact this j h
  · rw [List.getD_eq_getElem?_getD, List.getElem?_eq_none (by simp [kL]; omega)]; decide
theorem hF_lt (j : Nat) : hF j < 4294967296 := by
  unfold hF
  by_cases h : j < 8
  · have : ∀ j : Nat, j < 8 → hL.getD j 0 < 4294967296 := by decide +kernel
    exact this j h
  · rw [List.getD_eq_getElem?_getD, List.getElem?_eq_none (by simp [hL]; omega)]; decide
def stV (s : Nat → Nat) (j : Nat) : Value := .int .u32 (s j : Nat)
theorem Start_any (w : World) : Calls Try.prog 39 #[] w fun e w' => e = .returned (.agg (tab 8 (stV hF)).toArray) ∧ Below w.heap.size w w' := by
  go_enter Try.func39, Try.ntmps39
  go_wp2_with (with_reducible refine wpList_alloc_blk (o := ⟨some 0, _, _, _, _, _⟩) rfl 86 rfl (.agg (tab 8 (stV fun _ => 0)).toArray) (by kernel_rfl) ?_)
  intro w1 hb1 hbel1 hsz1
  go_wp2_with (with_reducible refine wpList_store_tab (o := ⟨none, _, _, _, _, _⟩) rfl 86 _ _ rfl w.heap.size 86 8 (stV hF) (stV fun _ => 0) rfl rfl hb1 (by kernel_rfl) (fun _ => rfl) ?_)
  intro w2 hb2 ho2
  go_wp2_with fail
  refine bodyPost_ret (results_cell_tab rfl _ _ w.heap.size 86 8 (stV hF) _ rfl hb2 Try.underlying86 rfl (by kernel_rfl)) rfl ⟨rfl, ?_⟩
  exact hbel1.trans (ho2.below (by omega))
set_option maxHeartbeats 2000000 in
set_option maxRecDepth 100000 in
theorem roots_any (w : World) : Calls Try.prog 46 #[] w fun e w' => e = .returned (.agg (tab 64 (stV kF)).toArray) ∧ Below w.heap.size w w' := by
  go_enter Try.func46, Try.ntmps46
  go_wp2_with (with_reducible refine wpList_alloc_blk (o := ⟨some 0, _, _, _, _, _⟩) rfl 98 rfl (.agg (tab 64 (stV fun _ => 0)).toArray) (by kernel_rfl) ?_)
  intro w1 hb1 hbel1 hsz1
  go_wp2_with (with_reducible refine wpList_store_tab (o := ⟨none, _, _, _, _, _⟩) rfl 98 _ _ rfl w.heap.size 98 64 (stV kF) (stV fun _ => 0) rfl rfl hb1 (by kernel_rfl) (fun _ => rfl) ?_)
  intro w2 hb2 ho2
  go_wp2_with fail
  refine bodyPost_ret (results_cell_tab rfl _ _ w.heap.size 98 64 (stV kF) _ rfl hb2 Try.underlying98 rfl (by kernel_rfl)) rfl ⟨rfl, ?_⟩
  exact hbel1.trans (ho2.below (by omega))
theorem RStart_any (w : World) : Calls Try.prog 25 #[] w fun e w' => ∃ g, e = .returned (.slice (some ⟨g, 0, none⟩) 8 8) ∧ Blk w' g 39 (tab 8 (stV hF)) ∧ w.heap.size ≤ g ∧ Below w.heap.size w w' := by
  go_enter Try.func25, Try.ntmps25
  go_wp2_with fail
  go_ret
  exact ⟨w.heap.size, rfl, (Blk.new w _ _).congr rfl, Nat.le_refl _, (Below.refl _ _).alloc (Nat.le_refl _) _⟩
set_option maxRecDepth 100000 in
theorem Rroots_any (w : World) : Calls Try.prog 34 #[] w fun e w' => ∃ g, e = .returned (.slice (some ⟨g, 0, none⟩) 64 64) ∧ Blk w' g 39 (tab 64 (stV kF)) ∧ w.heap.size ≤ g ∧ Below w.heap.size w w' := by
  go_enter Try.func34, Try.ntmps34
  go_wp2_with fail
  go_ret
  exact ⟨w.heap.size, rfl, (Blk.new w _ _).congr rfl, Nat.le_refl _, (Below.refl _ _).alloc (Nat.le_refl _) _⟩
end Go.Proofs.Ytipmmknecadkkaa
