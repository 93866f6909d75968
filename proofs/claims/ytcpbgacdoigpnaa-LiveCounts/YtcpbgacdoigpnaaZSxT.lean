/- The types and functions of this translation, for the symbolic walk. -/
import Derived.Test.YtcpbgacdoigpnaaZSxb
import Derived.Test.YtcpbgacdoigpnaaProg
import Derived.KernelRfl
namespace Go.Proofs.Ytcpbgacdoigpnaa
open Go.RowKit

def sxTab : List (Nat × TInf) := [
  (3, ⟨(.int .i64), 1, 8, (Value.int IntKind.i64 0)⟩),
  (4, ⟨.bool, 1, 1, (Value.bool false)⟩),
  (5, ⟨(.int .u8), 1, 1, (Value.int IntKind.u8 0)⟩),
  (22, ⟨(.slice 33), 1, 24, (Value.slice none 0 0)⟩),
  (23, ⟨(.int .u32), 1, 4, (Value.int IntKind.u32 0)⟩),
  (25, ⟨(.struct [(0, 23), (1, 3)]), 2, 16, (Value.agg #[(Value.int IntKind.u32 0), (Value.int IntKind.i64 0)])⟩),
  (26, ⟨.other, 1, 8, (Value.pointer none)⟩),
  (28, ⟨(.slice 25), 1, 24, (Value.slice none 0 0)⟩),
  (29, ⟨(.slice 65), 1, 24, (Value.slice none 0 0)⟩),
  (31, ⟨(.struct [(0, 23), (1, 29)]), 2, 32, (Value.agg #[(Value.int IntKind.u32 0), (Value.slice none 0 0)])⟩),
  (33, ⟨(.struct [(0, 4), (1, 4), (2, 5), (3, 31)]), 5, 40, (Value.agg #[(Value.bool false), (Value.bool false), (Value.int IntKind.u8 0), (Value.int IntKind.u32 0), (Value.slice none 0 0)])⟩),
  (37, ⟨(.int .i64), 1, 8, (Value.int IntKind.i64 0)⟩),
  (46, ⟨(.slice 31), 1, 24, (Value.slice none 0 0)⟩),
  (49, ⟨(.slice 83), 1, 24, (Value.slice none 0 0)⟩),
  (51, ⟨(.struct [(0, 23), (1, 49)]), 2, 32, (Value.agg #[(Value.int IntKind.u32 0), (Value.slice none 0 0)])⟩),
  (53, ⟨(.slice 23), 1, 24, (Value.slice none 0 0)⟩),
  (55, ⟨(.slice 3), 1, 24, (Value.slice none 0 0)⟩),
  (59, ⟨.other, 1, 8, (Value.map none)⟩),
  (61, ⟨(.struct [(0, 59)]), 1, 8, (Value.agg #[(Value.map none)])⟩),
  (63, ⟨(.array 32 5), 32, 32, (Value.agg #[(Value.int IntKind.u8 0), (Value.int IntKind.u8 0), (Value.int IntKind.u8 0), (Value.int IntKind.u8 0), (Value.int IntKind.u8 0), (Value.int IntKind.u8 0), (Value.int IntKind.u8 0), (Value.int IntKind.u8 0), (Value.int IntKind.u8 0), (Value.int IntKind.u8 0), (Value.int IntKind.u8 0), (Value.int IntKind.u8 0), (Value.int IntKind.u8 0), (Value.int IntKind.u8 0), (Value.int IntKind.u8 0), (Value.int IntKind.u8 0), (Value.int IntKind.u8 0), (Value.int IntKind.u8 0), (Value.int IntKind.u8 0), (Value.int IntKind.u8 0), (Value.int IntKind.u8 0), (Value.int IntKind.u8 0), (Value.int IntKind.u8 0), (Value.int IntKind.u8 0), (Value.int IntKind.u8 0), (Value.int IntKind.u8 0), (Value.int IntKind.u8 0), (Value.int IntKind.u8 0), (Value.int IntKind.u8 0), (Value.int IntKind.u8 0), (Value.int IntKind.u8 0), (Value.int IntKind.u8 0)])⟩),
  (65, ⟨(.struct [(0, 63), (32, 3), (33, 23), (34, 3)]), 35, 56, (Value.agg #[(Value.int IntKind.u8 0), (Value.int IntKind.u8 0), (Value.int IntKind.u8 0), (Value.int IntKind.u8 0), (Value.int IntKind.u8 0), (Value.int IntKind.u8 0), (Value.int IntKind.u8 0), (Value.int IntKind.u8 0), (Value.int IntKind.u8 0), (Value.int IntKind.u8 0), (Value.int IntKind.u8 0), (Value.int IntKind.u8 0), (Value.int IntKind.u8 0), (Value.int IntKind.u8 0), (Value.int IntKind.u8 0), (Value.int IntKind.u8 0), (Value.int IntKind.u8 0), (Value.int IntKind.u8 0), (Value.int IntKind.u8 0), (Value.int IntKind.u8 0), (Value.int IntKind.u8 0), (Value.int IntKind.u8 0), (Value.int IntKind.u8 0), (Value.int IntKind.u8 0), (Value.int IntKind.u8 0), (Value.int IntKind.u8 0), (Value.int IntKind.u8 0), (Value.int IntKind.u8 0), (Value.int IntKind.u8 0), (Value.int IntKind.u8 0), (Value.int IntKind.u8 0), (Value.int IntKind.u8 0), (Value.int IntKind.i64 0), (Value.int IntKind.u32 0), (Value.int IntKind.i64 0)])⟩),
  (74, ⟨.other, 1, 8, Value.nilFunc⟩),
  (79, ⟨.other, 1, 8, Value.nilFunc⟩),
  (80, ⟨(.slice 51), 1, 24, (Value.slice none 0 0)⟩),
  (83, ⟨(.struct [(0, 3), (1, 23)]), 2, 16, (Value.agg #[(Value.int IntKind.i64 0), (Value.int IntKind.u32 0)])⟩)]
theorem sxT (t : Nat) (i : TInf) (h : tl sxTab t = some i) : (Try.prog.underlying t).map tdOf = some i.d ∧ (Try.prog.info? t).map (fun x => (x.zero, x.size, x.bytes)) = some (some i.zero, i.size, i.bytes) := by
  refine tl_all (Q := fun t i => (Try.prog.underlying t).map tdOf = some i.d ∧ (Try.prog.info? t).map (fun x => (x.zero, x.size, x.bytes)) = some (some i.zero, i.size, i.bytes)) ?_ t i h
  refine .cons ⟨by kernel_rfl, by kernel_rfl⟩ (.cons ⟨by kernel_rfl, by kernel_rfl⟩ (.cons ⟨by kernel_rfl, by kernel_rfl⟩ (.cons ⟨by kernel_rfl, by kernel_rfl⟩ (.cons ⟨by kernel_rfl, by kernel_rfl⟩ (.cons ⟨by kernel_rfl, by kernel_rfl⟩ (.cons ⟨by kernel_rfl, by kernel_rfl⟩ (.cons ⟨by kernel_rfl, by kernel_rfl⟩ (.cons ⟨by kernel_rfl, by kernel_rfl⟩ (.cons ⟨by kernel_rfl, by kernel_rfl⟩ (.cons ⟨by kernel_rfl, by kernel_rfl⟩ (.cons ⟨by kernel_rfl, by kernel_rfl⟩ (.cons ⟨by kernel_rfl, by kernel_rfl⟩ (.cons ⟨by kernel_rfl, by kernel_rfl⟩ (.cons ⟨by kernel_rfl, by kernel_rfl⟩ (.cons ⟨by kernel_rfl, by kernel_rfl⟩ (.cons ⟨by kernel_rfl, by kernel_rfl⟩ (.cons ⟨by kernel_rfl, by kernel_rfl⟩ (.cons ⟨by kernel_rfl, by kernel_rfl⟩ (.cons ⟨by kernel_rfl, by kernel_rfl⟩ (.cons ⟨by kernel_rfl, by kernel_rfl⟩ (.cons ⟨by kernel_rfl, by kernel_rfl⟩ (.cons ⟨by kernel_rfl, by kernel_rfl⟩ (.cons ⟨by kernel_rfl, by kernel_rfl⟩ (.cons ⟨by kernel_rfl, by kernel_rfl⟩ (.nil)))))))))))))))))))))))))
noncomputable def SX : Sx := ⟨Try.prog, sxTab, sxT, by kernel_rfl, [], [25, 63, 65, 83], by kernel_rfl, [2, 3, 4, 5, 6, 7, 8, 9, 10, 11, 12, 13, 14, 15, 16, 17, 18, 19, 20, 21, 22, 23, 24, 25, 26, 27, 28, 29, 30, 31, 32, 33, 34, 35, 36, 37, 38, 39, 40, 41, 42, 43, 44, 45, 46, 47, 48, 49, 50, 51, 52, 53, 54, 55, 56, 57, 58, 59, 60, 61, 62, 63, 64, 65], by kernel_rfl⟩
end Go.Proofs.Ytcpbgacdoigpnaa
