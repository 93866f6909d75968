/- The types and functions of this translation, for the symbolic walk. -/
import Derived.Test.YtdbappehchgbcaaGreatZSxb
import Derived.Test.YtdbappehchgbcaaGreatProg
import Derived.KernelRfl
namespace Go.Proofs.YtdbappehchgbcaaGreat
open Go.RowKit

def sxTab : List (Nat × TInf) := [
  (3, ⟨(.int .i64), 1, 8, (Value.int IntKind.i64 0)⟩),
  (4, ⟨.bool, 1, 1, (Value.bool false)⟩),
  (5, ⟨(.int .u8), 1, 1, (Value.int IntKind.u8 0)⟩),
  (9, ⟨.string, 1, 16, (Value.string { data := #[] })⟩),
  (22, ⟨(.int .u32), 1, 4, (Value.int IntKind.u32 0)⟩),
  (23, ⟨(.slice 41), 1, 24, (Value.slice none 0 0)⟩),
  (25, ⟨(.struct [(0, 22), (1, 23)]), 2, 32, (Value.agg #[(Value.int IntKind.u32 0), (Value.slice none 0 0)])⟩),
  (28, ⟨(.slice 35), 1, 24, (Value.slice none 0 0)⟩),
  (32, ⟨(.slice 39), 1, 24, (Value.slice none 0 0)⟩),
  (35, ⟨(.struct [(0, 22), (1, 3)]), 2, 16, (Value.agg #[(Value.int IntKind.u32 0), (Value.int IntKind.i64 0)])⟩),
  (39, ⟨(.array 32 5), 32, 32, (Value.agg #[(Value.int IntKind.u8 0), (Value.int IntKind.u8 0), (Value.int IntKind.u8 0), (Value.int IntKind.u8 0), (Value.int IntKind.u8 0), (Value.int IntKind.u8 0), (Value.int IntKind.u8 0), (Value.int IntKind.u8 0), (Value.int IntKind.u8 0), (Value.int IntKind.u8 0), (Value.int IntKind.u8 0), (Value.int IntKind.u8 0), (Value.int IntKind.u8 0), (Value.int IntKind.u8 0), (Value.int IntKind.u8 0), (Value.int IntKind.u8 0), (Value.int IntKind.u8 0), (Value.int IntKind.u8 0), (Value.int IntKind.u8 0), (Value.int IntKind.u8 0), (Value.int IntKind.u8 0), (Value.int IntKind.u8 0), (Value.int IntKind.u8 0), (Value.int IntKind.u8 0), (Value.int IntKind.u8 0), (Value.int IntKind.u8 0), (Value.int IntKind.u8 0), (Value.int IntKind.u8 0), (Value.int IntKind.u8 0), (Value.int IntKind.u8 0), (Value.int IntKind.u8 0), (Value.int IntKind.u8 0)])⟩),
  (41, ⟨(.struct [(0, 39), (32, 3), (33, 22), (34, 3)]), 35, 56, (Value.agg #[(Value.int IntKind.u8 0), (Value.int IntKind.u8 0), (Value.int IntKind.u8 0), (Value.int IntKind.u8 0), (Value.int IntKind.u8 0), (Value.int IntKind.u8 0), (Value.int IntKind.u8 0), (Value.int IntKind.u8 0), (Value.int IntKind.u8 0), (Value.int IntKind.u8 0), (Value.int IntKind.u8 0), (Value.int IntKind.u8 0), (Value.int IntKind.u8 0), (Value.int IntKind.u8 0), (Value.int IntKind.u8 0), (Value.int IntKind.u8 0), (Value.int IntKind.u8 0), (Value.int IntKind.u8 0), (Value.int IntKind.u8 0), (Value.int IntKind.u8 0), (Value.int IntKind.u8 0), (Value.int IntKind.u8 0), (Value.int IntKind.u8 0), (Value.int IntKind.u8 0), (Value.int IntKind.u8 0), (Value.int IntKind.u8 0), (Value.int IntKind.u8 0), (Value.int IntKind.u8 0), (Value.int IntKind.u8 0), (Value.int IntKind.u8 0), (Value.int IntKind.u8 0), (Value.int IntKind.u8 0), (Value.int IntKind.i64 0), (Value.int IntKind.u32 0), (Value.int IntKind.i64 0)])⟩),
  (42, ⟨(.int .i64), 1, 8, (Value.int IntKind.i64 0)⟩),
  (50, ⟨(.struct [(0, 35), (2, 35)]), 4, 32, (Value.agg #[(Value.int IntKind.u32 0), (Value.int IntKind.i64 0), (Value.int IntKind.u32 0), (Value.int IntKind.i64 0)])⟩),
  (57, ⟨.other, 1, 8, Value.nilFunc⟩),
  (60, ⟨.other, 1, 8, (Value.pointer none)⟩),
  (61, ⟨(.slice 5), 1, 24, (Value.slice none 0 0)⟩),
  (63, ⟨(.struct [(0, 60), (1, 61)]), 2, 32, (Value.agg #[(Value.pointer none), (Value.slice none 0 0)])⟩),
  (70, ⟨(.int .u16), 1, 2, (Value.int IntKind.u16 0)⟩),
  (74, ⟨.other, 1, 8, (Value.pointer none)⟩),
  (77, ⟨(.struct [(0, 74)]), 1, 8, (Value.agg #[(Value.pointer none)])⟩),
  (83, ⟨(.slice 50), 1, 24, (Value.slice none 0 0)⟩),
  (86, ⟨.other, 1, 8, Value.nilFunc⟩),
  (89, ⟨.other, 1, 8, Value.nilFunc⟩),
  (94, ⟨(.slice 3), 1, 24, (Value.slice none 0 0)⟩),
  (97, ⟨.other, 1, 8, Value.nilFunc⟩),
  (103, ⟨(.int .u64), 1, 8, (Value.int IntKind.u64 0)⟩),
  (107, ⟨(.struct [(0, 9), (1, 42)]), 2, 24, (Value.agg #[(Value.string { data := #[] }), (Value.int IntKind.i64 0)])⟩),
  (124, ⟨.other, 1, 8, Value.nilFunc⟩)]
theorem sxT (t : Nat) (i : TInf) (h : tl sxTab t = some i) : (Tryz.prog.underlying t).map tdOf = some i.d ∧ (Tryz.prog.info? t).map (fun x => (x.zero, x.size, x.bytes)) = some (some i.zero, i.size, i.bytes) := by
  refine tl_all (Q := fun t i => (Tryz.prog.underlying t).map tdOf = some i.d ∧ (Tryz.prog.info? t).map (fun x => (x.zero, x.size, x.bytes)) = some (some i.zero, i.size, i.bytes)) ?_ t i h
  refine .cons ⟨by kernel_rfl, by kernel_rfl⟩ (.cons ⟨by kernel_rfl, by kernel_rfl⟩ (.cons ⟨by kernel_rfl, by kernel_rfl⟩ (.cons ⟨by kernel_rfl, by kernel_rfl⟩ (.cons ⟨by kernel_rfl, by kernel_rfl⟩ (.cons ⟨by kernel_rfl, by kernel_rfl⟩ (.cons ⟨by kernel_rfl, by kernel_rfl⟩ (.cons ⟨by kernel_rfl, by kernel_rfl⟩ (.cons ⟨by kernel_rfl, by kernel_rfl⟩ (.cons ⟨by kernel_rfl, by kernel_rfl⟩ (.cons ⟨by kernel_rfl, by kernel_rfl⟩ (.cons ⟨by kernel_rfl, by kernel_rfl⟩ (.cons ⟨by kernel_rfl, by kernel_rfl⟩ (.cons ⟨by kernel_rfl, by kernel_rfl⟩ (.cons ⟨by kernel_rfl, by kernel_rfl⟩ (.cons ⟨by kernel_rfl, by kernel_rfl⟩ (.cons ⟨by kernel_rfl, by kernel_rfl⟩ (.cons ⟨by kernel_rfl, by kernel_rfl⟩ (.cons ⟨by kernel_rfl, by kernel_rfl⟩ (.cons ⟨by kernel_rfl, by kernel_rfl⟩ (.cons ⟨by kernel_rfl, by kernel_rfl⟩ (.cons ⟨by kernel_rfl, by kernel_rfl⟩ (.cons ⟨by kernel_rfl, by kernel_rfl⟩ (.cons ⟨by kernel_rfl, by kernel_rfl⟩ (.cons ⟨by kernel_rfl, by kernel_rfl⟩ (.cons ⟨by kernel_rfl, by kernel_rfl⟩ (.cons ⟨by kernel_rfl, by kernel_rfl⟩ (.cons ⟨by kernel_rfl, by kernel_rfl⟩ (.cons ⟨by kernel_rfl, by kernel_rfl⟩ (.nil)))))))))))))))))))))))))))))
noncomputable def SX : Sx := ⟨Tryz.prog, sxTab, sxT, by kernel_rfl, [63], [35, 39, 41, 50, 107], by kernel_rfl, [2, 3, 4, 5, 6, 7, 8, 9, 10, 11, 12, 13, 14, 15, 16, 17, 18, 19, 20, 21, 22, 23, 24, 25, 26, 27, 28, 29, 30, 31, 32, 33, 34, 35, 36, 37, 38, 39, 40, 41, 42, 43, 44, 45, 46, 47, 48, 49, 50, 51, 52, 53, 54, 55, 56, 57, 58, 59, 60, 61, 62, 63, 64, 65, 66, 67, 68, 69, 70, 71, 72, 73, 74, 75, 76, 77, 78, 79, 80, 81, 82, 83, 85, 86, 87, 88, 89, 90, 91, 92, 93, 94, 95, 96, 97, 98, 99, 100, 101, 102, 103, 104, 106, 107, 108, 109], by kernel_rfl⟩
end Go.Proofs.YtdbappehchgbcaaGreat
