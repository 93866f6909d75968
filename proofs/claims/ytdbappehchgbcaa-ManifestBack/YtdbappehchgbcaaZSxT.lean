/- The types and functions of this translation, for the symbolic walk. -/
import Derived.Test.YtdbappehchgbcaaZSxb
import Derived.Test.YtdbappehchgbcaaProg
import Derived.KernelRfl
namespace Go.Proofs.Ytdbappehchgbcaa
open Go.RowKit

def sxTab : List (Nat × TInf) := [
  (3, ⟨(.int .i64), 1, 8, (Value.int IntKind.i64 0)⟩),
  (4, ⟨.bool, 1, 1, (Value.bool false)⟩),
  (5, ⟨(.int .u8), 1, 1, (Value.int IntKind.u8 0)⟩),
  (9, ⟨.string, 1, 16, (Value.string { data := #[] })⟩),
  (22, ⟨(.int .u32), 1, 4, (Value.int IntKind.u32 0)⟩),
  (23, ⟨(.slice 55), 1, 24, (Value.slice none 0 0)⟩),
  (25, ⟨(.struct [(0, 22), (1, 23)]), 2, 32, (Value.agg #[(Value.int IntKind.u32 0), (Value.slice none 0 0)])⟩),
  (28, ⟨(.int .i64), 1, 8, (Value.int IntKind.i64 0)⟩),
  (40, ⟨(.slice 45), 1, 24, (Value.slice none 0 0)⟩),
  (42, ⟨(.struct [(0, 40), (1, 40)]), 2, 48, (Value.agg #[(Value.slice none 0 0), (Value.slice none 0 0)])⟩),
  (43, ⟨(.slice 47), 1, 24, (Value.slice none 0 0)⟩),
  (45, ⟨(.struct [(0, 22), (1, 3)]), 2, 16, (Value.agg #[(Value.int IntKind.u32 0), (Value.int IntKind.i64 0)])⟩),
  (47, ⟨(.struct [(0, 45), (2, 45)]), 4, 32, (Value.agg #[(Value.int IntKind.u32 0), (Value.int IntKind.i64 0), (Value.int IntKind.u32 0), (Value.int IntKind.i64 0)])⟩),
  (53, ⟨(.array 32 5), 32, 32, (Value.agg #[(Value.int IntKind.u8 0), (Value.int IntKind.u8 0), (Value.int IntKind.u8 0), (Value.int IntKind.u8 0), (Value.int IntKind.u8 0), (Value.int IntKind.u8 0), (Value.int IntKind.u8 0), (Value.int IntKind.u8 0), (Value.int IntKind.u8 0), (Value.int IntKind.u8 0), (Value.int IntKind.u8 0), (Value.int IntKind.u8 0), (Value.int IntKind.u8 0), (Value.int IntKind.u8 0), (Value.int IntKind.u8 0), (Value.int IntKind.u8 0), (Value.int IntKind.u8 0), (Value.int IntKind.u8 0), (Value.int IntKind.u8 0), (Value.int IntKind.u8 0), (Value.int IntKind.u8 0), (Value.int IntKind.u8 0), (Value.int IntKind.u8 0), (Value.int IntKind.u8 0), (Value.int IntKind.u8 0), (Value.int IntKind.u8 0), (Value.int IntKind.u8 0), (Value.int IntKind.u8 0), (Value.int IntKind.u8 0), (Value.int IntKind.u8 0), (Value.int IntKind.u8 0), (Value.int IntKind.u8 0)])⟩),
  (55, ⟨(.struct [(0, 53), (32, 3), (33, 22), (34, 3)]), 35, 56, (Value.agg #[(Value.int IntKind.u8 0), (Value.int IntKind.u8 0), (Value.int IntKind.u8 0), (Value.int IntKind.u8 0), (Value.int IntKind.u8 0), (Value.int IntKind.u8 0), (Value.int IntKind.u8 0), (Value.int IntKind.u8 0), (Value.int IntKind.u8 0), (Value.int IntKind.u8 0), (Value.int IntKind.u8 0), (Value.int IntKind.u8 0), (Value.int IntKind.u8 0), (Value.int IntKind.u8 0), (Value.int IntKind.u8 0), (Value.int IntKind.u8 0), (Value.int IntKind.u8 0), (Value.int IntKind.u8 0), (Value.int IntKind.u8 0), (Value.int IntKind.u8 0), (Value.int IntKind.u8 0), (Value.int IntKind.u8 0), (Value.int IntKind.u8 0), (Value.int IntKind.u8 0), (Value.int IntKind.u8 0), (Value.int IntKind.u8 0), (Value.int IntKind.u8 0), (Value.int IntKind.u8 0), (Value.int IntKind.u8 0), (Value.int IntKind.u8 0), (Value.int IntKind.u8 0), (Value.int IntKind.u8 0), (Value.int IntKind.i64 0), (Value.int IntKind.u32 0), (Value.int IntKind.i64 0)])⟩),
  (59, ⟨.other, 1, 8, (Value.pointer none)⟩),
  (60, ⟨(.slice 5), 1, 24, (Value.slice none 0 0)⟩),
  (62, ⟨(.struct [(0, 59), (1, 60)]), 2, 32, (Value.agg #[(Value.pointer none), (Value.slice none 0 0)])⟩),
  (69, ⟨(.int .u16), 1, 2, (Value.int IntKind.u16 0)⟩),
  (72, ⟨.other, 1, 8, Value.nilFunc⟩),
  (77, ⟨.other, 1, 8, (Value.pointer none)⟩),
  (80, ⟨(.struct [(0, 77)]), 1, 8, (Value.agg #[(Value.pointer none)])⟩),
  (87, ⟨(.int .u64), 1, 8, (Value.int IntKind.u64 0)⟩),
  (89, ⟨.other, 1, 8, (Value.pointer none)⟩),
  (91, ⟨(.struct [(0, 9), (1, 3), (2, 28)]), 3, 32, (Value.agg #[(Value.string { data := #[] }), (Value.int IntKind.i64 0), (Value.int IntKind.i64 0)])⟩),
  (95, ⟨.other, 1, 8, Value.nilFunc⟩),
  (101, ⟨.other, 1, 8, Value.nilFunc⟩),
  (105, ⟨(.struct [(0, 9), (1, 28)]), 2, 24, (Value.agg #[(Value.string { data := #[] }), (Value.int IntKind.i64 0)])⟩),
  (108, ⟨(.slice 4), 1, 24, (Value.slice none 0 0)⟩),
  (115, ⟨(.slice 3), 1, 24, (Value.slice none 0 0)⟩)]
theorem sxT (t : Nat) (i : TInf) (h : tl sxTab t = some i) : (Try.prog.underlying t).map tdOf = some i.d ∧ (Try.prog.info? t).map (fun x => (x.zero, x.size, x.bytes)) = some (some i.zero, i.size, i.bytes) := by
  refine tl_all (Q := fun t i => (Try.prog.underlying t).map tdOf = some i.d ∧ (Try.prog.info? t).map (fun x => (x.zero, x.size, x.bytes)) = some (some i.zero, i.size, i.bytes)) ?_ t i h
  refine .cons ⟨by kernel_rfl, by kernel_rfl⟩ (.cons ⟨by kernel_rfl, by kernel_rfl⟩ (.cons ⟨by kernel_rfl, by kernel_rfl⟩ (.cons ⟨by kernel_rfl, by kernel_rfl⟩ (.cons ⟨by kernel_rfl, by kernel_rfl⟩ (.cons ⟨by kernel_rfl, by kernel_rfl⟩ (.cons ⟨by kernel_rfl, by kernel_rfl⟩ (.cons ⟨by kernel_rfl, by kernel_rfl⟩ (.cons ⟨by kernel_rfl, by kernel_rfl⟩ (.cons ⟨by kernel_rfl, by kernel_rfl⟩ (.cons ⟨by kernel_rfl, by kernel_rfl⟩ (.cons ⟨by kernel_rfl, by kernel_rfl⟩ (.cons ⟨by kernel_rfl, by kernel_rfl⟩ (.cons ⟨by kernel_rfl, by kernel_rfl⟩ (.cons ⟨by kernel_rfl, by kernel_rfl⟩ (.cons ⟨by kernel_rfl, by kernel_rfl⟩ (.cons ⟨by kernel_rfl, by kernel_rfl⟩ (.cons ⟨by kernel_rfl, by kernel_rfl⟩ (.cons ⟨by kernel_rfl, by kernel_rfl⟩ (.cons ⟨by kernel_rfl, by kernel_rfl⟩ (.cons ⟨by kernel_rfl, by kernel_rfl⟩ (.cons ⟨by kernel_rfl, by kernel_rfl⟩ (.cons ⟨by kernel_rfl, by kernel_rfl⟩ (.cons ⟨by kernel_rfl, by kernel_rfl⟩ (.cons ⟨by kernel_rfl, by kernel_rfl⟩ (.cons ⟨by kernel_rfl, by kernel_rfl⟩ (.cons ⟨by kernel_rfl, by kernel_rfl⟩ (.cons ⟨by kernel_rfl, by kernel_rfl⟩ (.cons ⟨by kernel_rfl, by kernel_rfl⟩ (.cons ⟨by kernel_rfl, by kernel_rfl⟩ (.nil))))))))))))))))))))))))))))))
noncomputable def SX : Sx := ⟨Try.prog, sxTab, sxT, by kernel_rfl, [62], [45, 47, 53, 55, 91, 105], by kernel_rfl, [2, 3, 4, 5, 6, 7, 8, 9, 10, 11, 12, 13, 14, 15, 16, 17, 18, 19, 20, 21, 22, 23, 24, 25, 26, 27, 28, 29, 30, 31, 32, 33, 34, 35, 36, 37, 38, 39, 40, 41, 42, 43, 44, 45, 46, 47, 48, 49, 50, 51, 52, 53, 54, 55, 56, 57, 58, 59, 60, 61, 62, 63, 64, 65, 66, 67, 68, 69, 71, 72, 73, 74, 75, 76, 77, 78, 79, 80, 81, 82, 83, 84, 85, 86, 87, 88], by kernel_rfl⟩
end Go.Proofs.Ytdbappehchgbcaa
