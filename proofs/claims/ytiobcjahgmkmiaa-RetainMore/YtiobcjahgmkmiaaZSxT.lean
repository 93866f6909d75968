/- The types and functions of this translation, for the symbolic walk. -/
import Derived.Test.YtiobcjahgmkmiaaZSxb
import Derived.Test.YtiobcjahgmkmiaaProg
import Derived.KernelRfl
namespace Go.Proofs.Ytiobcjahgmkmiaa
open Go.RowKit

def sxTab : List (Nat × TInf) := [
  (3, ⟨(.int .i64), 1, 8, (Value.int IntKind.i64 0)⟩),
  (4, ⟨.bool, 1, 1, (Value.bool false)⟩),
  (5, ⟨(.int .u8), 1, 1, (Value.int IntKind.u8 0)⟩),
  (9, ⟨.string, 1, 16, (Value.string { data := #[] })⟩),
  (22, ⟨(.int .i64), 1, 8, (Value.int IntKind.i64 0)⟩),
  (35, ⟨(.int .u32), 1, 4, (Value.int IntKind.u32 0)⟩),
  (38, ⟨(.slice 61), 1, 24, (Value.slice none 0 0)⟩),
  (39, ⟨(.slice 55), 1, 24, (Value.slice none 0 0)⟩),
  (47, ⟨(.array 4 5), 4, 4, (Value.agg #[(Value.int IntKind.u8 0), (Value.int IntKind.u8 0), (Value.int IntKind.u8 0), (Value.int IntKind.u8 0)])⟩),
  (49, ⟨(.struct [(0, 3), (1, 3), (2, 3), (3, 3)]), 4, 32, (Value.agg #[(Value.int IntKind.i64 0), (Value.int IntKind.i64 0), (Value.int IntKind.i64 0), (Value.int IntKind.i64 0)])⟩),
  (53, ⟨(.struct [(0, 3), (1, 3), (2, 3), (3, 3)]), 4, 32, (Value.agg #[(Value.int IntKind.i64 0), (Value.int IntKind.i64 0), (Value.int IntKind.i64 0), (Value.int IntKind.i64 0)])⟩),
  (55, ⟨(.struct [(0, 9), (1, 3)]), 2, 24, (Value.agg #[(Value.string { data := #[] }), (Value.int IntKind.i64 0)])⟩),
  (61, ⟨(.struct [(0, 9), (1, 3)]), 2, 24, (Value.agg #[(Value.string { data := #[] }), (Value.int IntKind.i64 0)])⟩),
  (66, ⟨.other, 1, 8, Value.nilFunc⟩),
  (70, ⟨(.slice 3), 1, 24, (Value.slice none 0 0)⟩),
  (71, ⟨(.slice 4), 1, 24, (Value.slice none 0 0)⟩),
  (77, ⟨.other, 1, 8, Value.nilFunc⟩),
  (79, ⟨(.struct [(0, 77), (1, 3)]), 2, 16, (Value.agg #[Value.nilFunc, (Value.int IntKind.i64 0)])⟩),
  (80, ⟨(.slice 79), 1, 24, (Value.slice none 0 0)⟩),
  (81, ⟨.other, 1, 8, (Value.map none)⟩)]
theorem sxT (t : Nat) (i : TInf) (h : tl sxTab t = some i) : (Try.prog.underlying t).map tdOf = some i.d ∧ (Try.prog.info? t).map (fun x => (x.zero, x.size, x.bytes)) = some (some i.zero, i.size, i.bytes) := by
  refine tl_all (Q := fun t i => (Try.prog.underlying t).map tdOf = some i.d ∧ (Try.prog.info? t).map (fun x => (x.zero, x.size, x.bytes)) = some (some i.zero, i.size, i.bytes)) ?_ t i h
  refine .cons ⟨by kernel_rfl, by kernel_rfl⟩ (.cons ⟨by kernel_rfl, by kernel_rfl⟩ (.cons ⟨by kernel_rfl, by kernel_rfl⟩ (.cons ⟨by kernel_rfl, by kernel_rfl⟩ (.cons ⟨by kernel_rfl, by kernel_rfl⟩ (.cons ⟨by kernel_rfl, by kernel_rfl⟩ (.cons ⟨by kernel_rfl, by kernel_rfl⟩ (.cons ⟨by kernel_rfl, by kernel_rfl⟩ (.cons ⟨by kernel_rfl, by kernel_rfl⟩ (.cons ⟨by kernel_rfl, by kernel_rfl⟩ (.cons ⟨by kernel_rfl, by kernel_rfl⟩ (.cons ⟨by kernel_rfl, by kernel_rfl⟩ (.cons ⟨by kernel_rfl, by kernel_rfl⟩ (.cons ⟨by kernel_rfl, by kernel_rfl⟩ (.cons ⟨by kernel_rfl, by kernel_rfl⟩ (.cons ⟨by kernel_rfl, by kernel_rfl⟩ (.cons ⟨by kernel_rfl, by kernel_rfl⟩ (.cons ⟨by kernel_rfl, by kernel_rfl⟩ (.cons ⟨by kernel_rfl, by kernel_rfl⟩ (.cons ⟨by kernel_rfl, by kernel_rfl⟩ (.nil))))))))))))))))))))
noncomputable def SX : Sx := ⟨Try.prog, sxTab, sxT, by kernel_rfl, [], [47, 49, 53, 55, 61], by kernel_rfl, [2, 3, 4, 5, 6, 7, 8, 9, 10, 11, 12, 13, 14, 15, 16, 17, 18, 19, 20, 21, 22, 23, 24, 25, 26, 27, 28, 29, 30, 31, 32, 33, 34, 35, 36, 37, 38, 39, 40, 41, 42, 43, 44, 45, 46, 47, 48, 49, 50, 51, 52, 53, 54, 55, 56, 57, 58, 59, 60, 61, 62, 63, 65, 66, 67, 68, 69, 70], by kernel_rfl⟩
end Go.Proofs.Ytiobcjahgmkmiaa
