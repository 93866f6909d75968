/- The types and functions of this translation, for the symbolic walk. -/
import Derived.Test.YtdhdminocboipaaZSxb
import Derived.Test.YtdhdminocboipaaProg
import Derived.KernelRfl
namespace Go.Proofs.Ytdhdminocboipaa
open Go.RowKit

def sxTab : List (Nat × TInf) := [
  (3, ⟨(.int .i64), 1, 8, (Value.int IntKind.i64 0)⟩),
  (4, ⟨.bool, 1, 1, (Value.bool false)⟩),
  (5, ⟨(.int .u8), 1, 1, (Value.int IntKind.u8 0)⟩),
  (9, ⟨.string, 1, 16, (Value.string { data := #[] })⟩),
  (22, ⟨(.int .u32), 1, 4, (Value.int IntKind.u32 0)⟩),
  (23, ⟨(.slice 9), 1, 24, (Value.slice none 0 0)⟩),
  (24, ⟨(.int .u16), 1, 2, (Value.int IntKind.u16 0)⟩),
  (27, ⟨(.int .i64), 1, 8, (Value.int IntKind.i64 0)⟩),
  (34, ⟨(.slice 70), 1, 24, (Value.slice none 0 0)⟩),
  (36, ⟨(.struct [(0, 22), (1, 34)]), 2, 32, (Value.agg #[(Value.int IntKind.u32 0), (Value.slice none 0 0)])⟩),
  (56, ⟨.other, 1, 8, (Value.pointer none)⟩),
  (67, ⟨(.slice 3), 1, 24, (Value.slice none 0 0)⟩),
  (70, ⟨(.struct [(0, 3), (1, 22)]), 2, 16, (Value.agg #[(Value.int IntKind.i64 0), (Value.int IntKind.u32 0)])⟩),
  (75, ⟨(.slice 4), 1, 24, (Value.slice none 0 0)⟩),
  (81, ⟨.other, 1, 8, (Value.pointer none)⟩),
  (82, ⟨(.slice 5), 1, 24, (Value.slice none 0 0)⟩),
  (84, ⟨(.struct [(0, 81), (1, 82)]), 2, 32, (Value.agg #[(Value.pointer none), (Value.slice none 0 0)])⟩),
  (94, ⟨.other, 1, 8, (Value.pointer none)⟩),
  (101, ⟨.other, 1, 8, (Value.pointer none)⟩),
  (103, ⟨(.struct [(0, 9), (1, 3), (2, 27)]), 3, 32, (Value.agg #[(Value.string { data := #[] }), (Value.int IntKind.i64 0), (Value.int IntKind.i64 0)])⟩),
  (104, ⟨(.int .u64), 1, 8, (Value.int IntKind.u64 0)⟩),
  (107, ⟨.other, 1, 8, (Value.pointer none)⟩),
  (109, ⟨(.struct [(0, 107), (1, 22)]), 2, 16, (Value.agg #[(Value.pointer none), (Value.int IntKind.u32 0)])⟩),
  (111, ⟨(.struct [(0, 3), (1, 3), (2, 23), (3, 3)]), 4, 48, (Value.agg #[(Value.int IntKind.i64 0), (Value.int IntKind.i64 0), (Value.slice none 0 0), (Value.int IntKind.i64 0)])⟩),
  (117, ⟨(.struct [(0, 9), (1, 27)]), 2, 24, (Value.agg #[(Value.string { data := #[] }), (Value.int IntKind.i64 0)])⟩)]
theorem sxT (t : Nat) (i : TInf) (h : tl sxTab t = some i) : (Try.prog.underlying t).map tdOf = some i.d ∧ (Try.prog.info? t).map (fun x => (x.zero, x.size, x.bytes)) = some (some i.zero, i.size, i.bytes) := by
  refine tl_all (Q := fun t i => (Try.prog.underlying t).map tdOf = some i.d ∧ (Try.prog.info? t).map (fun x => (x.zero, x.size, x.bytes)) = some (some i.zero, i.size, i.bytes)) ?_ t i h
  refine .cons ⟨by kernel_rfl, by kernel_rfl⟩ (.cons ⟨by kernel_rfl, by kernel_rfl⟩ (.cons ⟨by kernel_rfl, by kernel_rfl⟩ (.cons ⟨by kernel_rfl, by kernel_rfl⟩ (.cons ⟨by kernel_rfl, by kernel_rfl⟩ (.cons ⟨by kernel_rfl, by kernel_rfl⟩ (.cons ⟨by kernel_rfl, by kernel_rfl⟩ (.cons ⟨by kernel_rfl, by kernel_rfl⟩ (.cons ⟨by kernel_rfl, by kernel_rfl⟩ (.cons ⟨by kernel_rfl, by kernel_rfl⟩ (.cons ⟨by kernel_rfl, by kernel_rfl⟩ (.cons ⟨by kernel_rfl, by kernel_rfl⟩ (.cons ⟨by kernel_rfl, by kernel_rfl⟩ (.cons ⟨by kernel_rfl, by kernel_rfl⟩ (.cons ⟨by kernel_rfl, by kernel_rfl⟩ (.cons ⟨by kernel_rfl, by kernel_rfl⟩ (.cons ⟨by kernel_rfl, by kernel_rfl⟩ (.cons ⟨by kernel_rfl, by kernel_rfl⟩ (.cons ⟨by kernel_rfl, by kernel_rfl⟩ (.cons ⟨by kernel_rfl, by kernel_rfl⟩ (.cons ⟨by kernel_rfl, by kernel_rfl⟩ (.cons ⟨by kernel_rfl, by kernel_rfl⟩ (.cons ⟨by kernel_rfl, by kernel_rfl⟩ (.cons ⟨by kernel_rfl, by kernel_rfl⟩ (.cons ⟨by kernel_rfl, by kernel_rfl⟩ (.nil)))))))))))))))))))))))))
noncomputable def SX : Sx := ⟨Try.prog, sxTab, sxT, by kernel_rfl, [84], [70, 103, 117], by kernel_rfl, [2, 3, 4, 5, 6, 7, 8, 9, 10, 11, 12, 13, 14, 15, 16, 17, 18, 19, 20, 21, 22, 23, 24, 25, 26, 27, 28, 29, 30, 31, 32, 33, 34, 35, 36, 37, 38, 39, 40, 41, 42, 43, 44, 45, 46, 47, 48, 49, 50, 51, 52, 53, 54, 55, 56, 57, 58, 59, 60, 61, 62, 63, 64, 65, 66, 67, 68, 69, 70, 71, 72, 73, 75, 76], by kernel_rfl⟩
end Go.Proofs.Ytdhdminocboipaa
