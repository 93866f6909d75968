/- The types and functions of this translation, for the symbolic walk. -/
import Derived.Test.YtbbngmlgpjepnaaZSxb
import Derived.Test.YtbbngmlgpjepnaaProg
import Derived.KernelRfl
namespace Go.Proofs.Ytbbngmlgpjepnaa
open Go.RowKit

def sxTab : List (Nat × TInf) := [
  (3, ⟨(.int .i64), 1, 8, (Value.int IntKind.i64 0)⟩),
  (4, ⟨.bool, 1, 1, (Value.bool false)⟩),
  (5, ⟨(.int .u8), 1, 1, (Value.int IntKind.u8 0)⟩),
  (9, ⟨.string, 1, 16, (Value.string { data := #[] })⟩),
  (21, ⟨(.int .i32), 1, 4, (Value.int IntKind.i32 0)⟩),
  (25, ⟨(.slice 42), 1, 24, (Value.slice none 0 0)⟩),
  (28, ⟨(.struct [(0, 9), (1, 3), (2, 3), (3, 3), (4, 25)]), 5, 64, (Value.agg #[(Value.string { data := #[] }), (Value.int IntKind.i64 0), (Value.int IntKind.i64 0), (Value.int IntKind.i64 0), (Value.slice none 0 0)])⟩),
  (29, ⟨(.int .i64), 1, 8, (Value.int IntKind.i64 0)⟩),
  (37, ⟨(.slice 28), 1, 24, (Value.slice none 0 0)⟩),
  (38, ⟨(.slice 9), 1, 24, (Value.slice none 0 0)⟩),
  (42, ⟨(.int .u32), 1, 4, (Value.int IntKind.u32 0)⟩),
  (51, ⟨.other, 1, 16, (Value.complex FloatKind.f64 0 0)⟩),
  (54, ⟨.other, 1, 8, (Value.float FloatKind.f64 0)⟩),
  (58, ⟨(.struct [(0, 3), (1, 3)]), 2, 16, (Value.agg #[(Value.int IntKind.i64 0), (Value.int IntKind.i64 0)])⟩),
  (63, ⟨.other, 1, 8, (Value.pointer none)⟩),
  (68, ⟨(.int .u16), 1, 2, (Value.int IntKind.u16 0)⟩),
  (71, ⟨.other, 1, 8, (Value.pointer none)⟩),
  (73, ⟨(.struct [(0, 9), (1, 3), (2, 29)]), 3, 32, (Value.agg #[(Value.string { data := #[] }), (Value.int IntKind.i64 0), (Value.int IntKind.i64 0)])⟩),
  (74, ⟨(.int .u64), 1, 8, (Value.int IntKind.u64 0)⟩),
  (81, ⟨.other, 1, 8, Value.nilFunc⟩),
  (88, ⟨(.array 4 3), 4, 32, (Value.agg #[(Value.int IntKind.i64 0), (Value.int IntKind.i64 0), (Value.int IntKind.i64 0), (Value.int IntKind.i64 0)])⟩),
  (94, ⟨(.struct [(0, 9), (1, 29)]), 2, 24, (Value.agg #[(Value.string { data := #[] }), (Value.int IntKind.i64 0)])⟩),
  (99, ⟨(.slice 5), 1, 24, (Value.slice none 0 0)⟩),
  (102, ⟨(.slice 4), 1, 24, (Value.slice none 0 0)⟩)]
theorem sxT (t : Nat) (i : TInf) (h : tl sxTab t = some i) : (Try.prog.underlying t).map tdOf = some i.d ∧ (Try.prog.info? t).map (fun x => (x.zero, x.size, x.bytes)) = some (some i.zero, i.size, i.bytes) := by
  refine tl_all (Q := fun t i => (Try.prog.underlying t).map tdOf = some i.d ∧ (Try.prog.info? t).map (fun x => (x.zero, x.size, x.bytes)) = some (some i.zero, i.size, i.bytes)) ?_ t i h
  refine .cons ⟨by kernel_rfl, by kernel_rfl⟩ (.cons ⟨by kernel_rfl, by kernel_rfl⟩ (.cons ⟨by kernel_rfl, by kernel_rfl⟩ (.cons ⟨by kernel_rfl, by kernel_rfl⟩ (.cons ⟨by kernel_rfl, by kernel_rfl⟩ (.cons ⟨by kernel_rfl, by kernel_rfl⟩ (.cons ⟨by kernel_rfl, by kernel_rfl⟩ (.cons ⟨by kernel_rfl, by kernel_rfl⟩ (.cons ⟨by kernel_rfl, by kernel_rfl⟩ (.cons ⟨by kernel_rfl, by kernel_rfl⟩ (.cons ⟨by kernel_rfl, by kernel_rfl⟩ (.cons ⟨by kernel_rfl, by kernel_rfl⟩ (.cons ⟨by kernel_rfl, by kernel_rfl⟩ (.cons ⟨by kernel_rfl, by kernel_rfl⟩ (.cons ⟨by kernel_rfl, by kernel_rfl⟩ (.cons ⟨by kernel_rfl, by kernel_rfl⟩ (.cons ⟨by kernel_rfl, by kernel_rfl⟩ (.cons ⟨by kernel_rfl, by kernel_rfl⟩ (.cons ⟨by kernel_rfl, by kernel_rfl⟩ (.cons ⟨by kernel_rfl, by kernel_rfl⟩ (.cons ⟨by kernel_rfl, by kernel_rfl⟩ (.cons ⟨by kernel_rfl, by kernel_rfl⟩ (.cons ⟨by kernel_rfl, by kernel_rfl⟩ (.cons ⟨by kernel_rfl, by kernel_rfl⟩ (.nil))))))))))))))))))))))))
noncomputable def SX : Sx := ⟨Try.prog, sxTab, sxT, by kernel_rfl, [], [58, 73, 88, 94], by kernel_rfl, [2, 3, 4, 5, 6, 7, 8, 9, 10, 11, 12, 13, 14, 15, 16, 17, 18, 19, 20, 21, 22, 23, 24, 25, 26, 27, 28, 29, 30, 31, 32, 33, 34, 35, 36, 37, 38, 39, 40, 41, 42, 43, 44, 45, 46, 47, 48, 49, 50, 51, 52, 53, 54, 55, 56, 57, 58, 59, 60, 61, 62, 63, 64, 65, 66, 67, 68, 69, 70, 71, 72, 73, 74, 75], by kernel_rfl⟩
end Go.Proofs.Ytbbngmlgpjepnaa
