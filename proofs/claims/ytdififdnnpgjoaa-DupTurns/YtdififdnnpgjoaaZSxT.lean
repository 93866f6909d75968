/- The types and functions of this translation, for the symbolic walk. -/
import Derived.Test.YtdififdnnpgjoaaZSxb
import Derived.Test.YtdififdnnpgjoaaProg
import Derived.KernelRfl
namespace Go.Proofs.Ytdififdnnpgjoaa
open Go.RowKit

def sxTab : List (Nat × TInf) := [
  (3, ⟨(.int .i64), 1, 8, (Value.int IntKind.i64 0)⟩),
  (4, ⟨.bool, 1, 1, (Value.bool false)⟩),
  (5, ⟨(.int .u8), 1, 1, (Value.int IntKind.u8 0)⟩),
  (9, ⟨.string, 1, 16, (Value.string { data := #[] })⟩),
  (22, ⟨(.slice 34), 1, 24, (Value.slice none 0 0)⟩),
  (23, ⟨(.slice 33), 1, 24, (Value.slice none 0 0)⟩),
  (27, ⟨(.int .u32), 1, 4, (Value.int IntKind.u32 0)⟩),
  (29, ⟨(.struct [(0, 27), (1, 3)]), 2, 16, (Value.agg #[(Value.int IntKind.u32 0), (Value.int IntKind.i64 0)])⟩),
  (31, ⟨(.array 32 5), 32, 32, (Value.agg #[(Value.int IntKind.u8 0), (Value.int IntKind.u8 0), (Value.int IntKind.u8 0), (Value.int IntKind.u8 0), (Value.int IntKind.u8 0), (Value.int IntKind.u8 0), (Value.int IntKind.u8 0), (Value.int IntKind.u8 0), (Value.int IntKind.u8 0), (Value.int IntKind.u8 0), (Value.int IntKind.u8 0), (Value.int IntKind.u8 0), (Value.int IntKind.u8 0), (Value.int IntKind.u8 0), (Value.int IntKind.u8 0), (Value.int IntKind.u8 0), (Value.int IntKind.u8 0), (Value.int IntKind.u8 0), (Value.int IntKind.u8 0), (Value.int IntKind.u8 0), (Value.int IntKind.u8 0), (Value.int IntKind.u8 0), (Value.int IntKind.u8 0), (Value.int IntKind.u8 0), (Value.int IntKind.u8 0), (Value.int IntKind.u8 0), (Value.int IntKind.u8 0), (Value.int IntKind.u8 0), (Value.int IntKind.u8 0), (Value.int IntKind.u8 0), (Value.int IntKind.u8 0), (Value.int IntKind.u8 0)])⟩),
  (33, ⟨(.struct [(0, 29), (2, 31), (34, 9)]), 35, 64, (Value.agg #[(Value.int IntKind.u32 0), (Value.int IntKind.i64 0), (Value.int IntKind.u8 0), (Value.int IntKind.u8 0), (Value.int IntKind.u8 0), (Value.int IntKind.u8 0), (Value.int IntKind.u8 0), (Value.int IntKind.u8 0), (Value.int IntKind.u8 0), (Value.int IntKind.u8 0), (Value.int IntKind.u8 0), (Value.int IntKind.u8 0), (Value.int IntKind.u8 0), (Value.int IntKind.u8 0), (Value.int IntKind.u8 0), (Value.int IntKind.u8 0), (Value.int IntKind.u8 0), (Value.int IntKind.u8 0), (Value.int IntKind.u8 0), (Value.int IntKind.u8 0), (Value.int IntKind.u8 0), (Value.int IntKind.u8 0), (Value.int IntKind.u8 0), (Value.int IntKind.u8 0), (Value.int IntKind.u8 0), (Value.int IntKind.u8 0), (Value.int IntKind.u8 0), (Value.int IntKind.u8 0), (Value.int IntKind.u8 0), (Value.int IntKind.u8 0), (Value.int IntKind.u8 0), (Value.int IntKind.u8 0), (Value.int IntKind.u8 0), (Value.int IntKind.u8 0), (Value.string { data := #[] })])⟩),
  (34, ⟨(.struct [(0, 29), (2, 31), (34, 9)]), 35, 64, (Value.agg #[(Value.int IntKind.u32 0), (Value.int IntKind.i64 0), (Value.int IntKind.u8 0), (Value.int IntKind.u8 0), (Value.int IntKind.u8 0), (Value.int IntKind.u8 0), (Value.int IntKind.u8 0), (Value.int IntKind.u8 0), (Value.int IntKind.u8 0), (Value.int IntKind.u8 0), (Value.int IntKind.u8 0), (Value.int IntKind.u8 0), (Value.int IntKind.u8 0), (Value.int IntKind.u8 0), (Value.int IntKind.u8 0), (Value.int IntKind.u8 0), (Value.int IntKind.u8 0), (Value.int IntKind.u8 0), (Value.int IntKind.u8 0), (Value.int IntKind.u8 0), (Value.int IntKind.u8 0), (Value.int IntKind.u8 0), (Value.int IntKind.u8 0), (Value.int IntKind.u8 0), (Value.int IntKind.u8 0), (Value.int IntKind.u8 0), (Value.int IntKind.u8 0), (Value.int IntKind.u8 0), (Value.int IntKind.u8 0), (Value.int IntKind.u8 0), (Value.int IntKind.u8 0), (Value.int IntKind.u8 0), (Value.int IntKind.u8 0), (Value.int IntKind.u8 0), (Value.string { data := #[] })])⟩),
  (39, ⟨(.slice 43), 1, 24, (Value.slice none 0 0)⟩),
  (43, ⟨(.slice 29), 1, 24, (Value.slice none 0 0)⟩),
  (44, ⟨(.slice 54), 1, 24, (Value.slice none 0 0)⟩),
  (54, ⟨(.struct [(0, 29), (2, 29)]), 4, 32, (Value.agg #[(Value.int IntKind.u32 0), (Value.int IntKind.i64 0), (Value.int IntKind.u32 0), (Value.int IntKind.i64 0)])⟩),
  (55, ⟨(.slice 80), 1, 24, (Value.slice none 0 0)⟩),
  (57, ⟨(.struct [(0, 27), (1, 55)]), 2, 32, (Value.agg #[(Value.int IntKind.u32 0), (Value.slice none 0 0)])⟩),
  (64, ⟨.other, 1, 8, (Value.map none)⟩),
  (67, ⟨.other, 1, 8, Value.nilFunc⟩),
  (71, ⟨(.slice 23), 1, 24, (Value.slice none 0 0)⟩),
  (77, ⟨.other, 1, 8, Value.nilFunc⟩),
  (80, ⟨(.struct [(0, 31), (32, 3), (33, 27), (34, 3)]), 35, 56, (Value.agg #[(Value.int IntKind.u8 0), (Value.int IntKind.u8 0), (Value.int IntKind.u8 0), (Value.int IntKind.u8 0), (Value.int IntKind.u8 0), (Value.int IntKind.u8 0), (Value.int IntKind.u8 0), (Value.int IntKind.u8 0), (Value.int IntKind.u8 0), (Value.int IntKind.u8 0), (Value.int IntKind.u8 0), (Value.int IntKind.u8 0), (Value.int IntKind.u8 0), (Value.int IntKind.u8 0), (Value.int IntKind.u8 0), (Value.int IntKind.u8 0), (Value.int IntKind.u8 0), (Value.int IntKind.u8 0), (Value.int IntKind.u8 0), (Value.int IntKind.u8 0), (Value.int IntKind.u8 0), (Value.int IntKind.u8 0), (Value.int IntKind.u8 0), (Value.int IntKind.u8 0), (Value.int IntKind.u8 0), (Value.int IntKind.u8 0), (Value.int IntKind.u8 0), (Value.int IntKind.u8 0), (Value.int IntKind.u8 0), (Value.int IntKind.u8 0), (Value.int IntKind.u8 0), (Value.int IntKind.u8 0), (Value.int IntKind.i64 0), (Value.int IntKind.u32 0), (Value.int IntKind.i64 0)])⟩),
  (84, ⟨(.slice 3), 1, 24, (Value.slice none 0 0)⟩),
  (86, ⟨(.slice 5), 1, 24, (Value.slice none 0 0)⟩),
  (93, ⟨.other, 1, 8, Value.nilFunc⟩),
  (98, ⟨.other, 1, 8, Value.nilFunc⟩)]
theorem sxT (t : Nat) (i : TInf) (h : tl sxTab t = some i) : (Try.prog.underlying t).map tdOf = some i.d ∧ (Try.prog.info? t).map (fun x => (x.zero, x.size, x.bytes)) = some (some i.zero, i.size, i.bytes) := by
  refine tl_all (Q := fun t i => (Try.prog.underlying t).map tdOf = some i.d ∧ (Try.prog.info? t).map (fun x => (x.zero, x.size, x.bytes)) = some (some i.zero, i.size, i.bytes)) ?_ t i h
  refine .cons ⟨by kernel_rfl, by kernel_rfl⟩ (.cons ⟨by kernel_rfl, by kernel_rfl⟩ (.cons ⟨by kernel_rfl, by kernel_rfl⟩ (.cons ⟨by kernel_rfl, by kernel_rfl⟩ (.cons ⟨by kernel_rfl, by kernel_rfl⟩ (.cons ⟨by kernel_rfl, by kernel_rfl⟩ (.cons ⟨by kernel_rfl, by kernel_rfl⟩ (.cons ⟨by kernel_rfl, by kernel_rfl⟩ (.cons ⟨by kernel_rfl, by kernel_rfl⟩ (.cons ⟨by kernel_rfl, by kernel_rfl⟩ (.cons ⟨by kernel_rfl, by kernel_rfl⟩ (.cons ⟨by kernel_rfl, by kernel_rfl⟩ (.cons ⟨by kernel_rfl, by kernel_rfl⟩ (.cons ⟨by kernel_rfl, by kernel_rfl⟩ (.cons ⟨by kernel_rfl, by kernel_rfl⟩ (.cons ⟨by kernel_rfl, by kernel_rfl⟩ (.cons ⟨by kernel_rfl, by kernel_rfl⟩ (.cons ⟨by kernel_rfl, by kernel_rfl⟩ (.cons ⟨by kernel_rfl, by kernel_rfl⟩ (.cons ⟨by kernel_rfl, by kernel_rfl⟩ (.cons ⟨by kernel_rfl, by kernel_rfl⟩ (.cons ⟨by kernel_rfl, by kernel_rfl⟩ (.cons ⟨by kernel_rfl, by kernel_rfl⟩ (.cons ⟨by kernel_rfl, by kernel_rfl⟩ (.cons ⟨by kernel_rfl, by kernel_rfl⟩ (.cons ⟨by kernel_rfl, by kernel_rfl⟩ (.nil))))))))))))))))))))))))))
noncomputable def SX : Sx := ⟨Try.prog, sxTab, sxT, by kernel_rfl, [], [29, 31, 33, 34, 54, 80], by kernel_rfl, [2, 3, 4, 5, 6, 7, 8, 9, 10, 11, 12, 13, 14, 15, 16, 17, 18, 19, 20, 21, 22, 23, 24, 25, 26, 27, 28, 29, 30, 31, 32, 33, 34, 35, 36, 37, 38, 39, 40, 41, 42, 43, 44, 45, 46, 47, 48, 49, 50, 51, 52, 53, 54, 55, 56, 57, 58, 59, 60, 61, 62, 63, 64, 65, 66, 67, 68, 69, 70, 71, 72, 73, 74, 75, 76, 77, 78, 79, 80, 81, 82, 83, 84, 85, 86, 88, 89, 90, 91, 92, 93, 94, 95, 96, 97, 98, 99, 100, 101, 102, 103, 104], by kernel_rfl⟩
end Go.Proofs.Ytdififdnnpgjoaa
