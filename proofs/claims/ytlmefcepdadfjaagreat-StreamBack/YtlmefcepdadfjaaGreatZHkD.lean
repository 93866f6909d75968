/- Texts of this claim, one behind the other. -/
import Derived.Test.YtlmefcepdadfjaaGreatProg
import Derived.KernelRfl
import Derived.Test.YtlmefcepdadfjaaGreatZSxM
import Derived.Laws.BitsAllLaws
import Derived.Test.YtlmefcepdadfjaaGreatZGen
import Derived.Shelf.Strings.Builder1
import Derived.Shelf.Strings.Builder2
import Derived.Shelf.Small.Bits
import Derived.Shelf.Strings.BuilderF
import Derived.Shelf.Strings.BuilderK
import Derived.Shelf.Strings.Builder2Cap
import Derived.Shelf.Strconv.Itoa0
import Derived.Shelf.Strings.Prefix
import Derived.Shelf.Bits.Mul64
import Derived.Shelf.Strings.Repeat
import Derived.Shelf.Strings.BuilderCap
import Derived.Ground.Names2Prog
import Derived.Shelf.Slices.Clone
import Derived.Lib.BytesEntry
import Derived.Laws.Externs
/- The types and functions of this translation, for the symbolic walk. -/
namespace Go.Proofs.YtlmefcepdadfjaaGreat
open Go.RowKit

def sxTab : List (Nat × TInf) := [
  (3, ⟨(.int .i64), 1, 8, (Value.int IntKind.i64 0)⟩),
  (4, ⟨.bool, 1, 1, (Value.bool false)⟩),
  (5, ⟨(.int .u8), 1, 1, (Value.int IntKind.u8 0)⟩),
  (9, ⟨.string, 1, 16, (Value.string { data := #[] })⟩),
  (23, ⟨(.struct [(0, 3), (1, 3), (2, 3), (3, 3), (4, 3), (5, 3), (6, 3), (7, 3), (8, 3), (9, 3), (10, 3), (11, 3), (12, 3)]), 13, 104, (Value.agg #[(Value.int IntKind.i64 0), (Value.int IntKind.i64 0), (Value.int IntKind.i64 0), (Value.int IntKind.i64 0), (Value.int IntKind.i64 0), (Value.int IntKind.i64 0), (Value.int IntKind.i64 0), (Value.int IntKind.i64 0), (Value.int IntKind.i64 0), (Value.int IntKind.i64 0), (Value.int IntKind.i64 0), (Value.int IntKind.i64 0), (Value.int IntKind.i64 0)])⟩),
  (24, ⟨(.int .u32), 1, 4, (Value.int IntKind.u32 0)⟩),
  (25, ⟨(.slice 88), 1, 24, (Value.slice none 0 0)⟩),
  (26, ⟨(.slice 9), 1, 24, (Value.slice none 0 0)⟩),
  (28, ⟨(.struct [(0, 23), (13, 24), (14, 24), (15, 25), (16, 26)]), 17, 160, (Value.agg #[(Value.int IntKind.i64 0), (Value.int IntKind.i64 0), (Value.int IntKind.i64 0), (Value.int IntKind.i64 0), (Value.int IntKind.i64 0), (Value.int IntKind.i64 0), (Value.int IntKind.i64 0), (Value.int IntKind.i64 0), (Value.int IntKind.i64 0), (Value.int IntKind.i64 0), (Value.int IntKind.i64 0), (Value.int IntKind.i64 0), (Value.int IntKind.i64 0), (Value.int IntKind.u32 0), (Value.int IntKind.u32 0), (Value.slice none 0 0), (Value.slice none 0 0)])⟩),
  (32, ⟨(.slice 92), 1, 24, (Value.slice none 0 0)⟩),
  (33, ⟨.other, 1, 8, (Value.pointer none)⟩),
  (34, ⟨(.slice 24), 1, 24, (Value.slice none 0 0)⟩),
  (36, ⟨(.struct [(0, 32), (1, 33), (2, 34), (3, 3)]), 4, 64, (Value.agg #[(Value.slice none 0 0), (Value.pointer none), (Value.slice none 0 0), (Value.int IntKind.i64 0)])⟩),
  (39, ⟨.other, 1, 8, Value.nilFunc⟩),
  (41, ⟨.other, 1, 8, Value.nilFunc⟩),
  (44, ⟨.other, 1, 8, (Value.pointer none)⟩),
  (45, ⟨(.int .i64), 1, 8, (Value.int IntKind.i64 0)⟩),
  (49, ⟨(.slice 67), 1, 24, (Value.slice none 0 0)⟩),
  (50, ⟨(.slice 60), 1, 24, (Value.slice none 0 0)⟩),
  (52, ⟨(.struct [(0, 49), (1, 50), (2, 3), (3, 3), (4, 3)]), 5, 72, (Value.agg #[(Value.slice none 0 0), (Value.slice none 0 0), (Value.int IntKind.i64 0), (Value.int IntKind.i64 0), (Value.int IntKind.i64 0)])⟩),
  (55, ⟨.other, 1, 8, (Value.pointer none)⟩),
  (56, ⟨(.slice 61), 1, 24, (Value.slice none 0 0)⟩),
  (58, ⟨(.struct [(0, 49), (1, 56), (2, 26)]), 3, 72, (Value.agg #[(Value.slice none 0 0), (Value.slice none 0 0), (Value.slice none 0 0)])⟩),
  (60, ⟨(.struct [(0, 24), (1, 26)]), 2, 32, (Value.agg #[(Value.int IntKind.u32 0), (Value.slice none 0 0)])⟩),
  (61, ⟨(.struct [(0, 24), (1, 26)]), 2, 32, (Value.agg #[(Value.int IntKind.u32 0), (Value.slice none 0 0)])⟩),
  (63, ⟨(.slice 109), 1, 24, (Value.slice none 0 0)⟩),
  (65, ⟨(.slice 71), 1, 24, (Value.slice none 0 0)⟩),
  (67, ⟨(.struct [(0, 24), (1, 65)]), 2, 32, (Value.agg #[(Value.int IntKind.u32 0), (Value.slice none 0 0)])⟩),
  (69, ⟨(.array 32 5), 32, 32, (Value.agg #[(Value.int IntKind.u8 0), (Value.int IntKind.u8 0), (Value.int IntKind.u8 0), (Value.int IntKind.u8 0), (Value.int IntKind.u8 0), (Value.int IntKind.u8 0), (Value.int IntKind.u8 0), (Value.int IntKind.u8 0), (Value.int IntKind.u8 0), (Value.int IntKind.u8 0), (Value.int IntKind.u8 0), (Value.int IntKind.u8 0), (Value.int IntKind.u8 0), (Value.int IntKind.u8 0), (Value.int IntKind.u8 0), (Value.int IntKind.u8 0), (Value.int IntKind.u8 0), (Value.int IntKind.u8 0), (Value.int IntKind.u8 0), (Value.int IntKind.u8 0), (Value.int IntKind.u8 0), (Value.int IntKind.u8 0), (Value.int IntKind.u8 0), (Value.int IntKind.u8 0), (Value.int IntKind.u8 0), (Value.int IntKind.u8 0), (Value.int IntKind.u8 0), (Value.int IntKind.u8 0), (Value.int IntKind.u8 0), (Value.int IntKind.u8 0), (Value.int IntKind.u8 0), (Value.int IntKind.u8 0)])⟩),
  (71, ⟨(.struct [(0, 69), (32, 3), (33, 24), (34, 3)]), 35, 56, (Value.agg #[(Value.int IntKind.u8 0), (Value.int IntKind.u8 0), (Value.int IntKind.u8 0), (Value.int IntKind.u8 0), (Value.int IntKind.u8 0), (Value.int IntKind.u8 0), (Value.int IntKind.u8 0), (Value.int IntKind.u8 0), (Value.int IntKind.u8 0), (Value.int IntKind.u8 0), (Value.int IntKind.u8 0), (Value.int IntKind.u8 0), (Value.int IntKind.u8 0), (Value.int IntKind.u8 0), (Value.int IntKind.u8 0), (Value.int IntKind.u8 0), (Value.int IntKind.u8 0), (Value.int IntKind.u8 0), (Value.int IntKind.u8 0), (Value.int IntKind.u8 0), (Value.int IntKind.u8 0), (Value.int IntKind.u8 0), (Value.int IntKind.u8 0), (Value.int IntKind.u8 0), (Value.int IntKind.u8 0), (Value.int IntKind.u8 0), (Value.int IntKind.u8 0), (Value.int IntKind.u8 0), (Value.int IntKind.u8 0), (Value.int IntKind.u8 0), (Value.int IntKind.u8 0), (Value.int IntKind.u8 0), (Value.int IntKind.i64 0), (Value.int IntKind.u32 0), (Value.int IntKind.i64 0)])⟩),
  (84, ⟨(.slice 5), 1, 24, (Value.slice none 0 0)⟩),
  (88, ⟨(.slice 90), 1, 24, (Value.slice none 0 0)⟩),
  (90, ⟨(.struct [(0, 9), (1, 5), (2, 5), (3, 4), (4, 4)]), 5, 24, (Value.agg #[(Value.string { data := #[] }), (Value.int IntKind.u8 0), (Value.int IntKind.u8 0), (Value.bool false), (Value.bool false)])⟩),
  (92, ⟨(.slice 94), 1, 24, (Value.slice none 0 0)⟩),
  (94, ⟨(.struct [(0, 71), (35, 4), (36, 9)]), 37, 80, (Value.agg #[(Value.int IntKind.u8 0), (Value.int IntKind.u8 0), (Value.int IntKind.u8 0), (Value.int IntKind.u8 0), (Value.int IntKind.u8 0), (Value.int IntKind.u8 0), (Value.int IntKind.u8 0), (Value.int IntKind.u8 0), (Value.int IntKind.u8 0), (Value.int IntKind.u8 0), (Value.int IntKind.u8 0), (Value.int IntKind.u8 0), (Value.int IntKind.u8 0), (Value.int IntKind.u8 0), (Value.int IntKind.u8 0), (Value.int IntKind.u8 0), (Value.int IntKind.u8 0), (Value.int IntKind.u8 0), (Value.int IntKind.u8 0), (Value.int IntKind.u8 0), (Value.int IntKind.u8 0), (Value.int IntKind.u8 0), (Value.int IntKind.u8 0), (Value.int IntKind.u8 0), (Value.int IntKind.u8 0), (Value.int IntKind.u8 0), (Value.int IntKind.u8 0), (Value.int IntKind.u8 0), (Value.int IntKind.u8 0), (Value.int IntKind.u8 0), (Value.int IntKind.u8 0), (Value.int IntKind.u8 0), (Value.int IntKind.i64 0), (Value.int IntKind.u32 0), (Value.int IntKind.i64 0), (Value.bool false), (Value.string { data := #[] })])⟩),
  (95, ⟨(.slice 69), 1, 24, (Value.slice none 0 0)⟩),
  (98, ⟨(.struct [(0, 24), (1, 24), (2, 49), (3, 50), (4, 3), (5, 3)]), 6, 72, (Value.agg #[(Value.int IntKind.u32 0), (Value.int IntKind.u32 0), (Value.slice none 0 0), (Value.slice none 0 0), (Value.int IntKind.i64 0), (Value.int IntKind.i64 0)])⟩),
  (99, ⟨.other, 1, 16, (Value.complex FloatKind.f64 0 0)⟩),
  (101, ⟨(.struct [(0, 98), (6, 23), (19, 39), (20, 41), (21, 9), (22, 26), (23, 95), (24, 99), (25, 3)]), 26, 280, (Value.agg #[(Value.int IntKind.u32 0), (Value.int IntKind.u32 0), (Value.slice none 0 0), (Value.slice none 0 0), (Value.int IntKind.i64 0), (Value.int IntKind.i64 0), (Value.int IntKind.i64 0), (Value.int IntKind.i64 0), (Value.int IntKind.i64 0), (Value.int IntKind.i64 0), (Value.int IntKind.i64 0), (Value.int IntKind.i64 0), (Value.int IntKind.i64 0), (Value.int IntKind.i64 0), (Value.int IntKind.i64 0), (Value.int IntKind.i64 0), (Value.int IntKind.i64 0), (Value.int IntKind.i64 0), (Value.int IntKind.i64 0), Value.nilFunc, Value.nilFunc, (Value.string { data := #[] }), (Value.slice none 0 0), (Value.slice none 0 0), (Value.complex FloatKind.f64 0 0), (Value.int IntKind.i64 0)])⟩),
  (103, ⟨.other, 1, 8, Value.nilFunc⟩),
  (109, ⟨(.struct [(0, 24), (1, 3)]), 2, 16, (Value.agg #[(Value.int IntKind.u32 0), (Value.int IntKind.i64 0)])⟩),
  (114, ⟨(.int .u64), 1, 8, (Value.int IntKind.u64 0)⟩),
  (119, ⟨(.int .u64), 1, 8, (Value.int IntKind.u64 0)⟩),
  (127, ⟨.other, 1, 8, (Value.pointer none)⟩),
  (132, ⟨(.slice 135), 1, 24, (Value.slice none 0 0)⟩),
  (135, ⟨(.struct [(0, 3), (1, 3)]), 2, 16, (Value.agg #[(Value.int IntKind.i64 0), (Value.int IntKind.i64 0)])⟩),
  (138, ⟨.other, 1, 8, (Value.float FloatKind.f64 0)⟩),
  (142, ⟨.other, 1, 8, Value.nilFunc⟩),
  (145, ⟨(.slice 147), 1, 24, (Value.slice none 0 0)⟩),
  (147, ⟨(.struct [(0, 3), (1, 3)]), 2, 16, (Value.agg #[(Value.int IntKind.i64 0), (Value.int IntKind.i64 0)])⟩),
  (149, ⟨(.slice 34), 1, 24, (Value.slice none 0 0)⟩),
  (156, ⟨.other, 1, 8, (Value.pointer none)⟩),
  (159, ⟨.other, 1, 8, (Value.pointer none)⟩),
  (161, ⟨(.struct [(0, 23), (13, 159), (14, 9), (15, 3), (16, 3)]), 17, 144, (Value.agg #[(Value.int IntKind.i64 0), (Value.int IntKind.i64 0), (Value.int IntKind.i64 0), (Value.int IntKind.i64 0), (Value.int IntKind.i64 0), (Value.int IntKind.i64 0), (Value.int IntKind.i64 0), (Value.int IntKind.i64 0), (Value.int IntKind.i64 0), (Value.int IntKind.i64 0), (Value.int IntKind.i64 0), (Value.int IntKind.i64 0), (Value.int IntKind.i64 0), (Value.pointer none), (Value.string { data := #[] }), (Value.int IntKind.i64 0), (Value.int IntKind.i64 0)])⟩),
  (163, ⟨.other, 1, 8, Value.nilFunc⟩),
  (165, ⟨.other, 1, 8, Value.nilFunc⟩),
  (169, ⟨.other, 1, 8, (Value.map none)⟩),
  (170, ⟨(.slice 3), 1, 24, (Value.slice none 0 0)⟩),
  (180, ⟨(.struct [(0, 69), (32, 34)]), 33, 56, (Value.agg #[(Value.int IntKind.u8 0), (Value.int IntKind.u8 0), (Value.int IntKind.u8 0), (Value.int IntKind.u8 0), (Value.int IntKind.u8 0), (Value.int IntKind.u8 0), (Value.int IntKind.u8 0), (Value.int IntKind.u8 0), (Value.int IntKind.u8 0), (Value.int IntKind.u8 0), (Value.int IntKind.u8 0), (Value.int IntKind.u8 0), (Value.int IntKind.u8 0), (Value.int IntKind.u8 0), (Value.int IntKind.u8 0), (Value.int IntKind.u8 0), (Value.int IntKind.u8 0), (Value.int IntKind.u8 0), (Value.int IntKind.u8 0), (Value.int IntKind.u8 0), (Value.int IntKind.u8 0), (Value.int IntKind.u8 0), (Value.int IntKind.u8 0), (Value.int IntKind.u8 0), (Value.int IntKind.u8 0), (Value.int IntKind.u8 0), (Value.int IntKind.u8 0), (Value.int IntKind.u8 0), (Value.int IntKind.u8 0), (Value.int IntKind.u8 0), (Value.int IntKind.u8 0), (Value.int IntKind.u8 0), (Value.slice none 0 0)])⟩),
  (181, ⟨(.slice 180), 1, 24, (Value.slice none 0 0)⟩),
  (183, ⟨(.struct [(0, 3), (1, 3), (2, 181)]), 3, 40, (Value.agg #[(Value.int IntKind.i64 0), (Value.int IntKind.i64 0), (Value.slice none 0 0)])⟩),
  (190, ⟨.other, 1, 8, (Value.pointer none)⟩),
  (194, ⟨.other, 1, 8, Value.nilFunc⟩),
  (196, ⟨.other, 1, 8, Value.nilFunc⟩),
  (202, ⟨(.array 16 5), 16, 16, (Value.agg #[(Value.int IntKind.u8 0), (Value.int IntKind.u8 0), (Value.int IntKind.u8 0), (Value.int IntKind.u8 0), (Value.int IntKind.u8 0), (Value.int IntKind.u8 0), (Value.int IntKind.u8 0), (Value.int IntKind.u8 0), (Value.int IntKind.u8 0), (Value.int IntKind.u8 0), (Value.int IntKind.u8 0), (Value.int IntKind.u8 0), (Value.int IntKind.u8 0), (Value.int IntKind.u8 0), (Value.int IntKind.u8 0), (Value.int IntKind.u8 0)])⟩),
  (204, ⟨(.struct [(0, 202), (16, 3), (17, 119)]), 18, 32, (Value.agg #[(Value.int IntKind.u8 0), (Value.int IntKind.u8 0), (Value.int IntKind.u8 0), (Value.int IntKind.u8 0), (Value.int IntKind.u8 0), (Value.int IntKind.u8 0), (Value.int IntKind.u8 0), (Value.int IntKind.u8 0), (Value.int IntKind.u8 0), (Value.int IntKind.u8 0), (Value.int IntKind.u8 0), (Value.int IntKind.u8 0), (Value.int IntKind.u8 0), (Value.int IntKind.u8 0), (Value.int IntKind.u8 0), (Value.int IntKind.u8 0), (Value.int IntKind.i64 0), (Value.int IntKind.u64 0)])⟩),
  (206, ⟨(.array 8 24), 8, 32, (Value.agg #[(Value.int IntKind.u32 0), (Value.int IntKind.u32 0), (Value.int IntKind.u32 0), (Value.int IntKind.u32 0), (Value.int IntKind.u32 0), (Value.int IntKind.u32 0), (Value.int IntKind.u32 0), (Value.int IntKind.u32 0)])⟩),
  (209, ⟨(.struct [(0, 206), (8, 9), (9, 3), (10, 103)]), 11, 64, (Value.agg #[(Value.int IntKind.u32 0), (Value.int IntKind.u32 0), (Value.int IntKind.u32 0), (Value.int IntKind.u32 0), (Value.int IntKind.u32 0), (Value.int IntKind.u32 0), (Value.int IntKind.u32 0), (Value.int IntKind.u32 0), (Value.string { data := #[] }), (Value.int IntKind.i64 0), Value.nilFunc])⟩),
  (232, ⟨(.array 64 24), 64, 256, (Value.agg #[(Value.int IntKind.u32 0), (Value.int IntKind.u32 0), (Value.int IntKind.u32 0), (Value.int IntKind.u32 0), (Value.int IntKind.u32 0), (Value.int IntKind.u32 0), (Value.int IntKind.u32 0), (Value.int IntKind.u32 0), (Value.int IntKind.u32 0), (Value.int IntKind.u32 0), (Value.int IntKind.u32 0), (Value.int IntKind.u32 0), (Value.int IntKind.u32 0), (Value.int IntKind.u32 0), (Value.int IntKind.u32 0), (Value.int IntKind.u32 0), (Value.int IntKind.u32 0), (Value.int IntKind.u32 0), (Value.int IntKind.u32 0), (Value.int IntKind.u32 0), (Value.int IntKind.u32 0), (Value.int IntKind.u32 0), (Value.int IntKind.u32 0), (Value.int IntKind.u32 0), (Value.int IntKind.u32 0), (Value.int IntKind.u32 0), (Value.int IntKind.u32 0), (Value.int IntKind.u32 0), (Value.int IntKind.u32 0), (Value.int IntKind.u32 0), (Value.int IntKind.u32 0), (Value.int IntKind.u32 0), (Value.int IntKind.u32 0), (Value.int IntKind.u32 0), (Value.int IntKind.u32 0), (Value.int IntKind.u32 0), (Value.int IntKind.u32 0), (Value.int IntKind.u32 0), (Value.int IntKind.u32 0), (Value.int IntKind.u32 0), (Value.int IntKind.u32 0), (Value.int IntKind.u32 0), (Value.int IntKind.u32 0), (Value.int IntKind.u32 0), (Value.int IntKind.u32 0), (Value.int IntKind.u32 0), (Value.int IntKind.u32 0), (Value.int IntKind.u32 0), (Value.int IntKind.u32 0), (Value.int IntKind.u32 0), (Value.int IntKind.u32 0), (Value.int IntKind.u32 0), (Value.int IntKind.u32 0), (Value.int IntKind.u32 0), (Value.int IntKind.u32 0), (Value.int IntKind.u32 0), (Value.int IntKind.u32 0), (Value.int IntKind.u32 0), (Value.int IntKind.u32 0), (Value.int IntKind.u32 0), (Value.int IntKind.u32 0), (Value.int IntKind.u32 0), (Value.int IntKind.u32 0), (Value.int IntKind.u32 0)])⟩),
  (239, ⟨.other, 1, 8, (Value.pointer none)⟩),
  (241, ⟨(.struct [(0, 239), (1, 84)]), 2, 32, (Value.agg #[(Value.pointer none), (Value.slice none 0 0)])⟩),
  (243, ⟨.other, 1, 16, Value.nilIface⟩),
  (256, ⟨.other, 1, 8, (Value.pointer none)⟩),
  (259, ⟨.other, 1, 8, (Value.pointer none)⟩)]
theorem sxT (t : Nat) (i : TInf) (h : tl sxTab t = some i) : (Tryz.prog.underlying t).map tdOf = some i.d ∧ (Tryz.prog.info? t).map (fun x => (x.zero, x.size, x.bytes)) = some (some i.zero, i.size, i.bytes) := by
  refine tl_all (Q := fun t i => (Tryz.prog.underlying t).map tdOf = some i.d ∧ (Tryz.prog.info? t).map (fun x => (x.zero, x.size, x.bytes)) = some (some i.zero, i.size, i.bytes)) ?_ t i h
  refine .cons ⟨by kernel_rfl, by kernel_rfl⟩ (.cons ⟨by kernel_rfl, by kernel_rfl⟩ (.cons ⟨by kernel_rfl, by kernel_rfl⟩ (.cons ⟨by kernel_rfl, by kernel_rfl⟩ (.cons ⟨by kernel_rfl, by kernel_rfl⟩ (.cons ⟨by kernel_rfl, by kernel_rfl⟩ (.cons ⟨by kernel_rfl, by kernel_rfl⟩ (.cons ⟨by kernel_rfl, by kernel_rfl⟩ (.cons ⟨by kernel_rfl, by kernel_rfl⟩ (.cons ⟨by kernel_rfl, by kernel_rfl⟩ (.cons ⟨by kernel_rfl, by kernel_rfl⟩ (.cons ⟨by kernel_rfl, by kernel_rfl⟩ (.cons ⟨by kernel_rfl, by kernel_rfl⟩ (.cons ⟨by kernel_rfl, by kernel_rfl⟩ (.cons ⟨by kernel_rfl, by kernel_rfl⟩ (.cons ⟨by kernel_rfl, by kernel_rfl⟩ (.cons ⟨by kernel_rfl, by kernel_rfl⟩ (.cons ⟨by kernel_rfl, by kernel_rfl⟩ (.cons ⟨by kernel_rfl, by kernel_rfl⟩ (.cons ⟨by kernel_rfl, by kernel_rfl⟩ (.cons ⟨by kernel_rfl, by kernel_rfl⟩ (.cons ⟨by kernel_rfl, by kernel_rfl⟩ (.cons ⟨by kernel_rfl, by kernel_rfl⟩ (.cons ⟨by kernel_rfl, by kernel_rfl⟩ (.cons ⟨by kernel_rfl, by kernel_rfl⟩ (.cons ⟨by kernel_rfl, by kernel_rfl⟩ (.cons ⟨by kernel_rfl, by kernel_rfl⟩ (.cons ⟨by kernel_rfl, by kernel_rfl⟩ (.cons ⟨by kernel_rfl, by kernel_rfl⟩ (.cons ⟨by kernel_rfl, by kernel_rfl⟩ (.cons ⟨by kernel_rfl, by kernel_rfl⟩ (.cons ⟨by kernel_rfl, by kernel_rfl⟩ (.cons ⟨by kernel_rfl, by kernel_rfl⟩ (.cons ⟨by kernel_rfl, by kernel_rfl⟩ (.cons ⟨by kernel_rfl, by kernel_rfl⟩ (.cons ⟨by kernel_rfl, by kernel_rfl⟩ (.cons ⟨by kernel_rfl, by kernel_rfl⟩ (.cons ⟨by kernel_rfl, by kernel_rfl⟩ (.cons ⟨by kernel_rfl, by kernel_rfl⟩ (.cons ⟨by kernel_rfl, by kernel_rfl⟩ (.cons ⟨by kernel_rfl, by kernel_rfl⟩ (.cons ⟨by kernel_rfl, by kernel_rfl⟩ (.cons ⟨by kernel_rfl, by kernel_rfl⟩ (.cons ⟨by kernel_rfl, by kernel_rfl⟩ (.cons ⟨by kernel_rfl, by kernel_rfl⟩ (.cons ⟨by kernel_rfl, by kernel_rfl⟩ (.cons ⟨by kernel_rfl, by kernel_rfl⟩ (.cons ⟨by kernel_rfl, by kernel_rfl⟩ (.cons ⟨by kernel_rfl, by kernel_rfl⟩ (.cons ⟨by kernel_rfl, by kernel_rfl⟩ (.cons ⟨by kernel_rfl, by kernel_rfl⟩ (.cons ⟨by kernel_rfl, by kernel_rfl⟩ (.cons ⟨by kernel_rfl, by kernel_rfl⟩ (.cons ⟨by kernel_rfl, by kernel_rfl⟩ (.cons ⟨by kernel_rfl, by kernel_rfl⟩ (.cons ⟨by kernel_rfl, by kernel_rfl⟩ (.cons ⟨by kernel_rfl, by kernel_rfl⟩ (.cons ⟨by kernel_rfl, by kernel_rfl⟩ (.cons ⟨by kernel_rfl, by kernel_rfl⟩ (.cons ⟨by kernel_rfl, by kernel_rfl⟩ (.cons ⟨by kernel_rfl, by kernel_rfl⟩ (.cons ⟨by kernel_rfl, by kernel_rfl⟩ (.cons ⟨by kernel_rfl, by kernel_rfl⟩ (.cons ⟨by kernel_rfl, by kernel_rfl⟩ (.cons ⟨by kernel_rfl, by kernel_rfl⟩ (.cons ⟨by kernel_rfl, by kernel_rfl⟩ (.cons ⟨by kernel_rfl, by kernel_rfl⟩ (.cons ⟨by kernel_rfl, by kernel_rfl⟩ (.cons ⟨by kernel_rfl, by kernel_rfl⟩ (.cons ⟨by kernel_rfl, by kernel_rfl⟩ (.cons ⟨by kernel_rfl, by kernel_rfl⟩ (.cons ⟨by kernel_rfl, by kernel_rfl⟩ (.cons ⟨by kernel_rfl, by kernel_rfl⟩ (.cons ⟨by kernel_rfl, by kernel_rfl⟩ (.nil))))))))))))))))))))))))))))))))))))))))))))))))))))))))))))))))))))))))))
noncomputable def SX : Sx := ⟨Tryz.prog, sxTab, sxT, by kernel_rfl, [241], [23, 69, 71, 90, 94, 109, 135, 147, 202, 204, 206, 232], by kernel_rfl, [2, 3, 4, 5, 6, 7, 8, 9, 10, 11, 12, 13, 14, 15, 16, 17, 18, 19, 20, 21, 22, 23, 24, 25, 26, 27, 28, 29, 30, 31, 32, 33, 34, 35, 36, 37, 38, 39, 40, 41, 42, 43, 44, 45, 46, 47, 48, 49, 50, 51, 52, 53, 54, 55, 56, 57, 58, 59, 60, 61, 62, 63, 64, 65, 66, 67, 68, 69, 70, 71, 72, 73, 74, 75, 76, 77, 78, 79, 80, 81, 82, 83, 84, 85, 86, 87, 88, 89, 90, 91, 92, 93, 94, 95, 96, 97, 98, 99, 100, 101, 102, 103, 104, 105, 106, 107, 108, 109, 110, 111, 112, 113, 114, 115, 116, 117, 118, 119, 120, 121, 122, 123, 124, 125, 126, 127, 128, 129, 130, 131, 132, 133, 134, 135, 136, 137, 138, 139, 140, 141, 142, 143, 144, 145, 146, 147, 148, 149, 150, 151, 152, 153, 154, 155, 156, 157, 158, 160, 161, 162, 163, 164, 165, 166, 167, 168, 169, 170, 171, 172, 173, 174, 175, 176, 177, 178, 179, 180], by kernel_rfl⟩
end Go.Proofs.YtlmefcepdadfjaaGreat
/- Fingerprints: 32 bytes; bits. -/
namespace Go.Proofs.YtlmefcepdadfjaaGreat
open Go.RowKit

def bV (b : UInt8) : Value := .int .u8 (b.toNat : Int)
def fpC (f : List UInt8) : List Value := f.map bV
def fpV (f : List UInt8) : Value := .agg (fpC f).toArray
theorem mkh_size (l : List UInt8) : (⟨l.toArray⟩ : ByteArray).size = l.length := by simp [ByteArray.size]
theorem fpC_get {f : List UInt8} {i : Nat} (h : i < f.length) : (fpC f)[i]? = some (bV (f.getD i 0)) := by
  unfold fpC
  rw [List.getElem?_map, List.getD_eq_getElem?_getD, List.getElem?_eq_getElem h]
  rfl
theorem fpC_len (f : List UInt8) : (fpC f).length = f.length := List.length_map ..
theorem getD_lt (f : List UInt8) (i : Nat) : (f.getD i 0).toNat < 256 := (f.getD i 0).toNat_lt
theorem take_succD {f : List UInt8} {i : Nat} (h : i < f.length) : f.take (i + 1) = f.take i ++ [f.getD i 0] := by
  rw [List.take_add_one, List.getD_eq_getElem?_getD, List.getElem?_eq_getElem h]; rfl
theorem bitI_or32 (a y : Nat) (ha : a < 4294967296) (h8 : a % 256 = 0) (hy : y < 256) : bitI .or .u32 (a : Nat) (y : Nat) = ((a + y : Nat) : Int) := by
  have h : a ||| y = a + y := by
    have := Nat.two_pow_add_eq_or_of_lt (i := 8) hy (a / 256)
    rw [show 2 ^ 8 * (a / 256) = a by omega] at this
    exact this.symm
  have h2 := u32_or_nat a y ha (by omega)
  rw [h] at h2
  exact h2
def beV (l : List UInt8) : Nat := l.foldl (fun n b => n * 256 + b.toNat) 0
theorem beV_snoc (l : List UInt8) (b : UInt8) : beV (l ++ [b]) = beV l * 256 + b.toNat := by simp [beV, List.foldl_append]
theorem beV_lt : ∀ (k : Nat) (f : List UInt8), beV (f.take k) < 256 ^ k
  | 0, f => by simp [beV]
  | k + 1, f => by
    have ih := beV_lt k f
    by_cases h : k < f.length
    · rw [take_succD h, beV_snoc, Nat.pow_succ]
      have := getD_lt f k
      omega
    · rw [List.take_of_length_le (by omega)]
      rw [List.take_of_length_le (by omega)] at ih
      rw [Nat.pow_succ]; omega
theorem Num_any (f : List UInt8) (hf : f.length = 32) (w : World) : Calls Tryz.prog 120 #[fpV f] w fun e w' => e = .returned (.int .u32 (beV (f.take 4) : Nat)) ∧ Below w.heap.size w w' := by
  refine sx_fn (S := SX) (M := []) (N := 19) (H0 := []) Tryz.func120 rfl rfl rfl (Sat.nil _ _) ?_
  ((try refine sU ?_);repeat(refine sN fun _=>?_;try refine sU ?_))
  rename_i b
  refine SxBnd.mk 0 4 rfl rfl (by omega) (by omega) fun off' ho => ?_
  obtain rfl : off' = 0 := ho (by omega)
  ((try refine sU ?_);repeat(refine sN fun _=>?_;try refine sU ?_))
  refine SxCode.loop (σ := Nat) [8, 3] [9, 10, 11, 5, 12, 13, 14, 15, 16, 3, 17, 8] (fun k => [.int .i64 (k : Nat), .int .u32 (beV (f.take k) : Nat)]) (fun _ => [.blk b 69 (fpC f)]) (fun k => k ≤ 4) (fun k => 4 - k) 0 [0] rfl rfl rfl rfl (Nat.zero_le _) ?_
  rintro k hk
  dsimp only
  ((try refine sU ?_);repeat(refine sN fun _=>?_;try refine sU ?_))
  refine SxIf.dec (fun h => ?_) (fun h => ?_)
  · have hlt : k < 4 := by omega
    have hb := beV_lt k f
    have hp : 256 ^ k ≤ 256 ^ 3 := Nat.pow_le_pow_right (by omega) (by omega)
    have hg := getD_lt f k
    have hs := beV_snoc (f.take k) (f.getD k 0)
    rw [← take_succD (by omega)] at hs
    ((try refine sU ?_);repeat(refine sN fun _=>?_;try refine sU ?_))
    refine SxIA.ptr b 0 rfl k rfl hlt ?_
    ((try refine sU ?_);repeat(refine sN fun _=>?_;try refine sU ?_))
    refine SxLd.blk 0 rfl (v := bV (f.getD k 0)) (by rw [Nat.zero_add, Nat.mul_one]; exact fpC_get (by omega)) ?_
    ((try refine sU ?_);repeat(refine sN fun _=>?_;try refine sU ?_))
    refine SxQ.shl 256 (by decide) ?_
    ((try refine sU ?_);repeat(refine sN fun _=>?_;try refine sU ?_))
    have e : ((beV (f.take (k + 1)) : Nat) : Int) = bitI .or .u32 ((beV (f.take k) : Nat) * 256) ((f.getD k 0).toNat : Nat) := by
      rw [show ((beV (f.take k) : Nat) : Int) * 256 = ((beV (f.take k) * 256 : Nat) : Int) by omega, bitI_or32 _ _ (by omega) (by omega) hg, hs]
    refine SxRng.u32 (by omega) (by omega) ?_
    ((try refine sU ?_);repeat(refine sN fun _=>?_;try refine sU ?_))
    refine SxRng.u32 (by omega) (by omega) ?_
    ((try refine sU ?_);repeat(refine sN fun _=>?_;try refine sU ?_))
    exact SxRound.mk (k + 1) [0] (by rw [e]; rfl) rfl rfl (by omega) (by omega)
  · obtain rfl : k = 4 := by omega
    ((try refine sU ?_);repeat(refine sN fun _=>?_;try refine sU ?_))
    exact SxDone.mk fun w' hs => ⟨rfl, hs.touch.below⟩
end Go.Proofs.YtlmefcepdadfjaaGreat
/-
  DERIVED: THE SHELF's CONTRACTS AT THIS DUMP, IN PLAIN WORDS (tools/lay-plain.mjs out of 'TryzShelf.lean', which tools/lay-shelf.mjs wrote): THE SAME DECLARATIONS UNDER THE SAME NAMES: 'import', 'namespace', 'open', 'def', 'theorem' AND NOTHING ELSE: no command of the shelf's: FOR A HAND-IN. Each laying: the table of numbers ('.._ren') and one theorem, a field a fact of the dump's own or the kernel's comparison; each contract: ONE APPLICATION.
-/
namespace Go.Proofs
open Go.Shelf
def Tryz.lays131_ren : Go.Shelf.Ren := ⟨fun | 131 => 141 | 126 => 148 | n => n, fun | 5 => 5 | 3 => 3 | 9 => 9 | n => n, fun | n => n⟩
theorem Tryz.lays131 : Go.Proofs.Lays.n131 Tryz.prog Tryz.lays131_ren := {
  mixed := by kernel_rfl
  f126 := Tryz.func148.trans (congrArg some (by kernel_rfl))
  f131 := Tryz.func141.trans (congrArg some (by kernel_rfl))
  t3 := Tryz.underlying3
  a3 := Tryz.isAgg3
  z3 := Tryz.sizeOf3
  v3 := Tryz.zeroValue3
  t5 := Tryz.underlying5
  a5 := Tryz.isAgg5
  z5 := Tryz.sizeOf5
  v5 := Tryz.zeroValue5
  t9 := Tryz.underlying9
  a9 := Tryz.isAgg9
  z9 := Tryz.sizeOf9
  v9 := Tryz.zeroValue9 }
theorem Tryz.bits_LeadingZeros8 (x : Int) (w : World) (h0 : 0 ≤ x) (h1 : x ≤ 255) :
    Calls Tryz.prog 141 #[.int .u8 x] w fun e w' => e = .returned (.int .i64 (8 - (Lib.bitLen x.toNat : Int))) ∧ w' = w := Any.bits_LeadingZeros8 Tryz.lays131 x w h0 h1
def Tryz.lays105_ren : Go.Shelf.Ren := ⟨fun | 105 => 147 | 212 => 163 | 99 => 164 | 165 => 165 | 166 => 166 | 170 => 167 | 169 => 168 | 263 => 175 | 264 => 176 | 206 => 177 | 240 => 178 | 241 => 179 | 276 => 181 | 277 => 182 | n => n, fun | 9 => 9 | 3 => 3 | 4 => 4 | 20 => 20 | 0 => 0 | 46 => 114 | 109 => 236 | 5 => 5 | 72 => 241 | 76 => 244 | 51 => 24 | 146 => 252 | 53 => 119 | 148 => 254 | 70 => 239 | 37 => 84 | 75 => 243 | 127 => 256 | 164 => 259 | 80 => 246 | n => n, fun | n => n⟩
theorem Tryz.lays105 : Go.Proofs.Lays.n105 Tryz.prog Tryz.lays105_ren := {
  mixed := by kernel_rfl
  f99 := Tryz.func164.trans (congrArg some (by kernel_rfl))
  f105 := Tryz.func147.trans (congrArg some (by kernel_rfl))
  f165 := Tryz.func165.trans (congrArg some (by kernel_rfl))
  f166 := Tryz.func166.trans (congrArg some (by kernel_rfl))
  f169 := Tryz.func168.trans (congrArg some (by kernel_rfl))
  f170 := Tryz.func167.trans (congrArg some (by kernel_rfl))
  f206 := Tryz.func177.trans (congrArg some (by kernel_rfl))
  f212 := Tryz.func163.trans (congrArg some (by kernel_rfl))
  f240 := Tryz.func178.trans (congrArg some (by kernel_rfl))
  f241 := Tryz.func179.trans (congrArg some (by kernel_rfl))
  f263 := Tryz.func175.trans (congrArg some (by kernel_rfl))
  f264 := Tryz.func176.trans (congrArg some (by kernel_rfl))
  f276 := Tryz.func181.trans (congrArg some (by kernel_rfl))
  f277 := Tryz.func182.trans (congrArg some (by kernel_rfl))
  t0 := Tryz.underlying0
  a0 := Tryz.isAgg0
  z0 := Tryz.sizeOf0
  v0 := Tryz.zeroValue0
  t3 := Tryz.underlying3
  a3 := Tryz.isAgg3
  z3 := Tryz.sizeOf3
  v3 := Tryz.zeroValue3
  t4 := Tryz.underlying4
  a4 := Tryz.isAgg4
  z4 := Tryz.sizeOf4
  v4 := Tryz.zeroValue4
  t5 := Tryz.underlying5
  a5 := Tryz.isAgg5
  z5 := Tryz.sizeOf5
  v5 := Tryz.zeroValue5
  t9 := Tryz.underlying9
  a9 := Tryz.isAgg9
  z9 := Tryz.sizeOf9
  v9 := Tryz.zeroValue9
  t20 := Tryz.underlying20
  a20 := Tryz.isAgg20
  z20 := Tryz.sizeOf20
  v20 := Tryz.zeroValue20
  t37 := Tryz.underlying84
  a37 := Tryz.isAgg84
  z37 := Tryz.sizeOf84
  v37 := Tryz.zeroValue84
  t46 := Tryz.underlying114
  a46 := Tryz.isAgg114
  z46 := Tryz.sizeOf114
  v46 := Tryz.zeroValue114
  t51 := Tryz.underlying24
  a51 := Tryz.isAgg24
  z51 := Tryz.sizeOf24
  v51 := Tryz.zeroValue24
  t53 := Tryz.underlying119
  a53 := Tryz.isAgg119
  z53 := Tryz.sizeOf119
  v53 := Tryz.zeroValue119
  t70 := Tryz.underlying239
  a70 := Tryz.isAgg239
  z70 := Tryz.sizeOf239
  v70 := Tryz.zeroValue239
  t72 := Tryz.underlying241
  a72 := Tryz.isAgg241
  z72 := Tryz.sizeOf241
  v72 := Tryz.zeroValue241
  t75 := Tryz.underlying243
  a75 := Tryz.isAgg243
  z75 := Tryz.sizeOf243
  v75 := Tryz.zeroValue243
  t76 := Tryz.underlying244
  a76 := Tryz.isAgg244
  z76 := Tryz.sizeOf244
  v76 := Tryz.zeroValue244
  t109 := Tryz.underlying236
  a109 := Tryz.isAgg236
  z109 := Tryz.sizeOf236
  v109 := Tryz.zeroValue236
  t127 := Tryz.underlying256
  a127 := Tryz.isAgg256
  z127 := Tryz.sizeOf256
  v127 := Tryz.zeroValue256
  t146 := Tryz.underlying252
  a146 := Tryz.isAgg252
  z146 := Tryz.sizeOf252
  v146 := Tryz.zeroValue252
  t148 := Tryz.underlying254
  a148 := Tryz.isAgg254
  z148 := Tryz.sizeOf254
  v148 := Tryz.zeroValue254
  t164 := Tryz.underlying259
  a164 := Tryz.isAgg259
  z164 := Tryz.sizeOf259
  v164 := Tryz.zeroValue259 }
theorem Tryz.Builder_Extra_105 : Builder.Extra Tryz.prog Tryz.lays105_ren := {
  sizeBuilder := by kernel_rfl
  liesBuilder := by kernel_rfl
  t5 := Tryz.underlying5
  a5 := Tryz.isAgg5
  z5 := Tryz.sizeOf5
  v5 := Tryz.zeroValue5
  infoByte := by kernel_rfl
  cellsByte := by kernel_rfl
  sizeByte := by kernel_rfl
  neB5 := by decide }
open Go.RowKit Go.Lib in
theorem Tryz.strings_Repeat (s : ByteArray) (c : Nat) (w : World) (hc : c ≤ 9223372036854775807) (hlen : s.size * c ≤ 140737488355328) :
    Calls Tryz.prog 147 #[.string s, .int .i64 c] w fun e w' => e = .returned (.string ⟨(Lib.repeatL s.data.toList c).toArray⟩) ∧ Below w.heap.size w w' := Any.strings_Repeat Tryz.lays105 Tryz.Builder_Extra_105 s c w hc hlen
end Go.Proofs
/- The walks of hook.Text and hook.Parse. -/
namespace Go.Proofs.YtlmefcepdadfjaaGreat
open Go.RowKit

theorem all_bytes {P : UInt8 → Prop} (h : ∀ n : Nat, n < 256 → P (UInt8.ofNat n)) (c : UInt8) : P c := by
  have := h c.toNat c.toNat_lt
  rwa [UInt8.ofNat_toNat] at this
theorem bV_nat (b : UInt8) : (b.toNat : Int).toNat.toUInt8 = b := by
  rw [Int.toNat_natCast]; exact UInt8.ofNat_toNat
theorem fp_vs {f : List UInt8} (hf : f.length = 32) : ((fpC f).drop 0).take 32 = fpC f := by
  rw [List.drop_zero, List.take_of_length_le (by rw [fpC_len, hf]; exact Nat.le_refl _)]
end Go.Proofs.YtlmefcepdadfjaaGreat
/- The walks of layer 7's order: which fingerprint is ahead. -/
namespace Go.Proofs.YtlmefcepdadfjaaGreat
open Go.RowKit

def dif (f g : List UInt8) : Option Nat := (List.range 32).find? fun i => f.getD i 0 != g.getD i 0
theorem dif_none {f g : List UInt8} (h : ∀ j, j < 32 → f.getD j 0 = g.getD j 0) : dif f g = none := by
  unfold dif
  rw [List.find?_range_eq_none]
  intro j hj
  simpa using h j hj
theorem dif_cases (f g : List UInt8) : (dif f g = none ∧ ∀ j, j < 32 → f.getD j 0 = g.getD j 0) ∨ ∃ i, dif f g = some i ∧ i < 32 ∧ f.getD i 0 ≠ g.getD i 0 ∧ ∀ j, j < i → f.getD j 0 = g.getD j 0 := by
  cases h : dif f g with
  | none =>
    left
    unfold dif at h
    rw [List.find?_range_eq_none] at h
    exact ⟨rfl, fun j hj => by simpa using h j hj⟩
  | some i =>
    right
    unfold dif at h
    rw [List.find?_range_eq_some] at h
    exact ⟨i, rfl, List.mem_range.1 h.2.1, by simpa using h.1, fun j hj => by simpa using h.2.2 j hj⟩
def lessF (f g : List UInt8) : Bool := match dif f g with | some i => decide ((f.getD i 0).toNat < (g.getD i 0).toNat) | none => false
def cmpF (f g : List UInt8) : Int := match dif f g with | some i => if (f.getD i 0).toNat < (g.getD i 0).toNat then -1 else 1 | none => 0
theorem eq_of_getD {f g : List UInt8} (hf : f.length = 32) (hg : g.length = 32) (h : ∀ j, j < 32 → f.getD j 0 = g.getD j 0) : f = g := by
  apply List.ext_getElem (by omega)
  intro i h1 h2
  have := h i (by omega)
  rw [List.getD_eq_getElem?_getD, List.getD_eq_getElem?_getD, List.getElem?_eq_getElem h1, List.getElem?_eq_getElem h2] at this
  exact this
theorem cmpF_self (f : List UInt8) : cmpF f f = 0 := by
  unfold cmpF
  rw [dif_none fun _ _ => rfl]
theorem cmpF_less (f g : List UInt8) : decide (cmpF f g < 0) = lessF f g := by
  unfold cmpF lessF
  cases dif f g with
  | none => rfl
  | some i =>
    by_cases h : (f.getD i 0).toNat < (g.getD i 0).toNat
    · simp only [if_pos h, decide_eq_true h]; decide
    · simp only [if_neg h, decide_eq_false h]; decide
theorem bang (f : List UInt8) (i : Nat) : (⟨f.toArray⟩ : ByteArray)[i]! = f.getD i 0 := by
  have hs : (⟨f.toArray⟩ : ByteArray).size = f.length := mkh_size f
  by_cases h : i < f.length
  · rw [getElem!_pos (⟨f.toArray⟩ : ByteArray) i (by rw [hs]; exact h), List.getD_eq_getElem?_getD, List.getElem?_eq_getElem h]
    rfl
  · rw [getElem!_neg (⟨f.toArray⟩ : ByteArray) i (by rw [hs]; exact h), List.getD_eq_getElem?_getD, List.getElem?_eq_none (by omega)]
    rfl
theorem ext_cmp {f g : List UInt8} (hf : f.length = 32) (hg : g.length = 32) : Extern.BytealgCompare.cmp ⟨f.toArray⟩ ⟨g.toArray⟩ = cmpF f g := by
  unfold Extern.BytealgCompare.cmp cmpF dif
  rw [mkh_size, mkh_size, hf, hg]
  simp only [bang]
  show (match (List.range 32).find? (fun i => f.getD i 0 != g.getD i 0) with | some i => _ | none => _) = _
  split
  · rename_i i hi
    simp only [UInt8.lt_iff_toNat_lt]
  · simp
theorem run_bytes {ao : Option Addr} {f : List UInt8} {n cap : Nat} (hn : n = f.length) {w : World} (hr : Rd w ao (fpC f)) : (Extern.Bytes.bytesOf (.slice ao n cap)).run Tryz.prog w = .ok ⟨f.toArray⟩ w := by
  subst hn
  cases ao with
  | none =>
    have : f = [] := by
      cases f with
      | nil => rfl
      | cons b f => obtain ⟨g, off, h, _⟩ := hr.2 (by simp [fpC]); cases h
    subst this
    rfl
  | some a =>
    have h := Go.Lib.run_loadBytesX (P := Tryz.prog) w (f.map fun b => (b.toNat : Int)) a .empty (fun j x hj => by
      rw [List.getElem?_map] at hj
      obtain ⟨b, hb, rfl⟩ := Option.map_eq_some_iff.1 hj
      have hl := (List.getElem?_eq_some_iff.1 hb).1
      obtain ⟨g, off, ha, _, hc⟩ := hr.2 (by rw [fpC_len]; omega)
      obtain rfl := Option.some.inj ha
      rw [Addr.add_lit, hc j (by rw [fpC_len]; exact hl)]
      unfold fpC
      rw [List.getElem?_map, hb]
      rfl)
    rw [List.length_map] at h
    show (Extern.Bytes.loadBytes a f.length .empty).run Tryz.prog w = _
    rw [h]
    congr 1
    have : Go.Lib.bytesOf (f.map fun b => (b.toNat : Int)) = f := by
      unfold Go.Lib.bytesOf
      rw [List.map_map]
      conv => rhs; rw [← List.map_id f]
      apply List.map_congr_left
      intro b _
      exact bV_nat b
    rw [this]
    apply ByteArray.ext
    simp
theorem BCmp_any (f g : List UInt8) (hf : f.length = 32) (hg : g.length = 32) (ao bo : Option Addr) (ac bc : Nat) (w : World) (ha : Rd w ao (fpC f)) (hb : Rd w bo (fpC g)) :
    Calls Tryz.prog 144 #[.slice ao 32 ac, .slice bo 32 bc] w fun e w' => e = .returned (.int .i64 (cmpF f g)) ∧ Below w.heap.size w w' := by
  refine sx_fn (S := SX) (M := []) (N := 8) (H0 := [.rd ao (fpC f), .rd bo (fpC g)]) Tryz.func144 rfl rfl rfl (Sat.twoRd _ ha hb) ?_
  ((try refine sU ?_);repeat(refine sN fun _=>?_;try refine sU ?_))
  refine SxExt.mk (.int .i64 (cmpF f g)) (fun w hs => ?_) ?_
  · change Sem.run Tryz.prog _ _ = _
    rw [run_callFunc_extern (e := Extern.BytealgCompare.compare) Tryz.func159 (by kernel_rfl) (by kernel_rfl) (by kernel_rfl) (by kernel_rfl)]
    have e1 := run_bytes (cap := ac) hf.symm (hs.rd 0 rfl)
    have e2 := run_bytes (cap := bc) hg.symm (hs.rd 1 rfl)
    change (Sem.run Tryz.prog (do
      let x ← Extern.Bytes.bytesOf (.slice ao 32 ac)
      let y ← Extern.Bytes.bytesOf (.slice bo 32 bc)
      pure (goInt (Extern.BytealgCompare.cmp x y))) w).andThen _ = _
    simp only [Sem.run_bind, e1, e2, Result.andThen_ok, Sem.run_pure, ext_cmp hf hg, goInt]
  · ((try refine sU ?_);repeat(refine sN fun _=>?_;try refine sU ?_))
    exact SxDone.mk fun w' hs => ⟨rfl, hs.touch.below⟩
end Go.Proofs.YtlmefcepdadfjaaGreat
/- The walks of layer 7: order, Less, Zeros, Is. -/
namespace Go.Proofs.YtlmefcepdadfjaaGreat
open Go.RowKit

def fpK : List KD := List.replicate 32 (.int .u8)
theorem allK_rep : ∀ (f : List UInt8), allK (List.replicate f.length (.int .u8)) (fpC f) = true
  | [] => rfl
  | b :: f => by
    show (okK (.int .u8) (bV b) && allK (List.replicate f.length (.int .u8)) (fpC f)) = true
    rw [allK_rep f]; rfl
theorem allK_fp {f : List UInt8} (hf : f.length = 32) : allK fpK (fpC f) = true := by
  have := allK_rep f
  rw [hf] at this
  exact this
theorem bV_inj {a b : UInt8} (h : bV a = bV b) : a = b := by
  unfold bV at h
  simp only [Value.int.injEq, true_and] at h
  exact UInt8.toNat_inj.1 (by omega)
theorem fpC_inj : ∀ {f g : List UInt8}, fpC f = fpC g → f = g
  | [], [], _ => rfl
  | [], _ :: _, h => by simp [fpC] at h
  | _ :: _, [], h => by simp [fpC] at h
  | a :: f, b :: g, h => by
    simp only [fpC, List.map_cons, List.cons.injEq] at h
    rw [bV_inj h.1, fpC_inj h.2]
theorem fp_eq {f g : List UInt8} (hf : f.length = 32) (hg : g.length = 32) : cellsEq (fpC f) (fpC g) = decide (f = g) := by
  have h := cellsEq_iff (allK_fp hf) (allK_fp hg)
  by_cases he : f = g
  · rw [decide_eq_true he, he]
    exact (cellsEq_iff (allK_fp hg) (allK_fp hg)).2 rfl
  · rw [decide_eq_false he]
    cases hc : cellsEq (fpC f) (fpC g) with
    | false => rfl
    | true => exact absurd (fpC_inj (h.1 hc)) he
theorem SxRun.fpEq {f g : List UInt8} (hf : f.length = 32) (hg : g.length = 32) {x y : Operand} {A : Value → Prop} (h : A (.bool (decide (f = g)))) : SxRun SX.P (do eqGuard .eql 69 x y (fpV f) (fpV g); binOp .eql 69 (fpV f) (fpV g)) A :=
  SxRun.eq 2 rfl (ks := fpK) rfl rfl (by kernel_rfl) rfl (allK_fp hf) (allK_fp hg) (by
    show A (.bool (cellsEq (fpC f) (fpC g)))
    rw [fp_eq hf hg]; exact h)
theorem SxRun.fpNe {f g : List UInt8} (hf : f.length = 32) (hg : g.length = 32) {x y : Operand} {A : Value → Prop} (h : A (.bool (!decide (f = g)))) : SxRun SX.P (do eqGuard .neq 69 x y (fpV f) (fpV g); binOp .neq 69 (fpV f) (fpV g)) A :=
  SxRun.ne 2 rfl (ks := fpK) rfl rfl (by kernel_rfl) rfl (allK_fp hf) (allK_fp hg) (by
    show A (.bool (!cellsEq (fpC f) (fpC g)))
    rw [fp_eq hf hg]; exact h)
theorem Rd_blk {w : World} {g e : Nat} {cs : List Value} (h : Blk w g e cs) (hl : cs.length ≤ maxLen) : Rd w (some ⟨g, 0, none⟩) cs :=
  ⟨hl, fun _ => ⟨g, 0, rfl, Blk.lt h, fun j _ => by rw [Nat.zero_add, h.cell]⟩⟩
theorem order_any (f g : List UInt8) (hf : f.length = 32) (hg : g.length = 32) (w : World) : Calls Tryz.prog 125 #[fpV f, fpV g] w fun e w' => e = .returned (.int .i64 (cmpF f g)) ∧ Below w.heap.size w w' := by
  refine sx_fn (S := SX) (M := []) (N := 11) (H0 := []) Tryz.func125 rfl rfl rfl (Sat.nil _ _) ?_
  ((try refine sU ?_);repeat(refine sN fun _=>?_;try refine sU ?_))
  rename_i a b
  refine SxLdN.blk 1 rfl (vs := fpC f) (by rw [fpC_len, hf]) (fp_vs hf) ?_
  ((try refine sU ?_);repeat(refine sN fun _=>?_;try refine sU ?_))
  refine SxLdN.blk 0 rfl (vs := fpC g) (by rw [fpC_len, hg]) (fp_vs hg) ?_
  ((try refine sU ?_);repeat(refine sN fun _=>?_;try refine sU ?_))
  refine SxRun.fpEq hf hg ?_
  ((try refine sU ?_);repeat(refine sN fun _=>?_;try refine sU ?_))
  refine SxIf.dec (fun h => ?_) (fun h => ?_)
  · ((try refine sU ?_);repeat(refine sN fun _=>?_;try refine sU ?_))
    exact SxDone.mk fun w' hs => ⟨by rw [h, cmpF_self]; rfl, hs.touch.below⟩
  · ((try refine sU ?_);repeat(refine sN fun _=>?_;try refine sU ?_))
    refine SxCode.drawAll rfl [] ?_
    ((try refine sU ?_);repeat(refine sN fun _=>?_;try refine sU ?_))
    refine SxBnd.mk 0 32 rfl rfl (by omega) (by omega) fun o1 h1 => ?_
    obtain rfl : o1 = 0 := h1 (by omega)
    ((try refine sU ?_);repeat(refine sN fun _=>?_;try refine sU ?_))
    refine SxBnd.mk 0 32 rfl rfl (by omega) (by omega) fun o2 h2 => ?_
    obtain rfl : o2 = 0 := h2 (by omega)
    ((try refine sU ?_);repeat(refine sN fun _=>?_;try refine sU ?_))
    refine SxCall.quietS (fun w hs => BCmp_any f g hf hg _ _ _ _ w (Rd_blk (hs.blk 1 rfl) (by show (fpC f).length ≤ _; rw [fpC_len, hf]; decide)) (Rd_blk (hs.blk 0 rfl) (by show (fpC g).length ≤ _; rw [fpC_len, hg]; decide))) ?_
    ((try refine sU ?_);repeat(refine sN fun _=>?_;try refine sU ?_))
    exact SxDone.mk fun w' hs => ⟨rfl, hs.touch.below⟩
theorem Set1_any (f g : List UInt8) (hf : f.length = 32) (hg : g.length = 32) (w : World) : Calls Tryz.prog 124 #[fpV f, fpV g] w fun e w' => e = .returned (.int .i64 (cmpF f g)) ∧ Below w.heap.size w w' := by
  refine sx_fn (S := SX) (M := []) (N := 8) (H0 := []) Tryz.func124 rfl rfl rfl (Sat.nil _ _) ?_
  ((try refine sU ?_);repeat(refine sN fun _=>?_;try refine sU ?_))
  refine SxLdN.blk 1 rfl (vs := fpC f) (by rw [fpC_len, hf]) (fp_vs hf) ?_
  ((try refine sU ?_);repeat(refine sN fun _=>?_;try refine sU ?_))
  refine SxLdN.blk 0 rfl (vs := fpC g) (by rw [fpC_len, hg]) (fp_vs hg) ?_
  ((try refine sU ?_);repeat(refine sN fun _=>?_;try refine sU ?_))
  refine SxCall.quiet (order_any f g hf hg) ?_
  ((try refine sU ?_);repeat(refine sN fun _=>?_;try refine sU ?_))
  exact SxDone.mk fun w' hs => ⟨rfl, hs.touch.below⟩
def lz (b : UInt8) : Nat := 8 - Go.Lib.bitLen b.toNat
def zr : List UInt8 → Nat
  | [] => 0
  | b :: r => if b = 0 then 8 + zr r else lz b
theorem lz_le (b : UInt8) : Go.Lib.bitLen b.toNat ≤ 8 := by
  refine all_bytes (P := fun b => Go.Lib.bitLen b.toNat ≤ 8) ?_ b
  decide +kernel
theorem lz_zero : lz 0 = 8 := by decide +kernel
theorem zr_drop {f : List UInt8} {k : Nat} (h : k < f.length) : zr (f.drop k) = if f.getD k 0 = 0 then 8 + zr (f.drop (k + 1)) else lz (f.getD k 0) := by
  rw [List.drop_eq_getElem_cons h, List.getD_eq_getElem?_getD, List.getElem?_eq_getElem h]
  rfl
theorem lz8_any (b : UInt8) (w : World) : Calls Tryz.prog 141 #[bV b] w fun e w' => e = .returned (.int .i64 (lz b : Nat)) ∧ w = w' := by
  have hb := b.toNat_lt
  refine (Tryz.bits_LeadingZeros8 (b.toNat : Int) w (by omega) (by omega)).mono fun e w' h => ⟨?_, h.2.symm⟩
  rw [h.1, Int.toNat_natCast]
  have := lz_le b
  unfold lz
  congr 2
  omega
theorem Zeros_any (f : List UInt8) (hf : f.length = 32) (w : World) : Calls Tryz.prog 122 #[fpV f] w fun e w' => e = .returned (.int .i64 (zr f : Nat)) ∧ Below w.heap.size w w' := by
  refine sx_fn (S := SX) (M := []) (N := 18) (H0 := []) Tryz.func122 rfl rfl rfl (Sat.nil _ _) ?_
  ((try refine sU ?_);repeat(refine sN fun _=>?_;try refine sU ?_))
  refine SxLdN.blk 0 rfl (vs := fpC f) (by rw [fpC_len, hf]) (fp_vs hf) ?_
  ((try refine sU ?_);repeat(refine sN fun _=>?_;try refine sU ?_))
  refine SxCode.loop (σ := Nat) [7, 3] [8, 9, 5, 10, 11, 12, 13, 3, 14, 15, 16, 7] (fun k => [.int .i64 (k : Nat), .int .i64 ((8 * k : Nat) : Int)]) (fun _ => []) (fun k => k ≤ 32 ∧ zr f = 8 * k + zr (f.drop k)) (fun k => 32 - k) 0 [] rfl rfl rfl rfl ⟨Nat.zero_le _, by rw [List.drop_zero]; omega⟩ ?_
  rintro k ⟨hk, hz⟩
  dsimp only
  ((try refine sU ?_);repeat(refine sN fun _=>?_;try refine sU ?_))
  refine SxIf.dec (fun h => ?_) (fun h => ?_)
  · have hlt : k < 32 := by omega
    have hzd := zr_drop (f := f) (k := k) (by omega)
    have hl := lz_le (f.getD k 0)
    have hl2 : lz (f.getD k 0) ≤ 8 := by unfold lz; omega
    ((try refine sU ?_);repeat(refine sN fun _=>?_;try refine sU ?_))
    refine SxIdx.mk k rfl hlt ?_
    ((try refine sU ?_);repeat(refine sN fun _=>?_;try refine sU ?_))
    refine SxNth.mk (v := bV (f.getD k 0)) (by rw [Nat.mul_one]; exact fpC_get (by omega)) ?_
    ((try refine sU ?_);repeat(refine sN fun _=>?_;try refine sU ?_))
    refine SxCall.pure (lz8_any (f.getD k 0)) ?_
    ((try refine sU ?_);repeat(refine sN fun _=>?_;try refine sU ?_))
    refine SxIf.ne (fun h1 => ?_) (fun h1 => ?_)
    · have hne : f.getD k 0 ≠ 0 := fun h => h1 (by rw [h]; rfl)
      rw [if_neg hne] at hzd
      ((try refine sU ?_);repeat(refine sN fun _=>?_;try refine sU ?_))
      exact SxDone.mk fun w' hs => ⟨by rw [show ((zr f : Nat) : Int) = ((8 * k : Nat) : Int) + (lz (f.getD k 0) : Nat) by omega]; rfl, hs.touch.below⟩
    · have he : f.getD k 0 = 0 := UInt8.toNat_inj.1 (by rw [UInt8.toNat_zero]; omega)
      rw [if_pos he] at hzd
      have h8 : lz (f.getD k 0) = 8 := by rw [he]; exact lz_zero
      ((try refine sU ?_);repeat(refine sN fun _=>?_;try refine sU ?_))
      exact SxRound.mk (k + 1) [] (by rw [show ((8 * (k + 1) : Nat) : Int) = ((8 * k : Nat) : Int) + (lz (f.getD k 0) : Nat) by omega]; rfl) rfl rfl ⟨by omega, by omega⟩ (by omega)
  · obtain rfl : k = 32 := by omega
    ((try refine sU ?_);repeat(refine sN fun _=>?_;try refine sU ?_))
    exact SxDone.mk fun w' hs => ⟨by rw [show zr f = 8 * 32 by rw [hz, List.drop_of_length_le (by omega)]; rfl]; rfl, hs.touch.below⟩
end Go.Proofs.YtlmefcepdadfjaaGreat
