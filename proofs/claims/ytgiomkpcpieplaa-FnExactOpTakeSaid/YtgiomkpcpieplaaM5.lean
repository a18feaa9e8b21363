/- The walk over this seat's functions, part 5: what each of them answers, at all data. -/
import Derived.Test.YtgiomkpcpieplaaM1
import Derived.Test.YtgiomkpcpieplaaM2
import Derived.Test.YtgiomkpcpieplaaM3
import Derived.Test.YtgiomkpcpieplaaM4
import Derived.Test.YtgiomkpcpieplaaProg
import Derived.KernelRfl
import Derived.IntWalk
import Derived.Test.YtgiomkpcpieplaaChecked
/- The types of this program, as the walk asks them. -/
namespace Go.Rk
set_option linter.unusedSimpArgs false
set_option linter.unusedVariables false
open Go.Proofs
def ti3 : TI := { desc := TypeDesc.int IntKind.i64, size := 1, bytes := 8, zero := [Value.int IntKind.i64 0], eqk := false }
def ti4 : TI := { desc := TypeDesc.bool, size := 1, bytes := 1, zero := [Value.bool false], eqk := false }
def ti5 : TI := { desc := TypeDesc.int IntKind.u8, size := 1, bytes := 1, zero := [Value.int IntKind.u8 0], eqk := false }
def ti23 : TI := { desc := TypeDesc.struct #[{ name := "Sources", type := 3, offset := 0, embedded := false, tag := "", pkgPath := "", byteOffset := 0 }, { name := "Tasks", type := 3, offset := 1, embedded := false, tag := "", pkgPath := "", byteOffset := 8 }, { name := "Kind", type := 3, offset := 2, embedded := false, tag := "", pkgPath := "", byteOffset := 16 }, { name := "Size", type := 3, offset := 3, embedded := false, tag := "", pkgPath := "", byteOffset := 24 }, { name := "Step", type := 3, offset := 4, embedded := false, tag := "", pkgPath := "", byteOffset := 32 }, { name := "Late", type := 3, offset := 5, embedded := false, tag := "", pkgPath := "", byteOffset := 40 }, { name := "Tell", type := 3, offset := 6, embedded := false, tag := "", pkgPath := "", byteOffset := 48 }, { name := "Piece", type := 4, offset := 7, embedded := false, tag := "", pkgPath := "", byteOffset := 56 }, { name := "Least", type := 3, offset := 8, embedded := false, tag := "", pkgPath := "", byteOffset := 64 }, { name := "Room", type := 3, offset := 9, embedded := false, tag := "", pkgPath := "", byteOffset := 72 }], size := 10, bytes := 80, zero := [Value.int IntKind.i64 0, Value.int IntKind.i64 0, Value.int IntKind.i64 0, Value.int IntKind.i64 0, Value.int IntKind.i64 0, Value.int IntKind.i64 0, Value.int IntKind.i64 0, Value.bool false, Value.int IntKind.i64 0, Value.int IntKind.i64 0], eqk := true }
def ti24 : TI := { desc := TypeDesc.slice 137, size := 1, bytes := 24, zero := [Value.slice none 0 0], eqk := false }
def ti26 : TI := { desc := TypeDesc.struct #[{ name := "Mark", type := 3, offset := 0, embedded := false, tag := "", pkgPath := "", byteOffset := 0 }, { name := "Rows", type := 24, offset := 1, embedded := false, tag := "", pkgPath := "", byteOffset := 8 }], size := 2, bytes := 32, zero := [Value.int IntKind.i64 0, Value.slice none 0 0], eqk := false }
def ti29 : TI := { desc := TypeDesc.struct #[{ name := "Sources", type := 3, offset := 0, embedded := false, tag := "", pkgPath := "", byteOffset := 0 }, { name := "Tasks", type := 3, offset := 1, embedded := false, tag := "", pkgPath := "", byteOffset := 8 }, { name := "Kind", type := 3, offset := 2, embedded := false, tag := "", pkgPath := "", byteOffset := 16 }, { name := "Size", type := 3, offset := 3, embedded := false, tag := "", pkgPath := "", byteOffset := 24 }, { name := "Step", type := 3, offset := 4, embedded := false, tag := "", pkgPath := "", byteOffset := 32 }, { name := "Late", type := 3, offset := 5, embedded := false, tag := "", pkgPath := "", byteOffset := 40 }, { name := "Tell", type := 3, offset := 6, embedded := false, tag := "", pkgPath := "", byteOffset := 48 }, { name := "Piece", type := 4, offset := 7, embedded := false, tag := "", pkgPath := "", byteOffset := 56 }, { name := "Least", type := 3, offset := 8, embedded := false, tag := "", pkgPath := "", byteOffset := 64 }, { name := "Room", type := 3, offset := 9, embedded := false, tag := "", pkgPath := "", byteOffset := 72 }], size := 10, bytes := 80, zero := [Value.int IntKind.i64 0, Value.int IntKind.i64 0, Value.int IntKind.i64 0, Value.int IntKind.i64 0, Value.int IntKind.i64 0, Value.int IntKind.i64 0, Value.int IntKind.i64 0, Value.bool false, Value.int IntKind.i64 0, Value.int IntKind.i64 0], eqk := true }
def ti31 : TI := { desc := TypeDesc.slice 86, size := 1, bytes := 24, zero := [Value.slice none 0 0], eqk := false }
def ti33 : TI := { desc := TypeDesc.struct #[{ name := "Mark", type := 3, offset := 0, embedded := false, tag := "", pkgPath := "", byteOffset := 0 }, { name := "Rows", type := 31, offset := 1, embedded := false, tag := "", pkgPath := "", byteOffset := 8 }], size := 2, bytes := 32, zero := [Value.int IntKind.i64 0, Value.slice none 0 0], eqk := false }
def ti37 : TI := { desc := TypeDesc.slice 107, size := 1, bytes := 24, zero := [Value.slice none 0 0], eqk := false }
def ti45 : TI := { desc := TypeDesc.struct #[{ name := "Kind", type := 3, offset := 0, embedded := false, tag := "", pkgPath := "", byteOffset := 0 }, { name := "T", type := 3, offset := 1, embedded := false, tag := "", pkgPath := "", byteOffset := 8 }, { name := "Key", type := 3, offset := 2, embedded := false, tag := "", pkgPath := "", byteOffset := 16 }, { name := "V", type := 3, offset := 3, embedded := false, tag := "", pkgPath := "", byteOffset := 24 }, { name := "N", type := 3, offset := 4, embedded := false, tag := "", pkgPath := "", byteOffset := 32 }], size := 5, bytes := 40, zero := [Value.int IntKind.i64 0, Value.int IntKind.i64 0, Value.int IntKind.i64 0, Value.int IntKind.i64 0, Value.int IntKind.i64 0], eqk := true }
def ti46 : TI := { desc := TypeDesc.slice 116, size := 1, bytes := 24, zero := [Value.slice none 0 0], eqk := false }
def ti49 : TI := { desc := TypeDesc.struct #[{ name := "Kind", type := 3, offset := 0, embedded := false, tag := "", pkgPath := "", byteOffset := 0 }, { name := "T", type := 3, offset := 1, embedded := false, tag := "", pkgPath := "", byteOffset := 8 }, { name := "Key", type := 3, offset := 2, embedded := false, tag := "", pkgPath := "", byteOffset := 16 }, { name := "V", type := 3, offset := 3, embedded := false, tag := "", pkgPath := "", byteOffset := 24 }, { name := "N", type := 3, offset := 4, embedded := false, tag := "", pkgPath := "", byteOffset := 32 }], size := 5, bytes := 40, zero := [Value.int IntKind.i64 0, Value.int IntKind.i64 0, Value.int IntKind.i64 0, Value.int IntKind.i64 0, Value.int IntKind.i64 0], eqk := true }
def ti54 : TI := { desc := TypeDesc.slice 158, size := 1, bytes := 24, zero := [Value.slice none 0 0], eqk := false }
def ti55 : TI := { desc := TypeDesc.slice 180, size := 1, bytes := 24, zero := [Value.slice none 0 0], eqk := false }
def ti56 : TI := { desc := TypeDesc.slice 183, size := 1, bytes := 24, zero := [Value.slice none 0 0], eqk := false }
def ti58 : TI := { desc := TypeDesc.struct #[{ name := "N", type := 3, offset := 0, embedded := false, tag := "", pkgPath := "", byteOffset := 0 }, { name := "Panes", type := 55, offset := 1, embedded := false, tag := "", pkgPath := "", byteOffset := 8 }, { name := "Lates", type := 56, offset := 2, embedded := false, tag := "", pkgPath := "", byteOffset := 32 }], size := 3, bytes := 56, zero := [Value.int IntKind.i64 0, Value.slice none 0 0, Value.slice none 0 0], eqk := false }
def ti60 : TI := { desc := TypeDesc.struct #[{ name := "Ins", type := 54, offset := 0, embedded := false, tag := "", pkgPath := "", byteOffset := 0 }, { name := "Op", type := 26, offset := 1, embedded := false, tag := "", pkgPath := "", byteOffset := 24 }, { name := "Wall", type := 3, offset := 3, embedded := false, tag := "", pkgPath := "", byteOffset := 56 }, { name := "Pend", type := 58, offset := 4, embedded := false, tag := "", pkgPath := "", byteOffset := 64 }], size := 7, bytes := 120, zero := [Value.slice none 0 0, Value.int IntKind.i64 0, Value.slice none 0 0, Value.int IntKind.i64 0, Value.int IntKind.i64 0, Value.slice none 0 0, Value.slice none 0 0], eqk := false }
def ti63 : TI := { desc := TypeDesc.slice 121, size := 1, bytes := 24, zero := [Value.slice none 0 0], eqk := false }
def ti65 : TI := { desc := TypeDesc.struct #[{ name := "N", type := 3, offset := 0, embedded := false, tag := "", pkgPath := "", byteOffset := 0 }, { name := "Panes", type := 37, offset := 1, embedded := false, tag := "", pkgPath := "", byteOffset := 8 }, { name := "Lates", type := 46, offset := 2, embedded := false, tag := "", pkgPath := "", byteOffset := 32 }], size := 3, bytes := 56, zero := [Value.int IntKind.i64 0, Value.slice none 0 0, Value.slice none 0 0], eqk := false }
def ti67 : TI := { desc := TypeDesc.struct #[{ name := "Ins", type := 63, offset := 0, embedded := false, tag := "", pkgPath := "", byteOffset := 0 }, { name := "Op", type := 33, offset := 1, embedded := false, tag := "", pkgPath := "", byteOffset := 24 }, { name := "Wall", type := 3, offset := 3, embedded := false, tag := "", pkgPath := "", byteOffset := 56 }, { name := "Pend", type := 65, offset := 4, embedded := false, tag := "", pkgPath := "", byteOffset := 64 }], size := 7, bytes := 120, zero := [Value.slice none 0 0, Value.int IntKind.i64 0, Value.slice none 0 0, Value.int IntKind.i64 0, Value.int IntKind.i64 0, Value.slice none 0 0, Value.slice none 0 0], eqk := false }
def ti71 : TI := { desc := TypeDesc.slice 3, size := 1, bytes := 24, zero := [Value.slice none 0 0], eqk := false }
def ti82 : TI := { desc := TypeDesc.struct #[{ name := "Start", type := 3, offset := 0, embedded := false, tag := "", pkgPath := "", byteOffset := 0 }, { name := "End", type := 3, offset := 1, embedded := false, tag := "", pkgPath := "", byteOffset := 8 }], size := 2, bytes := 16, zero := [Value.int IntKind.i64 0, Value.int IntKind.i64 0], eqk := true }
def ti84 : TI := { desc := TypeDesc.struct #[{ name := "N", type := 3, offset := 0, embedded := false, tag := "", pkgPath := "", byteOffset := 0 }, { name := "Sum", type := 3, offset := 1, embedded := false, tag := "", pkgPath := "", byteOffset := 8 }, { name := "Least", type := 3, offset := 2, embedded := false, tag := "", pkgPath := "", byteOffset := 16 }, { name := "Most", type := 3, offset := 3, embedded := false, tag := "", pkgPath := "", byteOffset := 24 }], size := 4, bytes := 32, zero := [Value.int IntKind.i64 0, Value.int IntKind.i64 0, Value.int IntKind.i64 0, Value.int IntKind.i64 0], eqk := true }
def ti86 : TI := { desc := TypeDesc.struct #[{ name := "Key", type := 3, offset := 0, embedded := false, tag := "", pkgPath := "", byteOffset := 0 }, { name := "Win", type := 82, offset := 1, embedded := false, tag := "", pkgPath := "", byteOffset := 8 }, { name := "All", type := 84, offset := 3, embedded := false, tag := "", pkgPath := "", byteOffset := 24 }, { name := "Fresh", type := 84, offset := 7, embedded := false, tag := "", pkgPath := "", byteOffset := 56 }, { name := "Told", type := 3, offset := 11, embedded := false, tag := "", pkgPath := "", byteOffset := 88 }, { name := "Timely", type := 4, offset := 12, embedded := false, tag := "", pkgPath := "", byteOffset := 96 }], size := 13, bytes := 104, zero := [Value.int IntKind.i64 0, Value.int IntKind.i64 0, Value.int IntKind.i64 0, Value.int IntKind.i64 0, Value.int IntKind.i64 0, Value.int IntKind.i64 0, Value.int IntKind.i64 0, Value.int IntKind.i64 0, Value.int IntKind.i64 0, Value.int IntKind.i64 0, Value.int IntKind.i64 0, Value.int IntKind.i64 0, Value.bool false], eqk := true }
def ti101 : TI := { desc := TypeDesc.struct #[{ name := "job", type := 29, offset := 0, embedded := false, tag := "", pkgPath := "loop.example/freshet/impl", byteOffset := 0 }, { name := "state", type := 33, offset := 10, embedded := false, tag := "", pkgPath := "loop.example/freshet/impl", byteOffset := 80 }, { name := "panes", type := 37, offset := 12, embedded := false, tag := "", pkgPath := "loop.example/freshet/impl", byteOffset := 112 }, { name := "lates", type := 46, offset := 13, embedded := false, tag := "", pkgPath := "loop.example/freshet/impl", byteOffset := 136 }], size := 14, bytes := 160, zero := [Value.int IntKind.i64 0, Value.int IntKind.i64 0, Value.int IntKind.i64 0, Value.int IntKind.i64 0, Value.int IntKind.i64 0, Value.int IntKind.i64 0, Value.int IntKind.i64 0, Value.bool false, Value.int IntKind.i64 0, Value.int IntKind.i64 0, Value.int IntKind.i64 0, Value.slice none 0 0, Value.slice none 0 0, Value.slice none 0 0], eqk := false }
def ti107 : TI := { desc := TypeDesc.struct #[{ name := "Key", type := 3, offset := 0, embedded := false, tag := "", pkgPath := "", byteOffset := 0 }, { name := "Win", type := 82, offset := 1, embedded := false, tag := "", pkgPath := "", byteOffset := 8 }, { name := "No", type := 3, offset := 3, embedded := false, tag := "", pkgPath := "", byteOffset := 24 }, { name := "Kind", type := 3, offset := 4, embedded := false, tag := "", pkgPath := "", byteOffset := 32 }, { name := "Agg", type := 84, offset := 5, embedded := false, tag := "", pkgPath := "", byteOffset := 40 }], size := 9, bytes := 72, zero := [Value.int IntKind.i64 0, Value.int IntKind.i64 0, Value.int IntKind.i64 0, Value.int IntKind.i64 0, Value.int IntKind.i64 0, Value.int IntKind.i64 0, Value.int IntKind.i64 0, Value.int IntKind.i64 0, Value.int IntKind.i64 0], eqk := true }
def ti111 : TI := { desc := TypeDesc.slice 82, size := 1, bytes := 24, zero := [Value.slice none 0 0], eqk := false }
def ti116 : TI := { desc := TypeDesc.struct #[{ name := "Rec", type := 49, offset := 0, embedded := false, tag := "", pkgPath := "", byteOffset := 0 }, { name := "Win", type := 82, offset := 5, embedded := false, tag := "", pkgPath := "", byteOffset := 40 }], size := 7, bytes := 56, zero := [Value.int IntKind.i64 0, Value.int IntKind.i64 0, Value.int IntKind.i64 0, Value.int IntKind.i64 0, Value.int IntKind.i64 0, Value.int IntKind.i64 0, Value.int IntKind.i64 0], eqk := true }
def ti119 : TI := { desc := TypeDesc.slice 49, size := 1, bytes := 24, zero := [Value.slice none 0 0], eqk := false }
def ti121 : TI := { desc := TypeDesc.struct #[{ name := "Queue", type := 119, offset := 0, embedded := false, tag := "", pkgPath := "", byteOffset := 0 }, { name := "Mark", type := 3, offset := 1, embedded := false, tag := "", pkgPath := "", byteOffset := 24 }, { name := "Held", type := 4, offset := 2, embedded := false, tag := "", pkgPath := "", byteOffset := 32 }], size := 3, bytes := 40, zero := [Value.slice none 0 0, Value.int IntKind.i64 0, Value.bool false], eqk := false }
def ti134 : TI := { desc := TypeDesc.struct #[{ name := "Start", type := 3, offset := 0, embedded := false, tag := "", pkgPath := "", byteOffset := 0 }, { name := "End", type := 3, offset := 1, embedded := false, tag := "", pkgPath := "", byteOffset := 8 }], size := 2, bytes := 16, zero := [Value.int IntKind.i64 0, Value.int IntKind.i64 0], eqk := true }
def ti135 : TI := { desc := TypeDesc.struct #[{ name := "N", type := 3, offset := 0, embedded := false, tag := "", pkgPath := "", byteOffset := 0 }, { name := "Sum", type := 3, offset := 1, embedded := false, tag := "", pkgPath := "", byteOffset := 8 }, { name := "Least", type := 3, offset := 2, embedded := false, tag := "", pkgPath := "", byteOffset := 16 }, { name := "Most", type := 3, offset := 3, embedded := false, tag := "", pkgPath := "", byteOffset := 24 }], size := 4, bytes := 32, zero := [Value.int IntKind.i64 0, Value.int IntKind.i64 0, Value.int IntKind.i64 0, Value.int IntKind.i64 0], eqk := true }
def ti137 : TI := { desc := TypeDesc.struct #[{ name := "Key", type := 3, offset := 0, embedded := false, tag := "", pkgPath := "", byteOffset := 0 }, { name := "Win", type := 134, offset := 1, embedded := false, tag := "", pkgPath := "", byteOffset := 8 }, { name := "All", type := 135, offset := 3, embedded := false, tag := "", pkgPath := "", byteOffset := 24 }, { name := "Fresh", type := 135, offset := 7, embedded := false, tag := "", pkgPath := "", byteOffset := 56 }, { name := "Told", type := 3, offset := 11, embedded := false, tag := "", pkgPath := "", byteOffset := 88 }, { name := "Timely", type := 4, offset := 12, embedded := false, tag := "", pkgPath := "", byteOffset := 96 }], size := 13, bytes := 104, zero := [Value.int IntKind.i64 0, Value.int IntKind.i64 0, Value.int IntKind.i64 0, Value.int IntKind.i64 0, Value.int IntKind.i64 0, Value.int IntKind.i64 0, Value.int IntKind.i64 0, Value.int IntKind.i64 0, Value.int IntKind.i64 0, Value.int IntKind.i64 0, Value.int IntKind.i64 0, Value.int IntKind.i64 0, Value.bool false], eqk := true }
def ti156 : TI := { desc := TypeDesc.slice 45, size := 1, bytes := 24, zero := [Value.slice none 0 0], eqk := false }
def ti158 : TI := { desc := TypeDesc.struct #[{ name := "Queue", type := 156, offset := 0, embedded := false, tag := "", pkgPath := "", byteOffset := 0 }, { name := "Mark", type := 3, offset := 1, embedded := false, tag := "", pkgPath := "", byteOffset := 24 }, { name := "Held", type := 4, offset := 2, embedded := false, tag := "", pkgPath := "", byteOffset := 32 }], size := 3, bytes := 40, zero := [Value.slice none 0 0, Value.int IntKind.i64 0, Value.bool false], eqk := false }
def ti180 : TI := { desc := TypeDesc.struct #[{ name := "Key", type := 3, offset := 0, embedded := false, tag := "", pkgPath := "", byteOffset := 0 }, { name := "Win", type := 134, offset := 1, embedded := false, tag := "", pkgPath := "", byteOffset := 8 }, { name := "No", type := 3, offset := 3, embedded := false, tag := "", pkgPath := "", byteOffset := 24 }, { name := "Kind", type := 3, offset := 4, embedded := false, tag := "", pkgPath := "", byteOffset := 32 }, { name := "Agg", type := 135, offset := 5, embedded := false, tag := "", pkgPath := "", byteOffset := 40 }], size := 9, bytes := 72, zero := [Value.int IntKind.i64 0, Value.int IntKind.i64 0, Value.int IntKind.i64 0, Value.int IntKind.i64 0, Value.int IntKind.i64 0, Value.int IntKind.i64 0, Value.int IntKind.i64 0, Value.int IntKind.i64 0, Value.int IntKind.i64 0], eqk := true }
def ti183 : TI := { desc := TypeDesc.struct #[{ name := "Rec", type := 45, offset := 0, embedded := false, tag := "", pkgPath := "", byteOffset := 0 }, { name := "Win", type := 134, offset := 5, embedded := false, tag := "", pkgPath := "", byteOffset := 40 }], size := 7, bytes := 56, zero := [Value.int IntKind.i64 0, Value.int IntKind.i64 0, Value.int IntKind.i64 0, Value.int IntKind.i64 0, Value.int IntKind.i64 0, Value.int IntKind.i64 0, Value.int IntKind.i64 0], eqk := true }
def ti187 : TI := { desc := TypeDesc.int IntKind.u64, size := 1, bytes := 8, zero := [Value.int IntKind.u64 0], eqk := false }
def tab : List (Nat × TI) := [(3, ti3), (4, ti4), (5, ti5), (23, ti23), (24, ti24), (26, ti26), (29, ti29), (31, ti31), (33, ti33), (37, ti37), (45, ti45), (46, ti46), (49, ti49), (54, ti54), (55, ti55), (56, ti56), (58, ti58), (60, ti60), (63, ti63), (65, ti65), (67, ti67), (71, ti71), (82, ti82), (84, ti84), (86, ti86), (101, ti101), (107, ti107), (111, ti111), (116, ti116), (119, ti119), (121, ti121), (134, ti134), (135, ti135), (137, ti137), (156, ti156), (158, ti158), (180, ti180), (183, ti183), (187, ti187)]
theorem row3 : TRow Try.prog 3 ti3 := ⟨Try.underlying3, ⟨Try.t3, Value.int IntKind.i64 0, by kernel_rfl, rfl, rfl, rfl, rfl, rfl, rfl⟩, fun h => by cases h⟩
theorem row4 : TRow Try.prog 4 ti4 := ⟨Try.underlying4, ⟨Try.t4, Value.bool false, by kernel_rfl, rfl, rfl, rfl, rfl, rfl, rfl⟩, fun h => by cases h⟩
theorem row5 : TRow Try.prog 5 ti5 := ⟨Try.underlying5, ⟨Try.t5, Value.int IntKind.u8 0, by kernel_rfl, rfl, rfl, rfl, rfl, rfl, rfl⟩, fun h => by cases h⟩
theorem row23 : TRow Try.prog 23 ti23 := ⟨Try.underlying23, ⟨Try.t23, Value.agg #[Value.int IntKind.i64 0, Value.int IntKind.i64 0, Value.int IntKind.i64 0, Value.int IntKind.i64 0, Value.int IntKind.i64 0, Value.int IntKind.i64 0, Value.int IntKind.i64 0, Value.bool false, Value.int IntKind.i64 0, Value.int IntKind.i64 0], by kernel_rfl, rfl, rfl, rfl, rfl, rfl, rfl⟩, fun _ => ⟨Try.stoodInHeld23, Try.eqGuardType23⟩⟩
theorem row24 : TRow Try.prog 24 ti24 := ⟨Try.underlying24, ⟨Try.t24, Value.slice none 0 0, by kernel_rfl, rfl, rfl, rfl, rfl, rfl, rfl⟩, fun h => by cases h⟩
theorem row26 : TRow Try.prog 26 ti26 := ⟨Try.underlying26, ⟨Try.t26, Value.agg #[Value.int IntKind.i64 0, Value.slice none 0 0], by kernel_rfl, rfl, rfl, rfl, rfl, rfl, rfl⟩, fun h => by cases h⟩
theorem row29 : TRow Try.prog 29 ti29 := ⟨Try.underlying29, ⟨Try.t29, Value.agg #[Value.int IntKind.i64 0, Value.int IntKind.i64 0, Value.int IntKind.i64 0, Value.int IntKind.i64 0, Value.int IntKind.i64 0, Value.int IntKind.i64 0, Value.int IntKind.i64 0, Value.bool false, Value.int IntKind.i64 0, Value.int IntKind.i64 0], by kernel_rfl, rfl, rfl, rfl, rfl, rfl, rfl⟩, fun _ => ⟨Try.stoodInHeld29, Try.eqGuardType29⟩⟩
theorem row31 : TRow Try.prog 31 ti31 := ⟨Try.underlying31, ⟨Try.t31, Value.slice none 0 0, by kernel_rfl, rfl, rfl, rfl, rfl, rfl, rfl⟩, fun h => by cases h⟩
theorem row33 : TRow Try.prog 33 ti33 := ⟨Try.underlying33, ⟨Try.t33, Value.agg #[Value.int IntKind.i64 0, Value.slice none 0 0], by kernel_rfl, rfl, rfl, rfl, rfl, rfl, rfl⟩, fun h => by cases h⟩
theorem row37 : TRow Try.prog 37 ti37 := ⟨Try.underlying37, ⟨Try.t37, Value.slice none 0 0, by kernel_rfl, rfl, rfl, rfl, rfl, rfl, rfl⟩, fun h => by cases h⟩
theorem row45 : TRow Try.prog 45 ti45 := ⟨Try.underlying45, ⟨Try.t45, Value.agg #[Value.int IntKind.i64 0, Value.int IntKind.i64 0, Value.int IntKind.i64 0, Value.int IntKind.i64 0, Value.int IntKind.i64 0], by kernel_rfl, rfl, rfl, rfl, rfl, rfl, rfl⟩, fun _ => ⟨Try.stoodInHeld45, Try.eqGuardType45⟩⟩
theorem row46 : TRow Try.prog 46 ti46 := ⟨Try.underlying46, ⟨Try.t46, Value.slice none 0 0, by kernel_rfl, rfl, rfl, rfl, rfl, rfl, rfl⟩, fun h => by cases h⟩
theorem row49 : TRow Try.prog 49 ti49 := ⟨Try.underlying49, ⟨Try.t49, Value.agg #[Value.int IntKind.i64 0, Value.int IntKind.i64 0, Value.int IntKind.i64 0, Value.int IntKind.i64 0, Value.int IntKind.i64 0], by kernel_rfl, rfl, rfl, rfl, rfl, rfl, rfl⟩, fun _ => ⟨Try.stoodInHeld49, Try.eqGuardType49⟩⟩
theorem row54 : TRow Try.prog 54 ti54 := ⟨Try.underlying54, ⟨Try.t54, Value.slice none 0 0, by kernel_rfl, rfl, rfl, rfl, rfl, rfl, rfl⟩, fun h => by cases h⟩
theorem row55 : TRow Try.prog 55 ti55 := ⟨Try.underlying55, ⟨Try.t55, Value.slice none 0 0, by kernel_rfl, rfl, rfl, rfl, rfl, rfl, rfl⟩, fun h => by cases h⟩
theorem row56 : TRow Try.prog 56 ti56 := ⟨Try.underlying56, ⟨Try.t56, Value.slice none 0 0, by kernel_rfl, rfl, rfl, rfl, rfl, rfl, rfl⟩, fun h => by cases h⟩
theorem row58 : TRow Try.prog 58 ti58 := ⟨Try.underlying58, ⟨Try.t58, Value.agg #[Value.int IntKind.i64 0, Value.slice none 0 0, Value.slice none 0 0], by kernel_rfl, rfl, rfl, rfl, rfl, rfl, rfl⟩, fun h => by cases h⟩
theorem row60 : TRow Try.prog 60 ti60 := ⟨Try.underlying60, ⟨Try.t60, Value.agg #[Value.slice none 0 0, Value.int IntKind.i64 0, Value.slice none 0 0, Value.int IntKind.i64 0, Value.int IntKind.i64 0, Value.slice none 0 0, Value.slice none 0 0], by kernel_rfl, rfl, rfl, rfl, rfl, rfl, rfl⟩, fun h => by cases h⟩
theorem row63 : TRow Try.prog 63 ti63 := ⟨Try.underlying63, ⟨Try.t63, Value.slice none 0 0, by kernel_rfl, rfl, rfl, rfl, rfl, rfl, rfl⟩, fun h => by cases h⟩
theorem row65 : TRow Try.prog 65 ti65 := ⟨Try.underlying65, ⟨Try.t65, Value.agg #[Value.int IntKind.i64 0, Value.slice none 0 0, Value.slice none 0 0], by kernel_rfl, rfl, rfl, rfl, rfl, rfl, rfl⟩, fun h => by cases h⟩
theorem row67 : TRow Try.prog 67 ti67 := ⟨Try.underlying67, ⟨Try.t67, Value.agg #[Value.slice none 0 0, Value.int IntKind.i64 0, Value.slice none 0 0, Value.int IntKind.i64 0, Value.int IntKind.i64 0, Value.slice none 0 0, Value.slice none 0 0], by kernel_rfl, rfl, rfl, rfl, rfl, rfl, rfl⟩, fun h => by cases h⟩
theorem row71 : TRow Try.prog 71 ti71 := ⟨Try.underlying71, ⟨Try.t71, Value.slice none 0 0, by kernel_rfl, rfl, rfl, rfl, rfl, rfl, rfl⟩, fun h => by cases h⟩
theorem row82 : TRow Try.prog 82 ti82 := ⟨Try.underlying82, ⟨Try.t82, Value.agg #[Value.int IntKind.i64 0, Value.int IntKind.i64 0], by kernel_rfl, rfl, rfl, rfl, rfl, rfl, rfl⟩, fun _ => ⟨Try.stoodInHeld82, Try.eqGuardType82⟩⟩
theorem row84 : TRow Try.prog 84 ti84 := ⟨Try.underlying84, ⟨Try.t84, Value.agg #[Value.int IntKind.i64 0, Value.int IntKind.i64 0, Value.int IntKind.i64 0, Value.int IntKind.i64 0], by kernel_rfl, rfl, rfl, rfl, rfl, rfl, rfl⟩, fun _ => ⟨Try.stoodInHeld84, Try.eqGuardType84⟩⟩
theorem row86 : TRow Try.prog 86 ti86 := ⟨Try.underlying86, ⟨Try.t86, Value.agg #[Value.int IntKind.i64 0, Value.int IntKind.i64 0, Value.int IntKind.i64 0, Value.int IntKind.i64 0, Value.int IntKind.i64 0, Value.int IntKind.i64 0, Value.int IntKind.i64 0, Value.int IntKind.i64 0, Value.int IntKind.i64 0, Value.int IntKind.i64 0, Value.int IntKind.i64 0, Value.int IntKind.i64 0, Value.bool false], by kernel_rfl, rfl, rfl, rfl, rfl, rfl, rfl⟩, fun _ => ⟨Try.stoodInHeld86, Try.eqGuardType86⟩⟩
theorem row101 : TRow Try.prog 101 ti101 := ⟨Try.underlying101, ⟨Try.t101, Value.agg #[Value.int IntKind.i64 0, Value.int IntKind.i64 0, Value.int IntKind.i64 0, Value.int IntKind.i64 0, Value.int IntKind.i64 0, Value.int IntKind.i64 0, Value.int IntKind.i64 0, Value.bool false, Value.int IntKind.i64 0, Value.int IntKind.i64 0, Value.int IntKind.i64 0, Value.slice none 0 0, Value.slice none 0 0, Value.slice none 0 0], by kernel_rfl, rfl, rfl, rfl, rfl, rfl, rfl⟩, fun h => by cases h⟩
theorem row107 : TRow Try.prog 107 ti107 := ⟨Try.underlying107, ⟨Try.t107, Value.agg #[Value.int IntKind.i64 0, Value.int IntKind.i64 0, Value.int IntKind.i64 0, Value.int IntKind.i64 0, Value.int IntKind.i64 0, Value.int IntKind.i64 0, Value.int IntKind.i64 0, Value.int IntKind.i64 0, Value.int IntKind.i64 0], by kernel_rfl, rfl, rfl, rfl, rfl, rfl, rfl⟩, fun _ => ⟨Try.stoodInHeld107, Try.eqGuardType107⟩⟩
theorem row111 : TRow Try.prog 111 ti111 := ⟨Try.underlying111, ⟨Try.t111, Value.slice none 0 0, by kernel_rfl, rfl, rfl, rfl, rfl, rfl, rfl⟩, fun h => by cases h⟩
theorem row116 : TRow Try.prog 116 ti116 := ⟨Try.underlying116, ⟨Try.t116, Value.agg #[Value.int IntKind.i64 0, Value.int IntKind.i64 0, Value.int IntKind.i64 0, Value.int IntKind.i64 0, Value.int IntKind.i64 0, Value.int IntKind.i64 0, Value.int IntKind.i64 0], by kernel_rfl, rfl, rfl, rfl, rfl, rfl, rfl⟩, fun _ => ⟨Try.stoodInHeld116, Try.eqGuardType116⟩⟩
theorem row119 : TRow Try.prog 119 ti119 := ⟨Try.underlying119, ⟨Try.t119, Value.slice none 0 0, by kernel_rfl, rfl, rfl, rfl, rfl, rfl, rfl⟩, fun h => by cases h⟩
theorem row121 : TRow Try.prog 121 ti121 := ⟨Try.underlying121, ⟨Try.t121, Value.agg #[Value.slice none 0 0, Value.int IntKind.i64 0, Value.bool false], by kernel_rfl, rfl, rfl, rfl, rfl, rfl, rfl⟩, fun h => by cases h⟩
theorem row134 : TRow Try.prog 134 ti134 := ⟨Try.underlying134, ⟨Try.t134, Value.agg #[Value.int IntKind.i64 0, Value.int IntKind.i64 0], by kernel_rfl, rfl, rfl, rfl, rfl, rfl, rfl⟩, fun _ => ⟨Try.stoodInHeld134, Try.eqGuardType134⟩⟩
theorem row135 : TRow Try.prog 135 ti135 := ⟨Try.underlying135, ⟨Try.t135, Value.agg #[Value.int IntKind.i64 0, Value.int IntKind.i64 0, Value.int IntKind.i64 0, Value.int IntKind.i64 0], by kernel_rfl, rfl, rfl, rfl, rfl, rfl, rfl⟩, fun _ => ⟨Try.stoodInHeld135, Try.eqGuardType135⟩⟩
theorem row137 : TRow Try.prog 137 ti137 := ⟨Try.underlying137, ⟨Try.t137, Value.agg #[Value.int IntKind.i64 0, Value.int IntKind.i64 0, Value.int IntKind.i64 0, Value.int IntKind.i64 0, Value.int IntKind.i64 0, Value.int IntKind.i64 0, Value.int IntKind.i64 0, Value.int IntKind.i64 0, Value.int IntKind.i64 0, Value.int IntKind.i64 0, Value.int IntKind.i64 0, Value.int IntKind.i64 0, Value.bool false], by kernel_rfl, rfl, rfl, rfl, rfl, rfl, rfl⟩, fun _ => ⟨Try.stoodInHeld137, Try.eqGuardType137⟩⟩
theorem row156 : TRow Try.prog 156 ti156 := ⟨Try.underlying156, ⟨Try.t156, Value.slice none 0 0, by kernel_rfl, rfl, rfl, rfl, rfl, rfl, rfl⟩, fun h => by cases h⟩
theorem row158 : TRow Try.prog 158 ti158 := ⟨Try.underlying158, ⟨Try.t158, Value.agg #[Value.slice none 0 0, Value.int IntKind.i64 0, Value.bool false], by kernel_rfl, rfl, rfl, rfl, rfl, rfl, rfl⟩, fun h => by cases h⟩
theorem row180 : TRow Try.prog 180 ti180 := ⟨Try.underlying180, ⟨Try.t180, Value.agg #[Value.int IntKind.i64 0, Value.int IntKind.i64 0, Value.int IntKind.i64 0, Value.int IntKind.i64 0, Value.int IntKind.i64 0, Value.int IntKind.i64 0, Value.int IntKind.i64 0, Value.int IntKind.i64 0, Value.int IntKind.i64 0], by kernel_rfl, rfl, rfl, rfl, rfl, rfl, rfl⟩, fun _ => ⟨Try.stoodInHeld180, Try.eqGuardType180⟩⟩
theorem row183 : TRow Try.prog 183 ti183 := ⟨Try.underlying183, ⟨Try.t183, Value.agg #[Value.int IntKind.i64 0, Value.int IntKind.i64 0, Value.int IntKind.i64 0, Value.int IntKind.i64 0, Value.int IntKind.i64 0, Value.int IntKind.i64 0, Value.int IntKind.i64 0], by kernel_rfl, rfl, rfl, rfl, rfl, rfl, rfl⟩, fun _ => ⟨Try.stoodInHeld183, Try.eqGuardType183⟩⟩
theorem row187 : TRow Try.prog 187 ti187 := ⟨Try.underlying187, ⟨Try.t187, Value.int IntKind.u64 0, by kernel_rfl, rfl, rfl, rfl, rfl, rfl, rfl⟩, fun h => by cases h⟩
theorem rows : TRows Try.prog tab := ⟨row3, row4, row5, row23, row24, row26, row29, row31, row33, row37, row45, row46, row49, row54, row55, row56, row58, row60, row63, row65, row67, row71, row82, row84, row86, row101, row107, row111, row116, row119, row121, row134, row135, row137, row156, row158, row180, row183, row187, trivial⟩
abbrev TT : TypeId → Option TI := tabT tab
theorem ttok : TTok Try.prog TT := ttok_of rows (by decide +kernel)
end Go.Rk
/- The data of this program, by shapes. -/
namespace Go.Rk
set_option linter.unusedSimpArgs false
set_option linter.unusedVariables false
abbrev eI (n : Int) : DV := .v (.int .i64 n)
abbrev eB (n : Bool) : DV := .v (.bool n)
def xd (l : List DV) : XT := .agg (l.map .d)
/-- Rows. -/
structure Sl (α : Type) where
  n : Nat
  g : Nat → α
  hn : n ≤ maxLen
structure JobT where
  srcs : Int
  tsks : Int
  kind : Int
  size : Int
  step : Int
  late : Int
  tell : Int
  piece : Bool
  least : Int
  room : Int
structure ItmT where
  kind : Int
  t : Int
  key : Int
  v : Int
  n : Int
structure WinT where
  s : Int
  e : Int
structure AggT where
  n : Int
  sum : Int
  least : Int
  most : Int
structure RowT where
  key : Int
  win : WinT
  all : AggT
  fresh : AggT
  told : Int
  timely : Bool
structure OpStT where
  mark : Int
  rows : Sl RowT
structure PaneT where
  key : Int
  win : WinT
  no : Int
  kind : Int
  agg : AggT
structure LatT where
  itm : ItmT
  win : WinT
structure TabT where
  key : Int
  win : WinT
  agg : AggT
structure TskInT where
  queue : Sl ItmT
  mark : Int
  held : Bool
structure TxnT where
  n : Int
  panes : Sl PaneT
  lates : Sl LatT
structure TskT where
  ins : Sl TskInT
  op : OpStT
  wall : Int
  pend : TxnT
structure SnapT where
  op : OpStT
  marks : Sl Int
structure SafeT where
  n : Int
  at_ : Sl Int
  snaps : Sl SnapT
structure CkpT where
  n : Int
  opn : Bool
  src : Sl Int
  tsk : Sl Bool
  snaps : Sl SnapT
  safe : SafeT
structure SrcT where
  at_ : Int
  wall : Int
structure SinkT where
  ready : Sl TxnT
  n : Int
  panes : Sl PaneT
  lates : Sl LatT
structure FloT where
  job : JobT
  logs : Sl (Sl ItmT)
  srcs : Sl SrcT
  tasks : Sl TskT
  sinks : Sl SinkT
  ckp : CkpT
def eJob (x : JobT) : List DV := [eI x.srcs, eI x.tsks, eI x.kind, eI x.size, eI x.step, eI x.late, eI x.tell, eB x.piece, eI x.least, eI x.room]
def eItm (x : ItmT) : List DV := [eI x.kind, eI x.t, eI x.key, eI x.v, eI x.n]
def eWin (x : WinT) : List DV := [eI x.s, eI x.e]
def eAgg (x : AggT) : List DV := [eI x.n, eI x.sum, eI x.least, eI x.most]
def eRow (x : RowT) : List DV := [eI x.key, eI x.win.s, eI x.win.e, eI x.all.n, eI x.all.sum, eI x.all.least, eI x.all.most, eI x.fresh.n, eI x.fresh.sum, eI x.fresh.least, eI x.fresh.most, eI x.told, eB x.timely]
def eOpSt (x : OpStT) : List DV := [eI x.mark, (.sl 13 x.rows.n fun i => eRow (x.rows.g i))]
def bdOpSt (x : OpStT) : Prop := x.rows.n ≤ 1048576
def ePane (x : PaneT) : List DV := [eI x.key, eI x.win.s, eI x.win.e, eI x.no, eI x.kind, eI x.agg.n, eI x.agg.sum, eI x.agg.least, eI x.agg.most]
def eLat (x : LatT) : List DV := [eI x.itm.kind, eI x.itm.t, eI x.itm.key, eI x.itm.v, eI x.itm.n, eI x.win.s, eI x.win.e]
def eTab (x : TabT) : List DV := [eI x.key, eI x.win.s, eI x.win.e, eI x.agg.n, eI x.agg.sum, eI x.agg.least, eI x.agg.most]
def eTskIn (x : TskInT) : List DV := [(.sl 5 x.queue.n fun i => eItm (x.queue.g i)), eI x.mark, eB x.held]
def bdTskIn (x : TskInT) : Prop := x.queue.n ≤ 1048576
def eTxn (x : TxnT) : List DV := [eI x.n, (.sl 9 x.panes.n fun i => ePane (x.panes.g i)), (.sl 7 x.lates.n fun i => eLat (x.lates.g i))]
def bdTxn (x : TxnT) : Prop := x.panes.n ≤ 1048576 ∧ x.lates.n ≤ 1048576
def eTsk (x : TskT) : List DV := [(.sl 3 x.ins.n fun i => eTskIn (x.ins.g i)), eI x.op.mark, (.sl 13 x.op.rows.n fun i => eRow (x.op.rows.g i)), eI x.wall, eI x.pend.n, (.sl 9 x.pend.panes.n fun i => ePane (x.pend.panes.g i)), (.sl 7 x.pend.lates.n fun i => eLat (x.pend.lates.g i))]
def bdTsk (x : TskT) : Prop := x.ins.n ≤ 1048576 ∧ (∀ i, i < x.ins.n → bdTskIn (x.ins.g i)) ∧ bdOpSt x.op ∧ bdTxn x.pend
def eSnap (x : SnapT) : List DV := [eI x.op.mark, (.sl 13 x.op.rows.n fun i => eRow (x.op.rows.g i)), (.sl 1 x.marks.n fun i => [eI (x.marks.g i)])]
def bdSnap (x : SnapT) : Prop := bdOpSt x.op ∧ x.marks.n ≤ 1048576
def eSafe (x : SafeT) : List DV := [eI x.n, (.sl 1 x.at_.n fun i => [eI (x.at_.g i)]), (.sl 3 x.snaps.n fun i => eSnap (x.snaps.g i))]
def bdSafe (x : SafeT) : Prop := x.at_.n ≤ 1048576 ∧ x.snaps.n ≤ 1048576 ∧ (∀ i, i < x.snaps.n → bdSnap (x.snaps.g i))
def eCkp (x : CkpT) : List DV := [eI x.n, eB x.opn, (.sl 1 x.src.n fun i => [eI (x.src.g i)]), (.sl 1 x.tsk.n fun i => [eB (x.tsk.g i)]), (.sl 3 x.snaps.n fun i => eSnap (x.snaps.g i)), eI x.safe.n, (.sl 1 x.safe.at_.n fun i => [eI (x.safe.at_.g i)]), (.sl 3 x.safe.snaps.n fun i => eSnap (x.safe.snaps.g i))]
def bdCkp (x : CkpT) : Prop := x.src.n ≤ 1048576 ∧ x.tsk.n ≤ 1048576 ∧ x.snaps.n ≤ 1048576 ∧ (∀ i, i < x.snaps.n → bdSnap (x.snaps.g i)) ∧ bdSafe x.safe
def eSrc (x : SrcT) : List DV := [eI x.at_, eI x.wall]
def eSink (x : SinkT) : List DV := [(.sl 3 x.ready.n fun i => eTxn (x.ready.g i)), eI x.n, (.sl 9 x.panes.n fun i => ePane (x.panes.g i)), (.sl 7 x.lates.n fun i => eLat (x.lates.g i))]
def bdSink (x : SinkT) : Prop := x.ready.n ≤ 1048576 ∧ (∀ i, i < x.ready.n → bdTxn (x.ready.g i)) ∧ x.panes.n ≤ 1048576 ∧ x.lates.n ≤ 1048576
def eFlo (x : FloT) : List DV := [eI x.job.srcs, eI x.job.tsks, eI x.job.kind, eI x.job.size, eI x.job.step, eI x.job.late, eI x.job.tell, eB x.job.piece, eI x.job.least, eI x.job.room, (.sl 1 x.logs.n fun i => [.sl 5 (x.logs.g i).n fun k => eItm ((x.logs.g i).g k)]), (.sl 2 x.srcs.n fun i => eSrc (x.srcs.g i)), (.sl 7 x.tasks.n fun i => eTsk (x.tasks.g i)), (.sl 4 x.sinks.n fun i => eSink (x.sinks.g i)), eI x.ckp.n, eB x.ckp.opn, (.sl 1 x.ckp.src.n fun i => [eI (x.ckp.src.g i)]), (.sl 1 x.ckp.tsk.n fun i => [eB (x.ckp.tsk.g i)]), (.sl 3 x.ckp.snaps.n fun i => eSnap (x.ckp.snaps.g i)), eI x.ckp.safe.n, (.sl 1 x.ckp.safe.at_.n fun i => [eI (x.ckp.safe.at_.g i)]), (.sl 3 x.ckp.safe.snaps.n fun i => eSnap (x.ckp.safe.snaps.g i))]
def bdFlo (x : FloT) : Prop := x.logs.n ≤ 1048576 ∧ (∀ i, i < x.logs.n → (x.logs.g i).n ≤ 1048576) ∧ x.srcs.n ≤ 1048576 ∧ x.tasks.n ≤ 1048576 ∧ (∀ i, i < x.tasks.n → bdTsk (x.tasks.g i)) ∧ x.sinks.n ≤ 1048576 ∧ (∀ i, i < x.sinks.n → bdSink (x.sinks.g i)) ∧ bdCkp x.ckp
end Go.Rk
/- What the program's small functions say, in words of numbers; sizes. -/
namespace Go.Rk
set_option linter.unusedSimpArgs false
set_option linter.unusedVariables false
theorem made_n {A : Ar} (hA : real = A) {n b : Nat} (hn : n ≤ 1048576) (hb : b ≤ 100000) : A.made (A.int n) (A.int n) b := by
  subst hA
  have h1 : n * b ≤ 1048576 * 100000 := Nat.mul_le_mul hn hb
  have h2 : (n : Int) * (b : Int) ≤ 140737488355328 := by
    rw [← Int.natCast_mul]
    omega
  have h3 : (n : Int) ≤ 140737488355328 := by omega
  exact ⟨Int.natCast_nonneg n, rfl, h2, h3⟩
theorem cut_of {A : Ar} (hA : real = A) {a b : Int} {n : Nat} (h : 0 ≤ a ∧ a ≤ b ∧ b ≤ n) : A.cut a b n := by subst hA; exact h
/-- The first rows of a slice. -/
theorem sl0 {A : Ar} (hA : real = A) (sz i : Nat) (f : Nat → List DV) : DV.sl sz (A.dif (Int.ofNat i) 0) (A.sub (A.nat 0) f) = .sl sz i f := by
  subst hA
  have e : (fun j => f (0 + j)) = f := by funext j; rw [Nat.zero_add]
  show DV.sl sz ((Int.ofNat i - 0).toNat) (fun j => f ((0 : Int).toNat + j)) = _
  simp only [Int.sub_zero]
  exact congrArg (DV.sl sz i) e
theorem bifA (b x : Bool) : (bif b then x else false) = (b && x) := by cases b <;> rfl
theorem bifB (b x : Bool) : (bif b then true else x) = (b || x) := by cases b <;> rfl
theorem bifC (b x : Bool) : (bif b then false else x) = (!b && x) := by cases b <;> rfl
theorem bifD (b x : Bool) : (bif b then x else true) = (!b || x) := by cases b <;> rfl
theorem bifE (b x y : Bool) : (bif b then x else y) = (b && x || !b && y) := by cases b <;> simp
def w64 (n : Int) : Int := IntKind.i64.wrap n
/-- The first place, or -1. -/
inductive FirstIx (n : Nat) (p : Nat → Prop) : Int → Prop
  | at (i : Nat) (h : i < n) (hi : p i) (hb : ∀ j, j < i → ¬ p j) : FirstIx n p i
  | none (hb : ∀ j, j < n → ¬ p j) : FirstIx n p (-1)
theorem firstIx_ex (n : Nat) (p : Nat → Prop) : ∃ x, FirstIx n p x := by
  by_cases h : ∃ i, i < n ∧ p i
  · obtain ⟨i, hi⟩ := h
    induction i using Nat.strongRecOn with
    | _ i ih =>
      by_cases hm : ∃ j, j < i ∧ p j
      · obtain ⟨j, hj1, hj2⟩ := hm
        exact ih j hj1 ⟨by omega, hj2⟩
      · exact ⟨_, .at i hi.1 hi.2 fun j hj e => hm ⟨j, hj, e⟩⟩
  · exact ⟨-1, .none fun j hj e => h ⟨j, hj, e⟩⟩
theorem firstIx_one {n : Nat} {p : Nat → Prop} {x y : Int} (h : FirstIx n p x) (h' : FirstIx n p y) : x = y := by
  cases h with
  | «at» i hi hh hb =>
    cases h' with
    | «at» j hj hh' hb' =>
      have : i = j := by
        rcases Nat.lt_trichotomy i j with h | h | h
        · exact absurd hh (hb' i h)
        · exact h
        · exact absurd hh' (hb j h)
      rw [this]
    | none hb' => exact absurd hh (hb' i hi)
  | none hb =>
    cases h' with
    | «at» j hj hh' hb' => exact absurd hh' (hb j hj)
    | none hb' => rfl
theorem firstIx_neg {n : Nat} {p : Nat → Prop} {x : Int} (h : FirstIx n p x) : (0 ≤ x ↔ ∃ i, i < n ∧ p i) ∧ (0 ≤ x → ∃ i, i < n ∧ x = (i : Int) ∧ p i ∧ ∀ j, j < i → ¬ p j) ∧ (¬ 0 ≤ x → x = -1) := by
  cases h with
  | «at» i hi hh hb => exact ⟨⟨fun _ => ⟨i, hi, hh⟩, fun _ => by omega⟩, fun _ => ⟨i, hi, rfl, hh, hb⟩, fun h => absurd (by omega) h⟩
  | none hb => exact ⟨⟨fun h => by omega, fun ⟨i, hi, hp⟩ => absurd hp (hb i hi)⟩, fun h => by omega, fun _ => rfl⟩
def InP (n lo hi : Int) : Prop := lo ≤ n ∧ n ≤ hi
def WinOkP (w : WinT) : Prop := (0 ≤ w.s ∧ w.s ≤ 60) ∧ IntKind.i64.wrap (w.s + 1) ≤ w.e ∧ w.e ≤ 120
def AggOkP (a : AggT) : Prop := (a.n = 0 ∧ a.sum = 0 ∧ a.least = 0 ∧ a.most = 0) ∨
  (a.n ≠ 0 ∧ (1 ≤ a.n ∧ a.n ≤ 1000) ∧ (-9 ≤ a.least ∧ a.least ≤ 9) ∧ (a.least ≤ a.most ∧ a.most ≤ 9) ∧ (IntKind.i64.wrap (a.n * a.least) ≤ a.sum ∧ a.sum ≤ IntKind.i64.wrap (a.n * a.most)))
def ItmOkP (x : ItmT) : Prop :=
  (x.kind = 1 ∧ (0 ≤ x.t ∧ x.t ≤ 60) ∧ (0 ≤ x.key ∧ x.key ≤ 3) ∧ (-9 ≤ x.v ∧ x.v ≤ 9) ∧ x.n = 0) ∨
  (x.kind = 2 ∧ ((1 ≤ x.t ∧ x.t ≤ 60) ∨ x.t = 1000) ∧ x.key = 0 ∧ x.v = 0 ∧ x.n = 0) ∨
  (x.kind = 3 ∧ x.t = 0 ∧ x.key = 0 ∧ x.v = 0 ∧ (1 ≤ x.n ∧ x.n ≤ 900))
def JobOkP (j : JobT) : Prop := (1 ≤ j.srcs ∧ j.srcs ≤ 3) ∧ (1 ≤ j.tsks ∧ j.tsks ≤ 2) ∧ (1 ≤ j.kind ∧ j.kind ≤ 3) ∧ (1 ≤ j.size ∧ j.size ≤ 20) ∧
  ((j.kind = 2 ∧ (1 ≤ j.step ∧ j.step ≤ j.size) ∧ j.size ≤ 4 * j.step) ∨ (j.kind ≠ 2 ∧ j.step = 0)) ∧
  (0 ≤ j.late ∧ j.late ≤ 20) ∧ (1 ≤ j.tell ∧ j.tell ≤ 4) ∧ (-9 ≤ j.least ∧ j.least ≤ 9) ∧ (1 ≤ j.room ∧ j.room ≤ 4)
def TouchP (a b : WinT) : Prop := a.s < b.e ∧ b.s < a.e
def WinLt (a b : WinT) : Prop := a.s < b.s ∨ (a.s = b.s ∧ a.e < b.e)
def AheadP (ak : Int) (aw : WinT) (bk : Int) (bw : WinT) : Prop := ak < bk ∨ (ak = bk ∧ WinLt aw bw)
def RowOkP (j : JobT) (r : RowT) (mark : Int) : Prop := (0 ≤ r.key ∧ r.key ≤ 3) ∧ WinOkP r.win ∧ AggOkP r.all ∧ AggOkP r.fresh ∧ r.all.n ≠ 0 ∧ r.fresh.n ≤ r.all.n ∧ (0 ≤ r.told ∧ r.told ≤ 1500) ∧
  mark < IntKind.i64.wrap (r.win.e + j.late) ∧ (r.timely = true ↔ r.win.e ≤ mark) ∧ (0 < r.told ↔ r.win.e ≤ mark) ∧ (r.fresh.n = 0 ↔ r.win.e ≤ mark)
def PaneOkP (p : PaneT) : Prop := (0 ≤ p.key ∧ p.key ≤ 3) ∧ WinOkP p.win ∧ (0 ≤ p.no ∧ p.no ≤ 1500) ∧ AggOkP p.agg ∧
  ((p.kind = 1 ∧ p.no = 0 ∧ 0 < p.agg.n) ∨ (p.kind = 2 ∧ 0 < p.no ∧ 0 < p.agg.n) ∨ (p.kind = 3 ∧ 0 < p.no ∧ p.agg.n = 0))
def LatOkP (l : LatT) : Prop := (l.itm.kind = 1 ∧ ItmOkP l.itm) ∧ WinOkP l.win ∧ (l.win.s ≤ l.itm.t ∧ l.itm.t ≤ IntKind.i64.wrap (l.win.e - 1))
def OpOkP (j : JobT) (s : OpStT) : Prop := JobOkP j ∧ (0 ≤ s.mark ∧ s.mark ≤ 1000) ∧ s.rows.n ≤ 300 ∧
  ∀ i, i < s.rows.n → RowOkP j (s.rows.g i) s.mark ∧ (0 < i → AheadP (s.rows.g (i - 1)).key (s.rows.g (i - 1)).win (s.rows.g i).key (s.rows.g i).win) ∧
    (j.kind = 3 → ∀ k, k < i → ¬ ((s.rows.g k).key = (s.rows.g i).key ∧ TouchP (s.rows.g k).win (s.rows.g i).win))
end Go.Rk
/- Sizes: what is left when the rows of something are taken off. -/
namespace Go.Rk
set_option linter.unusedSimpArgs false
set_option linter.unusedVariables false
theorem up64 {i n : Nat} (h : i < n) (hn : n ≤ maxLen) : IntKind.i64.wrap ((i : Int) + 1) = ((i + 1 : Nat) : Int) := by
  have hm : maxLen = 9223372036854775807 := by decide
  rw [hm] at hn
  rw [IntWalk.i64_in _ (by omega)]
  simp
def szN (n : Nat) (l : Int) : Int := if l - (n : Int) < 0 then -1 else l - n
def szLoop (f : Nat → Int → Int) (l : Int) : Nat → Int
  | 0 => l
  | i + 1 => if szLoop f l i < 0 then -1 else f i (szLoop f l i)
theorem szN_spec {n : Nat} {l : Int} (h0 : 0 ≤ l) (h1 : l ≤ 1048576) : -1 ≤ szN n l ∧ szN n l ≤ 1048576 ∧ (0 ≤ szN n l → n ≤ 1048576) := by
  unfold szN; split <;> omega
theorem szLoop_spec {f : Nat → Int → Int} {B : Nat → Prop} {n : Nat} (hf : ∀ i, i < n → ∀ l, 0 ≤ l → l ≤ 1048576 → -1 ≤ f i l ∧ f i l ≤ 1048576 ∧ (0 ≤ f i l → B i)) {l : Int} (h0 : 0 ≤ l) (h1 : l ≤ 1048576) :
    ∀ k, k ≤ n → -1 ≤ szLoop f l k ∧ szLoop f l k ≤ 1048576 ∧ (0 ≤ szLoop f l k → ∀ i, i < k → B i)
  | 0, _ => ⟨by unfold szLoop; omega, h1, fun _ i h => absurd h (Nat.not_lt_zero i)⟩
  | k + 1, hk => by
    have ih := szLoop_spec hf h0 h1 k (by omega)
    unfold szLoop
    split
    · exact ⟨by omega, by omega, fun h => by omega⟩
    · rename_i hge
      have := hf k (by omega) _ (by omega) ih.2.1
      refine ⟨this.1, this.2.1, fun h i hi => ?_⟩
      rcases Nat.lt_succ_iff_lt_or_eq.1 hi with hi | rfl
      · exact ih.2.2 (by omega) i hi
      · exact this.2.2 h
theorem szLoop_neg {f : Nat → Int → Int} {l : Int} {n : Nat} (hf : ∀ k, k ≤ n → -1 ≤ szLoop f l k) {k : Nat} (h : szLoop f l k < 0) : ∀ m, k + m ≤ n → szLoop f l (k + m) = -1
  | 0, hm => by have := hf k hm; simp only [Nat.add_zero]; omega
  | m + 1, hm => by
    have ih := szLoop_neg hf h m (by omega)
    show szLoop f l (k + m + 1) = -1
    unfold szLoop
    rw [ih]; rfl
def szS (f : Nat → Int → Int) (n : Nat) (l : Int) : Int := if szN n l < 0 then -1 else szLoop f (szN n l) n
theorem szS_spec {f : Nat → Int → Int} {B : Nat → Prop} {n : Nat} (hf : ∀ i, i < n → ∀ l, 0 ≤ l → l ≤ 1048576 → -1 ≤ f i l ∧ f i l ≤ 1048576 ∧ (0 ≤ f i l → B i)) {l : Int} (h0 : 0 ≤ l) (h1 : l ≤ 1048576) :
    -1 ≤ szS f n l ∧ szS f n l ≤ 1048576 ∧ (0 ≤ szS f n l → n ≤ 1048576 ∧ ∀ i, i < n → B i) := by
  unfold szS
  have s := szN_spec (n := n) h0 h1
  split
  · omega
  · have t := szLoop_spec hf (l := szN n l) (by omega) s.2.1 n (Nat.le_refl n)
    exact ⟨t.1, t.2.1, fun h => ⟨s.2.2 (by omega), t.2.2 h⟩⟩
def szOpSt (x : OpStT) (l0 : Int) : Int := szN x.rows.n l0
theorem szOpSt_spec (x : OpStT) {l0 : Int} (h0 : 0 ≤ l0) (h1 : l0 ≤ 1048576) : -1 ≤ szOpSt x l0 ∧ szOpSt x l0 ≤ 1048576 ∧ (0 ≤ szOpSt x l0 → bdOpSt x) := by
  unfold szOpSt bdOpSt
  have s1 := szN_spec (n := x.rows.n) h0 h1
  refine ⟨s1.1, s1.2.1, fun h => ?_⟩
  have t1 := s1.2.2 h
  simp_all
def szTskIn (x : TskInT) (l0 : Int) : Int := szN x.queue.n l0
theorem szTskIn_spec (x : TskInT) {l0 : Int} (h0 : 0 ≤ l0) (h1 : l0 ≤ 1048576) : -1 ≤ szTskIn x l0 ∧ szTskIn x l0 ≤ 1048576 ∧ (0 ≤ szTskIn x l0 → bdTskIn x) := by
  unfold szTskIn bdTskIn
  have s1 := szN_spec (n := x.queue.n) h0 h1
  refine ⟨s1.1, s1.2.1, fun h => ?_⟩
  have t1 := s1.2.2 h
  simp_all
def szTxn (x : TxnT) (l0 : Int) : Int := let l1 := szN x.panes.n l0; if l1 < 0 then -1 else szN x.lates.n l1
theorem szTxn_spec (x : TxnT) {l0 : Int} (h0 : 0 ≤ l0) (h1 : l0 ≤ 1048576) : -1 ≤ szTxn x l0 ∧ szTxn x l0 ≤ 1048576 ∧ (0 ≤ szTxn x l0 → bdTxn x) := by
  unfold szTxn bdTxn
  have s1 := szN_spec (n := x.panes.n) h0 h1
  generalize szN x.panes.n l0 = l1 at s1 ⊢
  try dsimp only
  by_cases c1 : l1 < 0
  · rw [if_pos c1]; exact ⟨by omega, by omega, fun h => absurd h (by omega)⟩
  rw [if_neg c1]
  have s2 := szN_spec (n := x.lates.n) (by omega : 0 ≤ l1) s1.2.1
  refine ⟨s2.1, s2.2.1, fun h => ?_⟩
  have t1 := s1.2.2 (by omega)
  have t2 := s2.2.2 h
  simp_all
def szTsk (x : TskT) (l0 : Int) : Int := let l1 := szS (fun i l => szTskIn (x.ins.g i) l) x.ins.n l0; if l1 < 0 then -1 else let l2 := szOpSt x.op l1; if l2 < 0 then -1 else szTxn x.pend l2
theorem szTsk_spec (x : TskT) {l0 : Int} (h0 : 0 ≤ l0) (h1 : l0 ≤ 1048576) : -1 ≤ szTsk x l0 ∧ szTsk x l0 ≤ 1048576 ∧ (0 ≤ szTsk x l0 → bdTsk x) := by
  unfold szTsk bdTsk
  have s1 := (szS_spec (n := x.ins.n) (B := fun i => bdTskIn (x.ins.g i)) (fun i _ l h0 h1 => by simpa using szTskIn_spec (x.ins.g i) h0 h1) h0 h1)
  generalize szS (fun i l => szTskIn (x.ins.g i) l) x.ins.n l0 = l1 at s1 ⊢
  try dsimp only
  by_cases c1 : l1 < 0
  · rw [if_pos c1]; exact ⟨by omega, by omega, fun h => absurd h (by omega)⟩
  rw [if_neg c1]
  have s2 := szOpSt_spec x.op (by omega : 0 ≤ l1) s1.2.1
  generalize szOpSt x.op l1 = l2 at s2 ⊢
  try dsimp only
  by_cases c2 : l2 < 0
  · rw [if_pos c2]; exact ⟨by omega, by omega, fun h => absurd h (by omega)⟩
  rw [if_neg c2]
  have s3 := szTxn_spec x.pend (by omega : 0 ≤ l2) s2.2.1
  refine ⟨s3.1, s3.2.1, fun h => ?_⟩
  have t1 := s1.2.2 (by omega)
  have t2 := s2.2.2 (by omega)
  have t3 := s3.2.2 h
  simp_all
def szSnap (x : SnapT) (l0 : Int) : Int := let l1 := szOpSt x.op l0; if l1 < 0 then -1 else szN x.marks.n l1
theorem szSnap_spec (x : SnapT) {l0 : Int} (h0 : 0 ≤ l0) (h1 : l0 ≤ 1048576) : -1 ≤ szSnap x l0 ∧ szSnap x l0 ≤ 1048576 ∧ (0 ≤ szSnap x l0 → bdSnap x) := by
  unfold szSnap bdSnap
  have s1 := szOpSt_spec x.op h0 h1
  generalize szOpSt x.op l0 = l1 at s1 ⊢
  try dsimp only
  by_cases c1 : l1 < 0
  · rw [if_pos c1]; exact ⟨by omega, by omega, fun h => absurd h (by omega)⟩
  rw [if_neg c1]
  have s2 := szN_spec (n := x.marks.n) (by omega : 0 ≤ l1) s1.2.1
  refine ⟨s2.1, s2.2.1, fun h => ?_⟩
  have t1 := s1.2.2 (by omega)
  have t2 := s2.2.2 h
  simp_all
def szSafe (x : SafeT) (l0 : Int) : Int := let l1 := szN x.at_.n l0; if l1 < 0 then -1 else szS (fun i l => szSnap (x.snaps.g i) l) x.snaps.n l1
theorem szSafe_spec (x : SafeT) {l0 : Int} (h0 : 0 ≤ l0) (h1 : l0 ≤ 1048576) : -1 ≤ szSafe x l0 ∧ szSafe x l0 ≤ 1048576 ∧ (0 ≤ szSafe x l0 → bdSafe x) := by
  unfold szSafe bdSafe
  have s1 := szN_spec (n := x.at_.n) h0 h1
  generalize szN x.at_.n l0 = l1 at s1 ⊢
  try dsimp only
  by_cases c1 : l1 < 0
  · rw [if_pos c1]; exact ⟨by omega, by omega, fun h => absurd h (by omega)⟩
  rw [if_neg c1]
  have s2 := (szS_spec (n := x.snaps.n) (B := fun i => bdSnap (x.snaps.g i)) (fun i _ l h0 h1 => by simpa using szSnap_spec (x.snaps.g i) h0 h1) (by omega : 0 ≤ l1) s1.2.1)
  refine ⟨s2.1, s2.2.1, fun h => ?_⟩
  have t1 := s1.2.2 (by omega)
  have t2 := s2.2.2 h
  simp_all
def szCkp (x : CkpT) (l0 : Int) : Int := let l1 := szN x.src.n l0; if l1 < 0 then -1 else let l2 := szN x.tsk.n l1; if l2 < 0 then -1 else let l3 := szS (fun i l => szSnap (x.snaps.g i) l) x.snaps.n l2; if l3 < 0 then -1 else szSafe x.safe l3
theorem szCkp_spec (x : CkpT) {l0 : Int} (h0 : 0 ≤ l0) (h1 : l0 ≤ 1048576) : -1 ≤ szCkp x l0 ∧ szCkp x l0 ≤ 1048576 ∧ (0 ≤ szCkp x l0 → bdCkp x) := by
  unfold szCkp bdCkp
  have s1 := szN_spec (n := x.src.n) h0 h1
  generalize szN x.src.n l0 = l1 at s1 ⊢
  try dsimp only
  by_cases c1 : l1 < 0
  · rw [if_pos c1]; exact ⟨by omega, by omega, fun h => absurd h (by omega)⟩
  rw [if_neg c1]
  have s2 := szN_spec (n := x.tsk.n) (by omega : 0 ≤ l1) s1.2.1
  generalize szN x.tsk.n l1 = l2 at s2 ⊢
  try dsimp only
  by_cases c2 : l2 < 0
  · rw [if_pos c2]; exact ⟨by omega, by omega, fun h => absurd h (by omega)⟩
  rw [if_neg c2]
  have s3 := (szS_spec (n := x.snaps.n) (B := fun i => bdSnap (x.snaps.g i)) (fun i _ l h0 h1 => by simpa using szSnap_spec (x.snaps.g i) h0 h1) (by omega : 0 ≤ l2) s2.2.1)
  generalize szS (fun i l => szSnap (x.snaps.g i) l) x.snaps.n l2 = l3 at s3 ⊢
  try dsimp only
  by_cases c3 : l3 < 0
  · rw [if_pos c3]; exact ⟨by omega, by omega, fun h => absurd h (by omega)⟩
  rw [if_neg c3]
  have s4 := szSafe_spec x.safe (by omega : 0 ≤ l3) s3.2.1
  refine ⟨s4.1, s4.2.1, fun h => ?_⟩
  have t1 := s1.2.2 (by omega)
  have t2 := s2.2.2 (by omega)
  have t3 := s3.2.2 (by omega)
  have t4 := s4.2.2 h
  simp_all
def szSink (x : SinkT) (l0 : Int) : Int := let l1 := szS (fun i l => szTxn (x.ready.g i) l) x.ready.n l0; if l1 < 0 then -1 else let l2 := szN x.panes.n l1; if l2 < 0 then -1 else szN x.lates.n l2
theorem szSink_spec (x : SinkT) {l0 : Int} (h0 : 0 ≤ l0) (h1 : l0 ≤ 1048576) : -1 ≤ szSink x l0 ∧ szSink x l0 ≤ 1048576 ∧ (0 ≤ szSink x l0 → bdSink x) := by
  unfold szSink bdSink
  have s1 := (szS_spec (n := x.ready.n) (B := fun i => bdTxn (x.ready.g i)) (fun i _ l h0 h1 => by simpa using szTxn_spec (x.ready.g i) h0 h1) h0 h1)
  generalize szS (fun i l => szTxn (x.ready.g i) l) x.ready.n l0 = l1 at s1 ⊢
  try dsimp only
  by_cases c1 : l1 < 0
  · rw [if_pos c1]; exact ⟨by omega, by omega, fun h => absurd h (by omega)⟩
  rw [if_neg c1]
  have s2 := szN_spec (n := x.panes.n) (by omega : 0 ≤ l1) s1.2.1
  generalize szN x.panes.n l1 = l2 at s2 ⊢
  try dsimp only
  by_cases c2 : l2 < 0
  · rw [if_pos c2]; exact ⟨by omega, by omega, fun h => absurd h (by omega)⟩
  rw [if_neg c2]
  have s3 := szN_spec (n := x.lates.n) (by omega : 0 ≤ l2) s2.2.1
  refine ⟨s3.1, s3.2.1, fun h => ?_⟩
  have t1 := s1.2.2 (by omega)
  have t2 := s2.2.2 (by omega)
  have t3 := s3.2.2 h
  simp_all
def szFlo (x : FloT) (l0 : Int) : Int := let l1 := szS (fun i l => szN (x.logs.g i).n l) x.logs.n l0; if l1 < 0 then -1 else let l2 := szN x.srcs.n l1; if l2 < 0 then -1 else let l3 := szS (fun i l => szTsk (x.tasks.g i) l) x.tasks.n l2; if l3 < 0 then -1 else let l4 := szS (fun i l => szSink (x.sinks.g i) l) x.sinks.n l3; if l4 < 0 then -1 else szCkp x.ckp l4
theorem szFlo_spec (x : FloT) {l0 : Int} (h0 : 0 ≤ l0) (h1 : l0 ≤ 1048576) : -1 ≤ szFlo x l0 ∧ szFlo x l0 ≤ 1048576 ∧ (0 ≤ szFlo x l0 → bdFlo x) := by
  unfold szFlo bdFlo
  have s1 := (szS_spec (n := x.logs.n) (B := fun i => (x.logs.g i).n ≤ 1048576) (fun i _ l h0 h1 => by simpa using szN_spec (n := (x.logs.g i).n) h0 h1) h0 h1)
  generalize szS (fun i l => szN (x.logs.g i).n l) x.logs.n l0 = l1 at s1 ⊢
  try dsimp only
  by_cases c1 : l1 < 0
  · rw [if_pos c1]; exact ⟨by omega, by omega, fun h => absurd h (by omega)⟩
  rw [if_neg c1]
  have s2 := szN_spec (n := x.srcs.n) (by omega : 0 ≤ l1) s1.2.1
  generalize szN x.srcs.n l1 = l2 at s2 ⊢
  try dsimp only
  by_cases c2 : l2 < 0
  · rw [if_pos c2]; exact ⟨by omega, by omega, fun h => absurd h (by omega)⟩
  rw [if_neg c2]
  have s3 := (szS_spec (n := x.tasks.n) (B := fun i => bdTsk (x.tasks.g i)) (fun i _ l h0 h1 => by simpa using szTsk_spec (x.tasks.g i) h0 h1) (by omega : 0 ≤ l2) s2.2.1)
  generalize szS (fun i l => szTsk (x.tasks.g i) l) x.tasks.n l2 = l3 at s3 ⊢
  try dsimp only
  by_cases c3 : l3 < 0
  · rw [if_pos c3]; exact ⟨by omega, by omega, fun h => absurd h (by omega)⟩
  rw [if_neg c3]
  have s4 := (szS_spec (n := x.sinks.n) (B := fun i => bdSink (x.sinks.g i)) (fun i _ l h0 h1 => by simpa using szSink_spec (x.sinks.g i) h0 h1) (by omega : 0 ≤ l3) s3.2.1)
  generalize szS (fun i l => szSink (x.sinks.g i) l) x.sinks.n l3 = l4 at s4 ⊢
  try dsimp only
  by_cases c4 : l4 < 0
  · rw [if_pos c4]; exact ⟨by omega, by omega, fun h => absurd h (by omega)⟩
  rw [if_neg c4]
  have s5 := szCkp_spec x.ckp (by omega : 0 ≤ l4) s4.2.1
  refine ⟨s5.1, s5.2.1, fun h => ?_⟩
  have t1 := s1.2.2 (by omega)
  have t2 := s2.2.2 (by omega)
  have t3 := s3.2.2 (by omega)
  have t4 := s4.2.2 (by omega)
  have t5 := s5.2.2 h
  simp_all
end Go.Rk
/- Mirrors, comparisons and sizes: what these functions of the laws do. -/
namespace Go.Rk
set_option linter.unusedSimpArgs false
set_option linter.unusedVariables false
open Go.Proofs
def EXA : FuncId → List Nat × Bool := fun _ => ([], false)
theorem mixed : Try.prog.follows .mixedOrders = true := by kernel_rfl
def st_toIntS (n : Nat) (rd : Nat → Int) (i : Nat) (rm : Nat → Int) : St :=
  ⟨[(4, .c (.d (eI i))), (0, .c (.d (.sl 1 n fun i => [eI (rd i)]))), (3, .c (.own 448 0 n 1))], [(448, 1, .arr 1 n fun i => [eI (rm i)])]⟩
set_option maxRecDepth 100000 in
theorem to_IntS (n : Nat) (hn : n ≤ 1048576) (rd : Nat → Int) : Meets Try.prog 36 [.c (.d (.sl 1 n fun i => [eI (rd i)]))] ⟨.one (.c (.own 1 n fun i => [eI (rd i)])), [none]⟩ := by
  have hn2 : n ≤ maxLen := Nat.le_trans hn (by decide)
  refine meets_of (H := [6]) (EX := EXA) ttok mixed Try.func36 rfl (by kernel_rfl) (by decide) ?_
  generalize hA : real = A
  generalize hM : MeetsB Try.prog = M
  cbv
  repeat' first
    | apply And.intro
    | exact True.intro
    | with_reducible rfl
    | exact same_of hA rfl
    | refine br_of hA (fun _ => ?_) (fun _ => ?_)
    | (refine ind_of hA ?_; decide +kernel)
    | exact made_n hA hn (by decide)
  refine loop_of hA (α := { p : Nat × (Nat → Int) // p.1 ≤ n ∧ ∀ j, j < p.1 → p.2 j = rd j }) (fun x => st_toIntS n rd x.1.1 x.1.2) (fun x => n - x.1.1) ⟨(0, fun _ => 0), Nat.zero_le _, fun j h => absurd h (Nat.not_lt_zero _)⟩ ?_ ?_
  · refine cov_of ?_ ?_ ?_
    · cbv
      subst hA
      exact ⟨rfl, ⟨rfl, trivial⟩, trivial⟩
    · cbv
      subst hA
      exact ⟨⟨rfl, fun _ _ => rfl⟩, trivial⟩
    · cbv
  rintro ⟨⟨i, rm⟩, hi, hrm⟩
  cbv
  repeat' first
    | apply And.intro
    | exact True.intro
    | with_reducible rfl
    | exact same_of hA rfl
    | refine br_of hA (fun _ => ?_) (fun _ => ?_)
    | (refine ind_of hA ?_; decide +kernel)
    | (refine inb_of hA fun _ => ?_; subst hA; simp only [real, decide_eq_true_eq, Int.ofNat_eq_natCast] at *; omega)
  · rename_i hlt
    have hlt' : i < n := by subst hA; simp only [real, decide_eq_true_eq, Int.ofNat_eq_natCast] at hlt; omega
    refine ⟨⟨(i + 1, fun j => if j = i then rd i else rm j), by simp only; omega, fun j hj => ?_⟩, by simp only; omega, cov_of ?_ ?_ ?_⟩
    · simp only at hj ⊢
      by_cases e : j = i
      · simp [e]
      · rw [if_neg e]; exact hrm j (by simp only; omega)
    · cbv
      subst hA
      exact ⟨congrArg (fun x => DV.v (.int .i64 x)) (up64 hlt' hn2), trivial⟩
    · cbv
      refine ⟨fun q _ => ?_, trivial⟩
      subst hA
      by_cases e : q = i
      · subst e; show (if q = 0 + q then [eI (rd q)] else [eI (rm q)]) = _; simp only [Nat.zero_add, if_pos, if_true] <;> rfl
      · show (if q = 0 + i then [eI (rd i)] else [eI (rm q)]) = _; simp only [Nat.zero_add, e, if_false] <;> rfl
    · cbv
  · rename_i hge
    have hin : i = n := by
      subst hA
      have : ¬ ((i : Int) < (n : Int)) := of_decide_eq_false hge
      simp only at hi
      omega
    subst hin
    refine stop_of hA ⟨[(3, .c (.own 448 0 i 1))], [(448, 1, .arr 1 i fun j => [eI (rd j)])]⟩ (cov_of ?_ ?_ ?_) ?_
    · cbv
    · cbv
      exact ⟨fun q hq => congrArg (fun x => [eI x]) (hrm q hq), trivial⟩
    · cbv
    · cbv
      repeat' first | apply And.intro | refine br_of hA (fun _ => ?_) (fun _ => ?_)
      all_goals first | exact True.intro | with_reducible rfl | exact same_of hA rfl | skip
def st_eqIntS (n : Nat) (rd : Nat → Int) (i : Nat) : St := ⟨[(5, .c (.d (eI i))), (0, .c (.d (.sl 1 n fun i => [eI (rd i)]))), (1, .c (.d (.sl 1 n fun i => [eI (rd i)])))], []⟩
set_option maxRecDepth 100000 in
theorem eq_IntS (n : Nat) (hn : n ≤ maxLen) (rd : Nat → Int) : Meets Try.prog 38 [.c (.d (.sl 1 n fun i => [eI (rd i)])), .c (.d (.sl 1 n fun i => [eI (rd i)]))] ⟨.one (.c (.d (eB true))), [none, none]⟩ := by
  refine meets_of (H := []) (EX := EXA) ttok mixed Try.func38 rfl (by kernel_rfl) (by decide) ?_
  generalize hA : real = A
  generalize hM : MeetsB Try.prog = M
  cbv
  repeat' first
    | apply And.intro
    | exact True.intro
    | with_reducible rfl
    | exact same_of hA rfl
    | refine br_of hA (fun _ => ?_) (fun _ => ?_)
    | (refine ind_of hA ?_; decide +kernel)
    | (exfalso; rename_i h; subst hA; simp [real] at h; done)
  refine loop_of hA (α := { i : Nat // i ≤ n }) (fun x => st_eqIntS n rd x.1) (fun x => n - x.1) ⟨0, Nat.zero_le _⟩ ?_ ?_
  · refine cov_of ?_ ?_ ?_
    · cbv; exact ⟨rfl, trivial⟩
    · cbv
    · cbv
  rintro ⟨i, hi⟩
  cbv
  repeat' first
    | apply And.intro
    | exact True.intro
    | with_reducible rfl
    | exact same_of hA rfl
    | refine br_of hA (fun _ => ?_) (fun _ => ?_)
    | (refine ind_of hA ?_; decide +kernel)
    | (exfalso; rename_i h; subst hA; simp [real] at h; done)
    | (refine inb_of hA fun _ => ?_; subst hA; simp only [real, decide_eq_true_eq, Int.ofNat_eq_natCast] at *; omega)
  have hlt' : i < n := by
    subst hA
    simp only [real, decide_eq_true_eq, Int.ofNat_eq_natCast] at *
    omega
  refine ⟨⟨i + 1, by omega⟩, by simp only; omega, cov_of ?_ ?_ ?_⟩
  · cbv
    subst hA
    exact ⟨congrArg (fun x => DV.v (.int .i64 x)) (up64 hlt' hn), trivial⟩
  · cbv
  · cbv
set_option maxRecDepth 100000 in
theorem to_Job (x : JobT) : Meets Try.prog 11 [xd (eJob x)] ⟨.one (xd (eJob x)), [none]⟩ := by
  refine meets_of (H := []) (EX := EXA) ttok mixed Try.func11 rfl (by kernel_rfl) (by decide) ?_
  generalize hA : real = A
  generalize hM : MeetsB Try.prog = M
  cbv
  repeat' first
    | apply And.intro
    | exact True.intro
    | with_reducible rfl
    | exact same_of hA rfl
    | refine br_of hA (fun _ => ?_) (fun _ => ?_)
    | (refine ind_of hA ?_; decide +kernel)
set_option maxRecDepth 100000 in
theorem to_Itm (x : ItmT) : Meets Try.prog 23 [xd (eItm x)] ⟨.one (xd (eItm x)), [none]⟩ := by
  refine meets_of (H := []) (EX := EXA) ttok mixed Try.func23 rfl (by kernel_rfl) (by decide) ?_
  generalize hA : real = A
  generalize hM : MeetsB Try.prog = M
  cbv
  repeat' first
    | apply And.intro
    | exact True.intro
    | with_reducible rfl
    | exact same_of hA rfl
    | refine br_of hA (fun _ => ?_) (fun _ => ?_)
    | (refine ind_of hA ?_; decide +kernel)
set_option maxRecDepth 100000 in
theorem eq_Itm (x : ItmT) : Meets Try.prog 117 [xd (eItm x), xd (eItm x)] ⟨.one (.c (.d (eB true))), [none, none]⟩ := by
  refine meets_of (H := []) (EX := EXA) ttok mixed Try.func117 rfl (by kernel_rfl) (by decide) ?_
  generalize hA : real = A
  generalize hM : MeetsB Try.prog = M
  cbv
  repeat' first
    | apply And.intro
    | exact True.intro
    | with_reducible rfl
    | exact same_of hA rfl
    | refine br_of hA (fun _ => ?_) (fun _ => ?_)
    | (refine ind_of hA ?_; decide +kernel)
    | (exfalso; rename_i h; subst hA; simp [real] at h; done)
def st_toItmS (n : Nat) (rd : Nat → ItmT) (i : Nat) (rm : Nat → ItmT) : St :=
  ⟨[(4, .c (.d (eI i))), (0, .c (.d (.sl 5 n fun i => eItm (rd i)))), (3, .c (.own 448 0 n 1))], [(448, 1, .arr 5 n fun i => eItm (rm i))]⟩
set_option maxRecDepth 100000 in
theorem to_ItmS (n : Nat) (hn : n ≤ 1048576) (rd : Nat → ItmT) : Meets Try.prog 141 [.c (.d (.sl 5 n fun i => eItm (rd i)))] ⟨.one (.c (.own 5 n fun i => eItm (rd i))), [none]⟩ := by
  have hn2 : n ≤ maxLen := Nat.le_trans hn (by decide)
  refine meets_of (H := [6]) (EX := EXA) ttok mixed Try.func141 rfl (by kernel_rfl) (by decide) ?_
  generalize hA : real = A
  generalize hM : MeetsB Try.prog = M
  cbv
  repeat' first
    | apply And.intro
    | exact True.intro
    | with_reducible rfl
    | exact same_of hA rfl
    | refine br_of hA (fun _ => ?_) (fun _ => ?_)
    | (refine ind_of hA ?_; decide +kernel)
    | exact made_n hA hn (by decide)
  refine loop_of hA (α := { p : Nat × (Nat → ItmT) // p.1 ≤ n ∧ ∀ j, j < p.1 → p.2 j = rd j }) (fun x => st_toItmS n rd x.1.1 x.1.2) (fun x => n - x.1.1) ⟨(0, fun _ => ⟨0, 0, 0, 0, 0⟩), Nat.zero_le _, fun j h => absurd h (Nat.not_lt_zero _)⟩ ?_ ?_
  · refine cov_of ?_ ?_ ?_
    · cbv
      subst hA
      exact ⟨rfl, ⟨rfl, trivial⟩, trivial⟩
    · cbv
      subst hA
      exact ⟨⟨rfl, fun _ _ => rfl⟩, trivial⟩
    · cbv
  rintro ⟨⟨i, rm⟩, hi, hrm⟩
  cbv
  repeat' first
    | apply And.intro
    | exact True.intro
    | with_reducible rfl
    | exact same_of hA rfl
    | refine br_of hA (fun _ => ?_) (fun _ => ?_)
    | (refine ind_of hA ?_; decide +kernel)
    | (refine call_of hA hM _ (to_Itm (rd (A.nat (Int.ofNat i)))) ?_; cbv)
    | (refine inb_of hA fun _ => ?_; subst hA; simp only [real, decide_eq_true_eq, Int.ofNat_eq_natCast] at *; omega)
  · rename_i hlt
    have hlt' : i < n := by subst hA; simp only [real, decide_eq_true_eq, Int.ofNat_eq_natCast] at hlt; omega
    refine ⟨⟨(i + 1, fun j => if j = i then rd i else rm j), by simp only; omega, fun j hj => ?_⟩, by simp only; omega, cov_of ?_ ?_ ?_⟩
    · simp only at hj ⊢
      by_cases e : j = i
      · simp [e]
      · rw [if_neg e]; exact hrm j (by simp only; omega)
    · cbv
      subst hA
      exact ⟨congrArg (fun x => DV.v (.int .i64 x)) (up64 hlt' hn2), trivial⟩
    · cbv
      refine ⟨fun q _ => ?_, trivial⟩
      subst hA
      by_cases e : q = i
      · subst e; show (if q = 0 + q then eItm (rd q) else eItm (rm q)) = _; simp only [Nat.zero_add, if_pos, if_true] <;> rfl
      · show (if q = 0 + i then eItm (rd i) else eItm (rm q)) = _; simp only [Nat.zero_add, e, if_false] <;> rfl
    · cbv
  · rename_i hge
    have hin : i = n := by
      subst hA
      have : ¬ ((i : Int) < (n : Int)) := of_decide_eq_false hge
      simp only at hi
      omega
    subst hin
    refine stop_of hA ⟨[(3, .c (.own 448 0 i 1))], [(448, 1, .arr 5 i fun j => eItm (rd j))]⟩ (cov_of ?_ ?_ ?_) ?_
    · cbv
    · cbv
      exact ⟨fun q hq => congrArg (fun x => eItm x) (hrm q hq), trivial⟩
    · cbv
    · cbv
      repeat' first | apply And.intro | refine br_of hA (fun _ => ?_) (fun _ => ?_)
      all_goals first | exact True.intro | with_reducible rfl | exact same_of hA rfl | skip
def st_eqItmS (n : Nat) (rd : Nat → ItmT) (i : Nat) : St := ⟨[(5, .c (.d (eI i))), (0, .c (.d (.sl 5 n fun i => eItm (rd i)))), (1, .c (.d (.sl 5 n fun i => eItm (rd i))))], []⟩
set_option maxRecDepth 100000 in
theorem eq_ItmS (n : Nat) (hn : n ≤ maxLen) (rd : Nat → ItmT) : Meets Try.prog 144 [.c (.d (.sl 5 n fun i => eItm (rd i))), .c (.d (.sl 5 n fun i => eItm (rd i)))] ⟨.one (.c (.d (eB true))), [none, none]⟩ := by
  refine meets_of (H := []) (EX := EXA) ttok mixed Try.func144 rfl (by kernel_rfl) (by decide) ?_
  generalize hA : real = A
  generalize hM : MeetsB Try.prog = M
  cbv
  repeat' first
    | apply And.intro
    | exact True.intro
    | with_reducible rfl
    | exact same_of hA rfl
    | refine br_of hA (fun _ => ?_) (fun _ => ?_)
    | (refine ind_of hA ?_; decide +kernel)
    | (exfalso; rename_i h; subst hA; simp [real] at h; done)
  refine loop_of hA (α := { i : Nat // i ≤ n }) (fun x => st_eqItmS n rd x.1) (fun x => n - x.1) ⟨0, Nat.zero_le _⟩ ?_ ?_
  · refine cov_of ?_ ?_ ?_
    · cbv; exact ⟨rfl, trivial⟩
    · cbv
    · cbv
  rintro ⟨i, hi⟩
  cbv
  repeat' first
    | apply And.intro
    | exact True.intro
    | with_reducible rfl
    | exact same_of hA rfl
    | refine br_of hA (fun _ => ?_) (fun _ => ?_)
    | (refine ind_of hA ?_; decide +kernel)
    | (refine call_of hA hM _ (eq_Itm (rd (A.nat (Int.ofNat i)))) ?_; cbv)
    | (exfalso; rename_i h; subst hA; simp [real] at h; done)
    | (refine inb_of hA fun _ => ?_; subst hA; simp only [real, decide_eq_true_eq, Int.ofNat_eq_natCast] at *; omega)
  have hlt' : i < n := by
    subst hA
    simp only [real, decide_eq_true_eq, Int.ofNat_eq_natCast] at *
    omega
  refine ⟨⟨i + 1, by omega⟩, by simp only; omega, cov_of ?_ ?_ ?_⟩
  · cbv
    subst hA
    exact ⟨congrArg (fun x => DV.v (.int .i64 x)) (up64 hlt' hn), trivial⟩
  · cbv
  · cbv
set_option maxRecDepth 100000 in
theorem sz_ItmS (n : Nat) (hn : n ≤ maxLen) (rd : Nat → ItmT) (l : Int) (h0 : 0 ≤ l) (h1 : l ≤ 1048576) (y : Int) (hy : y = szN n l) : Meets Try.prog 140 [.c (.d (.sl 5 n fun i => eItm (rd i))), .c (.d (eI l))] ⟨.one (.c (.d (eI y))), [none, none]⟩ := by
  have hm : maxLen = 9223372036854775807 := by decide
  have hw : IntKind.i64.wrap (l - (n : Int)) = l - n := IntWalk.i64_in _ (by omega)
  refine meets_of (H := []) (EX := EXA) ttok mixed Try.func140 rfl (by kernel_rfl) (by decide) ?_
  generalize hA : real = A
  generalize hM : MeetsB Try.prog = M
  cbv
  repeat' first
    | apply And.intro
    | exact True.intro
    | with_reducible rfl
    | exact same_of hA rfl
    | refine br_of hA (fun _ => ?_) (fun _ => ?_)
    | (refine ind_of hA ?_; decide +kernel)
  all_goals rename_i hlt
  all_goals subst hA
  · refine congrArg (fun x => XA.one (.c (.d (eI x)))) ?_
    have hlt : IntKind.i64.wrap (l - (n : Int)) < 0 := of_decide_eq_true hlt
    rw [hw] at hlt
    rw [hy]; unfold szN; rw [if_pos hlt]
  · refine congrArg (fun x => XA.one (.c (.d (eI x)))) ?_
    have hlt : ¬ IntKind.i64.wrap (l - (n : Int)) < 0 := of_decide_eq_false hlt
    rw [hw] at hlt
    rw [hy]; unfold szN; rw [if_neg hlt]
    exact hw
set_option maxRecDepth 100000 in
theorem to_Win (x : WinT) : Meets Try.prog 129 [xd (eWin x)] ⟨.one (xd (eWin x)), [none]⟩ := by
  refine meets_of (H := []) (EX := EXA) ttok mixed Try.func129 rfl (by kernel_rfl) (by decide) ?_
  generalize hA : real = A
  generalize hM : MeetsB Try.prog = M
  cbv
  repeat' first
    | apply And.intro
    | exact True.intro
    | with_reducible rfl
    | exact same_of hA rfl
    | refine br_of hA (fun _ => ?_) (fun _ => ?_)
    | (refine ind_of hA ?_; decide +kernel)
set_option maxRecDepth 100000 in
theorem eq_Win (x : WinT) : Meets Try.prog 103 [xd (eWin x), xd (eWin x)] ⟨.one (.c (.d (eB true))), [none, none]⟩ := by
  refine meets_of (H := []) (EX := EXA) ttok mixed Try.func103 rfl (by kernel_rfl) (by decide) ?_
  generalize hA : real = A
  generalize hM : MeetsB Try.prog = M
  cbv
  repeat' first
    | apply And.intro
    | exact True.intro
    | with_reducible rfl
    | exact same_of hA rfl
    | refine br_of hA (fun _ => ?_) (fun _ => ?_)
    | (refine ind_of hA ?_; decide +kernel)
    | (exfalso; rename_i h; subst hA; simp [real] at h; done)
set_option maxRecDepth 100000 in
theorem to_Agg (x : AggT) : Meets Try.prog 130 [xd (eAgg x)] ⟨.one (xd (eAgg x)), [none]⟩ := by
  refine meets_of (H := []) (EX := EXA) ttok mixed Try.func130 rfl (by kernel_rfl) (by decide) ?_
  generalize hA : real = A
  generalize hM : MeetsB Try.prog = M
  cbv
  repeat' first
    | apply And.intro
    | exact True.intro
    | with_reducible rfl
    | exact same_of hA rfl
    | refine br_of hA (fun _ => ?_) (fun _ => ?_)
    | (refine ind_of hA ?_; decide +kernel)
set_option maxRecDepth 100000 in
theorem eq_Agg (x : AggT) : Meets Try.prog 104 [xd (eAgg x), xd (eAgg x)] ⟨.one (.c (.d (eB true))), [none, none]⟩ := by
  refine meets_of (H := []) (EX := EXA) ttok mixed Try.func104 rfl (by kernel_rfl) (by decide) ?_
  generalize hA : real = A
  generalize hM : MeetsB Try.prog = M
  cbv
  repeat' first
    | apply And.intro
    | exact True.intro
    | with_reducible rfl
    | exact same_of hA rfl
    | refine br_of hA (fun _ => ?_) (fun _ => ?_)
    | (refine ind_of hA ?_; decide +kernel)
    | (exfalso; rename_i h; subst hA; simp [real] at h; done)
set_option maxRecDepth 100000 in
theorem to_Row (x : RowT) : Meets Try.prog 90 [xd (eRow x)] ⟨.one (xd (eRow x)), [none]⟩ := by
  refine meets_of (H := []) (EX := EXA) ttok mixed Try.func90 rfl (by kernel_rfl) (by decide) ?_
  generalize hA : real = A
  generalize hM : MeetsB Try.prog = M
  cbv
  repeat' first
    | apply And.intro
    | exact True.intro
    | with_reducible rfl
    | exact same_of hA rfl
    | refine br_of hA (fun _ => ?_) (fun _ => ?_)
    | (refine ind_of hA ?_; decide +kernel)
    | (refine call_of hA hM _ (to_Win x.win) ?_; cbv)
    | (refine call_of hA hM _ (to_Agg x.all) ?_; cbv)
    | (refine call_of hA hM _ (to_Agg x.fresh) ?_; cbv)
set_option maxRecDepth 100000 in
theorem eq_Row (x : RowT) : Meets Try.prog 100 [xd (eRow x), xd (eRow x)] ⟨.one (.c (.d (eB true))), [none, none]⟩ := by
  refine meets_of (H := []) (EX := EXA) ttok mixed Try.func100 rfl (by kernel_rfl) (by decide) ?_
  generalize hA : real = A
  generalize hM : MeetsB Try.prog = M
  cbv
  repeat' first
    | apply And.intro
    | exact True.intro
    | with_reducible rfl
    | exact same_of hA rfl
    | refine br_of hA (fun _ => ?_) (fun _ => ?_)
    | (refine ind_of hA ?_; decide +kernel)
    | (refine call_of hA hM _ (eq_Win x.win) ?_; cbv)
    | (refine call_of hA hM _ (eq_Agg x.all) ?_; cbv)
    | (refine call_of hA hM _ (eq_Agg x.fresh) ?_; cbv)
    | (exfalso; rename_i h; subst hA; simp [real] at h; done)
def st_toRowS (n : Nat) (rd : Nat → RowT) (i : Nat) (rm : Nat → RowT) : St :=
  ⟨[(4, .c (.d (eI i))), (0, .c (.d (.sl 13 n fun i => eRow (rd i)))), (3, .c (.own 448 0 n 1))], [(448, 1, .arr 13 n fun i => eRow (rm i))]⟩
set_option maxRecDepth 100000 in
theorem to_RowS (n : Nat) (hn : n ≤ 1048576) (rd : Nat → RowT) : Meets Try.prog 48 [.c (.d (.sl 13 n fun i => eRow (rd i)))] ⟨.one (.c (.own 13 n fun i => eRow (rd i))), [none]⟩ := by
  have hn2 : n ≤ maxLen := Nat.le_trans hn (by decide)
  refine meets_of (H := [6]) (EX := EXA) ttok mixed Try.func48 rfl (by kernel_rfl) (by decide) ?_
  generalize hA : real = A
  generalize hM : MeetsB Try.prog = M
  cbv
  repeat' first
    | apply And.intro
    | exact True.intro
    | with_reducible rfl
    | exact same_of hA rfl
    | refine br_of hA (fun _ => ?_) (fun _ => ?_)
    | (refine ind_of hA ?_; decide +kernel)
    | exact made_n hA hn (by decide)
  refine loop_of hA (α := { p : Nat × (Nat → RowT) // p.1 ≤ n ∧ ∀ j, j < p.1 → p.2 j = rd j }) (fun x => st_toRowS n rd x.1.1 x.1.2) (fun x => n - x.1.1) ⟨(0, fun _ => ⟨0, ⟨0, 0⟩, ⟨0, 0, 0, 0⟩, ⟨0, 0, 0, 0⟩, 0, false⟩), Nat.zero_le _, fun j h => absurd h (Nat.not_lt_zero _)⟩ ?_ ?_
  · refine cov_of ?_ ?_ ?_
    · cbv
      subst hA
      exact ⟨rfl, ⟨rfl, trivial⟩, trivial⟩
    · cbv
      subst hA
      exact ⟨⟨rfl, fun _ _ => rfl⟩, trivial⟩
    · cbv
  rintro ⟨⟨i, rm⟩, hi, hrm⟩
  cbv
  repeat' first
    | apply And.intro
    | exact True.intro
    | with_reducible rfl
    | exact same_of hA rfl
    | refine br_of hA (fun _ => ?_) (fun _ => ?_)
    | (refine ind_of hA ?_; decide +kernel)
    | (refine call_of hA hM _ (to_Row (rd (A.nat (Int.ofNat i)))) ?_; cbv)
    | (refine inb_of hA fun _ => ?_; subst hA; simp only [real, decide_eq_true_eq, Int.ofNat_eq_natCast] at *; omega)
  · rename_i hlt
    have hlt' : i < n := by subst hA; simp only [real, decide_eq_true_eq, Int.ofNat_eq_natCast] at hlt; omega
    refine ⟨⟨(i + 1, fun j => if j = i then rd i else rm j), by simp only; omega, fun j hj => ?_⟩, by simp only; omega, cov_of ?_ ?_ ?_⟩
    · simp only at hj ⊢
      by_cases e : j = i
      · simp [e]
      · rw [if_neg e]; exact hrm j (by simp only; omega)
    · cbv
      subst hA
      exact ⟨congrArg (fun x => DV.v (.int .i64 x)) (up64 hlt' hn2), trivial⟩
    · cbv
      refine ⟨fun q _ => ?_, trivial⟩
      subst hA
      by_cases e : q = i
      · subst e; show (if q = 0 + q then eRow (rd q) else eRow (rm q)) = _; simp only [Nat.zero_add, if_pos, if_true] <;> rfl
      · show (if q = 0 + i then eRow (rd i) else eRow (rm q)) = _; simp only [Nat.zero_add, e, if_false] <;> rfl
    · cbv
  · rename_i hge
    have hin : i = n := by
      subst hA
      have : ¬ ((i : Int) < (n : Int)) := of_decide_eq_false hge
      simp only at hi
      omega
    subst hin
    refine stop_of hA ⟨[(3, .c (.own 448 0 i 1))], [(448, 1, .arr 13 i fun j => eRow (rd j))]⟩ (cov_of ?_ ?_ ?_) ?_
    · cbv
    · cbv
      exact ⟨fun q hq => congrArg (fun x => eRow x) (hrm q hq), trivial⟩
    · cbv
    · cbv
      repeat' first | apply And.intro | refine br_of hA (fun _ => ?_) (fun _ => ?_)
      all_goals first | exact True.intro | with_reducible rfl | exact same_of hA rfl | skip
def st_eqRowS (n : Nat) (rd : Nat → RowT) (i : Nat) : St := ⟨[(5, .c (.d (eI i))), (0, .c (.d (.sl 13 n fun i => eRow (rd i)))), (1, .c (.d (.sl 13 n fun i => eRow (rd i))))], []⟩
set_option maxRecDepth 100000 in
theorem eq_RowS (n : Nat) (hn : n ≤ maxLen) (rd : Nat → RowT) : Meets Try.prog 56 [.c (.d (.sl 13 n fun i => eRow (rd i))), .c (.d (.sl 13 n fun i => eRow (rd i)))] ⟨.one (.c (.d (eB true))), [none, none]⟩ := by
  refine meets_of (H := []) (EX := EXA) ttok mixed Try.func56 rfl (by kernel_rfl) (by decide) ?_
  generalize hA : real = A
  generalize hM : MeetsB Try.prog = M
  cbv
  repeat' first
    | apply And.intro
    | exact True.intro
    | with_reducible rfl
    | exact same_of hA rfl
    | refine br_of hA (fun _ => ?_) (fun _ => ?_)
    | (refine ind_of hA ?_; decide +kernel)
    | (exfalso; rename_i h; subst hA; simp [real] at h; done)
  refine loop_of hA (α := { i : Nat // i ≤ n }) (fun x => st_eqRowS n rd x.1) (fun x => n - x.1) ⟨0, Nat.zero_le _⟩ ?_ ?_
  · refine cov_of ?_ ?_ ?_
    · cbv; exact ⟨rfl, trivial⟩
    · cbv
    · cbv
  rintro ⟨i, hi⟩
  cbv
  repeat' first
    | apply And.intro
    | exact True.intro
    | with_reducible rfl
    | exact same_of hA rfl
    | refine br_of hA (fun _ => ?_) (fun _ => ?_)
    | (refine ind_of hA ?_; decide +kernel)
    | (refine call_of hA hM _ (eq_Row (rd (A.nat (Int.ofNat i)))) ?_; cbv)
    | (exfalso; rename_i h; subst hA; simp [real] at h; done)
    | (refine inb_of hA fun _ => ?_; subst hA; simp only [real, decide_eq_true_eq, Int.ofNat_eq_natCast] at *; omega)
  have hlt' : i < n := by
    subst hA
    simp only [real, decide_eq_true_eq, Int.ofNat_eq_natCast] at *
    omega
  refine ⟨⟨i + 1, by omega⟩, by simp only; omega, cov_of ?_ ?_ ?_⟩
  · cbv
    subst hA
    exact ⟨congrArg (fun x => DV.v (.int .i64 x)) (up64 hlt' hn), trivial⟩
  · cbv
  · cbv
set_option maxRecDepth 100000 in
theorem sz_RowS (n : Nat) (hn : n ≤ maxLen) (rd : Nat → RowT) (l : Int) (h0 : 0 ≤ l) (h1 : l ≤ 1048576) (y : Int) (hy : y = szN n l) : Meets Try.prog 42 [.c (.d (.sl 13 n fun i => eRow (rd i))), .c (.d (eI l))] ⟨.one (.c (.d (eI y))), [none, none]⟩ := by
  have hm : maxLen = 9223372036854775807 := by decide
  have hw : IntKind.i64.wrap (l - (n : Int)) = l - n := IntWalk.i64_in _ (by omega)
  refine meets_of (H := []) (EX := EXA) ttok mixed Try.func42 rfl (by kernel_rfl) (by decide) ?_
  generalize hA : real = A
  generalize hM : MeetsB Try.prog = M
  cbv
  repeat' first
    | apply And.intro
    | exact True.intro
    | with_reducible rfl
    | exact same_of hA rfl
    | refine br_of hA (fun _ => ?_) (fun _ => ?_)
    | (refine ind_of hA ?_; decide +kernel)
  all_goals rename_i hlt
  all_goals subst hA
  · refine congrArg (fun x => XA.one (.c (.d (eI x)))) ?_
    have hlt : IntKind.i64.wrap (l - (n : Int)) < 0 := of_decide_eq_true hlt
    rw [hw] at hlt
    rw [hy]; unfold szN; rw [if_pos hlt]
  · refine congrArg (fun x => XA.one (.c (.d (eI x)))) ?_
    have hlt : ¬ IntKind.i64.wrap (l - (n : Int)) < 0 := of_decide_eq_false hlt
    rw [hw] at hlt
    rw [hy]; unfold szN; rw [if_neg hlt]
    exact hw
set_option maxRecDepth 100000 in
theorem to_OpSt (x : OpStT) (hb : bdOpSt x) : Meets Try.prog 12 [xd (eOpSt x)] ⟨.one (xd (eOpSt x)), [none]⟩ := by
  refine meets_of (H := []) (EX := EXA) ttok mixed Try.func12 rfl (by kernel_rfl) (by decide) ?_
  generalize hA : real = A
  generalize hM : MeetsB Try.prog = M
  cbv
  repeat' first
    | apply And.intro
    | exact True.intro
    | with_reducible rfl
    | exact same_of hA rfl
    | refine br_of hA (fun _ => ?_) (fun _ => ?_)
    | (refine ind_of hA ?_; decide +kernel)
    | (refine call_of hA hM _ (meets_frz (to_RowS x.rows.n hb x.rows.g) rfl) ?_; cbv)
set_option maxRecDepth 100000 in
theorem eq_OpSt (x : OpStT) : Meets Try.prog 14 [xd (eOpSt x), xd (eOpSt x)] ⟨.one (.c (.d (eB true))), [none, none]⟩ := by
  refine meets_of (H := []) (EX := EXA) ttok mixed Try.func14 rfl (by kernel_rfl) (by decide) ?_
  generalize hA : real = A
  generalize hM : MeetsB Try.prog = M
  cbv
  repeat' first
    | apply And.intro
    | exact True.intro
    | with_reducible rfl
    | exact same_of hA rfl
    | refine br_of hA (fun _ => ?_) (fun _ => ?_)
    | (refine ind_of hA ?_; decide +kernel)
    | (refine call_of hA hM _ (eq_RowS x.rows.n x.rows.hn x.rows.g) ?_; cbv)
    | (exfalso; rename_i h; subst hA; simp [real] at h; done)
set_option maxRecDepth 100000 in
theorem sz_OpSt (x : OpStT) (l0 : Int) (h0 : 0 ≤ l0) (h1 : l0 ≤ 1048576) (y : Int) (hy : y = szOpSt x l0) : Meets Try.prog 9 [xd (eOpSt x), .c (.d (eI l0))] ⟨.one (.c (.d (eI y))), [none, none]⟩ := by
  refine meets_of (H := []) (EX := EXA) ttok mixed Try.func9 rfl (by kernel_rfl) (by decide) ?_
  generalize hA : real = A
  generalize hM : MeetsB Try.prog = M
  cbv
  repeat' first
    | apply And.intro
    | exact True.intro
    | with_reducible rfl
    | exact same_of hA rfl
    | refine br_of hA (fun _ => ?_) (fun _ => ?_)
    | (refine ind_of hA ?_; decide +kernel)
  unfold szOpSt at hy
  obtain ⟨l1, e1⟩ : ∃ z : Int, z = szN x.rows.n l0 := ⟨_, rfl⟩
  have s1 := szN_spec (n := x.rows.n) h0 h1
  rw [← e1] at s1 hy
  refine call_of hA hM _ (sz_RowS x.rows.n x.rows.hn x.rows.g l0 h0 h1 l1 e1) ?_
  cbv
  repeat' first
    | apply And.intro
    | exact True.intro
    | with_reducible rfl
    | exact same_of hA rfl
    | refine br_of hA (fun _ => ?_) (fun _ => ?_)
    | (refine ind_of hA ?_; decide +kernel)
  · rename_i hlt
    refine congrArg (fun x => XA.one (.c (.d (eI x)))) ?_
    subst hA
    have hlt : l1 < 0 := of_decide_eq_true hlt
    omega
  rename_i hge1
  have hge1 : ¬ l1 < 0 := by subst hA; exact of_decide_eq_false hge1
  exact congrArg (fun x => XA.one (.c (.d (eI x)))) hy.symm
set_option maxRecDepth 100000 in
theorem to_Pane (x : PaneT) : Meets Try.prog 142 [xd (ePane x)] ⟨.one (xd (ePane x)), [none]⟩ := by
  refine meets_of (H := []) (EX := EXA) ttok mixed Try.func142 rfl (by kernel_rfl) (by decide) ?_
  generalize hA : real = A
  generalize hM : MeetsB Try.prog = M
  cbv
  repeat' first
    | apply And.intro
    | exact True.intro
    | with_reducible rfl
    | exact same_of hA rfl
    | refine br_of hA (fun _ => ?_) (fun _ => ?_)
    | (refine ind_of hA ?_; decide +kernel)
    | (refine call_of hA hM _ (to_Win x.win) ?_; cbv)
    | (refine call_of hA hM _ (to_Agg x.agg) ?_; cbv)
set_option maxRecDepth 100000 in
theorem eq_Pane (x : PaneT) : Meets Try.prog 63 [xd (ePane x), xd (ePane x)] ⟨.one (.c (.d (eB true))), [none, none]⟩ := by
  refine meets_of (H := []) (EX := EXA) ttok mixed Try.func63 rfl (by kernel_rfl) (by decide) ?_
  generalize hA : real = A
  generalize hM : MeetsB Try.prog = M
  cbv
  repeat' first
    | apply And.intro
    | exact True.intro
    | with_reducible rfl
    | exact same_of hA rfl
    | refine br_of hA (fun _ => ?_) (fun _ => ?_)
    | (refine ind_of hA ?_; decide +kernel)
    | (refine call_of hA hM _ (eq_Win x.win) ?_; cbv)
    | (refine call_of hA hM _ (eq_Agg x.agg) ?_; cbv)
    | (exfalso; rename_i h; subst hA; simp [real] at h; done)
def st_toPaneS (n : Nat) (rd : Nat → PaneT) (i : Nat) (rm : Nat → PaneT) : St :=
  ⟨[(4, .c (.d (eI i))), (0, .c (.d (.sl 9 n fun i => ePane (rd i)))), (3, .c (.own 448 0 n 1))], [(448, 1, .arr 9 n fun i => ePane (rm i))]⟩
set_option maxRecDepth 100000 in
theorem to_PaneS (n : Nat) (hn : n ≤ 1048576) (rd : Nat → PaneT) : Meets Try.prog 122 [.c (.d (.sl 9 n fun i => ePane (rd i)))] ⟨.one (.c (.own 9 n fun i => ePane (rd i))), [none]⟩ := by
  have hn2 : n ≤ maxLen := Nat.le_trans hn (by decide)
  refine meets_of (H := [6]) (EX := EXA) ttok mixed Try.func122 rfl (by kernel_rfl) (by decide) ?_
  generalize hA : real = A
  generalize hM : MeetsB Try.prog = M
  cbv
  repeat' first
    | apply And.intro
    | exact True.intro
    | with_reducible rfl
    | exact same_of hA rfl
    | refine br_of hA (fun _ => ?_) (fun _ => ?_)
    | (refine ind_of hA ?_; decide +kernel)
    | exact made_n hA hn (by decide)
  refine loop_of hA (α := { p : Nat × (Nat → PaneT) // p.1 ≤ n ∧ ∀ j, j < p.1 → p.2 j = rd j }) (fun x => st_toPaneS n rd x.1.1 x.1.2) (fun x => n - x.1.1) ⟨(0, fun _ => ⟨0, ⟨0, 0⟩, 0, 0, ⟨0, 0, 0, 0⟩⟩), Nat.zero_le _, fun j h => absurd h (Nat.not_lt_zero _)⟩ ?_ ?_
  · refine cov_of ?_ ?_ ?_
    · cbv
      subst hA
      exact ⟨rfl, ⟨rfl, trivial⟩, trivial⟩
    · cbv
      subst hA
      exact ⟨⟨rfl, fun _ _ => rfl⟩, trivial⟩
    · cbv
  rintro ⟨⟨i, rm⟩, hi, hrm⟩
  cbv
  repeat' first
    | apply And.intro
    | exact True.intro
    | with_reducible rfl
    | exact same_of hA rfl
    | refine br_of hA (fun _ => ?_) (fun _ => ?_)
    | (refine ind_of hA ?_; decide +kernel)
    | (refine call_of hA hM _ (to_Pane (rd (A.nat (Int.ofNat i)))) ?_; cbv)
    | (refine inb_of hA fun _ => ?_; subst hA; simp only [real, decide_eq_true_eq, Int.ofNat_eq_natCast] at *; omega)
  · rename_i hlt
    have hlt' : i < n := by subst hA; simp only [real, decide_eq_true_eq, Int.ofNat_eq_natCast] at hlt; omega
    refine ⟨⟨(i + 1, fun j => if j = i then rd i else rm j), by simp only; omega, fun j hj => ?_⟩, by simp only; omega, cov_of ?_ ?_ ?_⟩
    · simp only at hj ⊢
      by_cases e : j = i
      · simp [e]
      · rw [if_neg e]; exact hrm j (by simp only; omega)
    · cbv
      subst hA
      exact ⟨congrArg (fun x => DV.v (.int .i64 x)) (up64 hlt' hn2), trivial⟩
    · cbv
      refine ⟨fun q _ => ?_, trivial⟩
      subst hA
      by_cases e : q = i
      · subst e; show (if q = 0 + q then ePane (rd q) else ePane (rm q)) = _; simp only [Nat.zero_add, if_pos, if_true] <;> rfl
      · show (if q = 0 + i then ePane (rd i) else ePane (rm q)) = _; simp only [Nat.zero_add, e, if_false] <;> rfl
    · cbv
  · rename_i hge
    have hin : i = n := by
      subst hA
      have : ¬ ((i : Int) < (n : Int)) := of_decide_eq_false hge
      simp only at hi
      omega
    subst hin
    refine stop_of hA ⟨[(3, .c (.own 448 0 i 1))], [(448, 1, .arr 9 i fun j => ePane (rd j))]⟩ (cov_of ?_ ?_ ?_) ?_
    · cbv
    · cbv
      exact ⟨fun q hq => congrArg (fun x => ePane x) (hrm q hq), trivial⟩
    · cbv
    · cbv
      repeat' first | apply And.intro | refine br_of hA (fun _ => ?_) (fun _ => ?_)
      all_goals first | exact True.intro | with_reducible rfl | exact same_of hA rfl | skip
def st_eqPaneS (n : Nat) (rd : Nat → PaneT) (i : Nat) : St := ⟨[(5, .c (.d (eI i))), (0, .c (.d (.sl 9 n fun i => ePane (rd i)))), (1, .c (.d (.sl 9 n fun i => ePane (rd i))))], []⟩
set_option maxRecDepth 100000 in
theorem eq_PaneS (n : Nat) (hn : n ≤ maxLen) (rd : Nat → PaneT) : Meets Try.prog 17 [.c (.d (.sl 9 n fun i => ePane (rd i))), .c (.d (.sl 9 n fun i => ePane (rd i)))] ⟨.one (.c (.d (eB true))), [none, none]⟩ := by
  refine meets_of (H := []) (EX := EXA) ttok mixed Try.func17 rfl (by kernel_rfl) (by decide) ?_
  generalize hA : real = A
  generalize hM : MeetsB Try.prog = M
  cbv
  repeat' first
    | apply And.intro
    | exact True.intro
    | with_reducible rfl
    | exact same_of hA rfl
    | refine br_of hA (fun _ => ?_) (fun _ => ?_)
    | (refine ind_of hA ?_; decide +kernel)
    | (exfalso; rename_i h; subst hA; simp [real] at h; done)
  refine loop_of hA (α := { i : Nat // i ≤ n }) (fun x => st_eqPaneS n rd x.1) (fun x => n - x.1) ⟨0, Nat.zero_le _⟩ ?_ ?_
  · refine cov_of ?_ ?_ ?_
    · cbv; exact ⟨rfl, trivial⟩
    · cbv
    · cbv
  rintro ⟨i, hi⟩
  cbv
  repeat' first
    | apply And.intro
    | exact True.intro
    | with_reducible rfl
    | exact same_of hA rfl
    | refine br_of hA (fun _ => ?_) (fun _ => ?_)
    | (refine ind_of hA ?_; decide +kernel)
    | (refine call_of hA hM _ (eq_Pane (rd (A.nat (Int.ofNat i)))) ?_; cbv)
    | (exfalso; rename_i h; subst hA; simp [real] at h; done)
    | (refine inb_of hA fun _ => ?_; subst hA; simp only [real, decide_eq_true_eq, Int.ofNat_eq_natCast] at *; omega)
  have hlt' : i < n := by
    subst hA
    simp only [real, decide_eq_true_eq, Int.ofNat_eq_natCast] at *
    omega
  refine ⟨⟨i + 1, by omega⟩, by simp only; omega, cov_of ?_ ?_ ?_⟩
  · cbv
    subst hA
    exact ⟨congrArg (fun x => DV.v (.int .i64 x)) (up64 hlt' hn), trivial⟩
  · cbv
  · cbv
set_option maxRecDepth 100000 in
theorem sz_PaneS (n : Nat) (hn : n ≤ maxLen) (rd : Nat → PaneT) (l : Int) (h0 : 0 ≤ l) (h1 : l ≤ 1048576) (y : Int) (hy : y = szN n l) : Meets Try.prog 119 [.c (.d (.sl 9 n fun i => ePane (rd i))), .c (.d (eI l))] ⟨.one (.c (.d (eI y))), [none, none]⟩ := by
  have hm : maxLen = 9223372036854775807 := by decide
  have hw : IntKind.i64.wrap (l - (n : Int)) = l - n := IntWalk.i64_in _ (by omega)
  refine meets_of (H := []) (EX := EXA) ttok mixed Try.func119 rfl (by kernel_rfl) (by decide) ?_
  generalize hA : real = A
  generalize hM : MeetsB Try.prog = M
  cbv
  repeat' first
    | apply And.intro
    | exact True.intro
    | with_reducible rfl
    | exact same_of hA rfl
    | refine br_of hA (fun _ => ?_) (fun _ => ?_)
    | (refine ind_of hA ?_; decide +kernel)
  all_goals rename_i hlt
  all_goals subst hA
  · refine congrArg (fun x => XA.one (.c (.d (eI x)))) ?_
    have hlt : IntKind.i64.wrap (l - (n : Int)) < 0 := of_decide_eq_true hlt
    rw [hw] at hlt
    rw [hy]; unfold szN; rw [if_pos hlt]
  · refine congrArg (fun x => XA.one (.c (.d (eI x)))) ?_
    have hlt : ¬ IntKind.i64.wrap (l - (n : Int)) < 0 := of_decide_eq_false hlt
    rw [hw] at hlt
    rw [hy]; unfold szN; rw [if_neg hlt]
    exact hw
set_option maxRecDepth 100000 in
theorem to_Lat (x : LatT) : Meets Try.prog 143 [xd (eLat x)] ⟨.one (xd (eLat x)), [none]⟩ := by
  refine meets_of (H := []) (EX := EXA) ttok mixed Try.func143 rfl (by kernel_rfl) (by decide) ?_
  generalize hA : real = A
  generalize hM : MeetsB Try.prog = M
  cbv
  repeat' first
    | apply And.intro
    | exact True.intro
    | with_reducible rfl
    | exact same_of hA rfl
    | refine br_of hA (fun _ => ?_) (fun _ => ?_)
    | (refine ind_of hA ?_; decide +kernel)
    | (refine call_of hA hM _ (to_Itm x.itm) ?_; cbv)
    | (refine call_of hA hM _ (to_Win x.win) ?_; cbv)
set_option maxRecDepth 100000 in
theorem eq_Lat (x : LatT) : Meets Try.prog 73 [xd (eLat x), xd (eLat x)] ⟨.one (.c (.d (eB true))), [none, none]⟩ := by
  refine meets_of (H := []) (EX := EXA) ttok mixed Try.func73 rfl (by kernel_rfl) (by decide) ?_
  generalize hA : real = A
  generalize hM : MeetsB Try.prog = M
  cbv
  repeat' first
    | apply And.intro
    | exact True.intro
    | with_reducible rfl
    | exact same_of hA rfl
    | refine br_of hA (fun _ => ?_) (fun _ => ?_)
    | (refine ind_of hA ?_; decide +kernel)
    | (refine call_of hA hM _ (eq_Itm x.itm) ?_; cbv)
    | (refine call_of hA hM _ (eq_Win x.win) ?_; cbv)
    | (exfalso; rename_i h; subst hA; simp [real] at h; done)
def st_toLatS (n : Nat) (rd : Nat → LatT) (i : Nat) (rm : Nat → LatT) : St :=
  ⟨[(4, .c (.d (eI i))), (0, .c (.d (.sl 7 n fun i => eLat (rd i)))), (3, .c (.own 448 0 n 1))], [(448, 1, .arr 7 n fun i => eLat (rm i))]⟩
set_option maxRecDepth 100000 in
theorem to_LatS (n : Nat) (hn : n ≤ 1048576) (rd : Nat → LatT) : Meets Try.prog 123 [.c (.d (.sl 7 n fun i => eLat (rd i)))] ⟨.one (.c (.own 7 n fun i => eLat (rd i))), [none]⟩ := by
  have hn2 : n ≤ maxLen := Nat.le_trans hn (by decide)
  refine meets_of (H := [6]) (EX := EXA) ttok mixed Try.func123 rfl (by kernel_rfl) (by decide) ?_
  generalize hA : real = A
  generalize hM : MeetsB Try.prog = M
  cbv
  repeat' first
    | apply And.intro
    | exact True.intro
    | with_reducible rfl
    | exact same_of hA rfl
    | refine br_of hA (fun _ => ?_) (fun _ => ?_)
    | (refine ind_of hA ?_; decide +kernel)
    | exact made_n hA hn (by decide)
  refine loop_of hA (α := { p : Nat × (Nat → LatT) // p.1 ≤ n ∧ ∀ j, j < p.1 → p.2 j = rd j }) (fun x => st_toLatS n rd x.1.1 x.1.2) (fun x => n - x.1.1) ⟨(0, fun _ => ⟨⟨0, 0, 0, 0, 0⟩, ⟨0, 0⟩⟩), Nat.zero_le _, fun j h => absurd h (Nat.not_lt_zero _)⟩ ?_ ?_
  · refine cov_of ?_ ?_ ?_
    · cbv
      subst hA
      exact ⟨rfl, ⟨rfl, trivial⟩, trivial⟩
    · cbv
      subst hA
      exact ⟨⟨rfl, fun _ _ => rfl⟩, trivial⟩
    · cbv
  rintro ⟨⟨i, rm⟩, hi, hrm⟩
  cbv
  repeat' first
    | apply And.intro
    | exact True.intro
    | with_reducible rfl
    | exact same_of hA rfl
    | refine br_of hA (fun _ => ?_) (fun _ => ?_)
    | (refine ind_of hA ?_; decide +kernel)
    | (refine call_of hA hM _ (to_Lat (rd (A.nat (Int.ofNat i)))) ?_; cbv)
    | (refine inb_of hA fun _ => ?_; subst hA; simp only [real, decide_eq_true_eq, Int.ofNat_eq_natCast] at *; omega)
  · rename_i hlt
    have hlt' : i < n := by subst hA; simp only [real, decide_eq_true_eq, Int.ofNat_eq_natCast] at hlt; omega
    refine ⟨⟨(i + 1, fun j => if j = i then rd i else rm j), by simp only; omega, fun j hj => ?_⟩, by simp only; omega, cov_of ?_ ?_ ?_⟩
    · simp only at hj ⊢
      by_cases e : j = i
      · simp [e]
      · rw [if_neg e]; exact hrm j (by simp only; omega)
    · cbv
      subst hA
      exact ⟨congrArg (fun x => DV.v (.int .i64 x)) (up64 hlt' hn2), trivial⟩
    · cbv
      refine ⟨fun q _ => ?_, trivial⟩
      subst hA
      by_cases e : q = i
      · subst e; show (if q = 0 + q then eLat (rd q) else eLat (rm q)) = _; simp only [Nat.zero_add, if_pos, if_true] <;> rfl
      · show (if q = 0 + i then eLat (rd i) else eLat (rm q)) = _; simp only [Nat.zero_add, e, if_false] <;> rfl
    · cbv
  · rename_i hge
    have hin : i = n := by
      subst hA
      have : ¬ ((i : Int) < (n : Int)) := of_decide_eq_false hge
      simp only at hi
      omega
    subst hin
    refine stop_of hA ⟨[(3, .c (.own 448 0 i 1))], [(448, 1, .arr 7 i fun j => eLat (rd j))]⟩ (cov_of ?_ ?_ ?_) ?_
    · cbv
    · cbv
      exact ⟨fun q hq => congrArg (fun x => eLat x) (hrm q hq), trivial⟩
    · cbv
    · cbv
      repeat' first | apply And.intro | refine br_of hA (fun _ => ?_) (fun _ => ?_)
      all_goals first | exact True.intro | with_reducible rfl | exact same_of hA rfl | skip
def st_eqLatS (n : Nat) (rd : Nat → LatT) (i : Nat) : St := ⟨[(5, .c (.d (eI i))), (0, .c (.d (.sl 7 n fun i => eLat (rd i)))), (1, .c (.d (.sl 7 n fun i => eLat (rd i))))], []⟩
set_option maxRecDepth 100000 in
theorem eq_LatS (n : Nat) (hn : n ≤ maxLen) (rd : Nat → LatT) : Meets Try.prog 25 [.c (.d (.sl 7 n fun i => eLat (rd i))), .c (.d (.sl 7 n fun i => eLat (rd i)))] ⟨.one (.c (.d (eB true))), [none, none]⟩ := by
  refine meets_of (H := []) (EX := EXA) ttok mixed Try.func25 rfl (by kernel_rfl) (by decide) ?_
  generalize hA : real = A
  generalize hM : MeetsB Try.prog = M
  cbv
  repeat' first
    | apply And.intro
    | exact True.intro
    | with_reducible rfl
    | exact same_of hA rfl
    | refine br_of hA (fun _ => ?_) (fun _ => ?_)
    | (refine ind_of hA ?_; decide +kernel)
    | (exfalso; rename_i h; subst hA; simp [real] at h; done)
  refine loop_of hA (α := { i : Nat // i ≤ n }) (fun x => st_eqLatS n rd x.1) (fun x => n - x.1) ⟨0, Nat.zero_le _⟩ ?_ ?_
  · refine cov_of ?_ ?_ ?_
    · cbv; exact ⟨rfl, trivial⟩
    · cbv
    · cbv
  rintro ⟨i, hi⟩
  cbv
  repeat' first
    | apply And.intro
    | exact True.intro
    | with_reducible rfl
    | exact same_of hA rfl
    | refine br_of hA (fun _ => ?_) (fun _ => ?_)
    | (refine ind_of hA ?_; decide +kernel)
    | (refine call_of hA hM _ (eq_Lat (rd (A.nat (Int.ofNat i)))) ?_; cbv)
    | (exfalso; rename_i h; subst hA; simp [real] at h; done)
    | (refine inb_of hA fun _ => ?_; subst hA; simp only [real, decide_eq_true_eq, Int.ofNat_eq_natCast] at *; omega)
  have hlt' : i < n := by
    subst hA
    simp only [real, decide_eq_true_eq, Int.ofNat_eq_natCast] at *
    omega
  refine ⟨⟨i + 1, by omega⟩, by simp only; omega, cov_of ?_ ?_ ?_⟩
  · cbv
    subst hA
    exact ⟨congrArg (fun x => DV.v (.int .i64 x)) (up64 hlt' hn), trivial⟩
  · cbv
  · cbv
set_option maxRecDepth 100000 in
theorem sz_LatS (n : Nat) (hn : n ≤ maxLen) (rd : Nat → LatT) (l : Int) (h0 : 0 ≤ l) (h1 : l ≤ 1048576) (y : Int) (hy : y = szN n l) : Meets Try.prog 120 [.c (.d (.sl 7 n fun i => eLat (rd i))), .c (.d (eI l))] ⟨.one (.c (.d (eI y))), [none, none]⟩ := by
  have hm : maxLen = 9223372036854775807 := by decide
  have hw : IntKind.i64.wrap (l - (n : Int)) = l - n := IntWalk.i64_in _ (by omega)
  refine meets_of (H := []) (EX := EXA) ttok mixed Try.func120 rfl (by kernel_rfl) (by decide) ?_
  generalize hA : real = A
  generalize hM : MeetsB Try.prog = M
  cbv
  repeat' first
    | apply And.intro
    | exact True.intro
    | with_reducible rfl
    | exact same_of hA rfl
    | refine br_of hA (fun _ => ?_) (fun _ => ?_)
    | (refine ind_of hA ?_; decide +kernel)
  all_goals rename_i hlt
  all_goals subst hA
  · refine congrArg (fun x => XA.one (.c (.d (eI x)))) ?_
    have hlt : IntKind.i64.wrap (l - (n : Int)) < 0 := of_decide_eq_true hlt
    rw [hw] at hlt
    rw [hy]; unfold szN; rw [if_pos hlt]
  · refine congrArg (fun x => XA.one (.c (.d (eI x)))) ?_
    have hlt : ¬ IntKind.i64.wrap (l - (n : Int)) < 0 := of_decide_eq_false hlt
    rw [hw] at hlt
    rw [hy]; unfold szN; rw [if_neg hlt]
    exact hw
set_option maxRecDepth 100000 in
theorem to_TskIn (x : TskInT) (hb : bdTskIn x) : Meets Try.prog 121 [xd (eTskIn x)] ⟨.one (xd (eTskIn x)), [none]⟩ := by
  refine meets_of (H := []) (EX := EXA) ttok mixed Try.func121 rfl (by kernel_rfl) (by decide) ?_
  generalize hA : real = A
  generalize hM : MeetsB Try.prog = M
  cbv
  repeat' first
    | apply And.intro
    | exact True.intro
    | with_reducible rfl
    | exact same_of hA rfl
    | refine br_of hA (fun _ => ?_) (fun _ => ?_)
    | (refine ind_of hA ?_; decide +kernel)
    | (refine call_of hA hM _ (meets_frz (to_ItmS x.queue.n hb x.queue.g) rfl) ?_; cbv)
set_option maxRecDepth 100000 in
theorem eq_TskIn (x : TskInT) : Meets Try.prog 124 [xd (eTskIn x), xd (eTskIn x)] ⟨.one (.c (.d (eB true))), [none, none]⟩ := by
  refine meets_of (H := []) (EX := EXA) ttok mixed Try.func124 rfl (by kernel_rfl) (by decide) ?_
  generalize hA : real = A
  generalize hM : MeetsB Try.prog = M
  cbv
  repeat' first
    | apply And.intro
    | exact True.intro
    | with_reducible rfl
    | exact same_of hA rfl
    | refine br_of hA (fun _ => ?_) (fun _ => ?_)
    | (refine ind_of hA ?_; decide +kernel)
    | (refine call_of hA hM _ (eq_ItmS x.queue.n x.queue.hn x.queue.g) ?_; cbv)
    | (exfalso; rename_i h; subst hA; simp [real] at h; done)
set_option maxRecDepth 100000 in
theorem sz_TskIn (x : TskInT) (l0 : Int) (h0 : 0 ≤ l0) (h1 : l0 ≤ 1048576) (y : Int) (hy : y = szTskIn x l0) : Meets Try.prog 118 [xd (eTskIn x), .c (.d (eI l0))] ⟨.one (.c (.d (eI y))), [none, none]⟩ := by
  refine meets_of (H := []) (EX := EXA) ttok mixed Try.func118 rfl (by kernel_rfl) (by decide) ?_
  generalize hA : real = A
  generalize hM : MeetsB Try.prog = M
  cbv
  repeat' first
    | apply And.intro
    | exact True.intro
    | with_reducible rfl
    | exact same_of hA rfl
    | refine br_of hA (fun _ => ?_) (fun _ => ?_)
    | (refine ind_of hA ?_; decide +kernel)
  unfold szTskIn at hy
  obtain ⟨l1, e1⟩ : ∃ z : Int, z = szN x.queue.n l0 := ⟨_, rfl⟩
  have s1 := szN_spec (n := x.queue.n) h0 h1
  rw [← e1] at s1 hy
  refine call_of hA hM _ (sz_ItmS x.queue.n x.queue.hn x.queue.g l0 h0 h1 l1 e1) ?_
  cbv
  repeat' first
    | apply And.intro
    | exact True.intro
    | with_reducible rfl
    | exact same_of hA rfl
    | refine br_of hA (fun _ => ?_) (fun _ => ?_)
    | (refine ind_of hA ?_; decide +kernel)
  · rename_i hlt
    refine congrArg (fun x => XA.one (.c (.d (eI x)))) ?_
    subst hA
    have hlt : l1 < 0 := of_decide_eq_true hlt
    omega
  rename_i hge1
  have hge1 : ¬ l1 < 0 := by subst hA; exact of_decide_eq_false hge1
  exact congrArg (fun x => XA.one (.c (.d (eI x)))) hy.symm
def st_toTskInS (n : Nat) (rd : Nat → TskInT) (i : Nat) (rm : Nat → Nat → DV) : St :=
  ⟨[(4, .c (.d (eI i))), (0, .c (.d (.sl 3 n fun i => eTskIn (rd i)))), (3, .c (.own 448 0 n 1))], [(448, 1, .arr 3 n fun i => [rm i 0, rm i 1, rm i 2])]⟩
set_option maxRecDepth 100000 in
theorem to_TskInS (n : Nat) (hn : n ≤ 1048576) (rd : Nat → TskInT) (hb : ∀ i, i < n → bdTskIn (rd i)) : Meets Try.prog 76 [.c (.d (.sl 3 n fun i => eTskIn (rd i)))] ⟨.one (.c (.own 3 n fun i => eTskIn (rd i))), [none]⟩ := by
  have hn2 : n ≤ maxLen := Nat.le_trans hn (by decide)
  refine meets_of (H := [6]) (EX := EXA) ttok mixed Try.func76 rfl (by kernel_rfl) (by decide) ?_
  generalize hA : real = A
  generalize hM : MeetsB Try.prog = M
  cbv
  repeat' first
    | apply And.intro
    | exact True.intro
    | with_reducible rfl
    | exact same_of hA rfl
    | refine br_of hA (fun _ => ?_) (fun _ => ?_)
    | (refine ind_of hA ?_; decide +kernel)
    | exact made_n hA hn (by decide)
  refine loop_of hA (α := { p : Nat × (Nat → Nat → DV) // p.1 ≤ n ∧ ∀ j, j < p.1 → [p.2 j 0, p.2 j 1, p.2 j 2] = eTskIn (rd j) }) (fun x => st_toTskInS n rd x.1.1 x.1.2) (fun x => n - x.1.1) ⟨(0, fun _ => fun c => [.v nilS, eI 0, eB false].getD c (.v nilS)), Nat.zero_le _, fun j h => absurd h (Nat.not_lt_zero _)⟩ ?_ ?_
  · refine cov_of ?_ ?_ ?_
    · cbv
      subst hA
      exact ⟨rfl, ⟨rfl, trivial⟩, trivial⟩
    · cbv
      subst hA
      exact ⟨⟨rfl, fun _ _ => rfl⟩, trivial⟩
    · cbv
  rintro ⟨⟨i, rm⟩, hi, hrm⟩
  cbv
  repeat' first
    | apply And.intro
    | exact True.intro
    | with_reducible rfl
    | exact same_of hA rfl
    | refine br_of hA (fun _ => ?_) (fun _ => ?_)
    | (refine ind_of hA ?_; decide +kernel)
    | (refine call_of hA hM _ (to_TskIn (rd (A.nat (Int.ofNat i))) (hb _ (by rename_i hlt; subst hA; simp only [real, decide_eq_true_eq, Int.ofNat_eq_natCast, Int.toNat_natCast] at *; omega))) ?_; cbv)
    | (refine inb_of hA fun _ => ?_; subst hA; simp only [real, decide_eq_true_eq, Int.ofNat_eq_natCast] at *; omega)
  · rename_i hlt
    have hlt' : i < n := by subst hA; simp only [real, decide_eq_true_eq, Int.ofNat_eq_natCast] at hlt; omega
    refine ⟨⟨(i + 1, fun j => if j = i then fun c => (eTskIn (rd i)).getD c (.v nilS) else rm j), by simp only; omega, fun j hj => ?_⟩, by simp only; omega, cov_of ?_ ?_ ?_⟩
    · simp only at hj ⊢
      by_cases e : j = i
      · subst e; simp only [if_true]; rfl
      · simp only [if_neg e]; exact hrm j (by simp only; omega)
    · cbv
      subst hA
      exact ⟨congrArg (fun x => DV.v (.int .i64 x)) (up64 hlt' hn2), trivial⟩
    · cbv
      refine ⟨fun q _ => ?_, trivial⟩
      subst hA
      by_cases e : q = i
      · subst e; show (if q = 0 + q then eTskIn (rd q) else [rm q 0, rm q 1, rm q 2]) = _; simp only [Nat.zero_add, if_pos, if_true] <;> rfl
      · show (if q = 0 + i then eTskIn (rd i) else [rm q 0, rm q 1, rm q 2]) = _; simp only [Nat.zero_add, e, if_false] <;> rfl
    · cbv
  · rename_i hge
    have hin : i = n := by
      subst hA
      have : ¬ ((i : Int) < (n : Int)) := of_decide_eq_false hge
      simp only at hi
      omega
    subst hin
    refine stop_of hA ⟨[(3, .c (.own 448 0 i 1))], [(448, 1, .arr 3 i fun j => eTskIn (rd j))]⟩ (cov_of ?_ ?_ ?_) ?_
    · cbv
    · cbv
      exact ⟨fun q hq => hrm q hq, trivial⟩
    · cbv
    · cbv
      repeat' first | apply And.intro | refine br_of hA (fun _ => ?_) (fun _ => ?_)
      all_goals first | exact True.intro | with_reducible rfl | exact same_of hA rfl | skip
def st_eqTskInS (n : Nat) (rd : Nat → TskInT) (i : Nat) : St := ⟨[(5, .c (.d (eI i))), (0, .c (.d (.sl 3 n fun i => eTskIn (rd i)))), (1, .c (.d (.sl 3 n fun i => eTskIn (rd i))))], []⟩
set_option maxRecDepth 100000 in
theorem eq_TskInS (n : Nat) (hn : n ≤ maxLen) (rd : Nat → TskInT) : Meets Try.prog 78 [.c (.d (.sl 3 n fun i => eTskIn (rd i))), .c (.d (.sl 3 n fun i => eTskIn (rd i)))] ⟨.one (.c (.d (eB true))), [none, none]⟩ := by
  refine meets_of (H := []) (EX := EXA) ttok mixed Try.func78 rfl (by kernel_rfl) (by decide) ?_
  generalize hA : real = A
  generalize hM : MeetsB Try.prog = M
  cbv
  repeat' first
    | apply And.intro
    | exact True.intro
    | with_reducible rfl
    | exact same_of hA rfl
    | refine br_of hA (fun _ => ?_) (fun _ => ?_)
    | (refine ind_of hA ?_; decide +kernel)
    | (exfalso; rename_i h; subst hA; simp [real] at h; done)
  refine loop_of hA (α := { i : Nat // i ≤ n }) (fun x => st_eqTskInS n rd x.1) (fun x => n - x.1) ⟨0, Nat.zero_le _⟩ ?_ ?_
  · refine cov_of ?_ ?_ ?_
    · cbv; exact ⟨rfl, trivial⟩
    · cbv
    · cbv
  rintro ⟨i, hi⟩
  cbv
  repeat' first
    | apply And.intro
    | exact True.intro
    | with_reducible rfl
    | exact same_of hA rfl
    | refine br_of hA (fun _ => ?_) (fun _ => ?_)
    | (refine ind_of hA ?_; decide +kernel)
    | (refine call_of hA hM _ (eq_TskIn (rd (A.nat (Int.ofNat i)))) ?_; cbv)
    | (exfalso; rename_i h; subst hA; simp [real] at h; done)
    | (refine inb_of hA fun _ => ?_; subst hA; simp only [real, decide_eq_true_eq, Int.ofNat_eq_natCast] at *; omega)
  have hlt' : i < n := by
    subst hA
    simp only [real, decide_eq_true_eq, Int.ofNat_eq_natCast] at *
    omega
  refine ⟨⟨i + 1, by omega⟩, by simp only; omega, cov_of ?_ ?_ ?_⟩
  · cbv
    subst hA
    exact ⟨congrArg (fun x => DV.v (.int .i64 x)) (up64 hlt' hn), trivial⟩
  · cbv
  · cbv
def st_szTskInS (n : Nat) (rd : Nat → TskInT) (i : Nat) (v : Int) : St := ⟨[(5, .c (.d (eI i))), (0, .c (.d (.sl 3 n fun i => eTskIn (rd i)))), (1, .c (.d (eI v)))], []⟩
set_option maxRecDepth 100000 in
theorem sz_TskInS (n : Nat) (hn : n ≤ maxLen) (rd : Nat → TskInT) (l : Int) (h0 : 0 ≤ l) (h1 : l ≤ 1048576) (y : Int) (hy : y = szS (fun i l => szTskIn (rd i) l) n l) : Meets Try.prog 74 [.c (.d (.sl 3 n fun i => eTskIn (rd i))), .c (.d (eI l))] ⟨.one (.c (.d (eI y))), [none, none]⟩ := by
  have hm : maxLen = 9223372036854775807 := by decide
  have hw : IntKind.i64.wrap (l - (n : Int)) = l - n := IntWalk.i64_in _ (by omega)
  refine meets_of (H := []) (EX := EXA) ttok mixed Try.func74 rfl (by kernel_rfl) (by decide) ?_
  generalize hA : real = A
  generalize hM : MeetsB Try.prog = M
  cbv
  repeat' first
    | apply And.intro
    | exact True.intro
    | with_reducible rfl
    | exact same_of hA rfl
    | refine br_of hA (fun _ => ?_) (fun _ => ?_)
    | (refine ind_of hA ?_; decide +kernel)
  · rename_i hlt
    refine congrArg (fun x => XA.one (.c (.d (eI x)))) ?_
    subst hA
    have hlt : IntKind.i64.wrap (l - (n : Int)) < 0 := of_decide_eq_true hlt
    rw [hw] at hlt
    rw [hy]; unfold szS szN; simp [hlt]
  rename_i hge
  have hge' : ¬ l - (n : Int) < 0 := by
    subst hA
    have h : ¬ IntKind.i64.wrap (l - (n : Int)) < 0 := of_decide_eq_false hge
    rw [hw] at h; exact h
  have hN : szN n l = l - n := if_neg hge'
  have hy' : y = szLoop (fun i l => szTskIn (rd i) l) (l - n) n := by rw [hy]; unfold szS; rw [hN, if_neg hge']
  have hs := szLoop_spec (f := (fun i l => szTskIn (rd i) l)) (B := fun i => bdTskIn (rd i)) (n := n) (fun i _ l h0 h1 => by simpa using szTskIn_spec (rd i) h0 h1) (l := l - n) (by omega) (by omega)
  have hs1 : ∀ k, k ≤ n → -1 ≤ szLoop (fun i l => szTskIn (rd i) l) (l - n) k := fun k hk => (hs k hk).1
  refine loop_of hA (α := { p : Nat × Int // p.1 ≤ n ∧ p.2 = szLoop (fun i l => szTskIn (rd i) l) (l - n) p.1 ∧ 0 ≤ p.2 }) (fun x => st_szTskInS n rd x.1.1 x.1.2) (fun x => n - x.1.1) ⟨(0, l - n), Nat.zero_le _, rfl, by simp only; omega⟩ ?_ ?_
  · refine cov_of ?_ ?_ ?_
    · cbv; subst hA; exact ⟨rfl, congrArg (fun x => DV.v (.int .i64 x)) hw, trivial⟩
    · cbv
    · cbv
  rintro ⟨⟨i, v⟩, hi, hv, hv0⟩
  have hv1 : v ≤ 1048576 := by have := (hs i hi).2.1; simp only at hv; omega
  obtain ⟨z, hz⟩ : ∃ z : Int, z = szTskIn (rd (A.nat (Int.ofNat i))) v := ⟨_, rfl⟩
  have hc := sz_TskIn (rd (A.nat (Int.ofNat i))) v hv0 hv1 z hz
  cbv
  repeat' first
    | apply And.intro
    | exact True.intro
    | with_reducible rfl
    | exact same_of hA rfl
    | refine br_of hA (fun _ => ?_) (fun _ => ?_)
    | (refine ind_of hA ?_; decide +kernel)
    | (refine call_of hA hM _ hc ?_; cbv)
    | (refine inb_of hA fun _ => ?_; subst hA; simp only [real, decide_eq_true_eq, Int.ofNat_eq_natCast] at *; omega)
  · rename_i hlt hz0
    refine congrArg (fun x => XA.one (.c (.d (eI x)))) ?_
    subst hA
    simp only [real, decide_eq_true_eq, Int.ofNat_eq_natCast, Int.toNat_natCast] at *
    have e1 : szLoop (fun i l => szTskIn (rd i) l) (l - n) (i + 1) = z := by unfold szLoop; rw [← hv, if_neg (by omega)]; exact hz.symm
    have e2 := szLoop_neg hs1 (k := i + 1) (by rw [e1]; exact hz0) (n - (i + 1)) (by omega)
    rw [Nat.add_sub_cancel' (by omega)] at e2
    rw [hy', e2]
  · rename_i hlt hz0
    have hz0 : ¬ z < 0 := by subst hA; exact of_decide_eq_false hz0
    have hlt' : i < n := by subst hA; simp only [real, decide_eq_true_eq, Int.ofNat_eq_natCast] at hlt; omega
    have e1 : szLoop (fun i l => szTskIn (rd i) l) (l - n) (i + 1) = z := by
      subst hA
      simp only at hv
      unfold szLoop; rw [← hv, if_neg (by omega)]; exact hz.symm
    refine ⟨⟨(i + 1, z), by simp only; omega, e1.symm, by simp only; omega⟩, by simp only; omega, cov_of ?_ ?_ ?_⟩
    · cbv
      subst hA
      exact ⟨congrArg (fun x => DV.v (.int .i64 x)) (up64 hlt' hn), trivial⟩
    · cbv
    · cbv
  · rename_i hge2
    refine congrArg (fun x => XA.one (.c (.d (eI x)))) ?_
    have : i = n := by
      subst hA
      have : ¬ ((i : Int) < (n : Int)) := of_decide_eq_false hge2
      simp only at hi
      omega
    subst this
    simp only at hv
    omega
set_option maxRecDepth 100000 in
theorem to_Txn (x : TxnT) (hb : bdTxn x) : Meets Try.prog 77 [xd (eTxn x)] ⟨.one (xd (eTxn x)), [none]⟩ := by
  refine meets_of (H := []) (EX := EXA) ttok mixed Try.func77 rfl (by kernel_rfl) (by decide) ?_
  generalize hA : real = A
  generalize hM : MeetsB Try.prog = M
  cbv
  repeat' first
    | apply And.intro
    | exact True.intro
    | with_reducible rfl
    | exact same_of hA rfl
    | refine br_of hA (fun _ => ?_) (fun _ => ?_)
    | (refine ind_of hA ?_; decide +kernel)
    | (refine call_of hA hM _ (meets_frz (to_PaneS x.panes.n hb.1 x.panes.g) rfl) ?_; cbv)
    | (refine call_of hA hM _ (meets_frz (to_LatS x.lates.n hb.2 x.lates.g) rfl) ?_; cbv)
set_option maxRecDepth 100000 in
theorem eq_Txn (x : TxnT) : Meets Try.prog 79 [xd (eTxn x), xd (eTxn x)] ⟨.one (.c (.d (eB true))), [none, none]⟩ := by
  refine meets_of (H := []) (EX := EXA) ttok mixed Try.func79 rfl (by kernel_rfl) (by decide) ?_
  generalize hA : real = A
  generalize hM : MeetsB Try.prog = M
  cbv
  repeat' first
    | apply And.intro
    | exact True.intro
    | with_reducible rfl
    | exact same_of hA rfl
    | refine br_of hA (fun _ => ?_) (fun _ => ?_)
    | (refine ind_of hA ?_; decide +kernel)
    | (refine call_of hA hM _ (eq_PaneS x.panes.n x.panes.hn x.panes.g) ?_; cbv)
    | (refine call_of hA hM _ (eq_LatS x.lates.n x.lates.hn x.lates.g) ?_; cbv)
    | (exfalso; rename_i h; subst hA; simp [real] at h; done)
set_option maxRecDepth 100000 in
theorem sz_Txn (x : TxnT) (l0 : Int) (h0 : 0 ≤ l0) (h1 : l0 ≤ 1048576) (y : Int) (hy : y = szTxn x l0) : Meets Try.prog 75 [xd (eTxn x), .c (.d (eI l0))] ⟨.one (.c (.d (eI y))), [none, none]⟩ := by
  refine meets_of (H := []) (EX := EXA) ttok mixed Try.func75 rfl (by kernel_rfl) (by decide) ?_
  generalize hA : real = A
  generalize hM : MeetsB Try.prog = M
  cbv
  repeat' first
    | apply And.intro
    | exact True.intro
    | with_reducible rfl
    | exact same_of hA rfl
    | refine br_of hA (fun _ => ?_) (fun _ => ?_)
    | (refine ind_of hA ?_; decide +kernel)
  unfold szTxn at hy
  obtain ⟨l1, e1⟩ : ∃ z : Int, z = szN x.panes.n l0 := ⟨_, rfl⟩
  have s1 := szN_spec (n := x.panes.n) h0 h1
  rw [← e1] at s1 hy
  refine call_of hA hM _ (sz_PaneS x.panes.n x.panes.hn x.panes.g l0 h0 h1 l1 e1) ?_
  cbv
  repeat' first
    | apply And.intro
    | exact True.intro
    | with_reducible rfl
    | exact same_of hA rfl
    | refine br_of hA (fun _ => ?_) (fun _ => ?_)
    | (refine ind_of hA ?_; decide +kernel)
  · rename_i hlt
    refine congrArg (fun x => XA.one (.c (.d (eI x)))) ?_
    subst hA
    have hlt : l1 < 0 := of_decide_eq_true hlt
    simp only [hlt, if_true] at hy; omega
  rename_i hge1
  have hge1 : ¬ l1 < 0 := by subst hA; exact of_decide_eq_false hge1
  simp only [hge1, if_false] at hy
  obtain ⟨l2, e2⟩ : ∃ z : Int, z = szN x.lates.n l1 := ⟨_, rfl⟩
  have s2 := szN_spec (n := x.lates.n) (by omega) s1.2.1
  rw [← e2] at s2 hy
  refine call_of hA hM _ (sz_LatS x.lates.n x.lates.hn x.lates.g l1 (by omega) s1.2.1 l2 e2) ?_
  cbv
  repeat' first
    | apply And.intro
    | exact True.intro
    | with_reducible rfl
    | exact same_of hA rfl
    | refine br_of hA (fun _ => ?_) (fun _ => ?_)
    | (refine ind_of hA ?_; decide +kernel)
  · rename_i hlt
    refine congrArg (fun x => XA.one (.c (.d (eI x)))) ?_
    subst hA
    have hlt : l2 < 0 := of_decide_eq_true hlt
    omega
  rename_i hge2
  have hge2 : ¬ l2 < 0 := by subst hA; exact of_decide_eq_false hge2
  exact congrArg (fun x => XA.one (.c (.d (eI x)))) hy.symm
set_option maxRecDepth 100000 in
theorem to_Tsk (x : TskT) (hb : bdTsk x) : Meets Try.prog 30 [xd (eTsk x)] ⟨.one (xd (eTsk x)), [none]⟩ := by
  refine meets_of (H := []) (EX := EXA) ttok mixed Try.func30 rfl (by kernel_rfl) (by decide) ?_
  generalize hA : real = A
  generalize hM : MeetsB Try.prog = M
  cbv
  repeat' first
    | apply And.intro
    | exact True.intro
    | with_reducible rfl
    | exact same_of hA rfl
    | refine br_of hA (fun _ => ?_) (fun _ => ?_)
    | (refine ind_of hA ?_; decide +kernel)
    | (refine call_of hA hM _ (meets_frz (to_TskInS x.ins.n hb.1 x.ins.g hb.2.1) rfl) ?_; cbv)
    | (refine call_of hA hM _ (to_OpSt x.op hb.2.2.1) ?_; cbv)
    | (refine call_of hA hM _ (to_Txn x.pend hb.2.2.2) ?_; cbv)
set_option maxRecDepth 100000 in
theorem eq_Tsk (x : TskT) : Meets Try.prog 32 [xd (eTsk x), xd (eTsk x)] ⟨.one (.c (.d (eB true))), [none, none]⟩ := by
  refine meets_of (H := []) (EX := EXA) ttok mixed Try.func32 rfl (by kernel_rfl) (by decide) ?_
  generalize hA : real = A
  generalize hM : MeetsB Try.prog = M
  cbv
  repeat' first
    | apply And.intro
    | exact True.intro
    | with_reducible rfl
    | exact same_of hA rfl
    | refine br_of hA (fun _ => ?_) (fun _ => ?_)
    | (refine ind_of hA ?_; decide +kernel)
    | (refine call_of hA hM _ (eq_TskInS x.ins.n x.ins.hn x.ins.g) ?_; cbv)
    | (refine call_of hA hM _ (eq_OpSt x.op) ?_; cbv)
    | (refine call_of hA hM _ (eq_Txn x.pend) ?_; cbv)
    | (exfalso; rename_i h; subst hA; simp [real] at h; done)
set_option maxRecDepth 100000 in
theorem sz_Tsk (x : TskT) (l0 : Int) (h0 : 0 ≤ l0) (h1 : l0 ≤ 1048576) (y : Int) (hy : y = szTsk x l0) : Meets Try.prog 28 [xd (eTsk x), .c (.d (eI l0))] ⟨.one (.c (.d (eI y))), [none, none]⟩ := by
  refine meets_of (H := []) (EX := EXA) ttok mixed Try.func28 rfl (by kernel_rfl) (by decide) ?_
  generalize hA : real = A
  generalize hM : MeetsB Try.prog = M
  cbv
  repeat' first
    | apply And.intro
    | exact True.intro
    | with_reducible rfl
    | exact same_of hA rfl
    | refine br_of hA (fun _ => ?_) (fun _ => ?_)
    | (refine ind_of hA ?_; decide +kernel)
  unfold szTsk at hy
  obtain ⟨l1, e1⟩ : ∃ z : Int, z = szS (fun i l => szTskIn (x.ins.g i) l) x.ins.n l0 := ⟨_, rfl⟩
  have s1 := (szS_spec (n := x.ins.n) (B := fun i => bdTskIn (x.ins.g i)) (fun i _ l h0 h1 => by simpa using szTskIn_spec (x.ins.g i) h0 h1) h0 h1)
  rw [← e1] at s1 hy
  refine call_of hA hM _ (sz_TskInS x.ins.n x.ins.hn x.ins.g l0 h0 h1 l1 e1) ?_
  cbv
  repeat' first
    | apply And.intro
    | exact True.intro
    | with_reducible rfl
    | exact same_of hA rfl
    | refine br_of hA (fun _ => ?_) (fun _ => ?_)
    | (refine ind_of hA ?_; decide +kernel)
  · rename_i hlt
    refine congrArg (fun x => XA.one (.c (.d (eI x)))) ?_
    subst hA
    have hlt : l1 < 0 := of_decide_eq_true hlt
    simp only [hlt, if_true] at hy; omega
  rename_i hge1
  have hge1 : ¬ l1 < 0 := by subst hA; exact of_decide_eq_false hge1
  simp only [hge1, if_false] at hy
  obtain ⟨l2, e2⟩ : ∃ z : Int, z = szOpSt x.op l1 := ⟨_, rfl⟩
  have s2 := szOpSt_spec x.op (by omega) s1.2.1
  rw [← e2] at s2 hy
  refine call_of hA hM _ (sz_OpSt x.op l1 (by omega) s1.2.1 l2 e2) ?_
  cbv
  repeat' first
    | apply And.intro
    | exact True.intro
    | with_reducible rfl
    | exact same_of hA rfl
    | refine br_of hA (fun _ => ?_) (fun _ => ?_)
    | (refine ind_of hA ?_; decide +kernel)
  · rename_i hlt
    refine congrArg (fun x => XA.one (.c (.d (eI x)))) ?_
    subst hA
    have hlt : l2 < 0 := of_decide_eq_true hlt
    simp only [hlt, if_true] at hy; omega
  rename_i hge2
  have hge2 : ¬ l2 < 0 := by subst hA; exact of_decide_eq_false hge2
  simp only [hge2, if_false] at hy
  obtain ⟨l3, e3⟩ : ∃ z : Int, z = szTxn x.pend l2 := ⟨_, rfl⟩
  have s3 := szTxn_spec x.pend (by omega) s2.2.1
  rw [← e3] at s3 hy
  refine call_of hA hM _ (sz_Txn x.pend l2 (by omega) s2.2.1 l3 e3) ?_
  cbv
  repeat' first
    | apply And.intro
    | exact True.intro
    | with_reducible rfl
    | exact same_of hA rfl
    | refine br_of hA (fun _ => ?_) (fun _ => ?_)
    | (refine ind_of hA ?_; decide +kernel)
  · rename_i hlt
    refine congrArg (fun x => XA.one (.c (.d (eI x)))) ?_
    subst hA
    have hlt : l3 < 0 := of_decide_eq_true hlt
    omega
  rename_i hge3
  have hge3 : ¬ l3 < 0 := by subst hA; exact of_decide_eq_false hge3
  exact congrArg (fun x => XA.one (.c (.d (eI x)))) hy.symm
end Go.Rk
/- Small functions: what they answer. -/
namespace Go.Rk
set_option linter.unusedSimpArgs false
set_option linter.unusedVariables false
open Go.Proofs
set_option maxRecDepth 100000 in
theorem c_in (n lo hi : Int) : ∃ b, b = decide (lo ≤ n ∧ n ≤ hi) ∧ Meets Try.prog 91 [.c (.d (eI n)), .c (.d (eI lo)), .c (.d (eI hi))] ⟨.one (.c (.d (eB b))), [none, none, none]⟩ := by
  obtain ⟨b, hb⟩ : ∃ b, b = decide (lo ≤ n ∧ n ≤ hi) := ⟨_, rfl⟩
  refine ⟨b, hb, ?_⟩
  refine meets_of (H := []) (EX := EXA) ttok mixed Try.func91 rfl (by kernel_rfl) (by decide) ?_
  generalize hA : real = A
  generalize hM : MeetsB Try.prog = M
  cbv
  repeat' first
    | apply And.intro
    | exact True.intro
    | with_reducible rfl
    | exact same_of hA rfl
    | refine br_of hA (fun _ => ?_) (fun _ => ?_)
    | exact imp_of hA id
    | (refine imp_of hA ?_; subst hA; simp only [real, Bool.true_and]; exact id)
    | (refine ind_of hA ?_; decide +kernel)
  all_goals subst hA
  all_goals refine congrArg (fun b => XA.one (.c (.d (eB b)))) (Bool.eq_iff_iff.2 ?_)
  all_goals subst_vars
  all_goals try simp only [real, bifA, bifB, bifC, bifD, decide_eq_true_eq, decide_eq_false_iff_not, beq_iff_eq, bne_iff_ne, beq_eq_false_iff_ne, bne_eq_false_iff_eq, ne_eq, Bool.and_eq_true, Bool.or_eq_true, Bool.not_eq_true', Bool.not_eq_false', Bool.and_eq_false_iff, Bool.or_eq_false_iff, Bool.false_eq_true, and_false, false_and, or_false, false_or, and_true, true_and, not_true_eq_false, not_false_eq_true, true_iff, false_iff, IntKind.wrap_i64] at *
  all_goals first
    | omega
    | skip
set_option maxRecDepth 100000 in
theorem c_l1In (n lo hi : Int) : ∃ b, b = decide (lo ≤ n ∧ n ≤ hi) ∧ Meets Try.prog 44 [.c (.d (eI n)), .c (.d (eI lo)), .c (.d (eI hi))] ⟨.one (.c (.d (eB b))), [none, none, none]⟩ := by
  obtain ⟨b, hb⟩ : ∃ b, b = decide (lo ≤ n ∧ n ≤ hi) := ⟨_, rfl⟩
  refine ⟨b, hb, ?_⟩
  refine meets_of (H := []) (EX := EXA) ttok mixed Try.func44 rfl (by kernel_rfl) (by decide) ?_
  generalize hA : real = A
  generalize hM : MeetsB Try.prog = M
  cbv
  repeat' first
    | apply And.intro
    | exact True.intro
    | with_reducible rfl
    | exact same_of hA rfl
    | refine br_of hA (fun _ => ?_) (fun _ => ?_)
    | exact imp_of hA id
    | (refine imp_of hA ?_; subst hA; simp only [real, Bool.true_and]; exact id)
    | (refine ind_of hA ?_; decide +kernel)
  all_goals subst hA
  all_goals refine congrArg (fun b => XA.one (.c (.d (eB b)))) (Bool.eq_iff_iff.2 ?_)
  all_goals subst_vars
  all_goals try simp only [real, bifA, bifB, bifC, bifD, decide_eq_true_eq, decide_eq_false_iff_not, beq_iff_eq, bne_iff_ne, beq_eq_false_iff_ne, bne_eq_false_iff_eq, ne_eq, Bool.and_eq_true, Bool.or_eq_true, Bool.not_eq_true', Bool.not_eq_false', Bool.and_eq_false_iff, Bool.or_eq_false_iff, Bool.false_eq_true, and_false, false_and, or_false, false_or, and_true, true_and, not_true_eq_false, not_false_eq_true, true_iff, false_iff, IntKind.wrap_i64] at *
  all_goals first
    | omega
    | skip
set_option maxRecDepth 100000 in
theorem c_WinOk (s e : Int) : ∃ b, b = decide ((0 ≤ s ∧ s ≤ 60) ∧ IntKind.i64.wrap (s + 1) ≤ e ∧ e ≤ 120) ∧ Meets Try.prog 94 [.agg [.d (eI s), .d (eI e)]] ⟨.one (.c (.d (eB b))), [none]⟩ := by
  obtain ⟨b, hb⟩ : ∃ b, b = decide ((0 ≤ s ∧ s ≤ 60) ∧ IntKind.i64.wrap (s + 1) ≤ e ∧ e ≤ 120) := ⟨_, rfl⟩
  refine ⟨b, hb, ?_⟩
  refine meets_of (H := []) (EX := EXA) ttok mixed Try.func94 rfl (by kernel_rfl) (by decide) ?_
  generalize hA : real = A
  generalize hM : MeetsB Try.prog = M
  cbv
  repeat' first
    | apply And.intro
    | exact True.intro
    | with_reducible rfl
    | exact same_of hA rfl
    | refine br_of hA (fun _ => ?_) (fun _ => ?_)
    | exact imp_of hA id
    | (refine imp_of hA ?_; subst hA; simp only [real, Bool.true_and]; exact id)
    | (refine ind_of hA ?_; decide +kernel)
    | (refine call_ex hA hM (c_in _ _ _) (fun _ _ => ?_); cbv)
  all_goals subst hA
  all_goals refine congrArg (fun b => XA.one (.c (.d (eB b)))) (Bool.eq_iff_iff.2 ?_)
  all_goals subst_vars
  all_goals try simp only [real, bifA, bifB, bifC, bifD, decide_eq_true_eq, decide_eq_false_iff_not, beq_iff_eq, bne_iff_ne, beq_eq_false_iff_ne, bne_eq_false_iff_eq, ne_eq, Bool.and_eq_true, Bool.or_eq_true, Bool.not_eq_true', Bool.not_eq_false', Bool.and_eq_false_iff, Bool.or_eq_false_iff, Bool.false_eq_true, and_false, false_and, or_false, false_or, and_true, true_and, not_true_eq_false, not_false_eq_true, true_iff, false_iff, IntKind.wrap_i64] at *
  all_goals first
    | omega
    | skip
set_option maxRecDepth 100000 in
theorem c_sWinOk (s e : Int) : ∃ b, b = decide ((0 ≤ s ∧ s ≤ 60) ∧ IntKind.i64.wrap (s + 1) ≤ e ∧ e ≤ 120) ∧ Meets Try.prog 87 [.agg [.d (eI s), .d (eI e)]] ⟨.one (.c (.d (eB b))), [none]⟩ := by
  obtain ⟨b, hb⟩ : ∃ b, b = decide ((0 ≤ s ∧ s ≤ 60) ∧ IntKind.i64.wrap (s + 1) ≤ e ∧ e ≤ 120) := ⟨_, rfl⟩
  refine ⟨b, hb, ?_⟩
  refine meets_of (H := []) (EX := EXA) ttok mixed Try.func87 rfl (by kernel_rfl) (by decide) ?_
  generalize hA : real = A
  generalize hM : MeetsB Try.prog = M
  cbv
  repeat' first
    | apply And.intro
    | exact True.intro
    | with_reducible rfl
    | exact same_of hA rfl
    | refine br_of hA (fun _ => ?_) (fun _ => ?_)
    | exact imp_of hA id
    | (refine imp_of hA ?_; subst hA; simp only [real, Bool.true_and]; exact id)
    | (refine ind_of hA ?_; decide +kernel)
    | (refine call_ex hA hM (c_l1In _ _ _) (fun _ _ => ?_); cbv)
  all_goals subst hA
  all_goals refine congrArg (fun b => XA.one (.c (.d (eB b)))) (Bool.eq_iff_iff.2 ?_)
  all_goals subst_vars
  all_goals try simp only [real, bifA, bifB, bifC, bifD, decide_eq_true_eq, decide_eq_false_iff_not, beq_iff_eq, bne_iff_ne, beq_eq_false_iff_ne, bne_eq_false_iff_eq, ne_eq, Bool.and_eq_true, Bool.or_eq_true, Bool.not_eq_true', Bool.not_eq_false', Bool.and_eq_false_iff, Bool.or_eq_false_iff, Bool.false_eq_true, and_false, false_and, or_false, false_or, and_true, true_and, not_true_eq_false, not_false_eq_true, true_iff, false_iff, IntKind.wrap_i64] at *
  all_goals first
    | omega
    | skip
set_option maxRecDepth 100000 in
theorem c_tells (n : Int) : ∃ b, b = decide (1 ≤ n ∧ n ≤ 4) ∧ Meets Try.prog 92 [.c (.d (eI n))] ⟨.one (.c (.d (eB b))), [none]⟩ := by
  obtain ⟨b, hb⟩ : ∃ b, b = decide (1 ≤ n ∧ n ≤ 4) := ⟨_, rfl⟩
  refine ⟨b, hb, ?_⟩
  refine meets_of (H := []) (EX := EXA) ttok mixed Try.func92 rfl (by kernel_rfl) (by decide) ?_
  generalize hA : real = A
  generalize hM : MeetsB Try.prog = M
  cbv
  repeat' first
    | apply And.intro
    | exact True.intro
    | with_reducible rfl
    | exact same_of hA rfl
    | refine br_of hA (fun _ => ?_) (fun _ => ?_)
    | exact imp_of hA id
    | (refine imp_of hA ?_; subst hA; simp only [real, Bool.true_and]; exact id)
    | (refine ind_of hA ?_; decide +kernel)
    | (refine call_ex hA hM (c_in _ _ _) (fun _ _ => ?_); cbv)
  all_goals subst hA
  all_goals refine congrArg (fun b => XA.one (.c (.d (eB b)))) (Bool.eq_iff_iff.2 ?_)
  all_goals subst_vars
  all_goals try simp only [real, bifA, bifB, bifC, bifD, decide_eq_true_eq, decide_eq_false_iff_not, beq_iff_eq, bne_iff_ne, beq_eq_false_iff_ne, bne_eq_false_iff_eq, ne_eq, Bool.and_eq_true, Bool.or_eq_true, Bool.not_eq_true', Bool.not_eq_false', Bool.and_eq_false_iff, Bool.or_eq_false_iff, Bool.false_eq_true, and_false, false_and, or_false, false_or, and_true, true_and, not_true_eq_false, not_false_eq_true, true_iff, false_iff, IntKind.wrap_i64] at *
  all_goals first
    | omega
    | skip
set_option maxRecDepth 100000 in
theorem c_ItmOk (kind t key v n : Int) : ∃ b, b = decide ((kind = 1 ∧ (0 ≤ t ∧ t ≤ 60) ∧ (0 ≤ key ∧ key ≤ 3) ∧ (-9 ≤ v ∧ v ≤ 9) ∧ n = 0) ∨ (kind = 2 ∧ ((1 ≤ t ∧ t ≤ 60) ∨ t = 1000) ∧ key = 0 ∧ v = 0 ∧ n = 0) ∨ (kind = 3 ∧ t = 0 ∧ key = 0 ∧ v = 0 ∧ (1 ≤ n ∧ n ≤ 900))) ∧ Meets Try.prog 108 [.agg [.d (eI kind), .d (eI t), .d (eI key), .d (eI v), .d (eI n)]] ⟨.one (.c (.d (eB b))), [none]⟩ := by
  obtain ⟨b, hb⟩ : ∃ b, b = decide ((kind = 1 ∧ (0 ≤ t ∧ t ≤ 60) ∧ (0 ≤ key ∧ key ≤ 3) ∧ (-9 ≤ v ∧ v ≤ 9) ∧ n = 0) ∨ (kind = 2 ∧ ((1 ≤ t ∧ t ≤ 60) ∨ t = 1000) ∧ key = 0 ∧ v = 0 ∧ n = 0) ∨ (kind = 3 ∧ t = 0 ∧ key = 0 ∧ v = 0 ∧ (1 ≤ n ∧ n ≤ 900))) := ⟨_, rfl⟩
  refine ⟨b, hb, ?_⟩
  refine meets_of (H := []) (EX := EXA) ttok mixed Try.func108 rfl (by kernel_rfl) (by decide) ?_
  generalize hA : real = A
  generalize hM : MeetsB Try.prog = M
  cbv
  repeat' first
    | apply And.intro
    | exact True.intro
    | with_reducible rfl
    | exact same_of hA rfl
    | refine br_of hA (fun _ => ?_) (fun _ => ?_)
    | exact imp_of hA id
    | (refine imp_of hA ?_; subst hA; simp only [real, Bool.true_and]; exact id)
    | (refine ind_of hA ?_; decide +kernel)
    | (refine call_ex hA hM (c_in _ _ _) (fun _ _ => ?_); cbv)
  all_goals subst hA
  all_goals refine congrArg (fun b => XA.one (.c (.d (eB b)))) (Bool.eq_iff_iff.2 ?_)
  all_goals subst_vars
  all_goals try simp only [real, bifA, bifB, bifC, bifD, decide_eq_true_eq, decide_eq_false_iff_not, beq_iff_eq, bne_iff_ne, beq_eq_false_iff_ne, bne_eq_false_iff_eq, ne_eq, Bool.and_eq_true, Bool.or_eq_true, Bool.not_eq_true', Bool.not_eq_false', Bool.and_eq_false_iff, Bool.or_eq_false_iff, Bool.false_eq_true, and_false, false_and, or_false, false_or, and_true, true_and, not_true_eq_false, not_false_eq_true, true_iff, false_iff, IntKind.wrap_i64] at *
  all_goals first
    | omega
    | skip
set_option maxRecDepth 100000 in
theorem c_sItmOk (kind t key v n : Int) : ∃ b, b = decide ((kind = 1 ∧ (0 ≤ t ∧ t ≤ 60) ∧ (0 ≤ key ∧ key ≤ 3) ∧ (-9 ≤ v ∧ v ≤ 9) ∧ n = 0) ∨ (kind = 2 ∧ ((1 ≤ t ∧ t ≤ 60) ∨ t = 1000) ∧ key = 0 ∧ v = 0 ∧ n = 0) ∨ (kind = 3 ∧ t = 0 ∧ key = 0 ∧ v = 0 ∧ (1 ≤ n ∧ n ≤ 900))) ∧ Meets Try.prog 66 [.agg [.d (eI kind), .d (eI t), .d (eI key), .d (eI v), .d (eI n)]] ⟨.one (.c (.d (eB b))), [none]⟩ := by
  obtain ⟨b, hb⟩ : ∃ b, b = decide ((kind = 1 ∧ (0 ≤ t ∧ t ≤ 60) ∧ (0 ≤ key ∧ key ≤ 3) ∧ (-9 ≤ v ∧ v ≤ 9) ∧ n = 0) ∨ (kind = 2 ∧ ((1 ≤ t ∧ t ≤ 60) ∨ t = 1000) ∧ key = 0 ∧ v = 0 ∧ n = 0) ∨ (kind = 3 ∧ t = 0 ∧ key = 0 ∧ v = 0 ∧ (1 ≤ n ∧ n ≤ 900))) := ⟨_, rfl⟩
  refine ⟨b, hb, ?_⟩
  refine meets_of (H := []) (EX := EXA) ttok mixed Try.func66 rfl (by kernel_rfl) (by decide) ?_
  generalize hA : real = A
  generalize hM : MeetsB Try.prog = M
  cbv
  repeat' first
    | apply And.intro
    | exact True.intro
    | with_reducible rfl
    | exact same_of hA rfl
    | refine br_of hA (fun _ => ?_) (fun _ => ?_)
    | exact imp_of hA id
    | (refine imp_of hA ?_; subst hA; simp only [real, Bool.true_and]; exact id)
    | (refine ind_of hA ?_; decide +kernel)
    | (refine call_ex hA hM (c_l1In _ _ _) (fun _ _ => ?_); cbv)
  all_goals subst hA
  all_goals refine congrArg (fun b => XA.one (.c (.d (eB b)))) (Bool.eq_iff_iff.2 ?_)
  all_goals subst_vars
  all_goals try simp only [real, bifA, bifB, bifC, bifD, decide_eq_true_eq, decide_eq_false_iff_not, beq_iff_eq, bne_iff_ne, beq_eq_false_iff_ne, bne_eq_false_iff_eq, ne_eq, Bool.and_eq_true, Bool.or_eq_true, Bool.not_eq_true', Bool.not_eq_false', Bool.and_eq_false_iff, Bool.or_eq_false_iff, Bool.false_eq_true, and_false, false_and, or_false, false_or, and_true, true_and, not_true_eq_false, not_false_eq_true, true_iff, false_iff, IntKind.wrap_i64] at *
  all_goals first
    | omega
    | skip
set_option maxRecDepth 100000 in
theorem c_JobOk (a b1 kind size step late tell : Int) (p : Bool) (least room : Int) : ∃ b, b = decide ((1 ≤ a ∧ a ≤ 3) ∧ (1 ≤ b1 ∧ b1 ≤ 2) ∧ (1 ≤ kind ∧ kind ≤ 3) ∧ (1 ≤ size ∧ size ≤ 20) ∧ ((kind = 2 ∧ (1 ≤ step ∧ step ≤ size) ∧ size ≤ 4 * step) ∨ (kind ≠ 2 ∧ step = 0)) ∧ (0 ≤ late ∧ late ≤ 20) ∧ (1 ≤ tell ∧ tell ≤ 4) ∧ (-9 ≤ least ∧ least ≤ 9) ∧ (1 ≤ room ∧ room ≤ 4)) ∧ Meets Try.prog 49 [.agg [.d (eI a), .d (eI b1), .d (eI kind), .d (eI size), .d (eI step), .d (eI late), .d (eI tell), .d (eB p), .d (eI least), .d (eI room)]] ⟨.one (.c (.d (eB b))), [none]⟩ := by
  obtain ⟨b, hb⟩ : ∃ b, b = decide ((1 ≤ a ∧ a ≤ 3) ∧ (1 ≤ b1 ∧ b1 ≤ 2) ∧ (1 ≤ kind ∧ kind ≤ 3) ∧ (1 ≤ size ∧ size ≤ 20) ∧ ((kind = 2 ∧ (1 ≤ step ∧ step ≤ size) ∧ size ≤ 4 * step) ∨ (kind ≠ 2 ∧ step = 0)) ∧ (0 ≤ late ∧ late ≤ 20) ∧ (1 ≤ tell ∧ tell ≤ 4) ∧ (-9 ≤ least ∧ least ≤ 9) ∧ (1 ≤ room ∧ room ≤ 4)) := ⟨_, rfl⟩
  refine ⟨b, hb, ?_⟩
  refine meets_of (H := []) (EX := EXA) ttok mixed Try.func49 rfl (by kernel_rfl) (by decide) ?_
  generalize hA : real = A
  generalize hM : MeetsB Try.prog = M
  cbv
  repeat' first
    | apply And.intro
    | exact True.intro
    | with_reducible rfl
    | exact same_of hA rfl
    | refine br_of hA (fun _ => ?_) (fun _ => ?_)
    | exact imp_of hA id
    | (refine imp_of hA ?_; subst hA; simp only [real, Bool.true_and]; exact id)
    | (refine ind_of hA ?_; decide +kernel)
    | (refine call_ex hA hM (c_in _ _ _) (fun _ _ => ?_); cbv)
    | (refine call_ex hA hM (c_tells _) (fun _ _ => ?_); cbv)
  all_goals subst hA
  all_goals refine congrArg (fun b => XA.one (.c (.d (eB b)))) (Bool.eq_iff_iff.2 ?_)
  all_goals subst_vars
  all_goals try simp only [real, bifA, bifB, bifC, bifD, decide_eq_true_eq, decide_eq_false_iff_not, beq_iff_eq, bne_iff_ne, beq_eq_false_iff_ne, bne_eq_false_iff_eq, ne_eq, Bool.and_eq_true, Bool.or_eq_true, Bool.not_eq_true', Bool.not_eq_false', Bool.and_eq_false_iff, Bool.or_eq_false_iff, Bool.false_eq_true, and_false, false_and, or_false, false_or, and_true, true_and, not_true_eq_false, not_false_eq_true, true_iff, false_iff, IntKind.wrap_i64] at *
  all_goals first
    | omega
    | skip
set_option maxRecDepth 100000 in
theorem c_sJobOk (a b1 kind size step late tell : Int) (p : Bool) (least room : Int) : ∃ b, b = decide ((1 ≤ a ∧ a ≤ 3) ∧ (1 ≤ b1 ∧ b1 ≤ 2) ∧ (1 ≤ kind ∧ kind ≤ 3) ∧ (1 ≤ size ∧ size ≤ 20) ∧ ((kind = 2 ∧ (1 ≤ step ∧ step ≤ size) ∧ size ≤ 4 * step) ∨ (kind ≠ 2 ∧ step = 0)) ∧ (0 ≤ late ∧ late ≤ 20) ∧ (1 ≤ tell ∧ tell ≤ 4) ∧ (-9 ≤ least ∧ least ≤ 9) ∧ (1 ≤ room ∧ room ≤ 4)) ∧ Meets Try.prog 43 [.agg [.d (eI a), .d (eI b1), .d (eI kind), .d (eI size), .d (eI step), .d (eI late), .d (eI tell), .d (eB p), .d (eI least), .d (eI room)]] ⟨.one (.c (.d (eB b))), [none]⟩ := by
  obtain ⟨b, hb⟩ : ∃ b, b = decide ((1 ≤ a ∧ a ≤ 3) ∧ (1 ≤ b1 ∧ b1 ≤ 2) ∧ (1 ≤ kind ∧ kind ≤ 3) ∧ (1 ≤ size ∧ size ≤ 20) ∧ ((kind = 2 ∧ (1 ≤ step ∧ step ≤ size) ∧ size ≤ 4 * step) ∨ (kind ≠ 2 ∧ step = 0)) ∧ (0 ≤ late ∧ late ≤ 20) ∧ (1 ≤ tell ∧ tell ≤ 4) ∧ (-9 ≤ least ∧ least ≤ 9) ∧ (1 ≤ room ∧ room ≤ 4)) := ⟨_, rfl⟩
  refine ⟨b, hb, ?_⟩
  refine meets_of (H := []) (EX := EXA) ttok mixed Try.func43 rfl (by kernel_rfl) (by decide) ?_
  generalize hA : real = A
  generalize hM : MeetsB Try.prog = M
  cbv
  repeat' first
    | apply And.intro
    | exact True.intro
    | with_reducible rfl
    | exact same_of hA rfl
    | refine br_of hA (fun _ => ?_) (fun _ => ?_)
    | exact imp_of hA id
    | (refine imp_of hA ?_; subst hA; simp only [real, Bool.true_and]; exact id)
    | (refine ind_of hA ?_; decide +kernel)
    | (refine call_ex hA hM (c_l1In _ _ _) (fun _ _ => ?_); cbv)
  all_goals subst hA
  all_goals refine congrArg (fun b => XA.one (.c (.d (eB b)))) (Bool.eq_iff_iff.2 ?_)
  all_goals subst_vars
  all_goals try simp only [real, bifA, bifB, bifC, bifD, decide_eq_true_eq, decide_eq_false_iff_not, beq_iff_eq, bne_iff_ne, beq_eq_false_iff_ne, bne_eq_false_iff_eq, ne_eq, Bool.and_eq_true, Bool.or_eq_true, Bool.not_eq_true', Bool.not_eq_false', Bool.and_eq_false_iff, Bool.or_eq_false_iff, Bool.false_eq_true, and_false, false_and, or_false, false_or, and_true, true_and, not_true_eq_false, not_false_eq_true, true_iff, false_iff, IntKind.wrap_i64] at *
  all_goals first
    | omega
    | skip
set_option maxRecDepth 100000 in
theorem c_isTime (n : Int) : ∃ b, b = decide (0 ≤ n ∧ n ≤ 1000) ∧ Meets Try.prog 50 [.c (.d (eI n))] ⟨.one (.c (.d (eB b))), [none]⟩ := by
  obtain ⟨b, hb⟩ : ∃ b, b = decide (0 ≤ n ∧ n ≤ 1000) := ⟨_, rfl⟩
  refine ⟨b, hb, ?_⟩
  refine meets_of (H := []) (EX := EXA) ttok mixed Try.func50 rfl (by kernel_rfl) (by decide) ?_
  generalize hA : real = A
  generalize hM : MeetsB Try.prog = M
  cbv
  repeat' first
    | apply And.intro
    | exact True.intro
    | with_reducible rfl
    | exact same_of hA rfl
    | refine br_of hA (fun _ => ?_) (fun _ => ?_)
    | exact imp_of hA id
    | (refine imp_of hA ?_; subst hA; simp only [real, Bool.true_and]; exact id)
    | (refine ind_of hA ?_; decide +kernel)
    | (refine call_ex hA hM (c_in _ _ _) (fun _ _ => ?_); cbv)
  all_goals subst hA
  all_goals refine congrArg (fun b => XA.one (.c (.d (eB b)))) (Bool.eq_iff_iff.2 ?_)
  all_goals subst_vars
  all_goals try simp only [real, bifA, bifB, bifC, bifD, decide_eq_true_eq, decide_eq_false_iff_not, beq_iff_eq, bne_iff_ne, beq_eq_false_iff_ne, bne_eq_false_iff_eq, ne_eq, Bool.and_eq_true, Bool.or_eq_true, Bool.not_eq_true', Bool.not_eq_false', Bool.and_eq_false_iff, Bool.or_eq_false_iff, Bool.false_eq_true, and_false, false_and, or_false, false_or, and_true, true_and, not_true_eq_false, not_false_eq_true, true_iff, false_iff, IntKind.wrap_i64] at *
  all_goals first
    | omega
    | skip
set_option maxRecDepth 100000 in
theorem c_isKey (n : Int) : ∃ b, b = decide (0 ≤ n ∧ n ≤ 3) ∧ Meets Try.prog 93 [.c (.d (eI n))] ⟨.one (.c (.d (eB b))), [none]⟩ := by
  obtain ⟨b, hb⟩ : ∃ b, b = decide (0 ≤ n ∧ n ≤ 3) := ⟨_, rfl⟩
  refine ⟨b, hb, ?_⟩
  refine meets_of (H := []) (EX := EXA) ttok mixed Try.func93 rfl (by kernel_rfl) (by decide) ?_
  generalize hA : real = A
  generalize hM : MeetsB Try.prog = M
  cbv
  repeat' first
    | apply And.intro
    | exact True.intro
    | with_reducible rfl
    | exact same_of hA rfl
    | refine br_of hA (fun _ => ?_) (fun _ => ?_)
    | exact imp_of hA id
    | (refine imp_of hA ?_; subst hA; simp only [real, Bool.true_and]; exact id)
    | (refine ind_of hA ?_; decide +kernel)
    | (refine call_ex hA hM (c_in _ _ _) (fun _ _ => ?_); cbv)
  all_goals subst hA
  all_goals refine congrArg (fun b => XA.one (.c (.d (eB b)))) (Bool.eq_iff_iff.2 ?_)
  all_goals subst_vars
  all_goals try simp only [real, bifA, bifB, bifC, bifD, decide_eq_true_eq, decide_eq_false_iff_not, beq_iff_eq, bne_iff_ne, beq_eq_false_iff_ne, bne_eq_false_iff_eq, ne_eq, Bool.and_eq_true, Bool.or_eq_true, Bool.not_eq_true', Bool.not_eq_false', Bool.and_eq_false_iff, Bool.or_eq_false_iff, Bool.false_eq_true, and_false, false_and, or_false, false_or, and_true, true_and, not_true_eq_false, not_false_eq_true, true_iff, false_iff, IntKind.wrap_i64] at *
  all_goals first
    | omega
    | skip
end Go.Rk
