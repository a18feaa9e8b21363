/- The walk over this seat's functions, part 5: what each of them answers, at all data. -/
import Derived.Test.YtaceckhmclddeaaM1
import Derived.Test.YtaceckhmclddeaaM2
import Derived.Test.YtaceckhmclddeaaM3
import Derived.Test.YtaceckhmclddeaaM4
import Derived.Test.YtaceckhmclddeaaProg
import Derived.KernelRfl
import Derived.IntWalk
/- The types of this program, as the walk asks them. -/
namespace Go.Rk
set_option linter.unusedSimpArgs false
set_option linter.unusedVariables false
open Go.Proofs
def ti3 : TI := { desc := TypeDesc.int IntKind.i64, size := 1, bytes := 8, zero := [Value.int IntKind.i64 0], eqk := false }
def ti4 : TI := { desc := TypeDesc.bool, size := 1, bytes := 1, zero := [Value.bool false], eqk := false }
def ti5 : TI := { desc := TypeDesc.int IntKind.u8, size := 1, bytes := 1, zero := [Value.int IntKind.u8 0], eqk := false }
def ti22 : TI := { desc := TypeDesc.slice 5, size := 1, bytes := 24, zero := [Value.slice none 0 0], eqk := false }
def ti24 : TI := { desc := TypeDesc.struct #[{ name := "Sources", type := 3, offset := 0, embedded := false, tag := "", pkgPath := "", byteOffset := 0 }, { name := "Tasks", type := 3, offset := 1, embedded := false, tag := "", pkgPath := "", byteOffset := 8 }, { name := "Kind", type := 3, offset := 2, embedded := false, tag := "", pkgPath := "", byteOffset := 16 }, { name := "Size", type := 3, offset := 3, embedded := false, tag := "", pkgPath := "", byteOffset := 24 }, { name := "Step", type := 3, offset := 4, embedded := false, tag := "", pkgPath := "", byteOffset := 32 }, { name := "Late", type := 3, offset := 5, embedded := false, tag := "", pkgPath := "", byteOffset := 40 }, { name := "Tell", type := 3, offset := 6, embedded := false, tag := "", pkgPath := "", byteOffset := 48 }, { name := "Piece", type := 4, offset := 7, embedded := false, tag := "", pkgPath := "", byteOffset := 56 }, { name := "Least", type := 3, offset := 8, embedded := false, tag := "", pkgPath := "", byteOffset := 64 }, { name := "Room", type := 3, offset := 9, embedded := false, tag := "", pkgPath := "", byteOffset := 72 }], size := 10, bytes := 80, zero := [Value.int IntKind.i64 0, Value.int IntKind.i64 0, Value.int IntKind.i64 0, Value.int IntKind.i64 0, Value.int IntKind.i64 0, Value.int IntKind.i64 0, Value.int IntKind.i64 0, Value.bool false, Value.int IntKind.i64 0, Value.int IntKind.i64 0], eqk := true }
def ti25 : TI := { desc := TypeDesc.slice 62, size := 1, bytes := 24, zero := [Value.slice none 0 0], eqk := false }
def ti28 : TI := { desc := TypeDesc.slice 55, size := 1, bytes := 24, zero := [Value.slice none 0 0], eqk := false }
def ti30 : TI := { desc := TypeDesc.struct #[{ name := "Mark", type := 3, offset := 0, embedded := false, tag := "", pkgPath := "", byteOffset := 0 }, { name := "Rows", type := 28, offset := 1, embedded := false, tag := "", pkgPath := "", byteOffset := 8 }], size := 2, bytes := 32, zero := [Value.int IntKind.i64 0, Value.slice none 0 0], eqk := false }
def ti31 : TI := { desc := TypeDesc.slice 44, size := 1, bytes := 24, zero := [Value.slice none 0 0], eqk := false }
def ti32 : TI := { desc := TypeDesc.slice 71, size := 1, bytes := 24, zero := [Value.slice none 0 0], eqk := false }
def ti37 : TI := { desc := TypeDesc.slice 69, size := 1, bytes := 24, zero := [Value.slice none 0 0], eqk := false }
def ti40 : TI := { desc := TypeDesc.struct #[{ name := "Start", type := 3, offset := 0, embedded := false, tag := "", pkgPath := "", byteOffset := 0 }, { name := "End", type := 3, offset := 1, embedded := false, tag := "", pkgPath := "", byteOffset := 8 }], size := 2, bytes := 16, zero := [Value.int IntKind.i64 0, Value.int IntKind.i64 0], eqk := true }
def ti42 : TI := { desc := TypeDesc.struct #[{ name := "N", type := 3, offset := 0, embedded := false, tag := "", pkgPath := "", byteOffset := 0 }, { name := "Sum", type := 3, offset := 1, embedded := false, tag := "", pkgPath := "", byteOffset := 8 }, { name := "Least", type := 3, offset := 2, embedded := false, tag := "", pkgPath := "", byteOffset := 16 }, { name := "Most", type := 3, offset := 3, embedded := false, tag := "", pkgPath := "", byteOffset := 24 }], size := 4, bytes := 32, zero := [Value.int IntKind.i64 0, Value.int IntKind.i64 0, Value.int IntKind.i64 0, Value.int IntKind.i64 0], eqk := true }
def ti44 : TI := { desc := TypeDesc.struct #[{ name := "Key", type := 3, offset := 0, embedded := false, tag := "", pkgPath := "", byteOffset := 0 }, { name := "Win", type := 40, offset := 1, embedded := false, tag := "", pkgPath := "", byteOffset := 8 }, { name := "No", type := 3, offset := 3, embedded := false, tag := "", pkgPath := "", byteOffset := 24 }, { name := "Kind", type := 3, offset := 4, embedded := false, tag := "", pkgPath := "", byteOffset := 32 }, { name := "Agg", type := 42, offset := 5, embedded := false, tag := "", pkgPath := "", byteOffset := 40 }], size := 9, bytes := 72, zero := [Value.int IntKind.i64 0, Value.int IntKind.i64 0, Value.int IntKind.i64 0, Value.int IntKind.i64 0, Value.int IntKind.i64 0, Value.int IntKind.i64 0, Value.int IntKind.i64 0, Value.int IntKind.i64 0, Value.int IntKind.i64 0], eqk := true }
def ti55 : TI := { desc := TypeDesc.struct #[{ name := "Key", type := 3, offset := 0, embedded := false, tag := "", pkgPath := "", byteOffset := 0 }, { name := "Win", type := 40, offset := 1, embedded := false, tag := "", pkgPath := "", byteOffset := 8 }, { name := "All", type := 42, offset := 3, embedded := false, tag := "", pkgPath := "", byteOffset := 24 }, { name := "Fresh", type := 42, offset := 7, embedded := false, tag := "", pkgPath := "", byteOffset := 56 }, { name := "Told", type := 3, offset := 11, embedded := false, tag := "", pkgPath := "", byteOffset := 88 }, { name := "Timely", type := 4, offset := 12, embedded := false, tag := "", pkgPath := "", byteOffset := 96 }], size := 13, bytes := 104, zero := [Value.int IntKind.i64 0, Value.int IntKind.i64 0, Value.int IntKind.i64 0, Value.int IntKind.i64 0, Value.int IntKind.i64 0, Value.int IntKind.i64 0, Value.int IntKind.i64 0, Value.int IntKind.i64 0, Value.int IntKind.i64 0, Value.int IntKind.i64 0, Value.int IntKind.i64 0, Value.int IntKind.i64 0, Value.bool false], eqk := true }
def ti62 : TI := { desc := TypeDesc.struct #[{ name := "Kind", type := 3, offset := 0, embedded := false, tag := "", pkgPath := "", byteOffset := 0 }, { name := "T", type := 3, offset := 1, embedded := false, tag := "", pkgPath := "", byteOffset := 8 }, { name := "Key", type := 3, offset := 2, embedded := false, tag := "", pkgPath := "", byteOffset := 16 }, { name := "V", type := 3, offset := 3, embedded := false, tag := "", pkgPath := "", byteOffset := 24 }, { name := "N", type := 3, offset := 4, embedded := false, tag := "", pkgPath := "", byteOffset := 32 }], size := 5, bytes := 40, zero := [Value.int IntKind.i64 0, Value.int IntKind.i64 0, Value.int IntKind.i64 0, Value.int IntKind.i64 0, Value.int IntKind.i64 0], eqk := true }
def ti69 : TI := { desc := TypeDesc.struct #[{ name := "Key", type := 3, offset := 0, embedded := false, tag := "", pkgPath := "", byteOffset := 0 }, { name := "Win", type := 40, offset := 1, embedded := false, tag := "", pkgPath := "", byteOffset := 8 }, { name := "Agg", type := 42, offset := 3, embedded := false, tag := "", pkgPath := "", byteOffset := 24 }], size := 7, bytes := 56, zero := [Value.int IntKind.i64 0, Value.int IntKind.i64 0, Value.int IntKind.i64 0, Value.int IntKind.i64 0, Value.int IntKind.i64 0, Value.int IntKind.i64 0, Value.int IntKind.i64 0], eqk := true }
def ti71 : TI := { desc := TypeDesc.struct #[{ name := "Rec", type := 62, offset := 0, embedded := false, tag := "", pkgPath := "", byteOffset := 0 }, { name := "Win", type := 40, offset := 5, embedded := false, tag := "", pkgPath := "", byteOffset := 40 }], size := 7, bytes := 56, zero := [Value.int IntKind.i64 0, Value.int IntKind.i64 0, Value.int IntKind.i64 0, Value.int IntKind.i64 0, Value.int IntKind.i64 0, Value.int IntKind.i64 0, Value.int IntKind.i64 0], eqk := true }
def ti73 : TI := { desc := TypeDesc.slice 3, size := 1, bytes := 24, zero := [Value.slice none 0 0], eqk := false }
def ti76 : TI := { desc := TypeDesc.slice 85, size := 1, bytes := 24, zero := [Value.slice none 0 0], eqk := false }
def ti78 : TI := { desc := TypeDesc.struct #[{ name := "N", type := 3, offset := 0, embedded := false, tag := "", pkgPath := "", byteOffset := 0 }, { name := "Panes", type := 31, offset := 1, embedded := false, tag := "", pkgPath := "", byteOffset := 8 }, { name := "Lates", type := 32, offset := 2, embedded := false, tag := "", pkgPath := "", byteOffset := 32 }], size := 3, bytes := 56, zero := [Value.int IntKind.i64 0, Value.slice none 0 0, Value.slice none 0 0], eqk := false }
def ti80 : TI := { desc := TypeDesc.struct #[{ name := "Ins", type := 76, offset := 0, embedded := false, tag := "", pkgPath := "", byteOffset := 0 }, { name := "Op", type := 30, offset := 1, embedded := false, tag := "", pkgPath := "", byteOffset := 24 }, { name := "Wall", type := 3, offset := 3, embedded := false, tag := "", pkgPath := "", byteOffset := 56 }, { name := "Pend", type := 78, offset := 4, embedded := false, tag := "", pkgPath := "", byteOffset := 64 }], size := 7, bytes := 120, zero := [Value.slice none 0 0, Value.int IntKind.i64 0, Value.slice none 0 0, Value.int IntKind.i64 0, Value.int IntKind.i64 0, Value.slice none 0 0, Value.slice none 0 0], eqk := false }
def ti85 : TI := { desc := TypeDesc.struct #[{ name := "Queue", type := 25, offset := 0, embedded := false, tag := "", pkgPath := "", byteOffset := 0 }, { name := "Mark", type := 3, offset := 1, embedded := false, tag := "", pkgPath := "", byteOffset := 24 }, { name := "Held", type := 4, offset := 2, embedded := false, tag := "", pkgPath := "", byteOffset := 32 }], size := 3, bytes := 40, zero := [Value.slice none 0 0, Value.int IntKind.i64 0, Value.bool false], eqk := false }
def ti91 : TI := { desc := TypeDesc.slice 40, size := 1, bytes := 24, zero := [Value.slice none 0 0], eqk := false }
def ti112 : TI := { desc := TypeDesc.struct #[{ name := "job", type := 24, offset := 0, embedded := false, tag := "", pkgPath := "loop.example/freshet/impl", byteOffset := 0 }, { name := "state", type := 30, offset := 10, embedded := false, tag := "", pkgPath := "loop.example/freshet/impl", byteOffset := 80 }, { name := "panes", type := 31, offset := 12, embedded := false, tag := "", pkgPath := "loop.example/freshet/impl", byteOffset := 112 }, { name := "lates", type := 32, offset := 13, embedded := false, tag := "", pkgPath := "loop.example/freshet/impl", byteOffset := 136 }], size := 14, bytes := 160, zero := [Value.int IntKind.i64 0, Value.int IntKind.i64 0, Value.int IntKind.i64 0, Value.int IntKind.i64 0, Value.int IntKind.i64 0, Value.int IntKind.i64 0, Value.int IntKind.i64 0, Value.bool false, Value.int IntKind.i64 0, Value.int IntKind.i64 0, Value.int IntKind.i64 0, Value.slice none 0 0, Value.slice none 0 0, Value.slice none 0 0], eqk := false }
def ti146 : TI := { desc := TypeDesc.struct #[{ name := "b", type := 22, offset := 0, embedded := false, tag := "", pkgPath := "loop.example/freshet/spec", byteOffset := 0 }, { name := "p", type := 3, offset := 1, embedded := false, tag := "", pkgPath := "loop.example/freshet/spec", byteOffset := 24 }], size := 2, bytes := 32, zero := [Value.slice none 0 0, Value.int IntKind.i64 0], eqk := false }
def ti182 : TI := { desc := TypeDesc.int IntKind.u64, size := 1, bytes := 8, zero := [Value.int IntKind.u64 0], eqk := false }
def tab : List (Nat × TI) := [(3, ti3), (4, ti4), (5, ti5), (22, ti22), (24, ti24), (25, ti25), (28, ti28), (30, ti30), (31, ti31), (32, ti32), (37, ti37), (40, ti40), (42, ti42), (44, ti44), (55, ti55), (62, ti62), (69, ti69), (71, ti71), (73, ti73), (76, ti76), (78, ti78), (80, ti80), (85, ti85), (91, ti91), (112, ti112), (146, ti146), (182, ti182)]
theorem row3 : TRow Try.prog 3 ti3 := ⟨Try.underlying3, ⟨Try.t3, Value.int IntKind.i64 0, by kernel_rfl, rfl, rfl, rfl, rfl, rfl, rfl⟩, fun h => by cases h⟩
theorem row4 : TRow Try.prog 4 ti4 := ⟨Try.underlying4, ⟨Try.t4, Value.bool false, by kernel_rfl, rfl, rfl, rfl, rfl, rfl, rfl⟩, fun h => by cases h⟩
theorem row5 : TRow Try.prog 5 ti5 := ⟨Try.underlying5, ⟨Try.t5, Value.int IntKind.u8 0, by kernel_rfl, rfl, rfl, rfl, rfl, rfl, rfl⟩, fun h => by cases h⟩
theorem row22 : TRow Try.prog 22 ti22 := ⟨Try.underlying22, ⟨Try.t22, Value.slice none 0 0, by kernel_rfl, rfl, rfl, rfl, rfl, rfl, rfl⟩, fun h => by cases h⟩
theorem row24 : TRow Try.prog 24 ti24 := ⟨Try.underlying24, ⟨Try.t24, Value.agg #[Value.int IntKind.i64 0, Value.int IntKind.i64 0, Value.int IntKind.i64 0, Value.int IntKind.i64 0, Value.int IntKind.i64 0, Value.int IntKind.i64 0, Value.int IntKind.i64 0, Value.bool false, Value.int IntKind.i64 0, Value.int IntKind.i64 0], by kernel_rfl, rfl, rfl, rfl, rfl, rfl, rfl⟩, fun _ => ⟨Try.stoodInHeld24, Try.eqGuardType24⟩⟩
theorem row25 : TRow Try.prog 25 ti25 := ⟨Try.underlying25, ⟨Try.t25, Value.slice none 0 0, by kernel_rfl, rfl, rfl, rfl, rfl, rfl, rfl⟩, fun h => by cases h⟩
theorem row28 : TRow Try.prog 28 ti28 := ⟨Try.underlying28, ⟨Try.t28, Value.slice none 0 0, by kernel_rfl, rfl, rfl, rfl, rfl, rfl, rfl⟩, fun h => by cases h⟩
theorem row30 : TRow Try.prog 30 ti30 := ⟨Try.underlying30, ⟨Try.t30, Value.agg #[Value.int IntKind.i64 0, Value.slice none 0 0], by kernel_rfl, rfl, rfl, rfl, rfl, rfl, rfl⟩, fun h => by cases h⟩
theorem row31 : TRow Try.prog 31 ti31 := ⟨Try.underlying31, ⟨Try.t31, Value.slice none 0 0, by kernel_rfl, rfl, rfl, rfl, rfl, rfl, rfl⟩, fun h => by cases h⟩
theorem row32 : TRow Try.prog 32 ti32 := ⟨Try.underlying32, ⟨Try.t32, Value.slice none 0 0, by kernel_rfl, rfl, rfl, rfl, rfl, rfl, rfl⟩, fun h => by cases h⟩
theorem row37 : TRow Try.prog 37 ti37 := ⟨Try.underlying37, ⟨Try.t37, Value.slice none 0 0, by kernel_rfl, rfl, rfl, rfl, rfl, rfl, rfl⟩, fun h => by cases h⟩
theorem row40 : TRow Try.prog 40 ti40 := ⟨Try.underlying40, ⟨Try.t40, Value.agg #[Value.int IntKind.i64 0, Value.int IntKind.i64 0], by kernel_rfl, rfl, rfl, rfl, rfl, rfl, rfl⟩, fun _ => ⟨Try.stoodInHeld40, Try.eqGuardType40⟩⟩
theorem row42 : TRow Try.prog 42 ti42 := ⟨Try.underlying42, ⟨Try.t42, Value.agg #[Value.int IntKind.i64 0, Value.int IntKind.i64 0, Value.int IntKind.i64 0, Value.int IntKind.i64 0], by kernel_rfl, rfl, rfl, rfl, rfl, rfl, rfl⟩, fun _ => ⟨Try.stoodInHeld42, Try.eqGuardType42⟩⟩
theorem row44 : TRow Try.prog 44 ti44 := ⟨Try.underlying44, ⟨Try.t44, Value.agg #[Value.int IntKind.i64 0, Value.int IntKind.i64 0, Value.int IntKind.i64 0, Value.int IntKind.i64 0, Value.int IntKind.i64 0, Value.int IntKind.i64 0, Value.int IntKind.i64 0, Value.int IntKind.i64 0, Value.int IntKind.i64 0], by kernel_rfl, rfl, rfl, rfl, rfl, rfl, rfl⟩, fun _ => ⟨Try.stoodInHeld44, Try.eqGuardType44⟩⟩
theorem row55 : TRow Try.prog 55 ti55 := ⟨Try.underlying55, ⟨Try.t55, Value.agg #[Value.int IntKind.i64 0, Value.int IntKind.i64 0, Value.int IntKind.i64 0, Value.int IntKind.i64 0, Value.int IntKind.i64 0, Value.int IntKind.i64 0, Value.int IntKind.i64 0, Value.int IntKind.i64 0, Value.int IntKind.i64 0, Value.int IntKind.i64 0, Value.int IntKind.i64 0, Value.int IntKind.i64 0, Value.bool false], by kernel_rfl, rfl, rfl, rfl, rfl, rfl, rfl⟩, fun _ => ⟨Try.stoodInHeld55, Try.eqGuardType55⟩⟩
theorem row62 : TRow Try.prog 62 ti62 := ⟨Try.underlying62, ⟨Try.t62, Value.agg #[Value.int IntKind.i64 0, Value.int IntKind.i64 0, Value.int IntKind.i64 0, Value.int IntKind.i64 0, Value.int IntKind.i64 0], by kernel_rfl, rfl, rfl, rfl, rfl, rfl, rfl⟩, fun _ => ⟨Try.stoodInHeld62, Try.eqGuardType62⟩⟩
theorem row69 : TRow Try.prog 69 ti69 := ⟨Try.underlying69, ⟨Try.t69, Value.agg #[Value.int IntKind.i64 0, Value.int IntKind.i64 0, Value.int IntKind.i64 0, Value.int IntKind.i64 0, Value.int IntKind.i64 0, Value.int IntKind.i64 0, Value.int IntKind.i64 0], by kernel_rfl, rfl, rfl, rfl, rfl, rfl, rfl⟩, fun _ => ⟨Try.stoodInHeld69, Try.eqGuardType69⟩⟩
theorem row71 : TRow Try.prog 71 ti71 := ⟨Try.underlying71, ⟨Try.t71, Value.agg #[Value.int IntKind.i64 0, Value.int IntKind.i64 0, Value.int IntKind.i64 0, Value.int IntKind.i64 0, Value.int IntKind.i64 0, Value.int IntKind.i64 0, Value.int IntKind.i64 0], by kernel_rfl, rfl, rfl, rfl, rfl, rfl, rfl⟩, fun _ => ⟨Try.stoodInHeld71, Try.eqGuardType71⟩⟩
theorem row73 : TRow Try.prog 73 ti73 := ⟨Try.underlying73, ⟨Try.t73, Value.slice none 0 0, by kernel_rfl, rfl, rfl, rfl, rfl, rfl, rfl⟩, fun h => by cases h⟩
theorem row76 : TRow Try.prog 76 ti76 := ⟨Try.underlying76, ⟨Try.t76, Value.slice none 0 0, by kernel_rfl, rfl, rfl, rfl, rfl, rfl, rfl⟩, fun h => by cases h⟩
theorem row78 : TRow Try.prog 78 ti78 := ⟨Try.underlying78, ⟨Try.t78, Value.agg #[Value.int IntKind.i64 0, Value.slice none 0 0, Value.slice none 0 0], by kernel_rfl, rfl, rfl, rfl, rfl, rfl, rfl⟩, fun h => by cases h⟩
theorem row80 : TRow Try.prog 80 ti80 := ⟨Try.underlying80, ⟨Try.t80, Value.agg #[Value.slice none 0 0, Value.int IntKind.i64 0, Value.slice none 0 0, Value.int IntKind.i64 0, Value.int IntKind.i64 0, Value.slice none 0 0, Value.slice none 0 0], by kernel_rfl, rfl, rfl, rfl, rfl, rfl, rfl⟩, fun h => by cases h⟩
theorem row85 : TRow Try.prog 85 ti85 := ⟨Try.underlying85, ⟨Try.t85, Value.agg #[Value.slice none 0 0, Value.int IntKind.i64 0, Value.bool false], by kernel_rfl, rfl, rfl, rfl, rfl, rfl, rfl⟩, fun h => by cases h⟩
theorem row91 : TRow Try.prog 91 ti91 := ⟨Try.underlying91, ⟨Try.t91, Value.slice none 0 0, by kernel_rfl, rfl, rfl, rfl, rfl, rfl, rfl⟩, fun h => by cases h⟩
theorem row112 : TRow Try.prog 112 ti112 := ⟨Try.underlying112, ⟨Try.t112, Value.agg #[Value.int IntKind.i64 0, Value.int IntKind.i64 0, Value.int IntKind.i64 0, Value.int IntKind.i64 0, Value.int IntKind.i64 0, Value.int IntKind.i64 0, Value.int IntKind.i64 0, Value.bool false, Value.int IntKind.i64 0, Value.int IntKind.i64 0, Value.int IntKind.i64 0, Value.slice none 0 0, Value.slice none 0 0, Value.slice none 0 0], by kernel_rfl, rfl, rfl, rfl, rfl, rfl, rfl⟩, fun h => by cases h⟩
theorem row146 : TRow Try.prog 146 ti146 := ⟨Try.underlying146, ⟨Try.t146, Value.agg #[Value.slice none 0 0, Value.int IntKind.i64 0], by kernel_rfl, rfl, rfl, rfl, rfl, rfl, rfl⟩, fun h => by cases h⟩
theorem row182 : TRow Try.prog 182 ti182 := ⟨Try.underlying182, ⟨Try.t182, Value.int IntKind.u64 0, by kernel_rfl, rfl, rfl, rfl, rfl, rfl, rfl⟩, fun h => by cases h⟩
theorem rows : TRows Try.prog tab := ⟨row3, row4, row5, row22, row24, row25, row28, row30, row31, row32, row37, row40, row42, row44, row55, row62, row69, row71, row73, row76, row78, row80, row85, row91, row112, row146, row182, trivial⟩
abbrev TT : TypeId → Option TI := tabT tab
theorem ttok : TTok Try.prog TT := ttok_of rows (by decide +kernel)
end Go.Rk
/- The data of this program, by shapes. -/
namespace Go.Rk
set_option linter.unusedSimpArgs false
set_option linter.unusedVariables false
abbrev eI (n : Int) : DV := .v (.int .i64 n)
abbrev eB (n : Bool) : DV := .v (.bool n)
def xd (l : List DV) : XT := .agg (l.map .d)
/-- Rows. -/
structure Sl (α : Type) where
  n : Nat
  g : Nat → α
  hn : n ≤ maxLen
structure JobT where
  srcs : Int
  tsks : Int
  kind : Int
  size : Int
  step : Int
  late : Int
  tell : Int
  piece : Bool
  least : Int
  room : Int
structure ItmT where
  kind : Int
  t : Int
  key : Int
  v : Int
  n : Int
structure WinT where
  s : Int
  e : Int
structure AggT where
  n : Int
  sum : Int
  least : Int
  most : Int
structure RowT where
  key : Int
  win : WinT
  all : AggT
  fresh : AggT
  told : Int
  timely : Bool
structure OpStT where
  mark : Int
  rows : Sl RowT
structure PaneT where
  key : Int
  win : WinT
  no : Int
  kind : Int
  agg : AggT
structure LatT where
  itm : ItmT
  win : WinT
structure TabT where
  key : Int
  win : WinT
  agg : AggT
structure TskInT where
  queue : Sl ItmT
  mark : Int
  held : Bool
structure TxnT where
  n : Int
  panes : Sl PaneT
  lates : Sl LatT
structure TskT where
  ins : Sl TskInT
  op : OpStT
  wall : Int
  pend : TxnT
structure SnapT where
  op : OpStT
  marks : Sl Int
structure SafeT where
  n : Int
  at_ : Sl Int
  snaps : Sl SnapT
structure CkpT where
  n : Int
  opn : Bool
  src : Sl Int
  tsk : Sl Bool
  snaps : Sl SnapT
  safe : SafeT
structure SrcT where
  at_ : Int
  wall : Int
structure SinkT where
  ready : Sl TxnT
  n : Int
  panes : Sl PaneT
  lates : Sl LatT
structure FloT where
  job : JobT
  logs : Sl (Sl ItmT)
  srcs : Sl SrcT
  tasks : Sl TskT
  sinks : Sl SinkT
  ckp : CkpT
def eJob (x : JobT) : List DV := [eI x.srcs, eI x.tsks, eI x.kind, eI x.size, eI x.step, eI x.late, eI x.tell, eB x.piece, eI x.least, eI x.room]
def eItm (x : ItmT) : List DV := [eI x.kind, eI x.t, eI x.key, eI x.v, eI x.n]
def eWin (x : WinT) : List DV := [eI x.s, eI x.e]
def eAgg (x : AggT) : List DV := [eI x.n, eI x.sum, eI x.least, eI x.most]
def eRow (x : RowT) : List DV := [eI x.key, eI x.win.s, eI x.win.e, eI x.all.n, eI x.all.sum, eI x.all.least, eI x.all.most, eI x.fresh.n, eI x.fresh.sum, eI x.fresh.least, eI x.fresh.most, eI x.told, eB x.timely]
def eOpSt (x : OpStT) : List DV := [eI x.mark, (.sl 13 x.rows.n fun i => eRow (x.rows.g i))]
def bdOpSt (x : OpStT) : Prop := x.rows.n ≤ 1048576
def ePane (x : PaneT) : List DV := [eI x.key, eI x.win.s, eI x.win.e, eI x.no, eI x.kind, eI x.agg.n, eI x.agg.sum, eI x.agg.least, eI x.agg.most]
def eLat (x : LatT) : List DV := [eI x.itm.kind, eI x.itm.t, eI x.itm.key, eI x.itm.v, eI x.itm.n, eI x.win.s, eI x.win.e]
def eTab (x : TabT) : List DV := [eI x.key, eI x.win.s, eI x.win.e, eI x.agg.n, eI x.agg.sum, eI x.agg.least, eI x.agg.most]
def eTskIn (x : TskInT) : List DV := [(.sl 5 x.queue.n fun i => eItm (x.queue.g i)), eI x.mark, eB x.held]
def bdTskIn (x : TskInT) : Prop := x.queue.n ≤ 1048576
def eTxn (x : TxnT) : List DV := [eI x.n, (.sl 9 x.panes.n fun i => ePane (x.panes.g i)), (.sl 7 x.lates.n fun i => eLat (x.lates.g i))]
def bdTxn (x : TxnT) : Prop := x.panes.n ≤ 1048576 ∧ x.lates.n ≤ 1048576
def eTsk (x : TskT) : List DV := [(.sl 3 x.ins.n fun i => eTskIn (x.ins.g i)), eI x.op.mark, (.sl 13 x.op.rows.n fun i => eRow (x.op.rows.g i)), eI x.wall, eI x.pend.n, (.sl 9 x.pend.panes.n fun i => ePane (x.pend.panes.g i)), (.sl 7 x.pend.lates.n fun i => eLat (x.pend.lates.g i))]
def bdTsk (x : TskT) : Prop := x.ins.n ≤ 1048576 ∧ (∀ i, i < x.ins.n → bdTskIn (x.ins.g i)) ∧ bdOpSt x.op ∧ bdTxn x.pend
def eSnap (x : SnapT) : List DV := [eI x.op.mark, (.sl 13 x.op.rows.n fun i => eRow (x.op.rows.g i)), (.sl 1 x.marks.n fun i => [eI (x.marks.g i)])]
def bdSnap (x : SnapT) : Prop := bdOpSt x.op ∧ x.marks.n ≤ 1048576
def eSafe (x : SafeT) : List DV := [eI x.n, (.sl 1 x.at_.n fun i => [eI (x.at_.g i)]), (.sl 3 x.snaps.n fun i => eSnap (x.snaps.g i))]
def bdSafe (x : SafeT) : Prop := x.at_.n ≤ 1048576 ∧ x.snaps.n ≤ 1048576 ∧ (∀ i, i < x.snaps.n → bdSnap (x.snaps.g i))
def eCkp (x : CkpT) : List DV := [eI x.n, eB x.opn, (.sl 1 x.src.n fun i => [eI (x.src.g i)]), (.sl 1 x.tsk.n fun i => [eB (x.tsk.g i)]), (.sl 3 x.snaps.n fun i => eSnap (x.snaps.g i)), eI x.safe.n, (.sl 1 x.safe.at_.n fun i => [eI (x.safe.at_.g i)]), (.sl 3 x.safe.snaps.n fun i => eSnap (x.safe.snaps.g i))]
def bdCkp (x : CkpT) : Prop := x.src.n ≤ 1048576 ∧ x.tsk.n ≤ 1048576 ∧ x.snaps.n ≤ 1048576 ∧ (∀ i, i < x.snaps.n → bdSnap (x.snaps.g i)) ∧ bdSafe x.safe
def eSrc (x : SrcT) : List DV := [eI x.at_, eI x.wall]
def eSink (x : SinkT) : List DV := [(.sl 3 x.ready.n fun i => eTxn (x.ready.g i)), eI x.n, (.sl 9 x.panes.n fun i => ePane (x.panes.g i)), (.sl 7 x.lates.n fun i => eLat (x.lates.g i))]
def bdSink (x : SinkT) : Prop := x.ready.n ≤ 1048576 ∧ (∀ i, i < x.ready.n → bdTxn (x.ready.g i)) ∧ x.panes.n ≤ 1048576 ∧ x.lates.n ≤ 1048576
def eFlo (x : FloT) : List DV := [eI x.job.srcs, eI x.job.tsks, eI x.job.kind, eI x.job.size, eI x.job.step, eI x.job.late, eI x.job.tell, eB x.job.piece, eI x.job.least, eI x.job.room, (.sl 1 x.logs.n fun i => [.sl 5 (x.logs.g i).n fun k => eItm ((x.logs.g i).g k)]), (.sl 2 x.srcs.n fun i => eSrc (x.srcs.g i)), (.sl 7 x.tasks.n fun i => eTsk (x.tasks.g i)), (.sl 4 x.sinks.n fun i => eSink (x.sinks.g i)), eI x.ckp.n, eB x.ckp.opn, (.sl 1 x.ckp.src.n fun i => [eI (x.ckp.src.g i)]), (.sl 1 x.ckp.tsk.n fun i => [eB (x.ckp.tsk.g i)]), (.sl 3 x.ckp.snaps.n fun i => eSnap (x.ckp.snaps.g i)), eI x.ckp.safe.n, (.sl 1 x.ckp.safe.at_.n fun i => [eI (x.ckp.safe.at_.g i)]), (.sl 3 x.ckp.safe.snaps.n fun i => eSnap (x.ckp.safe.snaps.g i))]
def bdFlo (x : FloT) : Prop := x.logs.n ≤ 1048576 ∧ (∀ i, i < x.logs.n → (x.logs.g i).n ≤ 1048576) ∧ x.srcs.n ≤ 1048576 ∧ x.tasks.n ≤ 1048576 ∧ (∀ i, i < x.tasks.n → bdTsk (x.tasks.g i)) ∧ x.sinks.n ≤ 1048576 ∧ (∀ i, i < x.sinks.n → bdSink (x.sinks.g i)) ∧ bdCkp x.ckp
end Go.Rk
/- What the program's small functions say, in words of numbers; sizes. -/
namespace Go.Rk
set_option linter.unusedSimpArgs false
set_option linter.unusedVariables false
theorem made_n {A : Ar} (hA : real = A) {n b : Nat} (hn : n ≤ 1048576) (hb : b ≤ 100000) : A.made (A.int n) (A.int n) b := by
  subst hA
  have h1 : n * b ≤ 1048576 * 100000 := Nat.mul_le_mul hn hb
  have h2 : (n : Int) * (b : Int) ≤ 140737488355328 := by
    rw [← Int.natCast_mul]
    omega
  have h3 : (n : Int) ≤ 140737488355328 := by omega
  exact ⟨Int.natCast_nonneg n, rfl, h2, h3⟩
theorem cut_of {A : Ar} (hA : real = A) {a b : Int} {n : Nat} (h : 0 ≤ a ∧ a ≤ b ∧ b ≤ n) : A.cut a b n := by subst hA; exact h
/-- The first rows of a slice. -/
theorem sl0 {A : Ar} (hA : real = A) (sz i : Nat) (f : Nat → List DV) : DV.sl sz (A.dif (Int.ofNat i) 0) (A.sub (A.nat 0) f) = .sl sz i f := by
  subst hA
  have e : (fun j => f (0 + j)) = f := by funext j; rw [Nat.zero_add]
  show DV.sl sz ((Int.ofNat i - 0).toNat) (fun j => f ((0 : Int).toNat + j)) = _
  simp only [Int.sub_zero]
  exact congrArg (DV.sl sz i) e
theorem bifA (b x : Bool) : (bif b then x else false) = (b && x) := by cases b <;> rfl
theorem bifB (b x : Bool) : (bif b then true else x) = (b || x) := by cases b <;> rfl
theorem bifC (b x : Bool) : (bif b then false else x) = (!b && x) := by cases b <;> rfl
theorem bifD (b x : Bool) : (bif b then x else true) = (!b || x) := by cases b <;> rfl
theorem bifE (b x y : Bool) : (bif b then x else y) = (b && x || !b && y) := by cases b <;> simp
def w64 (n : Int) : Int := IntKind.i64.wrap n
/-- The first place, or -1. -/
inductive FirstIx (n : Nat) (p : Nat → Prop) : Int → Prop
  | at (i : Nat) (h : i < n) (hi : p i) (hb : ∀ j, j < i → ¬ p j) : FirstIx n p i
  | none (hb : ∀ j, j < n → ¬ p j) : FirstIx n p (-1)
theorem firstIx_ex (n : Nat) (p : Nat → Prop) : ∃ x, FirstIx n p x := by
  by_cases h : ∃ i, i < n ∧ p i
  · obtain ⟨i, hi⟩ := h
    induction i using Nat.strongRecOn with
    | _ i ih =>
      by_cases hm : ∃ j, j < i ∧ p j
      · obtain ⟨j, hj1, hj2⟩ := hm
        exact ih j hj1 ⟨by omega, hj2⟩
      · exact ⟨_, .at i hi.1 hi.2 fun j hj e => hm ⟨j, hj, e⟩⟩
  · exact ⟨-1, .none fun j hj e => h ⟨j, hj, e⟩⟩
theorem firstIx_one {n : Nat} {p : Nat → Prop} {x y : Int} (h : FirstIx n p x) (h' : FirstIx n p y) : x = y := by
  cases h with
  | «at» i hi hh hb =>
    cases h' with
    | «at» j hj hh' hb' =>
      have : i = j := by
        rcases Nat.lt_trichotomy i j with h | h | h
        · exact absurd hh (hb' i h)
        · exact h
        · exact absurd hh' (hb j h)
      rw [this]
    | none hb' => exact absurd hh (hb' i hi)
  | none hb =>
    cases h' with
    | «at» j hj hh' hb' => exact absurd hh' (hb j hj)
    | none hb' => rfl
theorem firstIx_neg {n : Nat} {p : Nat → Prop} {x : Int} (h : FirstIx n p x) : (0 ≤ x ↔ ∃ i, i < n ∧ p i) ∧ (0 ≤ x → ∃ i, i < n ∧ x = (i : Int) ∧ p i ∧ ∀ j, j < i → ¬ p j) ∧ (¬ 0 ≤ x → x = -1) := by
  cases h with
  | «at» i hi hh hb => exact ⟨⟨fun _ => ⟨i, hi, hh⟩, fun _ => by omega⟩, fun _ => ⟨i, hi, rfl, hh, hb⟩, fun h => absurd (by omega) h⟩
  | none hb => exact ⟨⟨fun h => by omega, fun ⟨i, hi, hp⟩ => absurd hp (hb i hi)⟩, fun h => by omega, fun _ => rfl⟩
def InP (n lo hi : Int) : Prop := lo ≤ n ∧ n ≤ hi
def WinOkP (w : WinT) : Prop := (0 ≤ w.s ∧ w.s ≤ 60) ∧ IntKind.i64.wrap (w.s + 1) ≤ w.e ∧ w.e ≤ 120
def AggOkP (a : AggT) : Prop := (a.n = 0 ∧ a.sum = 0 ∧ a.least = 0 ∧ a.most = 0) ∨
  (a.n ≠ 0 ∧ (1 ≤ a.n ∧ a.n ≤ 1000) ∧ (-9 ≤ a.least ∧ a.least ≤ 9) ∧ (a.least ≤ a.most ∧ a.most ≤ 9) ∧ (IntKind.i64.wrap (a.n * a.least) ≤ a.sum ∧ a.sum ≤ IntKind.i64.wrap (a.n * a.most)))
def ItmOkP (x : ItmT) : Prop :=
  (x.kind = 1 ∧ (0 ≤ x.t ∧ x.t ≤ 60) ∧ (0 ≤ x.key ∧ x.key ≤ 3) ∧ (-9 ≤ x.v ∧ x.v ≤ 9) ∧ x.n = 0) ∨
  (x.kind = 2 ∧ ((1 ≤ x.t ∧ x.t ≤ 60) ∨ x.t = 1000) ∧ x.key = 0 ∧ x.v = 0 ∧ x.n = 0) ∨
  (x.kind = 3 ∧ x.t = 0 ∧ x.key = 0 ∧ x.v = 0 ∧ (1 ≤ x.n ∧ x.n ≤ 900))
def JobOkP (j : JobT) : Prop := (1 ≤ j.srcs ∧ j.srcs ≤ 3) ∧ (1 ≤ j.tsks ∧ j.tsks ≤ 2) ∧ (1 ≤ j.kind ∧ j.kind ≤ 3) ∧ (1 ≤ j.size ∧ j.size ≤ 20) ∧
  ((j.kind = 2 ∧ (1 ≤ j.step ∧ j.step ≤ j.size) ∧ j.size ≤ 4 * j.step) ∨ (j.kind ≠ 2 ∧ j.step = 0)) ∧
  (0 ≤ j.late ∧ j.late ≤ 20) ∧ (1 ≤ j.tell ∧ j.tell ≤ 4) ∧ (-9 ≤ j.least ∧ j.least ≤ 9) ∧ (1 ≤ j.room ∧ j.room ≤ 4)
def TouchP (a b : WinT) : Prop := a.s < b.e ∧ b.s < a.e
def WinLt (a b : WinT) : Prop := a.s < b.s ∨ (a.s = b.s ∧ a.e < b.e)
def AheadP (ak : Int) (aw : WinT) (bk : Int) (bw : WinT) : Prop := ak < bk ∨ (ak = bk ∧ WinLt aw bw)
def RowOkP (j : JobT) (r : RowT) (mark : Int) : Prop := (0 ≤ r.key ∧ r.key ≤ 3) ∧ WinOkP r.win ∧ AggOkP r.all ∧ AggOkP r.fresh ∧ r.all.n ≠ 0 ∧ r.fresh.n ≤ r.all.n ∧ (0 ≤ r.told ∧ r.told ≤ 1500) ∧
  mark < IntKind.i64.wrap (r.win.e + j.late) ∧ (r.timely = true ↔ r.win.e ≤ mark) ∧ (0 < r.told ↔ r.win.e ≤ mark) ∧ (r.fresh.n = 0 ↔ r.win.e ≤ mark)
def PaneOkP (p : PaneT) : Prop := (0 ≤ p.key ∧ p.key ≤ 3) ∧ WinOkP p.win ∧ (0 ≤ p.no ∧ p.no ≤ 1500) ∧ AggOkP p.agg ∧
  ((p.kind = 1 ∧ p.no = 0 ∧ 0 < p.agg.n) ∨ (p.kind = 2 ∧ 0 < p.no ∧ 0 < p.agg.n) ∨ (p.kind = 3 ∧ 0 < p.no ∧ p.agg.n = 0))
def LatOkP (l : LatT) : Prop := (l.itm.kind = 1 ∧ ItmOkP l.itm) ∧ WinOkP l.win ∧ (l.win.s ≤ l.itm.t ∧ l.itm.t ≤ IntKind.i64.wrap (l.win.e - 1))
def OpOkP (j : JobT) (s : OpStT) : Prop := JobOkP j ∧ (0 ≤ s.mark ∧ s.mark ≤ 1000) ∧ s.rows.n ≤ 300 ∧
  ∀ i, i < s.rows.n → RowOkP j (s.rows.g i) s.mark ∧ (0 < i → AheadP (s.rows.g (i - 1)).key (s.rows.g (i - 1)).win (s.rows.g i).key (s.rows.g i).win) ∧
    (j.kind = 3 → ∀ k, k < i → ¬ ((s.rows.g k).key = (s.rows.g i).key ∧ TouchP (s.rows.g k).win (s.rows.g i).win))
end Go.Rk
/- Sizes: what is left when the rows of something are taken off. -/
namespace Go.Rk
set_option linter.unusedSimpArgs false
set_option linter.unusedVariables false
theorem up64 {i n : Nat} (h : i < n) (hn : n ≤ maxLen) : IntKind.i64.wrap ((i : Int) + 1) = ((i + 1 : Nat) : Int) := by
  have hm : maxLen = 9223372036854775807 := by decide
  rw [hm] at hn
  rw [IntWalk.i64_in _ (by omega)]
  simp
def szN (n : Nat) (l : Int) : Int := if l - (n : Int) < 0 then -1 else l - n
def szLoop (f : Nat → Int → Int) (l : Int) : Nat → Int
  | 0 => l
  | i + 1 => if szLoop f l i < 0 then -1 else f i (szLoop f l i)
theorem szN_spec {n : Nat} {l : Int} (h0 : 0 ≤ l) (h1 : l ≤ 1048576) : -1 ≤ szN n l ∧ szN n l ≤ 1048576 ∧ (0 ≤ szN n l → n ≤ 1048576) := by
  unfold szN; split <;> omega
theorem szLoop_spec {f : Nat → Int → Int} {B : Nat → Prop} {n : Nat} (hf : ∀ i, i < n → ∀ l, 0 ≤ l → l ≤ 1048576 → -1 ≤ f i l ∧ f i l ≤ 1048576 ∧ (0 ≤ f i l → B i)) {l : Int} (h0 : 0 ≤ l) (h1 : l ≤ 1048576) :
    ∀ k, k ≤ n → -1 ≤ szLoop f l k ∧ szLoop f l k ≤ 1048576 ∧ (0 ≤ szLoop f l k → ∀ i, i < k → B i)
  | 0, _ => ⟨by unfold szLoop; omega, h1, fun _ i h => absurd h (Nat.not_lt_zero i)⟩
  | k + 1, hk => by
    have ih := szLoop_spec hf h0 h1 k (by omega)
    unfold szLoop
    split
    · exact ⟨by omega, by omega, fun h => by omega⟩
    · rename_i hge
      have := hf k (by omega) _ (by omega) ih.2.1
      refine ⟨this.1, this.2.1, fun h i hi => ?_⟩
      rcases Nat.lt_succ_iff_lt_or_eq.1 hi with hi | rfl
      · exact ih.2.2 (by omega) i hi
      · exact this.2.2 h
theorem szLoop_neg {f : Nat → Int → Int} {l : Int} {n : Nat} (hf : ∀ k, k ≤ n → -1 ≤ szLoop f l k) {k : Nat} (h : szLoop f l k < 0) : ∀ m, k + m ≤ n → szLoop f l (k + m) = -1
  | 0, hm => by have := hf k hm; simp only [Nat.add_zero]; omega
  | m + 1, hm => by
    have ih := szLoop_neg hf h m (by omega)
    show szLoop f l (k + m + 1) = -1
    unfold szLoop
    rw [ih]; rfl
def szS (f : Nat → Int → Int) (n : Nat) (l : Int) : Int := if szN n l < 0 then -1 else szLoop f (szN n l) n
theorem szS_spec {f : Nat → Int → Int} {B : Nat → Prop} {n : Nat} (hf : ∀ i, i < n → ∀ l, 0 ≤ l → l ≤ 1048576 → -1 ≤ f i l ∧ f i l ≤ 1048576 ∧ (0 ≤ f i l → B i)) {l : Int} (h0 : 0 ≤ l) (h1 : l ≤ 1048576) :
    -1 ≤ szS f n l ∧ szS f n l ≤ 1048576 ∧ (0 ≤ szS f n l → n ≤ 1048576 ∧ ∀ i, i < n → B i) := by
  unfold szS
  have s := szN_spec (n := n) h0 h1
  split
  · omega
  · have t := szLoop_spec hf (l := szN n l) (by omega) s.2.1 n (Nat.le_refl n)
    exact ⟨t.1, t.2.1, fun h => ⟨s.2.2 (by omega), t.2.2 h⟩⟩
def szOpSt (x : OpStT) (l0 : Int) : Int := szN x.rows.n l0
theorem szOpSt_spec (x : OpStT) {l0 : Int} (h0 : 0 ≤ l0) (h1 : l0 ≤ 1048576) : -1 ≤ szOpSt x l0 ∧ szOpSt x l0 ≤ 1048576 ∧ (0 ≤ szOpSt x l0 → bdOpSt x) := by
  unfold szOpSt bdOpSt
  have s1 := szN_spec (n := x.rows.n) h0 h1
  refine ⟨s1.1, s1.2.1, fun h => ?_⟩
  have t1 := s1.2.2 h
  simp_all
def szTskIn (x : TskInT) (l0 : Int) : Int := szN x.queue.n l0
theorem szTskIn_spec (x : TskInT) {l0 : Int} (h0 : 0 ≤ l0) (h1 : l0 ≤ 1048576) : -1 ≤ szTskIn x l0 ∧ szTskIn x l0 ≤ 1048576 ∧ (0 ≤ szTskIn x l0 → bdTskIn x) := by
  unfold szTskIn bdTskIn
  have s1 := szN_spec (n := x.queue.n) h0 h1
  refine ⟨s1.1, s1.2.1, fun h => ?_⟩
  have t1 := s1.2.2 h
  simp_all
def szTxn (x : TxnT) (l0 : Int) : Int := let l1 := szN x.panes.n l0; if l1 < 0 then -1 else szN x.lates.n l1
theorem szTxn_spec (x : TxnT) {l0 : Int} (h0 : 0 ≤ l0) (h1 : l0 ≤ 1048576) : -1 ≤ szTxn x l0 ∧ szTxn x l0 ≤ 1048576 ∧ (0 ≤ szTxn x l0 → bdTxn x) := by
  unfold szTxn bdTxn
  have s1 := szN_spec (n := x.panes.n) h0 h1
  generalize szN x.panes.n l0 = l1 at s1 ⊢
  try dsimp only
  by_cases c1 : l1 < 0
  · rw [if_pos c1]; exact ⟨by omega, by omega, fun h => absurd h (by omega)⟩
  rw [if_neg c1]
  have s2 := szN_spec (n := x.lates.n) (by omega : 0 ≤ l1) s1.2.1
  refine ⟨s2.1, s2.2.1, fun h => ?_⟩
  have t1 := s1.2.2 (by omega)
  have t2 := s2.2.2 h
  simp_all
def szTsk (x : TskT) (l0 : Int) : Int := let l1 := szS (fun i l => szTskIn (x.ins.g i) l) x.ins.n l0; if l1 < 0 then -1 else let l2 := szOpSt x.op l1; if l2 < 0 then -1 else szTxn x.pend l2
theorem szTsk_spec (x : TskT) {l0 : Int} (h0 : 0 ≤ l0) (h1 : l0 ≤ 1048576) : -1 ≤ szTsk x l0 ∧ szTsk x l0 ≤ 1048576 ∧ (0 ≤ szTsk x l0 → bdTsk x) := by
  unfold szTsk bdTsk
  have s1 := (szS_spec (n := x.ins.n) (B := fun i => bdTskIn (x.ins.g i)) (fun i _ l h0 h1 => by simpa using szTskIn_spec (x.ins.g i) h0 h1) h0 h1)
  generalize szS (fun i l => szTskIn (x.ins.g i) l) x.ins.n l0 = l1 at s1 ⊢
  try dsimp only
  by_cases c1 : l1 < 0
  · rw [if_pos c1]; exact ⟨by omega, by omega, fun h => absurd h (by omega)⟩
  rw [if_neg c1]
  have s2 := szOpSt_spec x.op (by omega : 0 ≤ l1) s1.2.1
  generalize szOpSt x.op l1 = l2 at s2 ⊢
  try dsimp only
  by_cases c2 : l2 < 0
  · rw [if_pos c2]; exact ⟨by omega, by omega, fun h => absurd h (by omega)⟩
  rw [if_neg c2]
  have s3 := szTxn_spec x.pend (by omega : 0 ≤ l2) s2.2.1
  refine ⟨s3.1, s3.2.1, fun h => ?_⟩
  have t1 := s1.2.2 (by omega)
  have t2 := s2.2.2 (by omega)
  have t3 := s3.2.2 h
  simp_all
def szSnap (x : SnapT) (l0 : Int) : Int := let l1 := szOpSt x.op l0; if l1 < 0 then -1 else szN x.marks.n l1
theorem szSnap_spec (x : SnapT) {l0 : Int} (h0 : 0 ≤ l0) (h1 : l0 ≤ 1048576) : -1 ≤ szSnap x l0 ∧ szSnap x l0 ≤ 1048576 ∧ (0 ≤ szSnap x l0 → bdSnap x) := by
  unfold szSnap bdSnap
  have s1 := szOpSt_spec x.op h0 h1
  generalize szOpSt x.op l0 = l1 at s1 ⊢
  try dsimp only
  by_cases c1 : l1 < 0
  · rw [if_pos c1]; exact ⟨by omega, by omega, fun h => absurd h (by omega)⟩
  rw [if_neg c1]
  have s2 := szN_spec (n := x.marks.n) (by omega : 0 ≤ l1) s1.2.1
  refine ⟨s2.1, s2.2.1, fun h => ?_⟩
  have t1 := s1.2.2 (by omega)
  have t2 := s2.2.2 h
  simp_all
def szSafe (x : SafeT) (l0 : Int) : Int := let l1 := szN x.at_.n l0; if l1 < 0 then -1 else szS (fun i l => szSnap (x.snaps.g i) l) x.snaps.n l1
theorem szSafe_spec (x : SafeT) {l0 : Int} (h0 : 0 ≤ l0) (h1 : l0 ≤ 1048576) : -1 ≤ szSafe x l0 ∧ szSafe x l0 ≤ 1048576 ∧ (0 ≤ szSafe x l0 → bdSafe x) := by
  unfold szSafe bdSafe
  have s1 := szN_spec (n := x.at_.n) h0 h1
  generalize szN x.at_.n l0 = l1 at s1 ⊢
  try dsimp only
  by_cases c1 : l1 < 0
  · rw [if_pos c1]; exact ⟨by omega, by omega, fun h => absurd h (by omega)⟩
  rw [if_neg c1]
  have s2 := (szS_spec (n := x.snaps.n) (B := fun i => bdSnap (x.snaps.g i)) (fun i _ l h0 h1 => by simpa using szSnap_spec (x.snaps.g i) h0 h1) (by omega : 0 ≤ l1) s1.2.1)
  refine ⟨s2.1, s2.2.1, fun h => ?_⟩
  have t1 := s1.2.2 (by omega)
  have t2 := s2.2.2 h
  simp_all
def szCkp (x : CkpT) (l0 : Int) : Int := let l1 := szN x.src.n l0; if l1 < 0 then -1 else let l2 := szN x.tsk.n l1; if l2 < 0 then -1 else let l3 := szS (fun i l => szSnap (x.snaps.g i) l) x.snaps.n l2; if l3 < 0 then -1 else szSafe x.safe l3
theorem szCkp_spec (x : CkpT) {l0 : Int} (h0 : 0 ≤ l0) (h1 : l0 ≤ 1048576) : -1 ≤ szCkp x l0 ∧ szCkp x l0 ≤ 1048576 ∧ (0 ≤ szCkp x l0 → bdCkp x) := by
  unfold szCkp bdCkp
  have s1 := szN_spec (n := x.src.n) h0 h1
  generalize szN x.src.n l0 = l1 at s1 ⊢
  try dsimp only
  by_cases c1 : l1 < 0
  · rw [if_pos c1]; exact ⟨by omega, by omega, fun h => absurd h (by omega)⟩
  rw [if_neg c1]
  have s2 := szN_spec (n := x.tsk.n) (by omega : 0 ≤ l1) s1.2.1
  generalize szN x.tsk.n l1 = l2 at s2 ⊢
  try dsimp only
  by_cases c2 : l2 < 0
  · rw [if_pos c2]; exact ⟨by omega, by omega, fun h => absurd h (by omega)⟩
  rw [if_neg c2]
  have s3 := (szS_spec (n := x.snaps.n) (B := fun i => bdSnap (x.snaps.g i)) (fun i _ l h0 h1 => by simpa using szSnap_spec (x.snaps.g i) h0 h1) (by omega : 0 ≤ l2) s2.2.1)
  generalize szS (fun i l => szSnap (x.snaps.g i) l) x.snaps.n l2 = l3 at s3 ⊢
  try dsimp only
  by_cases c3 : l3 < 0
  · rw [if_pos c3]; exact ⟨by omega, by omega, fun h => absurd h (by omega)⟩
  rw [if_neg c3]
  have s4 := szSafe_spec x.safe (by omega : 0 ≤ l3) s3.2.1
  refine ⟨s4.1, s4.2.1, fun h => ?_⟩
  have t1 := s1.2.2 (by omega)
  have t2 := s2.2.2 (by omega)
  have t3 := s3.2.2 (by omega)
  have t4 := s4.2.2 h
  simp_all
def szSink (x : SinkT) (l0 : Int) : Int := let l1 := szS (fun i l => szTxn (x.ready.g i) l) x.ready.n l0; if l1 < 0 then -1 else let l2 := szN x.panes.n l1; if l2 < 0 then -1 else szN x.lates.n l2
theorem szSink_spec (x : SinkT) {l0 : Int} (h0 : 0 ≤ l0) (h1 : l0 ≤ 1048576) : -1 ≤ szSink x l0 ∧ szSink x l0 ≤ 1048576 ∧ (0 ≤ szSink x l0 → bdSink x) := by
  unfold szSink bdSink
  have s1 := (szS_spec (n := x.ready.n) (B := fun i => bdTxn (x.ready.g i)) (fun i _ l h0 h1 => by simpa using szTxn_spec (x.ready.g i) h0 h1) h0 h1)
  generalize szS (fun i l => szTxn (x.ready.g i) l) x.ready.n l0 = l1 at s1 ⊢
  try dsimp only
  by_cases c1 : l1 < 0
  · rw [if_pos c1]; exact ⟨by omega, by omega, fun h => absurd h (by omega)⟩
  rw [if_neg c1]
  have s2 := szN_spec (n := x.panes.n) (by omega : 0 ≤ l1) s1.2.1
  generalize szN x.panes.n l1 = l2 at s2 ⊢
  try dsimp only
  by_cases c2 : l2 < 0
  · rw [if_pos c2]; exact ⟨by omega, by omega, fun h => absurd h (by omega)⟩
  rw [if_neg c2]
  have s3 := szN_spec (n := x.lates.n) (by omega : 0 ≤ l2) s2.2.1
  refine ⟨s3.1, s3.2.1, fun h => ?_⟩
  have t1 := s1.2.2 (by omega)
  have t2 := s2.2.2 (by omega)
  have t3 := s3.2.2 h
  simp_all
def szFlo (x : FloT) (l0 : Int) : Int := let l1 := szS (fun i l => szN (x.logs.g i).n l) x.logs.n l0; if l1 < 0 then -1 else let l2 := szN x.srcs.n l1; if l2 < 0 then -1 else let l3 := szS (fun i l => szTsk (x.tasks.g i) l) x.tasks.n l2; if l3 < 0 then -1 else let l4 := szS (fun i l => szSink (x.sinks.g i) l) x.sinks.n l3; if l4 < 0 then -1 else szCkp x.ckp l4
theorem szFlo_spec (x : FloT) {l0 : Int} (h0 : 0 ≤ l0) (h1 : l0 ≤ 1048576) : -1 ≤ szFlo x l0 ∧ szFlo x l0 ≤ 1048576 ∧ (0 ≤ szFlo x l0 → bdFlo x) := by
  unfold szFlo bdFlo
  have s1 := (szS_spec (n := x.logs.n) (B := fun i => (x.logs.g i).n ≤ 1048576) (fun i _ l h0 h1 => by simpa using szN_spec (n := (x.logs.g i).n) h0 h1) h0 h1)
  generalize szS (fun i l => szN (x.logs.g i).n l) x.logs.n l0 = l1 at s1 ⊢
  try dsimp only
  by_cases c1 : l1 < 0
  · rw [if_pos c1]; exact ⟨by omega, by omega, fun h => absurd h (by omega)⟩
  rw [if_neg c1]
  have s2 := szN_spec (n := x.srcs.n) (by omega : 0 ≤ l1) s1.2.1
  generalize szN x.srcs.n l1 = l2 at s2 ⊢
  try dsimp only
  by_cases c2 : l2 < 0
  · rw [if_pos c2]; exact ⟨by omega, by omega, fun h => absurd h (by omega)⟩
  rw [if_neg c2]
  have s3 := (szS_spec (n := x.tasks.n) (B := fun i => bdTsk (x.tasks.g i)) (fun i _ l h0 h1 => by simpa using szTsk_spec (x.tasks.g i) h0 h1) (by omega : 0 ≤ l2) s2.2.1)
  generalize szS (fun i l => szTsk (x.tasks.g i) l) x.tasks.n l2 = l3 at s3 ⊢
  try dsimp only
  by_cases c3 : l3 < 0
  · rw [if_pos c3]; exact ⟨by omega, by omega, fun h => absurd h (by omega)⟩
  rw [if_neg c3]
  have s4 := (szS_spec (n := x.sinks.n) (B := fun i => bdSink (x.sinks.g i)) (fun i _ l h0 h1 => by simpa using szSink_spec (x.sinks.g i) h0 h1) (by omega : 0 ≤ l3) s3.2.1)
  generalize szS (fun i l => szSink (x.sinks.g i) l) x.sinks.n l3 = l4 at s4 ⊢
  try dsimp only
  by_cases c4 : l4 < 0
  · rw [if_pos c4]; exact ⟨by omega, by omega, fun h => absurd h (by omega)⟩
  rw [if_neg c4]
  have s5 := szCkp_spec x.ckp (by omega : 0 ≤ l4) s4.2.1
  refine ⟨s5.1, s5.2.1, fun h => ?_⟩
  have t1 := s1.2.2 (by omega)
  have t2 := s2.2.2 (by omega)
  have t3 := s3.2.2 (by omega)
  have t4 := s4.2.2 (by omega)
  have t5 := s5.2.2 h
  simp_all
end Go.Rk
/- Small functions: what they answer. -/
namespace Go.Rk
set_option linter.unusedSimpArgs false
set_option linter.unusedVariables false
open Go.Proofs
def EXA : FuncId → List Nat × Bool := fun _ => ([], false)
theorem mixed : Try.prog.follows .mixedOrders = true := by kernel_rfl
set_option maxRecDepth 100000 in
theorem c_in (n lo hi : Int) : ∃ b, b = decide (lo ≤ n ∧ n ≤ hi) ∧ Meets Try.prog 94 [.c (.d (eI n)), .c (.d (eI lo)), .c (.d (eI hi))] ⟨.one (.c (.d (eB b))), [none, none, none]⟩ := by
  obtain ⟨b, hb⟩ : ∃ b, b = decide (lo ≤ n ∧ n ≤ hi) := ⟨_, rfl⟩
  refine ⟨b, hb, ?_⟩
  refine meets_of (H := []) (EX := EXA) ttok mixed Try.func94 rfl (by kernel_rfl) (by decide) ?_
  generalize hA : real = A
  generalize hM : MeetsB Try.prog = M
  cbv
  repeat' first
    | apply And.intro
    | exact True.intro
    | with_reducible rfl
    | exact same_of hA rfl
    | refine br_of hA (fun _ => ?_) (fun _ => ?_)
    | exact imp_of hA id
    | (refine imp_of hA ?_; subst hA; simp only [real, Bool.true_and]; exact id)
    | (refine ind_of hA ?_; decide +kernel)
  all_goals subst hA
  all_goals refine congrArg (fun b => XA.one (.c (.d (eB b)))) (Bool.eq_iff_iff.2 ?_)
  all_goals subst_vars
  all_goals try simp only [real, bifA, bifB, bifC, bifD, decide_eq_true_eq, decide_eq_false_iff_not, beq_iff_eq, bne_iff_ne, beq_eq_false_iff_ne, bne_eq_false_iff_eq, ne_eq, Bool.and_eq_true, Bool.or_eq_true, Bool.not_eq_true', Bool.not_eq_false', Bool.and_eq_false_iff, Bool.or_eq_false_iff, Bool.false_eq_true, and_false, false_and, or_false, false_or, and_true, true_and, not_true_eq_false, not_false_eq_true, true_iff, false_iff, IntKind.wrap_i64] at *
  all_goals first
    | omega
    | skip
set_option maxRecDepth 100000 in
theorem c_l1In (n lo hi : Int) : ∃ b, b = decide (lo ≤ n ∧ n ≤ hi) ∧ Meets Try.prog 68 [.c (.d (eI n)), .c (.d (eI lo)), .c (.d (eI hi))] ⟨.one (.c (.d (eB b))), [none, none, none]⟩ := by
  obtain ⟨b, hb⟩ : ∃ b, b = decide (lo ≤ n ∧ n ≤ hi) := ⟨_, rfl⟩
  refine ⟨b, hb, ?_⟩
  refine meets_of (H := []) (EX := EXA) ttok mixed Try.func68 rfl (by kernel_rfl) (by decide) ?_
  generalize hA : real = A
  generalize hM : MeetsB Try.prog = M
  cbv
  repeat' first
    | apply And.intro
    | exact True.intro
    | with_reducible rfl
    | exact same_of hA rfl
    | refine br_of hA (fun _ => ?_) (fun _ => ?_)
    | exact imp_of hA id
    | (refine imp_of hA ?_; subst hA; simp only [real, Bool.true_and]; exact id)
    | (refine ind_of hA ?_; decide +kernel)
  all_goals subst hA
  all_goals refine congrArg (fun b => XA.one (.c (.d (eB b)))) (Bool.eq_iff_iff.2 ?_)
  all_goals subst_vars
  all_goals try simp only [real, bifA, bifB, bifC, bifD, decide_eq_true_eq, decide_eq_false_iff_not, beq_iff_eq, bne_iff_ne, beq_eq_false_iff_ne, bne_eq_false_iff_eq, ne_eq, Bool.and_eq_true, Bool.or_eq_true, Bool.not_eq_true', Bool.not_eq_false', Bool.and_eq_false_iff, Bool.or_eq_false_iff, Bool.false_eq_true, and_false, false_and, or_false, false_or, and_true, true_and, not_true_eq_false, not_false_eq_true, true_iff, false_iff, IntKind.wrap_i64] at *
  all_goals first
    | omega
    | skip
set_option maxRecDepth 100000 in
theorem c_WinOk (s e : Int) : ∃ b, b = decide ((0 ≤ s ∧ s ≤ 60) ∧ IntKind.i64.wrap (s + 1) ≤ e ∧ e ≤ 120) ∧ Meets Try.prog 61 [.agg [.d (eI s), .d (eI e)]] ⟨.one (.c (.d (eB b))), [none]⟩ := by
  obtain ⟨b, hb⟩ : ∃ b, b = decide ((0 ≤ s ∧ s ≤ 60) ∧ IntKind.i64.wrap (s + 1) ≤ e ∧ e ≤ 120) := ⟨_, rfl⟩
  refine ⟨b, hb, ?_⟩
  refine meets_of (H := []) (EX := EXA) ttok mixed Try.func61 rfl (by kernel_rfl) (by decide) ?_
  generalize hA : real = A
  generalize hM : MeetsB Try.prog = M
  cbv
  repeat' first
    | apply And.intro
    | exact True.intro
    | with_reducible rfl
    | exact same_of hA rfl
    | refine br_of hA (fun _ => ?_) (fun _ => ?_)
    | exact imp_of hA id
    | (refine imp_of hA ?_; subst hA; simp only [real, Bool.true_and]; exact id)
    | (refine ind_of hA ?_; decide +kernel)
    | (refine call_ex hA hM (c_in _ _ _) (fun _ _ => ?_); cbv)
  all_goals subst hA
  all_goals refine congrArg (fun b => XA.one (.c (.d (eB b)))) (Bool.eq_iff_iff.2 ?_)
  all_goals subst_vars
  all_goals try simp only [real, bifA, bifB, bifC, bifD, decide_eq_true_eq, decide_eq_false_iff_not, beq_iff_eq, bne_iff_ne, beq_eq_false_iff_ne, bne_eq_false_iff_eq, ne_eq, Bool.and_eq_true, Bool.or_eq_true, Bool.not_eq_true', Bool.not_eq_false', Bool.and_eq_false_iff, Bool.or_eq_false_iff, Bool.false_eq_true, and_false, false_and, or_false, false_or, and_true, true_and, not_true_eq_false, not_false_eq_true, true_iff, false_iff, IntKind.wrap_i64] at *
  all_goals first
    | omega
    | skip
set_option maxRecDepth 100000 in
theorem c_sWinOk (s e : Int) : ∃ b, b = decide ((0 ≤ s ∧ s ≤ 60) ∧ IntKind.i64.wrap (s + 1) ≤ e ∧ e ≤ 120) ∧ Meets Try.prog 122 [.agg [.d (eI s), .d (eI e)]] ⟨.one (.c (.d (eB b))), [none]⟩ := by
  obtain ⟨b, hb⟩ : ∃ b, b = decide ((0 ≤ s ∧ s ≤ 60) ∧ IntKind.i64.wrap (s + 1) ≤ e ∧ e ≤ 120) := ⟨_, rfl⟩
  refine ⟨b, hb, ?_⟩
  refine meets_of (H := []) (EX := EXA) ttok mixed Try.func122 rfl (by kernel_rfl) (by decide) ?_
  generalize hA : real = A
  generalize hM : MeetsB Try.prog = M
  cbv
  repeat' first
    | apply And.intro
    | exact True.intro
    | with_reducible rfl
    | exact same_of hA rfl
    | refine br_of hA (fun _ => ?_) (fun _ => ?_)
    | exact imp_of hA id
    | (refine imp_of hA ?_; subst hA; simp only [real, Bool.true_and]; exact id)
    | (refine ind_of hA ?_; decide +kernel)
    | (refine call_ex hA hM (c_l1In _ _ _) (fun _ _ => ?_); cbv)
  all_goals subst hA
  all_goals refine congrArg (fun b => XA.one (.c (.d (eB b)))) (Bool.eq_iff_iff.2 ?_)
  all_goals subst_vars
  all_goals try simp only [real, bifA, bifB, bifC, bifD, decide_eq_true_eq, decide_eq_false_iff_not, beq_iff_eq, bne_iff_ne, beq_eq_false_iff_ne, bne_eq_false_iff_eq, ne_eq, Bool.and_eq_true, Bool.or_eq_true, Bool.not_eq_true', Bool.not_eq_false', Bool.and_eq_false_iff, Bool.or_eq_false_iff, Bool.false_eq_true, and_false, false_and, or_false, false_or, and_true, true_and, not_true_eq_false, not_false_eq_true, true_iff, false_iff, IntKind.wrap_i64] at *
  all_goals first
    | omega
    | skip
set_option maxRecDepth 100000 in
theorem c_tells (n : Int) : ∃ b, b = decide (1 ≤ n ∧ n ≤ 4) ∧ Meets Try.prog 127 [.c (.d (eI n))] ⟨.one (.c (.d (eB b))), [none]⟩ := by
  obtain ⟨b, hb⟩ : ∃ b, b = decide (1 ≤ n ∧ n ≤ 4) := ⟨_, rfl⟩
  refine ⟨b, hb, ?_⟩
  refine meets_of (H := []) (EX := EXA) ttok mixed Try.func127 rfl (by kernel_rfl) (by decide) ?_
  generalize hA : real = A
  generalize hM : MeetsB Try.prog = M
  cbv
  repeat' first
    | apply And.intro
    | exact True.intro
    | with_reducible rfl
    | exact same_of hA rfl
    | refine br_of hA (fun _ => ?_) (fun _ => ?_)
    | exact imp_of hA id
    | (refine imp_of hA ?_; subst hA; simp only [real, Bool.true_and]; exact id)
    | (refine ind_of hA ?_; decide +kernel)
    | (refine call_ex hA hM (c_in _ _ _) (fun _ _ => ?_); cbv)
  all_goals subst hA
  all_goals refine congrArg (fun b => XA.one (.c (.d (eB b)))) (Bool.eq_iff_iff.2 ?_)
  all_goals subst_vars
  all_goals try simp only [real, bifA, bifB, bifC, bifD, decide_eq_true_eq, decide_eq_false_iff_not, beq_iff_eq, bne_iff_ne, beq_eq_false_iff_ne, bne_eq_false_iff_eq, ne_eq, Bool.and_eq_true, Bool.or_eq_true, Bool.not_eq_true', Bool.not_eq_false', Bool.and_eq_false_iff, Bool.or_eq_false_iff, Bool.false_eq_true, and_false, false_and, or_false, false_or, and_true, true_and, not_true_eq_false, not_false_eq_true, true_iff, false_iff, IntKind.wrap_i64] at *
  all_goals first
    | omega
    | skip
set_option maxRecDepth 100000 in
theorem c_ItmOk (kind t key v n : Int) : ∃ b, b = decide ((kind = 1 ∧ (0 ≤ t ∧ t ≤ 60) ∧ (0 ≤ key ∧ key ≤ 3) ∧ (-9 ≤ v ∧ v ≤ 9) ∧ n = 0) ∨ (kind = 2 ∧ ((1 ≤ t ∧ t ≤ 60) ∨ t = 1000) ∧ key = 0 ∧ v = 0 ∧ n = 0) ∨ (kind = 3 ∧ t = 0 ∧ key = 0 ∧ v = 0 ∧ (1 ≤ n ∧ n ≤ 900))) ∧ Meets Try.prog 129 [.agg [.d (eI kind), .d (eI t), .d (eI key), .d (eI v), .d (eI n)]] ⟨.one (.c (.d (eB b))), [none]⟩ := by
  obtain ⟨b, hb⟩ : ∃ b, b = decide ((kind = 1 ∧ (0 ≤ t ∧ t ≤ 60) ∧ (0 ≤ key ∧ key ≤ 3) ∧ (-9 ≤ v ∧ v ≤ 9) ∧ n = 0) ∨ (kind = 2 ∧ ((1 ≤ t ∧ t ≤ 60) ∨ t = 1000) ∧ key = 0 ∧ v = 0 ∧ n = 0) ∨ (kind = 3 ∧ t = 0 ∧ key = 0 ∧ v = 0 ∧ (1 ≤ n ∧ n ≤ 900))) := ⟨_, rfl⟩
  refine ⟨b, hb, ?_⟩
  refine meets_of (H := []) (EX := EXA) ttok mixed Try.func129 rfl (by kernel_rfl) (by decide) ?_
  generalize hA : real = A
  generalize hM : MeetsB Try.prog = M
  cbv
  repeat' first
    | apply And.intro
    | exact True.intro
    | with_reducible rfl
    | exact same_of hA rfl
    | refine br_of hA (fun _ => ?_) (fun _ => ?_)
    | exact imp_of hA id
    | (refine imp_of hA ?_; subst hA; simp only [real, Bool.true_and]; exact id)
    | (refine ind_of hA ?_; decide +kernel)
    | (refine call_ex hA hM (c_in _ _ _) (fun _ _ => ?_); cbv)
  all_goals subst hA
  all_goals refine congrArg (fun b => XA.one (.c (.d (eB b)))) (Bool.eq_iff_iff.2 ?_)
  all_goals subst_vars
  all_goals try simp only [real, bifA, bifB, bifC, bifD, decide_eq_true_eq, decide_eq_false_iff_not, beq_iff_eq, bne_iff_ne, beq_eq_false_iff_ne, bne_eq_false_iff_eq, ne_eq, Bool.and_eq_true, Bool.or_eq_true, Bool.not_eq_true', Bool.not_eq_false', Bool.and_eq_false_iff, Bool.or_eq_false_iff, Bool.false_eq_true, and_false, false_and, or_false, false_or, and_true, true_and, not_true_eq_false, not_false_eq_true, true_iff, false_iff, IntKind.wrap_i64] at *
  all_goals first
    | omega
    | skip
set_option maxRecDepth 100000 in
theorem c_sItmOk (kind t key v n : Int) : ∃ b, b = decide ((kind = 1 ∧ (0 ≤ t ∧ t ≤ 60) ∧ (0 ≤ key ∧ key ≤ 3) ∧ (-9 ≤ v ∧ v ≤ 9) ∧ n = 0) ∨ (kind = 2 ∧ ((1 ≤ t ∧ t ≤ 60) ∨ t = 1000) ∧ key = 0 ∧ v = 0 ∧ n = 0) ∨ (kind = 3 ∧ t = 0 ∧ key = 0 ∧ v = 0 ∧ (1 ≤ n ∧ n ≤ 900))) ∧ Meets Try.prog 50 [.agg [.d (eI kind), .d (eI t), .d (eI key), .d (eI v), .d (eI n)]] ⟨.one (.c (.d (eB b))), [none]⟩ := by
  obtain ⟨b, hb⟩ : ∃ b, b = decide ((kind = 1 ∧ (0 ≤ t ∧ t ≤ 60) ∧ (0 ≤ key ∧ key ≤ 3) ∧ (-9 ≤ v ∧ v ≤ 9) ∧ n = 0) ∨ (kind = 2 ∧ ((1 ≤ t ∧ t ≤ 60) ∨ t = 1000) ∧ key = 0 ∧ v = 0 ∧ n = 0) ∨ (kind = 3 ∧ t = 0 ∧ key = 0 ∧ v = 0 ∧ (1 ≤ n ∧ n ≤ 900))) := ⟨_, rfl⟩
  refine ⟨b, hb, ?_⟩
  refine meets_of (H := []) (EX := EXA) ttok mixed Try.func50 rfl (by kernel_rfl) (by decide) ?_
  generalize hA : real = A
  generalize hM : MeetsB Try.prog = M
  cbv
  repeat' first
    | apply And.intro
    | exact True.intro
    | with_reducible rfl
    | exact same_of hA rfl
    | refine br_of hA (fun _ => ?_) (fun _ => ?_)
    | exact imp_of hA id
    | (refine imp_of hA ?_; subst hA; simp only [real, Bool.true_and]; exact id)
    | (refine ind_of hA ?_; decide +kernel)
    | (refine call_ex hA hM (c_l1In _ _ _) (fun _ _ => ?_); cbv)
  all_goals subst hA
  all_goals refine congrArg (fun b => XA.one (.c (.d (eB b)))) (Bool.eq_iff_iff.2 ?_)
  all_goals subst_vars
  all_goals try simp only [real, bifA, bifB, bifC, bifD, decide_eq_true_eq, decide_eq_false_iff_not, beq_iff_eq, bne_iff_ne, beq_eq_false_iff_ne, bne_eq_false_iff_eq, ne_eq, Bool.and_eq_true, Bool.or_eq_true, Bool.not_eq_true', Bool.not_eq_false', Bool.and_eq_false_iff, Bool.or_eq_false_iff, Bool.false_eq_true, and_false, false_and, or_false, false_or, and_true, true_and, not_true_eq_false, not_false_eq_true, true_iff, false_iff, IntKind.wrap_i64] at *
  all_goals first
    | omega
    | skip
set_option maxRecDepth 100000 in
theorem c_JobOk (a b1 kind size step late tell : Int) (p : Bool) (least room : Int) : ∃ b, b = decide ((1 ≤ a ∧ a ≤ 3) ∧ (1 ≤ b1 ∧ b1 ≤ 2) ∧ (1 ≤ kind ∧ kind ≤ 3) ∧ (1 ≤ size ∧ size ≤ 20) ∧ ((kind = 2 ∧ (1 ≤ step ∧ step ≤ size) ∧ size ≤ 4 * step) ∨ (kind ≠ 2 ∧ step = 0)) ∧ (0 ≤ late ∧ late ≤ 20) ∧ (1 ≤ tell ∧ tell ≤ 4) ∧ (-9 ≤ least ∧ least ≤ 9) ∧ (1 ≤ room ∧ room ≤ 4)) ∧ Meets Try.prog 84 [.agg [.d (eI a), .d (eI b1), .d (eI kind), .d (eI size), .d (eI step), .d (eI late), .d (eI tell), .d (eB p), .d (eI least), .d (eI room)]] ⟨.one (.c (.d (eB b))), [none]⟩ := by
  obtain ⟨b, hb⟩ : ∃ b, b = decide ((1 ≤ a ∧ a ≤ 3) ∧ (1 ≤ b1 ∧ b1 ≤ 2) ∧ (1 ≤ kind ∧ kind ≤ 3) ∧ (1 ≤ size ∧ size ≤ 20) ∧ ((kind = 2 ∧ (1 ≤ step ∧ step ≤ size) ∧ size ≤ 4 * step) ∨ (kind ≠ 2 ∧ step = 0)) ∧ (0 ≤ late ∧ late ≤ 20) ∧ (1 ≤ tell ∧ tell ≤ 4) ∧ (-9 ≤ least ∧ least ≤ 9) ∧ (1 ≤ room ∧ room ≤ 4)) := ⟨_, rfl⟩
  refine ⟨b, hb, ?_⟩
  refine meets_of (H := []) (EX := EXA) ttok mixed Try.func84 rfl (by kernel_rfl) (by decide) ?_
  generalize hA : real = A
  generalize hM : MeetsB Try.prog = M
  cbv
  repeat' first
    | apply And.intro
    | exact True.intro
    | with_reducible rfl
    | exact same_of hA rfl
    | refine br_of hA (fun _ => ?_) (fun _ => ?_)
    | exact imp_of hA id
    | (refine imp_of hA ?_; subst hA; simp only [real, Bool.true_and]; exact id)
    | (refine ind_of hA ?_; decide +kernel)
    | (refine call_ex hA hM (c_in _ _ _) (fun _ _ => ?_); cbv)
    | (refine call_ex hA hM (c_tells _) (fun _ _ => ?_); cbv)
  all_goals subst hA
  all_goals refine congrArg (fun b => XA.one (.c (.d (eB b)))) (Bool.eq_iff_iff.2 ?_)
  all_goals subst_vars
  all_goals try simp only [real, bifA, bifB, bifC, bifD, decide_eq_true_eq, decide_eq_false_iff_not, beq_iff_eq, bne_iff_ne, beq_eq_false_iff_ne, bne_eq_false_iff_eq, ne_eq, Bool.and_eq_true, Bool.or_eq_true, Bool.not_eq_true', Bool.not_eq_false', Bool.and_eq_false_iff, Bool.or_eq_false_iff, Bool.false_eq_true, and_false, false_and, or_false, false_or, and_true, true_and, not_true_eq_false, not_false_eq_true, true_iff, false_iff, IntKind.wrap_i64] at *
  all_goals first
    | omega
    | skip
set_option maxRecDepth 100000 in
theorem c_sJobOk (a b1 kind size step late tell : Int) (p : Bool) (least room : Int) : ∃ b, b = decide ((1 ≤ a ∧ a ≤ 3) ∧ (1 ≤ b1 ∧ b1 ≤ 2) ∧ (1 ≤ kind ∧ kind ≤ 3) ∧ (1 ≤ size ∧ size ≤ 20) ∧ ((kind = 2 ∧ (1 ≤ step ∧ step ≤ size) ∧ size ≤ 4 * step) ∨ (kind ≠ 2 ∧ step = 0)) ∧ (0 ≤ late ∧ late ≤ 20) ∧ (1 ≤ tell ∧ tell ≤ 4) ∧ (-9 ≤ least ∧ least ≤ 9) ∧ (1 ≤ room ∧ room ≤ 4)) ∧ Meets Try.prog 71 [.agg [.d (eI a), .d (eI b1), .d (eI kind), .d (eI size), .d (eI step), .d (eI late), .d (eI tell), .d (eB p), .d (eI least), .d (eI room)]] ⟨.one (.c (.d (eB b))), [none]⟩ := by
  obtain ⟨b, hb⟩ : ∃ b, b = decide ((1 ≤ a ∧ a ≤ 3) ∧ (1 ≤ b1 ∧ b1 ≤ 2) ∧ (1 ≤ kind ∧ kind ≤ 3) ∧ (1 ≤ size ∧ size ≤ 20) ∧ ((kind = 2 ∧ (1 ≤ step ∧ step ≤ size) ∧ size ≤ 4 * step) ∨ (kind ≠ 2 ∧ step = 0)) ∧ (0 ≤ late ∧ late ≤ 20) ∧ (1 ≤ tell ∧ tell ≤ 4) ∧ (-9 ≤ least ∧ least ≤ 9) ∧ (1 ≤ room ∧ room ≤ 4)) := ⟨_, rfl⟩
  refine ⟨b, hb, ?_⟩
  refine meets_of (H := []) (EX := EXA) ttok mixed Try.func71 rfl (by kernel_rfl) (by decide) ?_
  generalize hA : real = A
  generalize hM : MeetsB Try.prog = M
  cbv
  repeat' first
    | apply And.intro
    | exact True.intro
    | with_reducible rfl
    | exact same_of hA rfl
    | refine br_of hA (fun _ => ?_) (fun _ => ?_)
    | exact imp_of hA id
    | (refine imp_of hA ?_; subst hA; simp only [real, Bool.true_and]; exact id)
    | (refine ind_of hA ?_; decide +kernel)
    | (refine call_ex hA hM (c_l1In _ _ _) (fun _ _ => ?_); cbv)
  all_goals subst hA
  all_goals refine congrArg (fun b => XA.one (.c (.d (eB b)))) (Bool.eq_iff_iff.2 ?_)
  all_goals subst_vars
  all_goals try simp only [real, bifA, bifB, bifC, bifD, decide_eq_true_eq, decide_eq_false_iff_not, beq_iff_eq, bne_iff_ne, beq_eq_false_iff_ne, bne_eq_false_iff_eq, ne_eq, Bool.and_eq_true, Bool.or_eq_true, Bool.not_eq_true', Bool.not_eq_false', Bool.and_eq_false_iff, Bool.or_eq_false_iff, Bool.false_eq_true, and_false, false_and, or_false, false_or, and_true, true_and, not_true_eq_false, not_false_eq_true, true_iff, false_iff, IntKind.wrap_i64] at *
  all_goals first
    | omega
    | skip
set_option maxRecDepth 100000 in
theorem c_isTime (n : Int) : ∃ b, b = decide (0 ≤ n ∧ n ≤ 1000) ∧ Meets Try.prog 63 [.c (.d (eI n))] ⟨.one (.c (.d (eB b))), [none]⟩ := by
  obtain ⟨b, hb⟩ : ∃ b, b = decide (0 ≤ n ∧ n ≤ 1000) := ⟨_, rfl⟩
  refine ⟨b, hb, ?_⟩
  refine meets_of (H := []) (EX := EXA) ttok mixed Try.func63 rfl (by kernel_rfl) (by decide) ?_
  generalize hA : real = A
  generalize hM : MeetsB Try.prog = M
  cbv
  repeat' first
    | apply And.intro
    | exact True.intro
    | with_reducible rfl
    | exact same_of hA rfl
    | refine br_of hA (fun _ => ?_) (fun _ => ?_)
    | exact imp_of hA id
    | (refine imp_of hA ?_; subst hA; simp only [real, Bool.true_and]; exact id)
    | (refine ind_of hA ?_; decide +kernel)
    | (refine call_ex hA hM (c_in _ _ _) (fun _ _ => ?_); cbv)
  all_goals subst hA
  all_goals refine congrArg (fun b => XA.one (.c (.d (eB b)))) (Bool.eq_iff_iff.2 ?_)
  all_goals subst_vars
  all_goals try simp only [real, bifA, bifB, bifC, bifD, decide_eq_true_eq, decide_eq_false_iff_not, beq_iff_eq, bne_iff_ne, beq_eq_false_iff_ne, bne_eq_false_iff_eq, ne_eq, Bool.and_eq_true, Bool.or_eq_true, Bool.not_eq_true', Bool.not_eq_false', Bool.and_eq_false_iff, Bool.or_eq_false_iff, Bool.false_eq_true, and_false, false_and, or_false, false_or, and_true, true_and, not_true_eq_false, not_false_eq_true, true_iff, false_iff, IntKind.wrap_i64] at *
  all_goals first
    | omega
    | skip
set_option maxRecDepth 100000 in
theorem c_isKey (n : Int) : ∃ b, b = decide (0 ≤ n ∧ n ≤ 3) ∧ Meets Try.prog 108 [.c (.d (eI n))] ⟨.one (.c (.d (eB b))), [none]⟩ := by
  obtain ⟨b, hb⟩ : ∃ b, b = decide (0 ≤ n ∧ n ≤ 3) := ⟨_, rfl⟩
  refine ⟨b, hb, ?_⟩
  refine meets_of (H := []) (EX := EXA) ttok mixed Try.func108 rfl (by kernel_rfl) (by decide) ?_
  generalize hA : real = A
  generalize hM : MeetsB Try.prog = M
  cbv
  repeat' first
    | apply And.intro
    | exact True.intro
    | with_reducible rfl
    | exact same_of hA rfl
    | refine br_of hA (fun _ => ?_) (fun _ => ?_)
    | exact imp_of hA id
    | (refine imp_of hA ?_; subst hA; simp only [real, Bool.true_and]; exact id)
    | (refine ind_of hA ?_; decide +kernel)
    | (refine call_ex hA hM (c_in _ _ _) (fun _ _ => ?_); cbv)
  all_goals subst hA
  all_goals refine congrArg (fun b => XA.one (.c (.d (eB b)))) (Bool.eq_iff_iff.2 ?_)
  all_goals subst_vars
  all_goals try simp only [real, bifA, bifB, bifC, bifD, decide_eq_true_eq, decide_eq_false_iff_not, beq_iff_eq, bne_iff_ne, beq_eq_false_iff_ne, bne_eq_false_iff_eq, ne_eq, Bool.and_eq_true, Bool.or_eq_true, Bool.not_eq_true', Bool.not_eq_false', Bool.and_eq_false_iff, Bool.or_eq_false_iff, Bool.false_eq_true, and_false, false_and, or_false, false_or, and_true, true_and, not_true_eq_false, not_false_eq_true, true_iff, false_iff, IntKind.wrap_i64] at *
  all_goals first
    | omega
    | skip
end Go.Rk
/- Small functions: what they answer. -/
namespace Go.Rk
set_option linter.unusedSimpArgs false
set_option linter.unusedVariables false
open Go.Proofs
set_option maxRecDepth 100000 in
theorem c_isNaN (n : Int) : ∃ b, b = decide (False) ∧ Meets Try.prog 154 [.c (.d (eI n))] ⟨.one (.c (.d (eB b))), [none]⟩ := by
  obtain ⟨b, hb⟩ : ∃ b, b = decide (False) := ⟨_, rfl⟩
  refine ⟨b, hb, ?_⟩
  refine meets_of (H := []) (EX := EXA) ttok mixed Try.func154 rfl (by kernel_rfl) (by decide) ?_
  generalize hA : real = A
  generalize hM : MeetsB Try.prog = M
  cbv
  repeat' first
    | apply And.intro
    | exact True.intro
    | with_reducible rfl
    | exact same_of hA rfl
    | refine br_of hA (fun _ => ?_) (fun _ => ?_)
    | exact imp_of hA id
    | (refine imp_of hA ?_; subst hA; simp only [real, Bool.true_and]; exact id)
    | (refine ind_of hA ?_; decide +kernel)
  all_goals subst hA
  all_goals refine congrArg (fun b => XA.one (.c (.d (eB b)))) (Bool.eq_iff_iff.2 ?_)
  all_goals subst_vars
  all_goals try simp only [real, bifA, bifB, bifC, bifD, decide_eq_true_eq, decide_eq_false_iff_not, beq_iff_eq, bne_iff_ne, beq_eq_false_iff_ne, bne_eq_false_iff_eq, ne_eq, Bool.and_eq_true, Bool.or_eq_true, Bool.not_eq_true', Bool.not_eq_false', Bool.and_eq_false_iff, Bool.or_eq_false_iff, Bool.false_eq_true, and_false, false_and, or_false, false_or, and_true, true_and, not_true_eq_false, not_false_eq_true, true_iff, false_iff, IntKind.wrap_i64] at *
  all_goals first
    | omega
    | skip
set_option maxRecDepth 100000 in
theorem c_Compare (a b : Int) : ∃ x : Int, x = (if a < b then -1 else if b < a then 1 else 0) ∧ Meets Try.prog 136 [.c (.d (eI a)), .c (.d (eI b))] ⟨.one (.c (.d (eI x))), [none, none]⟩ := by
  obtain ⟨x, hx⟩ : ∃ x : Int, x = (if a < b then -1 else if b < a then 1 else 0) := ⟨_, rfl⟩
  refine ⟨x, hx, ?_⟩
  refine meets_of (H := []) (EX := EXA) ttok mixed Try.func136 rfl (by kernel_rfl) (by decide) ?_
  generalize hA : real = A
  generalize hM : MeetsB Try.prog = M
  cbv
  repeat' first
    | apply And.intro
    | exact True.intro
    | with_reducible rfl
    | exact same_of hA rfl
    | refine br_of hA (fun _ => ?_) (fun _ => ?_)
    | exact imp_of hA id
    | (refine imp_of hA ?_; subst hA; simp only [real, Bool.true_and]; exact id)
    | (refine ind_of hA ?_; decide +kernel)
    | (refine call_ex hA hM (c_isNaN _) (fun _ _ => ?_); cbv)
  all_goals subst hA
  all_goals refine congrArg (fun x => XA.one (.c (.d (eI x)))) ?_
  all_goals subst_vars
  all_goals try simp only [real, bifA, bifB, bifC, bifD, decide_eq_true_eq, decide_eq_false_iff_not, beq_iff_eq, bne_iff_ne, beq_eq_false_iff_ne, bne_eq_false_iff_eq, ne_eq, Bool.and_eq_true, Bool.or_eq_true, Bool.not_eq_true', Bool.not_eq_false', Bool.and_eq_false_iff, Bool.or_eq_false_iff, Bool.false_eq_true, reduceCtorEq] at *
  all_goals first
    | omega
    | skip
/-- The first that is not 0. -/
inductive FirstNz (n : Nat) (g : Nat → Int) : Int → Prop
  | at (i : Nat) (h : i < n) (hi : g i ≠ 0) (hb : ∀ j, j < i → g j = 0) : FirstNz n g (g i)
  | none (hb : ∀ j, j < n → g j = 0) : FirstNz n g 0
theorem firstNz_ex (n : Nat) (g : Nat → Int) : ∃ x, FirstNz n g x := by
  by_cases h : ∃ i, i < n ∧ g i ≠ 0
  · obtain ⟨i, hi⟩ := h
    induction i using Nat.strongRecOn with
    | _ i ih =>
      by_cases hm : ∃ j, j < i ∧ g j ≠ 0
      · obtain ⟨j, hj1, hj2⟩ := hm
        exact ih j hj1 ⟨by omega, hj2⟩
      · exact ⟨_, .at i hi.1 hi.2 fun j hj => Classical.not_not.1 fun e => hm ⟨j, hj, e⟩⟩
  · exact ⟨0, .none fun j hj => Classical.not_not.1 fun e => h ⟨j, hj, e⟩⟩
theorem firstNz_one {n : Nat} {g : Nat → Int} {x y : Int} (h : FirstNz n g x) (h' : FirstNz n g y) : x = y := by
  cases h with
  | «at» i hi hh hb =>
    cases h' with
    | «at» j hj hh' hb' =>
      have : i = j := by
        rcases Nat.lt_trichotomy i j with h | h | h
        · exact absurd (hb' i h) hh
        · exact h
        · exact absurd (hb j h) hh'
      rw [this]
    | none hb' => exact absurd (hb' i hi) hh
  | none hb =>
    cases h' with
    | «at» j hj hh' hb' => exact absurd (hb j hj) hh'
    | none hb' => rfl
theorem firstNz_two {g : Nat → Int} {x : Int} (h : FirstNz 2 g x) : x = if g 0 = 0 then g 1 else g 0 := by
  refine firstNz_one h ?_
  by_cases h0 : g 0 = 0
  · rw [if_pos h0]
    by_cases h1 : g 1 = 0
    · rw [h1]; exact .none fun j hj => by rcases j with _ | _ | j; exact h0; exact h1; omega
    · exact .at 1 (by omega) h1 fun j hj => by rcases j with _ | j; exact h0; omega
  · rw [if_neg h0]; exact .at 0 (by omega) h0 fun j hj => by omega
def stOr (n : Nat) (g : Nat → Int) (i : Nat) : St := ⟨[(8, .c (.d (eI i))), (7, .c (.d (eI n))), (6, .c (.d (.sl 1 n fun i => [eI (g i)]))), (3, .c (.d (eI 0)))], []⟩
set_option maxRecDepth 100000 in
theorem m_Or (n : Nat) (hn : n ≤ maxLen) (g : Nat → Int) (x : Int) (hx : FirstNz n g x) : Meets Try.prog 135 [.c (.d (.sl 1 n fun i => [eI (g i)]))] ⟨.one (.c (.d (eI x))), [none]⟩ := by
  refine meets_of (H := []) (EX := EXA) ttok mixed Try.func135 rfl (by kernel_rfl) (by decide) ?_
  generalize hA : real = A
  generalize hM : MeetsB Try.prog = M
  cbv
  repeat' first
    | apply And.intro
    | exact True.intro
    | with_reducible rfl
    | exact same_of hA rfl
    | refine br_of hA (fun _ => ?_) (fun _ => ?_)
    | exact imp_of hA id
    | (refine imp_of hA ?_; subst hA; simp only [real, Bool.true_and]; exact id)
    | (refine ind_of hA ?_; decide +kernel)
  refine loop_of hA (α := { i : Nat // i ≤ n ∧ ∀ j, j < i → g j = 0 }) (fun x => stOr n g x.1) (fun x => n - x.1) ⟨0, Nat.zero_le _, fun j h => absurd h (Nat.not_lt_zero _)⟩ ?_ ?_
  · refine cov_of ?_ ?_ ?_
    · cbv; subst hA; exact ⟨rfl, rfl, trivial⟩
    · cbv
    · cbv
  rintro ⟨i, hi, hb⟩
  cbv
  repeat' first
    | apply And.intro
    | exact True.intro
    | with_reducible rfl
    | exact same_of hA rfl
    | refine br_of hA (fun _ => ?_) (fun _ => ?_)
    | exact imp_of hA id
    | (refine imp_of hA ?_; subst hA; simp only [real, Bool.true_and]; exact id)
    | (refine ind_of hA ?_; decide +kernel)
    | (refine inb_of hA fun _ => ?_; subst hA; simp only [real, decide_eq_true_eq, Int.ofNat_eq_natCast] at *; omega)
  · rename_i hlt hne
    subst hA
    simp only [real, decide_eq_true_eq, Int.ofNat_eq_natCast, Int.toNat_natCast, bne_iff_ne] at *
    obtain rfl := firstNz_one hx (.at i (by omega) hne hb)
    rfl
  · rename_i hlt hne
    have hlt' : i < n := by subst hA; simp only [real, decide_eq_true_eq, Int.ofNat_eq_natCast] at hlt; omega
    refine ⟨⟨i + 1, by omega, fun j hj => ?_⟩, by simp only; omega, cov_of ?_ ?_ ?_⟩
    · by_cases e : j = i
      · subst e
        subst hA
        simpa [real] using hne
      · exact hb j (by omega)
    · cbv
      subst hA
      exact ⟨congrArg (fun x => DV.v (.int .i64 x)) (up64 hlt' hn), trivial⟩
    · cbv
    · cbv
  · subst hA
    simp only [real, decide_eq_false_iff_not, Int.ofNat_eq_natCast] at *
    obtain rfl := firstNz_one hx (.none fun j hj => hb j (by omega))
    rfl
theorem two_of {A : Ar} (hA : real = A) (a b : Int) : A.sub 0 (A.app 1 (A.rep [eI a]) (A.app 1 (A.rep [eI b]) (A.rep [eI 0]))) = fun i => [eI (if i = 0 then a else if i = 1 then b else 0)] := by
  subst hA
  funext i
  rcases i with _ | _ | i
  · rfl
  · rfl
  · simp [real]
theorem c_Or (a b : Int) : ∃ x : Int, x = (if a = 0 then b else a) ∧ Meets Try.prog 135 [.c (.d (.sl 1 2 fun i => [eI (if i = 0 then a else if i = 1 then b else 0)]))] ⟨.one (.c (.d (eI x))), [none]⟩ := by
  obtain ⟨x, hx⟩ := firstNz_ex 2 fun i => if i = 0 then a else if i = 1 then b else 0
  exact ⟨x, firstNz_two hx, m_Or 2 (by decide) _ x hx⟩
set_option maxRecDepth 100000 in
theorem c_wcompare (s e s2 e2 : Int) : ∃ x : Int, x = (if s < s2 then -1 else if s2 < s then 1 else if e < e2 then -1 else if e2 < e then 1 else 0) ∧ Meets Try.prog 137 [.agg [.d (eI s), .d (eI e)], .agg [.d (eI s2), .d (eI e2)]] ⟨.one (.c (.d (eI x))), [none, none]⟩ := by
  obtain ⟨x, hx⟩ : ∃ x : Int, x = (if s < s2 then -1 else if s2 < s then 1 else if e < e2 then -1 else if e2 < e then 1 else 0) := ⟨_, rfl⟩
  refine ⟨x, hx, ?_⟩
  refine meets_of (H := []) (EX := EXA) ttok mixed Try.func137 rfl (by kernel_rfl) (by decide) ?_
  generalize hA : real = A
  generalize hM : MeetsB Try.prog = M
  cbv
  repeat' first
    | apply And.intro
    | exact True.intro
    | with_reducible rfl
    | exact same_of hA rfl
    | refine br_of hA (fun _ => ?_) (fun _ => ?_)
    | exact imp_of hA id
    | (refine imp_of hA ?_; subst hA; simp only [real, Bool.true_and]; exact id)
    | (refine ind_of hA ?_; decide +kernel)
    | (refine call_ex hA hM (c_Compare _ _) (fun _ _ => ?_); cbv)
    | (refine call_ex2 hA hM (c_Or _ _) (congrArg (fun f => [XT.c (.d (.sl 1 2 f))]) (two_of hA _ _)) (fun _ _ => ?_); cbv)
  all_goals subst hA
  all_goals refine congrArg (fun x => XA.one (.c (.d (eI x)))) ?_
  all_goals subst_vars
  all_goals try simp only [real, bifA, bifB, bifC, bifD, decide_eq_true_eq, decide_eq_false_iff_not, beq_iff_eq, bne_iff_ne, beq_eq_false_iff_ne, bne_eq_false_iff_eq, ne_eq, Bool.and_eq_true, Bool.or_eq_true, Bool.not_eq_true', Bool.not_eq_false', Bool.and_eq_false_iff, Bool.or_eq_false_iff, Bool.false_eq_true, reduceCtorEq] at *
  all_goals first
    | omega
    | skip
set_option maxRecDepth 100000 in
theorem c_rcompare (r q : RowT) : ∃ x : Int, x = (if r.key < q.key then -1 else if q.key < r.key then 1 else if r.win.s < q.win.s then -1 else if q.win.s < r.win.s then 1 else if r.win.e < q.win.e then -1 else if q.win.e < r.win.e then 1 else 0) ∧ Meets Try.prog 99 [xd (eRow r), xd (eRow q)] ⟨.one (.c (.d (eI x))), [none, none]⟩ := by
  obtain ⟨x, hx⟩ : ∃ x : Int, x = (if r.key < q.key then -1 else if q.key < r.key then 1 else if r.win.s < q.win.s then -1 else if q.win.s < r.win.s then 1 else if r.win.e < q.win.e then -1 else if q.win.e < r.win.e then 1 else 0) := ⟨_, rfl⟩
  refine ⟨x, hx, ?_⟩
  refine meets_of (H := []) (EX := EXA) ttok mixed Try.func99 rfl (by kernel_rfl) (by decide) ?_
  generalize hA : real = A
  generalize hM : MeetsB Try.prog = M
  cbv
  repeat' first
    | apply And.intro
    | exact True.intro
    | with_reducible rfl
    | exact same_of hA rfl
    | refine br_of hA (fun _ => ?_) (fun _ => ?_)
    | exact imp_of hA id
    | (refine imp_of hA ?_; subst hA; simp only [real, Bool.true_and]; exact id)
    | (refine ind_of hA ?_; decide +kernel)
    | (refine call_ex hA hM (c_Compare _ _) (fun _ _ => ?_); cbv)
    | (refine call_ex hA hM (c_wcompare _ _ _ _) (fun _ _ => ?_); cbv)
    | (refine call_ex2 hA hM (c_Or _ _) (congrArg (fun f => [XT.c (.d (.sl 1 2 f))]) (two_of hA _ _)) (fun _ _ => ?_); cbv)
  all_goals subst hA
  all_goals refine congrArg (fun x => XA.one (.c (.d (eI x)))) ?_
  all_goals subst_vars
  all_goals try simp only [real, bifA, bifB, bifC, bifD, decide_eq_true_eq, decide_eq_false_iff_not, beq_iff_eq, bne_iff_ne, beq_eq_false_iff_ne, bne_eq_false_iff_eq, ne_eq, Bool.and_eq_true, Bool.or_eq_true, Bool.not_eq_true', Bool.not_eq_false', Bool.and_eq_false_iff, Bool.or_eq_false_iff, Bool.false_eq_true, reduceCtorEq] at *
  all_goals first
    | omega
    | skip
set_option maxRecDepth 100000 in
theorem c_WinTouch (s e s2 e2 : Int) : ∃ b, b = decide (s < e2 ∧ s2 < e) ∧ Meets Try.prog 79 [.agg [.d (eI s), .d (eI e)], .agg [.d (eI s2), .d (eI e2)]] ⟨.one (.c (.d (eB b))), [none, none]⟩ := by
  obtain ⟨b, hb⟩ : ∃ b, b = decide (s < e2 ∧ s2 < e) := ⟨_, rfl⟩
  refine ⟨b, hb, ?_⟩
  refine meets_of (H := []) (EX := EXA) ttok mixed Try.func79 rfl (by kernel_rfl) (by decide) ?_
  generalize hA : real = A
  generalize hM : MeetsB Try.prog = M
  cbv
  repeat' first
    | apply And.intro
    | exact True.intro
    | with_reducible rfl
    | exact same_of hA rfl
    | refine br_of hA (fun _ => ?_) (fun _ => ?_)
    | exact imp_of hA id
    | (refine imp_of hA ?_; subst hA; simp only [real, Bool.true_and]; exact id)
    | (refine ind_of hA ?_; decide +kernel)
  all_goals subst hA
  all_goals refine congrArg (fun b => XA.one (.c (.d (eB b)))) (Bool.eq_iff_iff.2 ?_)
  all_goals subst_vars
  all_goals try simp only [real, bifA, bifB, bifC, bifD, decide_eq_true_eq, decide_eq_false_iff_not, beq_iff_eq, bne_iff_ne, beq_eq_false_iff_ne, bne_eq_false_iff_eq, ne_eq, Bool.and_eq_true, Bool.or_eq_true, Bool.not_eq_true', Bool.not_eq_false', Bool.and_eq_false_iff, Bool.or_eq_false_iff, Bool.false_eq_true, and_false, false_and, or_false, false_or, and_true, true_and, not_true_eq_false, not_false_eq_true, true_iff, false_iff, IntKind.wrap_i64] at *
  all_goals first
    | omega
    | skip
set_option maxRecDepth 100000 in
theorem c_sWinTouch (s e s2 e2 : Int) : ∃ b, b = decide (s < e2 ∧ s2 < e) ∧ Meets Try.prog 74 [.agg [.d (eI s), .d (eI e)], .agg [.d (eI s2), .d (eI e2)]] ⟨.one (.c (.d (eB b))), [none, none]⟩ := by
  obtain ⟨b, hb⟩ : ∃ b, b = decide (s < e2 ∧ s2 < e) := ⟨_, rfl⟩
  refine ⟨b, hb, ?_⟩
  refine meets_of (H := []) (EX := EXA) ttok mixed Try.func74 rfl (by kernel_rfl) (by decide) ?_
  generalize hA : real = A
  generalize hM : MeetsB Try.prog = M
  cbv
  repeat' first
    | apply And.intro
    | exact True.intro
    | with_reducible rfl
    | exact same_of hA rfl
    | refine br_of hA (fun _ => ?_) (fun _ => ?_)
    | exact imp_of hA id
    | (refine imp_of hA ?_; subst hA; simp only [real, Bool.true_and]; exact id)
    | (refine ind_of hA ?_; decide +kernel)
  all_goals subst hA
  all_goals refine congrArg (fun b => XA.one (.c (.d (eB b)))) (Bool.eq_iff_iff.2 ?_)
  all_goals subst_vars
  all_goals try simp only [real, bifA, bifB, bifC, bifD, decide_eq_true_eq, decide_eq_false_iff_not, beq_iff_eq, bne_iff_ne, beq_eq_false_iff_ne, bne_eq_false_iff_eq, ne_eq, Bool.and_eq_true, Bool.or_eq_true, Bool.not_eq_true', Bool.not_eq_false', Bool.and_eq_false_iff, Bool.or_eq_false_iff, Bool.false_eq_true, and_false, false_and, or_false, false_or, and_true, true_and, not_true_eq_false, not_false_eq_true, true_iff, false_iff, IntKind.wrap_i64] at *
  all_goals first
    | omega
    | skip
set_option maxRecDepth 100000 in
theorem c_l2Less (s e s2 e2 : Int) : ∃ b, b = decide (s < s2 ∨ (s = s2 ∧ e < e2)) ∧ Meets Try.prog 124 [.agg [.d (eI s), .d (eI e)], .agg [.d (eI s2), .d (eI e2)]] ⟨.one (.c (.d (eB b))), [none, none]⟩ := by
  obtain ⟨b, hb⟩ : ∃ b, b = decide (s < s2 ∨ (s = s2 ∧ e < e2)) := ⟨_, rfl⟩
  refine ⟨b, hb, ?_⟩
  refine meets_of (H := []) (EX := EXA) ttok mixed Try.func124 rfl (by kernel_rfl) (by decide) ?_
  generalize hA : real = A
  generalize hM : MeetsB Try.prog = M
  cbv
  repeat' first
    | apply And.intro
    | exact True.intro
    | with_reducible rfl
    | exact same_of hA rfl
    | refine br_of hA (fun _ => ?_) (fun _ => ?_)
    | exact imp_of hA id
    | (refine imp_of hA ?_; subst hA; simp only [real, Bool.true_and]; exact id)
    | (refine ind_of hA ?_; decide +kernel)
  all_goals subst hA
  all_goals refine congrArg (fun b => XA.one (.c (.d (eB b)))) (Bool.eq_iff_iff.2 ?_)
  all_goals subst_vars
  all_goals try simp only [real, bifA, bifB, bifC, bifD, decide_eq_true_eq, decide_eq_false_iff_not, beq_iff_eq, bne_iff_ne, beq_eq_false_iff_ne, bne_eq_false_iff_eq, ne_eq, Bool.and_eq_true, Bool.or_eq_true, Bool.not_eq_true', Bool.not_eq_false', Bool.and_eq_false_iff, Bool.or_eq_false_iff, Bool.false_eq_true, and_false, false_and, or_false, false_or, and_true, true_and, not_true_eq_false, not_false_eq_true, true_iff, false_iff, IntKind.wrap_i64] at *
  all_goals first
    | omega
    | skip
set_option maxRecDepth 100000 in
theorem c_l5Ahead (k s e k2 s2 e2 : Int) : ∃ b, b = decide (k < k2 ∨ (k = k2 ∧ (s < s2 ∨ (s = s2 ∧ e < e2)))) ∧ Meets Try.prog 73 [.c (.d (eI k)), .agg [.d (eI s), .d (eI e)], .c (.d (eI k2)), .agg [.d (eI s2), .d (eI e2)]] ⟨.one (.c (.d (eB b))), [none, none, none, none]⟩ := by
  obtain ⟨b, hb⟩ : ∃ b, b = decide (k < k2 ∨ (k = k2 ∧ (s < s2 ∨ (s = s2 ∧ e < e2)))) := ⟨_, rfl⟩
  refine ⟨b, hb, ?_⟩
  refine meets_of (H := []) (EX := EXA) ttok mixed Try.func73 rfl (by kernel_rfl) (by decide) ?_
  generalize hA : real = A
  generalize hM : MeetsB Try.prog = M
  cbv
  repeat' first
    | apply And.intro
    | exact True.intro
    | with_reducible rfl
    | exact same_of hA rfl
    | refine br_of hA (fun _ => ?_) (fun _ => ?_)
    | exact imp_of hA id
    | (refine imp_of hA ?_; subst hA; simp only [real, Bool.true_and]; exact id)
    | (refine ind_of hA ?_; decide +kernel)
    | (refine call_ex hA hM (c_l2Less _ _ _ _) (fun _ _ => ?_); cbv)
  all_goals subst hA
  all_goals refine congrArg (fun b => XA.one (.c (.d (eB b)))) (Bool.eq_iff_iff.2 ?_)
  all_goals subst_vars
  all_goals try simp only [real, bifA, bifB, bifC, bifD, decide_eq_true_eq, decide_eq_false_iff_not, beq_iff_eq, bne_iff_ne, beq_eq_false_iff_ne, bne_eq_false_iff_eq, ne_eq, Bool.and_eq_true, Bool.or_eq_true, Bool.not_eq_true', Bool.not_eq_false', Bool.and_eq_false_iff, Bool.or_eq_false_iff, Bool.false_eq_true, and_false, false_and, or_false, false_or, and_true, true_and, not_true_eq_false, not_false_eq_true, true_iff, false_iff, IntKind.wrap_i64] at *
  all_goals first
    | omega
    | skip
set_option maxRecDepth 100000 in
theorem c_AggOk (n sum least most : Int) : ∃ b, b = decide ((n = 0 ∧ sum = 0 ∧ least = 0 ∧ most = 0) ∨ (n ≠ 0 ∧ (1 ≤ n ∧ n ≤ 1000) ∧ (-9 ≤ least ∧ least ≤ 9) ∧ (least ≤ most ∧ most ≤ 9) ∧ (IntKind.i64.wrap (n * least) ≤ sum ∧ sum ≤ IntKind.i64.wrap (n * most)))) ∧ Meets Try.prog 109 [.agg [.d (eI n), .d (eI sum), .d (eI least), .d (eI most)]] ⟨.one (.c (.d (eB b))), [none]⟩ := by
  obtain ⟨b, hb⟩ : ∃ b, b = decide ((n = 0 ∧ sum = 0 ∧ least = 0 ∧ most = 0) ∨ (n ≠ 0 ∧ (1 ≤ n ∧ n ≤ 1000) ∧ (-9 ≤ least ∧ least ≤ 9) ∧ (least ≤ most ∧ most ≤ 9) ∧ (IntKind.i64.wrap (n * least) ≤ sum ∧ sum ≤ IntKind.i64.wrap (n * most)))) := ⟨_, rfl⟩
  refine ⟨b, hb, ?_⟩
  refine meets_of (H := []) (EX := EXA) ttok mixed Try.func109 rfl (by kernel_rfl) (by decide) ?_
  generalize hA : real = A
  generalize hM : MeetsB Try.prog = M
  cbv
  repeat' first
    | apply And.intro
    | exact True.intro
    | with_reducible rfl
    | exact same_of hA rfl
    | refine br_of hA (fun _ => ?_) (fun _ => ?_)
    | exact imp_of hA id
    | (refine imp_of hA ?_; subst hA; simp only [real, Bool.true_and]; exact id)
    | (refine ind_of hA ?_; decide +kernel)
    | (refine call_ex hA hM (c_in _ _ _) (fun _ _ => ?_); cbv)
  all_goals subst hA
  all_goals refine congrArg (fun b => XA.one (.c (.d (eB b)))) (Bool.eq_iff_iff.2 ?_)
  all_goals subst_vars
  all_goals try simp only [real, bifA, bifB, bifC, bifD, decide_eq_true_eq, decide_eq_false_iff_not, beq_iff_eq, bne_iff_ne, beq_eq_false_iff_ne, bne_eq_false_iff_eq, ne_eq, Bool.and_eq_true, Bool.or_eq_true, Bool.not_eq_true', Bool.not_eq_false', Bool.and_eq_false_iff, Bool.or_eq_false_iff, Bool.false_eq_true, and_false, false_and, or_false, false_or, and_true, true_and, not_true_eq_false, not_false_eq_true, true_iff, false_iff, IntKind.wrap_i64] at *
  all_goals first
    | omega
    | skip
set_option maxRecDepth 100000 in
theorem c_sAggOk (n sum least most : Int) : ∃ b, b = decide ((n = 0 ∧ sum = 0 ∧ least = 0 ∧ most = 0) ∨ (n ≠ 0 ∧ (1 ≤ n ∧ n ≤ 1000) ∧ (-9 ≤ least ∧ least ≤ 9) ∧ (least ≤ most ∧ most ≤ 9) ∧ (IntKind.i64.wrap (n * least) ≤ sum ∧ sum ≤ IntKind.i64.wrap (n * most)))) ∧ Meets Try.prog 123 [.agg [.d (eI n), .d (eI sum), .d (eI least), .d (eI most)]] ⟨.one (.c (.d (eB b))), [none]⟩ := by
  obtain ⟨b, hb⟩ : ∃ b, b = decide ((n = 0 ∧ sum = 0 ∧ least = 0 ∧ most = 0) ∨ (n ≠ 0 ∧ (1 ≤ n ∧ n ≤ 1000) ∧ (-9 ≤ least ∧ least ≤ 9) ∧ (least ≤ most ∧ most ≤ 9) ∧ (IntKind.i64.wrap (n * least) ≤ sum ∧ sum ≤ IntKind.i64.wrap (n * most)))) := ⟨_, rfl⟩
  refine ⟨b, hb, ?_⟩
  refine meets_of (H := []) (EX := EXA) ttok mixed Try.func123 rfl (by kernel_rfl) (by decide) ?_
  generalize hA : real = A
  generalize hM : MeetsB Try.prog = M
  cbv
  repeat' first
    | apply And.intro
    | exact True.intro
    | with_reducible rfl
    | exact same_of hA rfl
    | refine br_of hA (fun _ => ?_) (fun _ => ?_)
    | exact imp_of hA id
    | (refine imp_of hA ?_; subst hA; simp only [real, Bool.true_and]; exact id)
    | (refine ind_of hA ?_; decide +kernel)
    | (refine call_ex hA hM (c_l1In _ _ _) (fun _ _ => ?_); cbv)
  all_goals subst hA
  all_goals refine congrArg (fun b => XA.one (.c (.d (eB b)))) (Bool.eq_iff_iff.2 ?_)
  all_goals subst_vars
  all_goals try simp only [real, bifA, bifB, bifC, bifD, decide_eq_true_eq, decide_eq_false_iff_not, beq_iff_eq, bne_iff_ne, beq_eq_false_iff_ne, bne_eq_false_iff_eq, ne_eq, Bool.and_eq_true, Bool.or_eq_true, Bool.not_eq_true', Bool.not_eq_false', Bool.and_eq_false_iff, Bool.or_eq_false_iff, Bool.false_eq_true, and_false, false_and, or_false, false_or, and_true, true_and, not_true_eq_false, not_false_eq_true, true_iff, false_iff, IntKind.wrap_i64] at *
  all_goals first
    | omega
    | skip
end Go.Rk
/- First places. -/
namespace Go.Rk
set_option linter.unusedSimpArgs false
set_option linter.unusedVariables false
open Go.Proofs
def stIxRow1 (n : Nat) (g : Nat → RowT) (F : FuncId) (c0 : DV) (i : Nat) : St := ⟨[(8, .c (.d (eI i))), (7, .c (.d (eI n))), (0, .c (.d (.sl 13 n fun i => eRow (g i)))), (1, .c (.d (.fn F [c0])))], []⟩
set_option maxRecDepth 100000 in
theorem c_IndexRow1 (n : Nat) (hn : n ≤ maxLen) (g : Nat → RowT) (F : FuncId) (c0 : DV) (Q : RowT → Prop) (hc : ∀ r, ∃ b, (b = true ↔ Q r) ∧ Meets Try.prog F [xd (eRow r), .c (.d c0)] ⟨.one (.c (.d (eB b))), [none, none]⟩) : ∃ x, FirstIx n (fun i => Q (g i)) x ∧ Meets Try.prog 120 [.c (.d (.sl 13 n fun i => eRow (g i))), .c (.d (.fn F [c0]))] ⟨.one (.c (.d (eI x))), [none, none]⟩ := by
  obtain ⟨x, hx⟩ := firstIx_ex n fun i => Q (g i)
  refine ⟨x, hx, ?_⟩
  refine meets_of (H := []) (EX := EXA) ttok mixed Try.func120 rfl (by kernel_rfl) (by decide) ?_
  generalize hA : real = A
  generalize hM : MeetsB Try.prog = M
  cbv
  repeat' first
    | apply And.intro
    | exact True.intro
    | with_reducible rfl
    | exact same_of hA rfl
    | refine br_of hA (fun _ => ?_) (fun _ => ?_)
    | exact imp_of hA id
    | (refine imp_of hA ?_; subst hA; simp only [real, Bool.true_and]; exact id)
    | (refine ind_of hA ?_; decide +kernel)
  refine loop_of hA (α := { i : Nat // i ≤ n ∧ ∀ j, j < i → ¬ Q (g j) }) (fun x => stIxRow1 n g F c0 x.1) (fun x => n - x.1) ⟨0, Nat.zero_le _, fun j h => absurd h (Nat.not_lt_zero _)⟩ ?_ ?_
  · refine cov_of ?_ ?_ ?_
    · cbv; subst hA; exact ⟨rfl, rfl, trivial⟩
    · cbv
    · cbv
  rintro ⟨i, hi, hb⟩
  cbv
  repeat' first
    | apply And.intro
    | exact True.intro
    | with_reducible rfl
    | exact same_of hA rfl
    | refine br_of hA (fun _ => ?_) (fun _ => ?_)
    | exact imp_of hA id
    | (refine imp_of hA ?_; subst hA; simp only [real, Bool.true_and]; exact id)
    | (refine ind_of hA ?_; decide +kernel)
    | (refine inb_of hA fun _ => ?_; subst hA; simp only [real, decide_eq_true_eq, Int.ofNat_eq_natCast] at *; omega)
  · refine call_ex hA hM (hc (g (A.nat (Int.ofNat i)))) (fun b hbb => ?_)
    cbv
    repeat' first
      | apply And.intro
      | exact True.intro
      | with_reducible rfl
      | exact same_of hA rfl
      | refine br_of hA (fun _ => ?_) (fun _ => ?_)
      | exact imp_of hA id
      | (refine imp_of hA ?_; subst hA; simp only [real, Bool.true_and]; exact id)
      | (refine ind_of hA ?_; decide +kernel)
    · rename_i hlt ht
      subst hA
      simp only [real, decide_eq_true_eq, Int.ofNat_eq_natCast, Int.toNat_natCast] at *
      obtain rfl := firstIx_one hx (.at i (by omega) (hbb.1 ht) hb)
      rfl
    · rename_i hlt ht
      have hlt' : i < n := by subst hA; simp only [real, decide_eq_true_eq, Int.ofNat_eq_natCast] at hlt; omega
      refine ⟨⟨i + 1, by omega, fun j hj => ?_⟩, by simp only; omega, cov_of ?_ ?_ ?_⟩
      · by_cases e : j = i
        · subst e
          subst hA
          intro hq
          have := hbb.2 hq
          rw [ht] at this
          cases this
        · exact hb j (by omega)
      · cbv
        subst hA
        exact ⟨congrArg (fun x => DV.v (.int .i64 x)) (up64 hlt' hn), trivial⟩
      · cbv
      · cbv
  · subst hA
    simp only [real, decide_eq_false_iff_not, Int.ofNat_eq_natCast] at *
    obtain rfl := firstIx_one hx (.none fun j hj => hb j (by omega))
    rfl
set_option maxRecDepth 100000 in
theorem c_ContainsRow1 (n : Nat) (hn : n ≤ maxLen) (g : Nat → RowT) (F : FuncId) (c0 : DV) (Q : RowT → Prop) (hc : ∀ r, ∃ b, (b = true ↔ Q r) ∧ Meets Try.prog F [xd (eRow r), .c (.d c0)] ⟨.one (.c (.d (eB b))), [none, none]⟩) : ∃ b, (b = true ↔ ∃ i, i < n ∧ Q (g i)) ∧ Meets Try.prog 101 [.c (.d (.sl 13 n fun i => eRow (g i))), .c (.d (.fn F [c0]))] ⟨.one (.c (.d (eB b))), [none, none]⟩ := by
  obtain ⟨x, hx, hm⟩ := c_IndexRow1 n hn g F c0 Q hc
  obtain ⟨b, hb⟩ : ∃ b, b = decide (0 ≤ x) := ⟨_, rfl⟩
  have hxx := firstIx_neg hx
  refine ⟨b, by rw [hb, decide_eq_true_eq]; exact hxx.1, ?_⟩
  refine meets_of (H := []) (EX := EXA) ttok mixed Try.func101 rfl (by kernel_rfl) (by decide) ?_
  generalize hA : real = A
  generalize hM : MeetsB Try.prog = M
  cbv
  repeat' first
    | apply And.intro
    | exact True.intro
    | with_reducible rfl
    | exact same_of hA rfl
    | refine br_of hA (fun _ => ?_) (fun _ => ?_)
    | exact imp_of hA id
    | (refine imp_of hA ?_; subst hA; simp only [real, Bool.true_and]; exact id)
    | (refine ind_of hA ?_; decide +kernel)
    | (refine call_of hA hM _ hm ?_; cbv)
  all_goals subst hA
  all_goals refine congrArg (fun b => XA.one (.c (.d (eB b)))) (Bool.eq_iff_iff.2 ?_)
  all_goals subst_vars
  all_goals try simp only [real, bifA, bifB, bifC, bifD, decide_eq_true_eq, decide_eq_false_iff_not, beq_iff_eq, bne_iff_ne, beq_eq_false_iff_ne, bne_eq_false_iff_eq, ne_eq, Bool.and_eq_true, Bool.or_eq_true, Bool.not_eq_true', Bool.not_eq_false', Bool.and_eq_false_iff, Bool.or_eq_false_iff, Bool.false_eq_true, and_false, false_and, or_false, false_or, and_true, true_and, not_true_eq_false, not_false_eq_true, true_iff, false_iff, IntKind.wrap_i64] at *
  all_goals first
    | omega
    | skip
end Go.Rk
/- Rows. -/
namespace Go.Rk
set_option linter.unusedSimpArgs false
set_option linter.unusedVariables false
open Go.Proofs
theorem beqB (a b : Bool) : ((a == b) = true) = (a = true ↔ b = true) := by cases a <;> cases b <;> simp
theorem beqI (a b : Int) : ((a == b) = true) = (a = b) := by simp
theorem bneI (a b : Int) : ((a != b) = true) = ¬ (a = b) := by simp
theorem beqIF (a b : Int) : ((a == b) = false) = ¬ (a = b) := by simp
theorem bneIF (a b : Int) : ((a != b) = false) = (a = b) := by simp
open Classical in
set_option maxRecDepth 100000 in
theorem c_rowOk (j : JobT) (r : RowT) (mark : Int) : ∃ b, (b = true ↔ RowOkP j r mark) ∧ Meets Try.prog 98 [xd (eRow r), xd (eJob j), .c (.d (eI mark))] ⟨.one (.c (.d (eB b))), [none, none, none]⟩ := by
  obtain ⟨b, hb⟩ : ∃ b, b = decide (RowOkP j r mark) := ⟨_, rfl⟩
  refine ⟨b, by rw [hb, decide_eq_true_eq], ?_⟩
  refine meets_of (H := []) (EX := EXA) ttok mixed Try.func98 rfl (by kernel_rfl) (by decide) ?_
  generalize hA : real = A
  generalize hM : MeetsB Try.prog = M
  cbv
  repeat' first
    | apply And.intro
    | exact True.intro
    | with_reducible rfl
    | exact same_of hA rfl
    | refine br_of hA (fun _ => ?_) (fun _ => ?_)
    | exact imp_of hA id
    | (refine imp_of hA ?_; subst hA; simp only [real, Bool.true_and]; exact id)
    | (refine ind_of hA ?_; decide +kernel)
    | (refine call_ex hA hM (c_in _ _ _) (fun _ _ => ?_); cbv)
    | (refine call_ex hA hM (c_isKey _) (fun _ _ => ?_); cbv)
    | (refine call_ex hA hM (c_WinOk _ _) (fun _ _ => ?_); cbv)
    | (refine call_ex hA hM (c_AggOk _ _ _ _) (fun _ _ => ?_); cbv)
  all_goals obtain ⟨key, ⟨s, e⟩, ⟨n1, sum1, least1, most1⟩, ⟨n2, sum2, least2, most2⟩, told, timely⟩ := r
  all_goals obtain ⟨_, _, _, _, _, late, _, _, _, _⟩ := j
  all_goals subst hA
  all_goals refine congrArg (fun b => XA.one (.c (.d (eB b)))) (Bool.eq_iff_iff.2 ?_)
  all_goals subst_vars
  all_goals simp only [real, bifA, bifB, bifC, bifD, beqB, decide_eq_true_eq, decide_eq_false_iff_not, beqI, bneI, beqIF, bneIF, ne_eq, Bool.and_eq_true, Bool.or_eq_true, Bool.not_eq_true', Bool.not_eq_false', Bool.and_eq_false_iff, Bool.or_eq_false_iff, Bool.false_eq_true, and_false, false_and, or_false, false_or, and_true, true_and, not_true_eq_false, not_false_eq_true, true_iff, false_iff, IntKind.wrap_i64, RowOkP, WinOkP, AggOkP] at *
  all_goals first
    | omega
    | (cases timely <;> simp only [true_iff, false_iff, iff_true, iff_false, Bool.false_eq_true, not_true_eq_false, not_false_eq_true, reduceCtorEq] at * <;> omega)
open Classical in
set_option maxRecDepth 100000 in
theorem c_l7Row (j : JobT) (r : RowT) (mark : Int) : ∃ b, (b = true ↔ RowOkP j r mark) ∧ Meets Try.prog 72 [xd (eJob j), xd (eRow r), .c (.d (eI mark))] ⟨.one (.c (.d (eB b))), [none, none, none]⟩ := by
  obtain ⟨b, hb⟩ : ∃ b, b = decide (RowOkP j r mark) := ⟨_, rfl⟩
  refine ⟨b, by rw [hb, decide_eq_true_eq], ?_⟩
  refine meets_of (H := []) (EX := EXA) ttok mixed Try.func72 rfl (by kernel_rfl) (by decide) ?_
  generalize hA : real = A
  generalize hM : MeetsB Try.prog = M
  cbv
  repeat' first
    | apply And.intro
    | exact True.intro
    | with_reducible rfl
    | exact same_of hA rfl
    | refine br_of hA (fun _ => ?_) (fun _ => ?_)
    | exact imp_of hA id
    | (refine imp_of hA ?_; subst hA; simp only [real, Bool.true_and]; exact id)
    | (refine ind_of hA ?_; decide +kernel)
    | (refine call_ex hA hM (c_l1In _ _ _) (fun _ _ => ?_); cbv)
    | (refine call_ex hA hM (c_sWinOk _ _) (fun _ _ => ?_); cbv)
    | (refine call_ex hA hM (c_sAggOk _ _ _ _) (fun _ _ => ?_); cbv)
  all_goals obtain ⟨key, ⟨s, e⟩, ⟨n1, sum1, least1, most1⟩, ⟨n2, sum2, least2, most2⟩, told, timely⟩ := r
  all_goals obtain ⟨_, _, _, _, _, late, _, _, _, _⟩ := j
  all_goals subst hA
  all_goals refine congrArg (fun b => XA.one (.c (.d (eB b)))) (Bool.eq_iff_iff.2 ?_)
  all_goals subst_vars
  all_goals simp only [real, bifA, bifB, bifC, bifD, beqB, decide_eq_true_eq, decide_eq_false_iff_not, beqI, bneI, beqIF, bneIF, ne_eq, Bool.and_eq_true, Bool.or_eq_true, Bool.not_eq_true', Bool.not_eq_false', Bool.and_eq_false_iff, Bool.or_eq_false_iff, Bool.false_eq_true, and_false, false_and, or_false, false_or, and_true, true_and, not_true_eq_false, not_false_eq_true, true_iff, false_iff, IntKind.wrap_i64, RowOkP, WinOkP, AggOkP] at *
  all_goals first
    | omega
    | (cases timely <;> simp only [true_iff, false_iff, iff_true, iff_false, Bool.false_eq_true, not_true_eq_false, not_false_eq_true, reduceCtorEq] at * <;> omega)
end Go.Rk
/- Operators. -/
namespace Go.Rk
set_option linter.unusedSimpArgs false
set_option linter.unusedVariables false
open Go.Proofs
def OkAt (j : JobT) (mark : Int) (g : Nat → RowT) (i : Nat) : Prop := RowOkP j (g i) mark ∧ (0 < i → AheadP (g (i - 1)).key (g (i - 1)).win (g i).key (g i).win) ∧
    (j.kind = 3 → ∀ k, k < i → ¬ ((g k).key = (g i).key ∧ TouchP (g k).win (g i).win))
theorem down64 {i : Nat} (h : 0 < i) (hn : i ≤ maxLen) : (IntKind.i64.wrap ((i : Int) - 1)).toNat = i - 1 := by
  have hm : maxLen = 9223372036854775807 := by decide
  rw [hm] at hn
  rw [IntWalk.i64_in _ (by omega)]
  omega
theorem c_rcmpA (r q : RowT) : ∃ x : Int, (x < 0 ↔ AheadP r.key r.win q.key q.win) ∧ Meets Try.prog 99 [xd (eRow r), xd (eRow q)] ⟨.one (.c (.d (eI x))), [none, none]⟩ := by
  obtain ⟨x, hx, hm⟩ := c_rcompare r q
  refine ⟨x, ?_, hm⟩
  unfold AheadP WinLt
  omega
set_option maxRecDepth 100000 in
theorem c_OpOk1 (r q : RowT) : ∃ b, (b = true ↔ q.key = r.key ∧ TouchP q.win r.win) ∧ Meets Try.prog 100 [xd (eRow q), .c (.d (.p (eRow r)))] ⟨.one (.c (.d (eB b))), [none, none]⟩ := by
  obtain ⟨b, hb⟩ : ∃ b, b = decide (q.key = r.key ∧ q.win.s < r.win.e ∧ r.win.s < q.win.e) := ⟨_, rfl⟩
  refine ⟨b, by rw [hb, decide_eq_true_eq]; exact Iff.rfl, ?_⟩
  refine meets_of (H := []) (EX := EXA) ttok mixed Try.func100 rfl (by kernel_rfl) (by decide) ?_
  generalize hA : real = A
  generalize hM : MeetsB Try.prog = M
  cbv
  repeat' first
    | apply And.intro
    | exact True.intro
    | with_reducible rfl
    | exact same_of hA rfl
    | refine br_of hA (fun _ => ?_) (fun _ => ?_)
    | exact imp_of hA id
    | (refine imp_of hA ?_; subst hA; simp only [real, Bool.true_and]; exact id)
    | (refine ind_of hA ?_; decide +kernel)
    | (refine call_ex hA hM (c_WinTouch _ _ _ _) (fun _ _ => ?_); cbv)
  all_goals subst hA
  all_goals refine congrArg (fun b => XA.one (.c (.d (eB b)))) (Bool.eq_iff_iff.2 ?_)
  all_goals subst_vars
  all_goals try simp only [real, bifA, bifB, bifC, bifD, decide_eq_true_eq, decide_eq_false_iff_not, beq_iff_eq, bne_iff_ne, beq_eq_false_iff_ne, bne_eq_false_iff_eq, ne_eq, Bool.and_eq_true, Bool.or_eq_true, Bool.not_eq_true', Bool.not_eq_false', Bool.and_eq_false_iff, Bool.or_eq_false_iff, Bool.false_eq_true, and_false, false_and, or_false, false_or, and_true, true_and, not_true_eq_false, not_false_eq_true, true_iff, false_iff, IntKind.wrap_i64] at *
  all_goals first
    | omega
    | skip
def stOk (j : JobT) (mark : Int) (n : Nat) (g : Nat → RowT) (i : Nat) : St := ⟨[(26, .c (.d (eI i))), (25, .c (.d (eI n))), (24, .c (.d (.sl 13 n fun i => eRow (g i)))), (2, .c (.bp 128 1 0)), (3, .c (.bp 192 1 0))], [(128, 1, .box ((eJob j).map .d)), (192, 1, .box ([eI mark, .sl 13 n fun i => eRow (g i)].map .d))]⟩
open Classical in
set_option maxRecDepth 100000 in
theorem c_OpOk (j : JobT) (s : OpStT) : ∃ b, (b = true ↔ OpOkP j s) ∧ Meets Try.prog 46 [xd (eJob j), xd (eOpSt s)] ⟨.one (.c (.d (eB b))), [none, none]⟩ := by
  obtain ⟨b, hb⟩ : ∃ b : Bool, (b = true ↔ OpOkP j s) := ⟨decide (OpOkP j s), by rw [decide_eq_true_eq]⟩
  refine ⟨b, hb, ?_⟩
  obtain ⟨mark, n, g, hn⟩ := s
  show Meets Try.prog 46 [xd (eJob j), xd [eI mark, .sl 13 n fun i => eRow (g i)]] _
  refine meets_of (H := []) (EX := EXA) ttok mixed Try.func46 rfl (by kernel_rfl) (by decide) ?_
  generalize hA : real = A
  generalize hM : MeetsB Try.prog = M
  cbv
  repeat' first
    | apply And.intro
    | exact True.intro
    | with_reducible rfl
    | exact same_of hA rfl
    | refine br_of hA (fun _ => ?_) (fun _ => ?_)
    | exact imp_of hA id
    | (refine imp_of hA ?_; subst hA; simp only [real, Bool.true_and]; exact id)
    | (refine ind_of hA ?_; decide +kernel)
    | (refine call_ex hA hM (c_JobOk _ _ _ _ _ _ _ _ _ _) (fun _ _ => ?_); cbv)
    | (refine call_ex hA hM (c_isTime _) (fun _ _ => ?_); cbv)
  · rename_i hbad
    subst hA; subst_vars
    refine congrArg (fun b => XA.one (.c (.d (eB b)))) ?_
    simp only [real, bifA, bifB, bifC, bifD, beqB, decide_eq_true_eq, decide_eq_false_iff_not, beqI, bneI, beqIF, bneIF, ne_eq, Bool.and_eq_true, Bool.or_eq_true, Bool.not_eq_true', Bool.not_eq_false', Bool.and_eq_false_iff, Bool.or_eq_false_iff, Bool.false_eq_true, and_false, false_and, or_false, false_or, and_true, true_and, not_true_eq_false, not_false_eq_true, true_iff, false_iff, Int.ofNat_eq_natCast, Int.toNat_natCast] at hbad
    cases b with
    | false => rfl
    | true =>
      exfalso
      obtain ⟨h1, h2, h3, _⟩ := hb.1 rfl
      unfold JobOkP at h1
      simp only at h2 h3
      omega
  rename_i hgood
  have hpre : JobOkP j ∧ (0 ≤ mark ∧ mark ≤ 1000) ∧ n ≤ 300 := by
    subst hA; subst_vars
    simp only [real, bifA, bifB, bifC, bifD, beqB, decide_eq_true_eq, decide_eq_false_iff_not, beqI, bneI, beqIF, bneIF, ne_eq, Bool.and_eq_true, Bool.or_eq_true, Bool.not_eq_true', Bool.not_eq_false', Bool.and_eq_false_iff, Bool.or_eq_false_iff, Bool.false_eq_true, and_false, false_and, or_false, false_or, and_true, true_and, not_true_eq_false, not_false_eq_true, true_iff, false_iff, Int.ofNat_eq_natCast, Int.toNat_natCast] at hgood
    unfold JobOkP
    omega
  clear hgood
  refine loop_of hA (α := { i : Nat // i ≤ n ∧ ∀ k, k < i → OkAt j mark g k }) (fun x => stOk j mark n g x.1) (fun x => n - x.1) ⟨0, Nat.zero_le _, fun j h => absurd h (Nat.not_lt_zero _)⟩ ?_ ?_
  · refine cov_of ?_ ?_ ?_
    · cbv; subst hA; repeat' first | apply And.intro | exact True.intro | rfl
    · cbv; try (repeat' first | apply And.intro | exact True.intro | rfl)
    · cbv
  rintro ⟨i, hi, hk⟩
  cbv
  repeat' first
    | apply And.intro
    | exact True.intro
    | with_reducible rfl
    | exact same_of hA rfl
    | refine br_of hA (fun _ => ?_) (fun _ => ?_)
    | exact imp_of hA id
    | (refine imp_of hA ?_; subst hA; simp only [real, Bool.true_and]; exact id)
    | (refine ind_of hA ?_; decide +kernel)
    | (refine call_ex hA hM (c_rowOk _ _ _) (fun _ _ => ?_); cbv)
    | (refine call_ex hA hM (c_rcmpA _ _) (fun _ _ => ?_); cbv)
    | (refine inb_of hA fun _ => ?_; subst hA; simp only [real, Bool.and_eq_true, Bool.not_eq_true', Bool.not_eq_false', decide_eq_true_eq, Int.ofNat_eq_natCast, IntKind.wrap_i64] at *; omega)
    | (refine cut_of hA ?_; subst hA; simp only [real, decide_eq_true_eq, Int.ofNat_eq_natCast] at *; omega)
    | (refine call_ex2 hA hM (c_ContainsRow1 i (Nat.le_trans hi hn) g 100 (.p (eRow (g (A.nat (Int.ofNat i))))) _ (fun q => c_OpOk1 (g (A.nat (Int.ofNat i))) q)) (congrArg (fun d => [XT.c (.d d), XT.c (.d (.fn 100 [.p (eRow (g (A.nat (Int.ofNat i))))]))]) (sl0 hA _ _ _)) (fun _ _ => ?_); cbv)
  · rename_i hlt b1 hb1 x hx hc
    subst hA
    refine congrArg (fun b => XA.one (.c (.d (eB b)))) ?_
    simp only [real, bifA, bifB, bifC, bifD, beqB, decide_eq_true_eq, decide_eq_false_iff_not, beqI, bneI, beqIF, bneIF, ne_eq, Bool.and_eq_true, Bool.or_eq_true, Bool.not_eq_true', Bool.not_eq_false', Bool.and_eq_false_iff, Bool.or_eq_false_iff, Bool.false_eq_true, and_false, false_and, or_false, false_or, and_true, true_and, not_true_eq_false, not_false_eq_true, true_iff, false_iff, Int.ofNat_eq_natCast, Int.toNat_natCast] at hlt hb1 hx hc
    cases b with
    | false => rfl
    | true =>
      exfalso
      have h : OkAt j mark g i := (hb.1 rfl).2.2.2 i (show i < n by omega)
      rcases hc with hc | hc
      · have := hb1.2 h.1; rw [hc] at this; cases this
      · rw [down64 (by omega) (Nat.le_trans hi hn)] at hx
        have := hx.2 (h.2.1 (by omega)); omega
  · rename_i hlt b1 hb1 x hx hc b2 hb2 hc2
    subst hA
    refine congrArg (fun b => XA.one (.c (.d (eB b)))) ?_
    simp only [real, bifA, bifB, bifC, bifD, beqB, decide_eq_true_eq, decide_eq_false_iff_not, beqI, bneI, beqIF, bneIF, ne_eq, Bool.and_eq_true, Bool.or_eq_true, Bool.not_eq_true', Bool.not_eq_false', Bool.and_eq_false_iff, Bool.or_eq_false_iff, Bool.false_eq_true, and_false, false_and, or_false, false_or, and_true, true_and, not_true_eq_false, not_false_eq_true, true_iff, false_iff, Int.ofNat_eq_natCast, Int.toNat_natCast] at hlt hb2 hc2
    cases b with
    | false => rfl
    | true =>
      exfalso
      have h : OkAt j mark g i := (hb.1 rfl).2.2.2 i (show i < n by omega)
      obtain ⟨k, hk1, hk2⟩ := hb2.1 hc2.2
      exact h.2.2 hc2.1 k hk1 hk2
  · rename_i hlt b1 hb1 x hx hc b2 hb2 hc2
    have hlt' : i < n := by subst hA; simp only [real, decide_eq_true_eq, Int.ofNat_eq_natCast] at hlt; omega
    refine ⟨⟨i + 1, by omega, fun k hk' => ?_⟩, by simp only; omega, cov_of ?_ ?_ ?_⟩
    · by_cases e : k = i
      · subst e
        subst hA
        simp only [real, bifA, bifB, bifC, bifD, beqB, decide_eq_true_eq, decide_eq_false_iff_not, beqI, bneI, beqIF, bneIF, ne_eq, Bool.and_eq_true, Bool.or_eq_true, Bool.not_eq_true', Bool.not_eq_false', Bool.and_eq_false_iff, Bool.or_eq_false_iff, Bool.false_eq_true, and_false, false_and, or_false, false_or, and_true, true_and, not_true_eq_false, not_false_eq_true, true_iff, false_iff, Int.ofNat_eq_natCast, Int.toNat_natCast] at hlt hb1 hx hc hb2 hc2
        refine ⟨hb1.1 (by cases b1 <;> simp_all), fun hp => ?_, fun h3 q hq hqq => ?_⟩
        · rw [down64 hp (Nat.le_trans hi hn)] at hx
          refine hx.1 ?_
          rcases hc.2 with h | h <;> omega
        · rcases hc2 with h | h
          · exact h h3
          · have := hb2.2 ⟨q, hq, hqq⟩; rw [h] at this; cases this
      · exact hk k (by omega)
    · cbv
      subst hA
      exact ⟨congrArg (fun x => DV.v (.int .i64 x)) (up64 hlt' hn), trivial⟩
    · cbv; try (repeat' first | apply And.intro | exact True.intro | rfl)
    · cbv
  · rename_i hge
    refine congrArg (fun b => XA.one (.c (.d (eB b)))) ?_
    refine (hb.2 ⟨hpre.1, hpre.2.1, hpre.2.2, fun k hk' => ?_⟩).symm
    have hk' : k < n := hk'
    exact hk k (by subst hA; simp only [real, decide_eq_false_iff_not, Int.ofNat_eq_natCast] at hge; omega)
end Go.Rk
/- Operators, as the reference has them. -/
namespace Go.Rk
set_option linter.unusedSimpArgs false
set_option linter.unusedVariables false
open Go.Proofs
def stOks (j : JobT) (mark : Int) (n : Nat) (g : Nat → RowT) (i : Nat) : St := ⟨[(5, .c (.d (eI i))), (2, .c (.bp 128 1 0)), (3, .c (.bp 192 1 0))], [(128, 1, .box ((eJob j).map .d)), (192, 1, .box ([eI mark, .sl 13 n fun i => eRow (g i)].map .d))]⟩
def stOkt (j : JobT) (mark : Int) (n : Nat) (g : Nat → RowT) (i k : Nat) : St := ⟨[(7, .c (.d (eI k))), (5, .c (.d (eI i))), (6, .c (.bp 384 1 0)), (2, .c (.bp 128 1 0)), (3, .c (.bp 192 1 0))], [(384, 1, .box ((eRow (g i)).map .d)), (128, 1, .box ((eJob j).map .d)), (192, 1, .box ([eI mark, .sl 13 n fun i => eRow (g i)].map .d))]⟩
theorem c_l5A (k s e k2 s2 e2 : Int) : ∃ b, (b = true ↔ AheadP k ⟨s, e⟩ k2 ⟨s2, e2⟩) ∧ Meets Try.prog 73 [.c (.d (eI k)), .agg [.d (eI s), .d (eI e)], .c (.d (eI k2)), .agg [.d (eI s2), .d (eI e2)]] ⟨.one (.c (.d (eB b))), [none, none, none, none]⟩ := by
  obtain ⟨b, hb, hm⟩ := c_l5Ahead k s e k2 s2 e2
  exact ⟨b, by rw [hb, decide_eq_true_eq]; exact Iff.rfl, hm⟩
theorem c_sTouchP (s e s2 e2 : Int) : ∃ b, (b = true ↔ TouchP ⟨s, e⟩ ⟨s2, e2⟩) ∧ Meets Try.prog 74 [.agg [.d (eI s), .d (eI e)], .agg [.d (eI s2), .d (eI e2)]] ⟨.one (.c (.d (eB b))), [none, none]⟩ := by
  obtain ⟨b, hb, hm⟩ := c_sWinTouch s e s2 e2
  exact ⟨b, by rw [hb, decide_eq_true_eq]; exact Iff.rfl, hm⟩
open Classical in
set_option maxRecDepth 100000 in
theorem c_sOpOk (j : JobT) (s : OpStT) : ∃ b, (b = true ↔ OpOkP j s) ∧ Meets Try.prog 26 [xd (eJob j), xd (eOpSt s)] ⟨.one (.c (.d (eB b))), [none, none]⟩ := by
  obtain ⟨b, hb⟩ : ∃ b : Bool, (b = true ↔ OpOkP j s) := ⟨decide (OpOkP j s), by rw [decide_eq_true_eq]⟩
  refine ⟨b, hb, ?_⟩
  obtain ⟨mark, n, g, hn⟩ := s
  show Meets Try.prog 26 [xd (eJob j), xd [eI mark, .sl 13 n fun i => eRow (g i)]] _
  refine meets_of (H := []) (EX := EXA) ttok mixed Try.func26 rfl (by kernel_rfl) (by decide) ?_
  generalize hA : real = A
  generalize hM : MeetsB Try.prog = M
  cbv
  repeat' first
    | apply And.intro
    | exact True.intro
    | with_reducible rfl
    | exact same_of hA rfl
    | refine br_of hA (fun _ => ?_) (fun _ => ?_)
    | exact imp_of hA id
    | (refine imp_of hA ?_; subst hA; simp only [real, Bool.true_and]; exact id)
    | (refine ind_of hA ?_; decide +kernel)
    | (refine call_ex hA hM (c_sJobOk _ _ _ _ _ _ _ _ _ _) (fun _ _ => ?_); cbv)
    | (refine call_ex hA hM (c_l1In _ _ _) (fun _ _ => ?_); cbv)
  · rename_i hbad
    subst hA; subst_vars
    refine congrArg (fun b => XA.one (.c (.d (eB b)))) ?_
    simp only [real, bifA, bifB, bifC, bifD, beqB, decide_eq_true_eq, decide_eq_false_iff_not, beqI, bneI, beqIF, bneIF, ne_eq, Bool.and_eq_true, Bool.or_eq_true, Bool.not_eq_true', Bool.not_eq_false', Bool.and_eq_false_iff, Bool.or_eq_false_iff, Bool.false_eq_true, and_false, false_and, or_false, false_or, and_true, true_and, not_true_eq_false, not_false_eq_true, true_iff, false_iff, Int.ofNat_eq_natCast, Int.toNat_natCast] at hbad
    cases b with
    | false => rfl
    | true =>
      exfalso
      obtain ⟨h1, h2, h3, _⟩ := hb.1 rfl
      unfold JobOkP at h1
      simp only at h2 h3
      omega
  rename_i hgood
  have hpre : JobOkP j ∧ (0 ≤ mark ∧ mark ≤ 1000) ∧ n ≤ 300 := by
    subst hA; subst_vars
    simp only [real, bifA, bifB, bifC, bifD, beqB, decide_eq_true_eq, decide_eq_false_iff_not, beqI, bneI, beqIF, bneIF, ne_eq, Bool.and_eq_true, Bool.or_eq_true, Bool.not_eq_true', Bool.not_eq_false', Bool.and_eq_false_iff, Bool.or_eq_false_iff, Bool.false_eq_true, and_false, false_and, or_false, false_or, and_true, true_and, not_true_eq_false, not_false_eq_true, true_iff, false_iff, Int.ofNat_eq_natCast, Int.toNat_natCast] at hgood
    unfold JobOkP
    omega
  clear hgood
  refine loop_of hA (α := { i : Nat // i ≤ n ∧ ∀ k, k < i → OkAt j mark g k }) (fun x => stOks j mark n g x.1) (fun x => n - x.1) ⟨0, Nat.zero_le _, fun j h => absurd h (Nat.not_lt_zero _)⟩ ?_ ?_
  · refine cov_of ?_ ?_ ?_
    · cbv; try (subst hA; repeat' first | apply And.intro | exact True.intro | rfl)
    · cbv; try (repeat' first | apply And.intro | exact True.intro | rfl)
    · cbv
  rintro ⟨i, hi, hk⟩
  cbv
  repeat' first
    | apply And.intro
    | exact True.intro
    | with_reducible rfl
    | exact same_of hA rfl
    | refine br_of hA (fun _ => ?_) (fun _ => ?_)
    | exact imp_of hA id
    | (refine imp_of hA ?_; subst hA; simp only [real, Bool.true_and]; exact id)
    | (refine ind_of hA ?_; decide +kernel)
    | (refine call_ex hA hM (c_l7Row _ _ _) (fun _ _ => ?_); cbv)
    | (refine call_ex hA hM (c_l5A _ _ _ _ _ _) (fun _ _ => ?_); cbv)
    | (refine inb_of hA fun _ => ?_; subst hA; simp only [real, Bool.and_eq_true, Bool.not_eq_true', Bool.not_eq_false', decide_eq_true_eq, Int.ofNat_eq_natCast, IntKind.wrap_i64] at *; omega)
  · rename_i hlt b1 hb1 b2 hb2 hc
    subst hA
    refine congrArg (fun b => XA.one (.c (.d (eB b)))) ?_
    simp only [real, bifA, bifB, bifC, bifD, beqB, decide_eq_true_eq, decide_eq_false_iff_not, beqI, bneI, beqIF, bneIF, ne_eq, Bool.and_eq_true, Bool.or_eq_true, Bool.not_eq_true', Bool.not_eq_false', Bool.and_eq_false_iff, Bool.or_eq_false_iff, Bool.false_eq_true, and_false, false_and, or_false, false_or, and_true, true_and, not_true_eq_false, not_false_eq_true, true_iff, false_iff, Int.ofNat_eq_natCast, Int.toNat_natCast] at hlt hb1 hb2 hc
    cases b with
    | false => rfl
    | true =>
      exfalso
      have h : OkAt j mark g i := (hb.1 rfl).2.2.2 i (show i < n by omega)
      rcases hc with hc | hc
      · have := hb1.2 h.1; rw [hc] at this; cases this
      · rw [down64 (by omega) (Nat.le_trans hi hn)] at hb2
        have h2 := hb2.2 (h.2.1 (by omega))
        rw [hc.2] at h2
        cases h2
  · rename_i hlt b1 hb1 b2 hb2 hc
    have hlt' : i < n := by subst hA; simp only [real, decide_eq_true_eq, Int.ofNat_eq_natCast] at hlt; omega
    have hrow : RowOkP j (g i) mark ∧ (0 < i → AheadP (g (i - 1)).key (g (i - 1)).win (g i).key (g i).win) := by
      subst hA
      simp only [real, bifA, bifB, bifC, bifD, beqB, decide_eq_true_eq, decide_eq_false_iff_not, beqI, bneI, beqIF, bneIF, ne_eq, Bool.and_eq_true, Bool.or_eq_true, Bool.not_eq_true', Bool.not_eq_false', Bool.and_eq_false_iff, Bool.or_eq_false_iff, Bool.false_eq_true, and_false, false_and, or_false, false_or, and_true, true_and, not_true_eq_false, not_false_eq_true, true_iff, false_iff, Int.ofNat_eq_natCast, Int.toNat_natCast] at hlt hb1 hb2 hc
      refine ⟨hb1.1 (by cases b1 <;> simp_all), fun hp => ?_⟩
      rw [down64 hp (Nat.le_trans hi hn)] at hb2
      rcases hc.2 with h | h
      · omega
      · exact hb2.1 h
    clear hb1 hb2 hc
    refine loop_of hA (α := { k : Nat // k ≤ i ∧ (0 < k → j.kind = 3) ∧ ∀ q, q < k → ¬ ((g q).key = (g i).key ∧ TouchP (g q).win (g i).win) }) (fun x => stOkt j mark n g i x.1) (fun x => i - x.1) ⟨0, Nat.zero_le _, fun h => absurd h (Nat.lt_irrefl _), fun j h => absurd h (Nat.not_lt_zero _)⟩ ?_ ?_
    · refine cov_of ?_ ?_ ?_
      · cbv; try (repeat' first | apply And.intro | exact True.intro | rfl)
      · cbv; try (subst hA; repeat' first | apply And.intro | exact True.intro | rfl)
      · cbv
    rintro ⟨k, hki, hk3, hkq⟩
    cbv
    repeat' first
      | apply And.intro
      | exact True.intro
      | with_reducible rfl
      | exact same_of hA rfl
      | refine br_of hA (fun _ => ?_) (fun _ => ?_)
      | exact imp_of hA id
      | (refine imp_of hA ?_; subst hA; simp only [real, Bool.true_and]; exact id)
      | (refine ind_of hA ?_; decide +kernel)
      | (refine call_ex hA hM (c_sTouchP _ _ _ _) (fun _ _ => ?_); cbv)
      | (refine inb_of hA fun _ => ?_; subst hA; simp only [real, Bool.and_eq_true, Bool.not_eq_true', Bool.not_eq_false', decide_eq_true_eq, Int.ofNat_eq_natCast, IntKind.wrap_i64] at *; omega)
    · rename_i hl b3 hb3 hc
      subst hA
      refine congrArg (fun b => XA.one (.c (.d (eB b)))) ?_
      simp only [real, bifA, bifB, bifC, bifD, beqB, decide_eq_true_eq, decide_eq_false_iff_not, beqI, bneI, beqIF, bneIF, ne_eq, Bool.and_eq_true, Bool.or_eq_true, Bool.not_eq_true', Bool.not_eq_false', Bool.and_eq_false_iff, Bool.or_eq_false_iff, Bool.false_eq_true, and_false, false_and, or_false, false_or, and_true, true_and, not_true_eq_false, not_false_eq_true, true_iff, false_iff, Int.ofNat_eq_natCast, Int.toNat_natCast] at hl hc
      cases b with
      | false => rfl
      | true =>
        exfalso
        have h : OkAt j mark g i := (hb.1 rfl).2.2.2 i hlt'
        exact h.2.2 hl.2 k (by omega) ⟨hc.1, hb3.1 hc.2⟩
    · rename_i hl b3 hb3 hc
      have hlk : k < i ∧ j.kind = 3 := by subst hA; simp only [real, bifA, bifB, bifC, bifD, beqB, decide_eq_true_eq, decide_eq_false_iff_not, beqI, bneI, beqIF, bneIF, ne_eq, Bool.and_eq_true, Bool.or_eq_true, Bool.not_eq_true', Bool.not_eq_false', Bool.and_eq_false_iff, Bool.or_eq_false_iff, Bool.false_eq_true, and_false, false_and, or_false, false_or, and_true, true_and, not_true_eq_false, not_false_eq_true, true_iff, false_iff, Int.ofNat_eq_natCast, Int.toNat_natCast] at hl; omega
      refine ⟨⟨k + 1, by omega, fun _ => hlk.2, fun q hq => ?_⟩, by simp only; omega, cov_of ?_ ?_ ?_⟩
      · by_cases e : q = k
        · subst e
          subst hA
          simp only [real, bifA, bifB, bifC, bifD, beqB, decide_eq_true_eq, decide_eq_false_iff_not, beqI, bneI, beqIF, bneIF, ne_eq, Bool.and_eq_true, Bool.or_eq_true, Bool.not_eq_true', Bool.not_eq_false', Bool.and_eq_false_iff, Bool.or_eq_false_iff, Bool.false_eq_true, and_false, false_and, or_false, false_or, and_true, true_and, not_true_eq_false, not_false_eq_true, true_iff, false_iff, Int.ofNat_eq_natCast, Int.toNat_natCast] at hc
          intro hh
          rcases hc with h | h
          · exact h hh.1
          · have := hb3.2 hh.2
            rw [h] at this
            cases this
        · exact hkq q (by omega)
      · cbv
        subst hA
        exact ⟨congrArg (fun x => DV.v (.int .i64 x)) (up64 hlk.1 (Nat.le_trans hi hn)), by repeat' first | apply And.intro | exact True.intro | rfl⟩
      · cbv; try (repeat' first | apply And.intro | exact True.intro | rfl)
      · cbv
    · rename_i hl
      refine ⟨⟨i + 1, by omega, fun q hq => ?_⟩, by simp only; omega, cov_of ?_ ?_ ?_⟩
      · by_cases e : q = i
        · subst e
          refine ⟨hrow.1, hrow.2, fun h3 => ?_⟩
          have : k = q := by
            subst hA
            simp only [real, bifA, bifB, bifC, bifD, beqB, decide_eq_true_eq, decide_eq_false_iff_not, beqI, bneI, beqIF, bneIF, ne_eq, Bool.and_eq_true, Bool.or_eq_true, Bool.not_eq_true', Bool.not_eq_false', Bool.and_eq_false_iff, Bool.or_eq_false_iff, Bool.false_eq_true, and_false, false_and, or_false, false_or, and_true, true_and, not_true_eq_false, not_false_eq_true, true_iff, false_iff, Int.ofNat_eq_natCast, Int.toNat_natCast] at hl
            have hl2 : ¬ (k : Int) < q ∨ ¬ j.kind = 3 := hl
            omega
          subst this
          exact hkq
        · exact hk q (by omega)
      · cbv
        subst hA
        exact ⟨congrArg (fun x => DV.v (.int .i64 x)) (up64 hlt' hn), by repeat' first | apply And.intro | exact True.intro | rfl⟩
      · cbv; try (repeat' first | apply And.intro | exact True.intro | rfl)
      · cbv
  · rename_i hge
    refine congrArg (fun b => XA.one (.c (.d (eB b)))) ?_
    refine (hb.2 ⟨hpre.1, hpre.2.1, hpre.2.2, fun k hk' => ?_⟩).symm
    have hk' : k < n := hk'
    exact hk k (by subst hA; simp only [real, decide_eq_false_iff_not, Int.ofNat_eq_natCast] at hge; omega)
end Go.Rk
/- Counts and least numbers. -/
namespace Go.Rk
set_option linter.unusedSimpArgs false
set_option linter.unusedVariables false
def InOkP (j : JobT) (c : TskInT) : Prop := (c.queue.n : Int) ≤ j.room ∧ (0 ≤ c.mark ∧ c.mark ≤ 1000) ∧ ∀ i, i < c.queue.n → ItmOkP (c.queue.g i)
def ToldP (m : Int) (ps : Sl PaneT) (ls : Sl LatT) : Prop := (ps.n : Int) ≤ m ∧ (ls.n : Int) ≤ m ∧ (∀ i, i < ps.n → PaneOkP (ps.g i)) ∧ ∀ i, i < ls.n → LatOkP (ls.g i)
def TxnOkP (x : TxnT) : Prop := (0 ≤ x.n ∧ x.n ≤ 900) ∧ ToldP 1500 x.panes x.lates
/-- A call that is made where its guard holds alone. -/
theorem call_exg {A : Ar} {P : Program} {M : Ms} (hA : real = A) (hM : MeetsB P = M) {g : Bool} {f : FuncId} {args : List XT} {K : Out → Prop} {β : Type} {S : β → Prop} {out : β → Out}
    (hne : ∃ b, S b) (h : ∀ b, S b → g = true → Meets P f args (out b)) (k : ∀ b, S b → K (out b)) : A.hold fun _ => ∃ out, (g = true → M.m f args out) ∧ K out := by
  subst hA hM
  obtain ⟨b, hb⟩ := hne
  exact ⟨out b, fun hg => h b hb hg, k b hb⟩
theorem nex {b : Bool} {n : Nat} {P : Nat → Prop} (h : b = true ↔ ∃ i, i < n ∧ ¬ P i) : b = false ↔ ∀ i, i < n → P i := by
  rw [← Bool.not_eq_true, h]
  exact ⟨fun h i hi => Classical.byContradiction fun hn => h ⟨i, hi, hn⟩, fun h ⟨i, hi, hn⟩ => hn (h i hi)⟩
def cntB (p : Nat → Bool) : Nat → Nat
  | 0 => 0
  | i + 1 => cntB p i + (if p i = true then 1 else 0)
theorem cntB_le (p : Nat → Bool) : ∀ i, cntB p i ≤ i
  | 0 => Nat.le_refl _
  | i + 1 => by have := cntB_le p i; unfold cntB; split <;> omega
/-- The least of these and 'z'. -/
def LowP (z : Int) (n : Nat) (g : Nat → Int) (x : Int) : Prop := x ≤ z ∧ (∀ i, i < n → x ≤ g i) ∧ (x = z ∨ ∃ i, i < n ∧ x = g i)
theorem lowP_one {z : Int} {n : Nat} {g : Nat → Int} {x y : Int} (h : LowP z n g x) (h' : LowP z n g y) : x = y := by
  have a : x ≤ y := by
    rcases h'.2.2 with e | ⟨i, hi, e⟩
    · rw [e]; exact h.1
    · rw [e]; exact h.2.1 i hi
  have b : y ≤ x := by
    rcases h.2.2 with e | ⟨i, hi, e⟩
    · rw [e]; exact h'.1
    · rw [e]; exact h'.2.1 i hi
  omega
theorem lowP_step {z : Int} {n : Nat} {g : Nat → Int} {x : Int} (h : LowP z n g x) : LowP z (n + 1) g (if g n < x then g n else x) := by
  obtain ⟨h1, h2, h3⟩ := h
  split
  · refine ⟨by omega, fun i hi => ?_, .inr ⟨n, by omega, rfl⟩⟩
    rcases Nat.lt_succ_iff_lt_or_eq.1 hi with hi | rfl
    · have := h2 i hi; omega
    · omega
  · refine ⟨h1, fun i hi => ?_, h3.imp id fun ⟨i, hi, e⟩ => ⟨i, by omega, e⟩⟩
    rcases Nat.lt_succ_iff_lt_or_eq.1 hi with hi | rfl
    · exact h2 i hi
    · omega
theorem lowP_ex (z : Int) (n : Nat) (g : Nat → Int) : ∃ x, LowP z n g x := by
  induction n with
  | zero => exact ⟨z, by omega, fun i hi => absurd hi (Nat.not_lt_zero i), .inl rfl⟩
  | succ n ih => obtain ⟨x, hx⟩ := ih; exact ⟨_, lowP_step hx⟩
/-- The least of these, of which there is one. -/
def MinP (n : Nat) (g : Nat → Int) (x : Int) : Prop := (∀ i, i < n → x ≤ g i) ∧ ∃ i, i < n ∧ x = g i
theorem minP_of {n : Nat} {g : Nat → Int} {x : Int} (h0 : 0 < n) (h : LowP (g 0) n g x) : MinP n g x := ⟨h.2.1, h.2.2.elim (fun e => ⟨0, h0, e⟩) id⟩
theorem minP_one {n : Nat} {g : Nat → Int} {x y : Int} (h : MinP n g x) (h' : MinP n g y) : x = y := by
  obtain ⟨i, hi, e⟩ := h.2
  obtain ⟨j, hj, e'⟩ := h'.2
  have := h.1 j hj
  have := h'.1 i hi
  omega
def TskOkP (j : JobT) (t : TskT) : Prop := OpOkP j t.op ∧ (t.ins.n : Int) = j.srcs ∧ (0 ≤ t.wall ∧ t.wall ≤ 900) ∧ TxnOkP t.pend ∧ t.pend.n = 0 ∧ (∀ i, i < t.ins.n → InOkP j (t.ins.g i)) ∧
  cntB (fun i => (t.ins.g i).held) t.ins.n < t.ins.n ∧ LowP 1000 t.ins.n (fun i => (t.ins.g i).mark) t.op.mark
/-- With one more at the end. -/
theorem minP_low {n : Nat} {g h : Nat → Int} {x z : Int} (hg : ∀ i, i < n → h i = g i) (hz : h n = z) (hx : MinP (n + 1) h x) : LowP z n g x := by
  refine ⟨by rw [← hz]; exact hx.1 n (by omega), fun i hi => by rw [← hg i hi]; exact hx.1 i (by omega), ?_⟩
  obtain ⟨i, hi, e⟩ := hx.2
  rcases Nat.lt_succ_iff_lt_or_eq.1 hi with hi | rfl
  · exact .inr ⟨i, hi, by rw [e, hg i hi]⟩
  · exact .inl (by rw [e, hz])
theorem minP_ofLow {n : Nat} {g h : Nat → Int} {x z : Int} (hg : ∀ i, i < n → h i = g i) (hz : h n = z) (hx : LowP z n g x) : MinP (n + 1) h x := by
  refine ⟨fun i hi => ?_, ?_⟩
  · rcases Nat.lt_succ_iff_lt_or_eq.1 hi with hi | rfl
    · rw [hg i hi]; exact hx.2.1 i hi
    · rw [hz]; exact hx.1
  · rcases hx.2.2 with e | ⟨i, hi, e⟩
    · exact ⟨n, by omega, by rw [hz, e]⟩
    · exact ⟨i, by omega, by rw [hg i hi, e]⟩
theorem low_arg {A : Ar} (hA : real = A) (n : Nat) (f : Nat → Int) (c : Int) : DV.sl 1 (A.add n 1) (A.sub 0 (A.app n (fun i => [eI (f i)]) (A.sub 0 (A.app 1 (A.rep [eI c]) (A.rep [eI 0]))))) =
    .sl 1 (n + 1) fun i => [eI (if i < n then f i else if i = n then c else 0)] := by
  subst hA
  have e : (fun i => (if 0 + i < n then [eI (f (0 + i))] else (if 0 + (0 + i - n) < 1 then [eI c] else [eI 0]))) = fun i => [eI (if i < n then f i else if i = n then c else 0)] := by
    funext i
    simp only [Nat.zero_add]
    by_cases h : i < n
    · simp [h]
    · by_cases h2 : i = n
      · subst h2; simp
      · have : ¬ i - n < 1 := by omega
        simp [h, h2, this]
  exact congrArg (DV.sl 1 (n + 1)) e
theorem room_add {A : Ar} (hA : real = A) {n m b : Nat} (hn : n + m ≤ 1048577) (hb : b ≤ 100000) : A.room (A.add n m) b := by
  subst hA
  have h1 : (n + m) * b ≤ 1048577 * 100000 := Nat.mul_le_mul hn hb
  exact ⟨Nat.le_trans h1 (by omega), Nat.le_trans hn (by omega)⟩
/-- One row more at the end. -/
theorem push_at {A : Ar} (hA : real = A) (n : Nat) (row : Nat → List DV) (x : List DV) (z : Nat → List DV) (k : Nat) (hk : k < n + 1) : A.app n row (A.sub 0 (A.app 1 (A.rep x) z)) k = if k < n then row k else x := by
  subst hA
  show (if k < n then row k else (if 0 + (k - n) < 1 then x else z (0 + (k - n) - 1))) = _
  split
  · rfl
  · rw [if_pos (by omega)]
theorem room_n {A : Ar} (hA : real = A) {n b : Nat} (hn : n ≤ 1048577) (hb : b ≤ 100000) : A.room n b := by
  subst hA
  have h1 : n * b ≤ 1048577 * 100000 := Nat.mul_le_mul hn hb
  exact ⟨by omega, by omega⟩
end Go.Rk
/- Windows of a time, and pairs of records and windows, as lists. -/
namespace Go.Rk
set_option linter.unusedSimpArgs false
set_option linter.unusedVariables false
def zWin : WinT := ⟨0, 0⟩
def zLat : LatT := ⟨⟨0, 0, 0, 0, 0⟩, ⟨0, 0⟩⟩
def slideF (size step t : Int) : Nat → Int → List WinT
  | 0, _ => []
  | k + 1, f => if f ≤ t then (if t < f + size then [⟨f, f + size⟩] else []) ++ slideF size step t k (f + step) else []
theorem slideF_len (size step t : Int) : ∀ k f, (slideF size step t k f).length ≤ k
  | 0, _ => Nat.le_refl _
  | k + 1, f => by
    have := slideF_len size step t k (f + step)
    unfold slideF
    split
    · rw [List.length_append]
      split <;> simp <;> omega
    · simp
theorem slideF_st {size step t : Int} (hs : 1 ≤ step) : ∀ k f, (t + 1 - f).toNat ≤ k → slideF size step t (k + 1) f = slideF size step t k f
  | 0, f, h => by
    unfold slideF
    rw [if_neg (by omega)]
  | k + 1, f, h => by
    have ih := slideF_st (size := size) (t := t) hs k (f + step)
    unfold slideF
    by_cases hf : f ≤ t
    · rw [if_pos hf, if_pos hf, ih (by omega)]
    · rw [if_neg hf, if_neg hf]
/-- One step of it, with room to spare. -/
theorem slideF_go {size step t f : Int} (hs : 1 ≤ step) (h0 : 0 ≤ f) (h1 : t ≤ 60) (hf : f ≤ t) : slideF size step t 100 f = (if t < f + size then [⟨f, f + size⟩] else []) ++ slideF size step t 100 (f + step) := by
  have e : slideF size step t 100 (f + step) = slideF size step t 99 (f + step) := slideF_st hs 99 (f + step) (by omega)
  rw [e]
  show slideF size step t (99 + 1) f = _
  unfold slideF
  rw [if_pos hf]
  rfl
theorem slideF_end {size step t f : Int} (hf : ¬ f ≤ t) : slideF size step t 100 f = [] := by
  show slideF size step t (99 + 1) f = _
  unfold slideF
  rw [if_neg hf]
def winFrom (j : JobT) (t : Int) : Int := if j.kind = 1 then t - t.tmod j.size else if j.kind = 2 then 0 else t
def winStep (j : JobT) : Int := if j.kind = 1 then j.size else if j.kind = 2 then j.step else 1
def winsL (j : JobT) (t : Int) : List WinT := slideF j.size (winStep j) t 100 (winFrom j t)
theorem winsL_len (j : JobT) (t : Int) : (winsL j t).length ≤ 100 := slideF_len _ _ _ _ _
theorem winsL_fixed {j : JobT} {t : Int} (hk : j.kind = 1) (hs : 1 ≤ j.size) (h0 : 0 ≤ t) (h1 : t ≤ 60) : winsL j t = [⟨t - t.tmod j.size, t - t.tmod j.size + j.size⟩] := by
  have a := Int.tmod_nonneg j.size h0
  have b := Int.tmod_lt_of_pos t (show 0 < j.size by omega)
  have c : t.tmod j.size ≤ t := by
    rw [Int.tmod_eq_emod_of_nonneg h0]
    have := Int.emod_add_mul_ediv t j.size
    have := Int.mul_nonneg (show 0 ≤ j.size by omega) (Int.ediv_nonneg h0 (show 0 ≤ j.size by omega))
    omega
  unfold winsL winStep winFrom
  rw [if_pos hk, if_pos hk, slideF_go hs (by omega) h1 (by omega), if_pos (by omega), slideF_end (by omega)]
  rfl
theorem winsL_sess {j : JobT} {t : Int} (hk : j.kind = 3) (hs : 1 ≤ j.size) (h0 : 0 ≤ t) (h1 : t ≤ 60) : winsL j t = [⟨t, t + j.size⟩] := by
  unfold winsL winStep winFrom
  rw [if_neg (by omega), if_neg (by omega), if_neg (by omega), if_neg (by omega), slideF_go (by omega) h0 h1 (by omega), if_pos (by omega), slideF_end (by omega)]
  rfl
def pairsL (j : JobT) (g : Nat → ItmT) : Nat → List LatT
  | 0 => []
  | i + 1 => pairsL j g i ++ (winsL j (g i).t).map fun w => ⟨g i, w⟩
theorem pairsL_len (j : JobT) (g : Nat → ItmT) : ∀ i, (pairsL j g i).length ≤ 100 * i
  | 0 => Nat.le_refl _
  | i + 1 => by
    have := pairsL_len j g i
    have := winsL_len j (g i).t
    unfold pairsL
    rw [List.length_append, List.length_map]
    omega
def RecP (x : ItmT) : Prop := x.kind = 1 ∧ ItmOkP x
theorem recP_t {x : ItmT} (h : RecP x) : 0 ≤ x.t ∧ x.t ≤ 60 := by
  obtain ⟨h1, h2⟩ := h
  unfold ItmOkP at h2
  omega
def SpcOkP (j : JobT) (m : Nat) (g : Nat → ItmT) : Prop := JobOkP j ∧ m ≤ 120 ∧ ∀ i, i < m → RecP (g i)
open Classical in
noncomputable def spcL (j : JobT) (m : Nat) (g : Nat → ItmT) : List LatT := if SpcOkP j m g then pairsL j g m else []
def mkItm (k : Int) : ItmT := ⟨k, k + 1, k + 2, k + 3, k + 4⟩
def mkLat (k : Int) : LatT := ⟨⟨k, k + 1, k + 2, k + 3, k + 4⟩, ⟨k + 5, k + 6⟩⟩
/-- The list that so many rows tell. -/
def Tells {α : Type} (z : α) (e : α → List DV) (l : List α) (n : Nat) (row : Nat → List DV) : Prop := n = l.length ∧ ∀ k, k < n → row k = e (l.getD k z)
theorem tells_snoc {α : Type} {z : α} {e : α → List DV} {l : List α} {n : Nat} {row row' : Nat → List DV} {x : α} (h : Tells z e l n row)
    (h' : ∀ k, k < n + 1 → row' k = if k < n then row k else e x) : Tells z e (l ++ [x]) (n + 1) row' := by
  obtain ⟨rfl, h2⟩ := h
  refine ⟨by simp, fun k hk => ?_⟩
  rw [h' k hk]
  by_cases hl : k < l.length
  · rw [if_pos hl, h2 k hl, List.getD_eq_getElem?_getD, List.getD_eq_getElem?_getD, List.getElem?_append_left hl]
  · have : k = l.length := by omega
    subst this
    rw [if_neg hl]
    simp
theorem take_succ_getD {α : Type} {z : α} {l : List α} {k : Nat} (h : k < l.length) : l.take (k + 1) = l.take k ++ [l.getD k z] := by
  rw [List.take_add_one, List.getElem?_eq_getElem h, List.getD_eq_getElem?_getD, List.getElem?_eq_getElem h]
  rfl
end Go.Rk
/- Rows of a table, as lists. -/
namespace Go.Rk
set_option linter.unusedSimpArgs false
set_option linter.unusedVariables false
def zTab : TabT := ⟨0, ⟨0, 0⟩, ⟨0, 0, 0, 0⟩⟩
def IsRow (key : Int) (w : WinT) (r : TabT) : Prop := r.key = key ∧ (r.win.s = w.s ∧ r.win.e = w.e)
instance (key : Int) (w : WinT) (r : TabT) : Decidable (IsRow key w r) := inferInstanceAs (Decidable (_ ∧ _))
def Ahead (r q : TabT) : Prop := r.key < q.key ∨ (r.key = q.key ∧ (r.win.s < q.win.s ∨ (r.win.s = q.win.s ∧ r.win.e < q.win.e)))
instance (r q : TabT) : Decidable (Ahead r q) := inferInstanceAs (Decidable (_ ∨ _))
/-- A list, by its number and its members. -/
def Lst {α : Type} (z : α) (l : List α) (n : Nat) (g : Nat → α) : Prop := n = l.length ∧ ∀ k, k < n → g k = l.getD k z
theorem lst_self {α : Type} (z : α) (l : List α) : Lst z l l.length (fun k => l.getD k z) := ⟨rfl, fun _ _ => rfl⟩
theorem lst_tells {α : Type} {z : α} {l : List α} {n : Nat} {g : Nat → α} (e : α → List DV) (h : Lst z l n g) : Tells z e l n (fun i => e (g i)) := ⟨h.1, fun k hk => congrArg e (h.2 k hk)⟩
theorem lst_take {α : Type} {z : α} {l : List α} {n : Nat} {g : Nat → α} (h : Lst z l n g) {i : Nat} (hi : i < n) : l.take (i + 1) = l.take i ++ [g i] := by
  rw [h.2 i hi]
  exact take_succ_getD (by rw [← h.1]; exact hi)
theorem lst_all {α : Type} {z : α} {l : List α} {n : Nat} {g : Nat → α} (h : Lst z l n g) : l.take n = l := by rw [h.1, List.take_length]
theorem lst_drop {α : Type} {z : α} {l : List α} {n : Nat} {g : Nat → α} (h : Lst z l n g) {i : Nat} (hi : i < n) : l.drop i = g i :: l.drop (i + 1) := by
  have hl : i < l.length := by rw [← h.1]; exact hi
  rw [List.drop_eq_getElem_cons hl, h.2 i hi, List.getD_eq_getElem?_getD, List.getElem?_eq_getElem hl]
  rfl
theorem lst_mem {α : Type} {z : α} {l : List α} {n : Nat} {g : Nat → α} (h : Lst z l n g) {x : α} (hx : x ∈ l) : ∃ k, k < n ∧ g k = x := by
  obtain ⟨k, hk⟩ := List.mem_iff_getElem?.1 hx
  have hl : k < l.length := (List.getElem?_eq_some_iff.1 hk).1
  refine ⟨k, by rw [h.1]; exact hl, ?_⟩
  rw [h.2 k (by rw [h.1]; exact hl), List.getD_eq_getElem?_getD, hk]
  rfl
/-- From a function that has so many members. -/
theorem lst_of {α : Type} (z : α) (n : Nat) (g : Nat → α) : Lst z ((List.range n).map g) n g := by
  refine ⟨by simp, fun k hk => ?_⟩
  rw [List.getD_eq_getElem?_getD, List.getElem?_map, List.getElem?_range hk]
  rfl
def tOut (key : Int) (w : WinT) : List TabT → List TabT
  | [] => []
  | r :: l => if IsRow key w r then tOut key w l else r :: tOut key w l
theorem tOut_app (key : Int) (w : WinT) : ∀ l m, tOut key w (l ++ m) = tOut key w l ++ tOut key w m
  | [], _ => rfl
  | r :: l, m => by
    show (if IsRow key w r then tOut key w (l ++ m) else r :: tOut key w (l ++ m)) = _
    rw [tOut_app key w l m]
    show _ = (if IsRow key w r then tOut key w l else r :: tOut key w l) ++ tOut key w m
    split <;> rfl
theorem tOut_len (key : Int) (w : WinT) : ∀ l, (tOut key w l).length ≤ l.length
  | [] => Nat.le_refl _
  | r :: l => by
    have := tOut_len key w l
    show (if IsRow key w r then tOut key w l else r :: tOut key w l).length ≤ _
    split <;> simp <;> omega
theorem tOut_in {key : Int} {w : WinT} {r : TabT} : ∀ {l : List TabT}, r ∈ tOut key w l ↔ r ∈ l ∧ ¬ IsRow key w r
  | [] => ⟨fun h => absurd h (List.not_mem_nil), fun h => absurd h.1 (List.not_mem_nil)⟩
  | q :: l => by
    show r ∈ (if IsRow key w q then tOut key w l else q :: tOut key w l) ↔ _
    split
    · rename_i h
      rw [tOut_in, List.mem_cons]
      constructor
      · rintro ⟨h1, h2⟩; exact ⟨.inr h1, h2⟩
      · rintro ⟨rfl | h1, h2⟩
        · exact absurd h h2
        · exact ⟨h1, h2⟩
    · rename_i h
      rw [List.mem_cons, List.mem_cons, tOut_in]
      constructor
      · rintro (rfl | ⟨h1, h2⟩)
        · exact ⟨.inl rfl, h⟩
        · exact ⟨.inr h1, h2⟩
      · rintro ⟨rfl | h1, h2⟩
        · exact .inl rfl
        · exact .inr ⟨h1, h2⟩
def tIns (r : TabT) : List TabT → List TabT
  | [] => [r]
  | q :: l => if Ahead r q then r :: q :: l else q :: tIns r l
theorem tIns_len (r : TabT) : ∀ l, (tIns r l).length = l.length + 1
  | [] => rfl
  | q :: l => by
    have := tIns_len r l
    show (if Ahead r q then r :: q :: l else q :: tIns r l).length = _
    split <;> simp <;> omega
/-- At the first place that it stands ahead of. -/
theorem tIns_at (r : TabT) : ∀ (l : List TabT) (i : Nat), (∀ x, x ∈ l.take i → ¬ Ahead r x) → (∀ x, l[i]? = some x → Ahead r x) → i ≤ l.length → tIns r l = l.take i ++ r :: l.drop i
  | [], i, _, _, h => by
    have : i = 0 := by simpa using h
    subst this
    rfl
  | q :: l, 0, _, h2, _ => by
    show (if Ahead r q then r :: q :: l else q :: tIns r l) = _
    rw [if_pos (h2 q rfl)]
    rfl
  | q :: l, i + 1, h1, h2, h3 => by
    show (if Ahead r q then r :: q :: l else q :: tIns r l) = _
    rw [if_neg (h1 q (by simp)), tIns_at r l i (fun x hx => h1 x (by rw [List.take_succ_cons]; exact List.mem_cons_of_mem _ hx)) (fun x hx => h2 x hx) (by simpa using h3)]
    rfl
def tPut (r : TabT) (l : List TabT) : List TabT := tIns r (tOut r.key r.win l)
theorem tPut_len (r : TabT) (l : List TabT) : (tPut r l).length ≤ l.length + 1 := by
  unfold tPut
  rw [tIns_len]
  have := tOut_len r.key r.win l
  omega
def tFind (key : Int) (w : WinT) : List TabT → Option AggT
  | [] => none
  | r :: l => if IsRow key w r then some r.agg else tFind key w l
theorem tFind_app (key : Int) (w : WinT) (r : TabT) : ∀ l m, (∀ x, x ∈ l → ¬ IsRow key w x) → tFind key w (l ++ m) = tFind key w m
  | [], _, _ => rfl
  | q :: l, m, h => by
    show (if IsRow key w q then some q.agg else tFind key w (l ++ m)) = _
    rw [if_neg (h q (by simp)), tFind_app key w r l m fun x hx => h x (List.mem_cons_of_mem _ hx)]
theorem room_add2 {A : Ar} (hA : real = A) {n m b : Nat} (hn : n + m ≤ 2000000) (hb : b ≤ 100000) : A.room (A.add n m) b := by
  subst hA
  have h1 : (n + m) * b ≤ 2000000 * 100000 := Nat.mul_le_mul hn hb
  exact ⟨Nat.le_trans h1 (by omega), Nat.le_trans hn (by omega)⟩
def mkTab (k : Int) : TabT := ⟨k, ⟨k + 1, k + 2⟩, ⟨k + 3, k + 4, k + 5, k + 6⟩⟩
theorem lt_of {A : Ar} (hA : real = A) {i n : Nat} (h : A.cmp .lss (Int.ofNat i) (A.int n) = true) : i < n := by
  subst hA
  have h : decide ((i : Int) < (n : Int)) = true := h
  rw [decide_eq_true_eq] at h
  omega
theorem ge_of {A : Ar} (hA : real = A) {i n : Nat} (h : A.cmp .lss (Int.ofNat i) (A.int n) = false) : n ≤ i := by
  subst hA
  have h : decide ((i : Int) < (n : Int)) = false := h
  rw [decide_eq_false_iff_not] at h
  omega
theorem inb_lt {A : Ar} (hA : real = A) {g : Bool} {i n : Nat} (h : i < n) : A.inb g (Int.ofNat i) n := by
  refine inb_of hA fun _ => ?_
  have e : Int.ofNat i = (i : Int) := rfl
  rw [e]
  omega
theorem ix0 {A : Ar} (hA : real = A) (i : Nat) : A.add 0 (A.nat (Int.ofNat i)) = i := by subst hA; exact Nat.zero_add i
theorem ixn {A : Ar} (hA : real = A) (i : Nat) : A.nat (Int.ofNat i) = i := by subst hA; rfl
def zAgg : AggT := ⟨0, 0, 0, 0⟩
/-- A row that is put in its place, told by numbers. -/
theorem tIns_lst {r : TabT} {l : List TabT} {n0 n1 i : Nat} {G0 G : Nat → TabT} (h0 : Lst zTab l n0 G0) (h1 : Lst zTab (tIns r l) n1 G) (hi : i ≤ n0) (ha : ∀ k, k < i → ¬ Ahead r (G0 k)) (hb : i < n0 → Ahead r (G0 i)) :
    n1 = n0 + 1 ∧ ∀ k, k < n0 + 1 → G k = if k < i then G0 k else if k = i then r else G0 (k - 1) := by
  have e : tIns r l = l.take i ++ r :: l.drop i := by
    refine tIns_at r l i (fun x hx => ?_) (fun x hx => ?_) (by rw [← h0.1]; exact hi)
    · obtain ⟨k, hk⟩ := List.mem_iff_getElem?.1 hx
      rw [List.getElem?_take] at hk
      split at hk
      · rename_i hki
        have := h0.2 k (by omega)
        rw [List.getD_eq_getElem?_getD, hk] at this
        have := ha k hki
        simp_all
      · cases hk
    · have hin : i < n0 := by rw [h0.1]; exact (List.getElem?_eq_some_iff.1 hx).1
      have := h0.2 i hin
      rw [List.getD_eq_getElem?_getD, hx] at this
      have := hb hin
      simp_all
  have hlen := tIns_len r l
  have hn1 : n1 = n0 + 1 := by rw [h1.1, hlen, h0.1]
  refine ⟨hn1, fun k hk => ?_⟩
  have htl : (l.take i).length = i := by rw [List.length_take, ← h0.1]; omega
  rw [h1.2 k (by omega), e, List.getD_eq_getElem?_getD]
  by_cases hki : k < i
  · rw [if_pos hki, List.getElem?_append_left (by omega), List.getElem?_take, if_pos hki, h0.2 k (by omega), List.getD_eq_getElem?_getD]
  · rw [if_neg hki, List.getElem?_append_right (by omega), htl]
    by_cases hk2 : k = i
    · rw [if_pos hk2, hk2, Nat.sub_self]; rfl
    · rw [if_neg hk2, show k - i = (k - 1 - i) + 1 by omega, List.getElem?_cons_succ, List.getElem?_drop, show i + (k - 1 - i) = k - 1 by omega, h0.2 (k - 1) (by omega), List.getD_eq_getElem?_getD]
theorem tFind_first {key : Int} {w : WinT} {l : List TabT} {n i : Nat} {g : Nat → TabT} (h : Lst zTab l n g) (hi : i < n) (hq : IsRow key w (g i)) (hb : ∀ k, k < i → ¬ IsRow key w (g k)) : tFind key w l = some (g i).agg := by
  have e : l = l.take i ++ l.drop i := (List.take_append_drop i l).symm
  rw [e, tFind_app key w (g i) _ _ (fun x hx => ?_), lst_drop h hi]
  · show (if IsRow key w (g i) then some (g i).agg else _) = _
    rw [if_pos hq]
  · obtain ⟨k, hk⟩ := List.mem_iff_getElem?.1 hx
    rw [List.getElem?_take] at hk
    split at hk
    · rename_i hki
      have h2 := h.2 k (by omega)
      rw [List.getD_eq_getElem?_getD, hk] at h2
      have h2 : g k = x := h2
      rw [← h2]
      exact hb k hki
    · cases hk
theorem tFind_none {key : Int} {w : WinT} {l : List TabT} {n : Nat} {g : Nat → TabT} (h : Lst zTab l n g) (hb : ∀ k, k < n → ¬ IsRow key w (g k)) : tFind key w l = none := by
  have := tFind_app key w zTab l [] (fun x hx => by obtain ⟨k, hk, rfl⟩ := lst_mem h hx; exact hb k hk)
  rw [List.append_nil] at this
  rw [this]; rfl
end Go.Rk
/- What is known of values, by lists; tables that records lead to. -/
namespace Go.Rk
set_option linter.unusedSimpArgs false
set_option linter.unusedVariables false
def aggB (a b : AggT) : AggT := if a.n = 0 then b else if b.n = 0 then a else ⟨w64 (a.n + b.n), w64 (a.sum + b.sum), if b.least < a.least then b.least else a.least, if a.most < b.most then b.most else a.most⟩
def agg1 (v : Int) : AggT := ⟨1, v, v, v⟩
def aggAdd (a : AggT) (v : Int) : AggT := aggB a (agg1 v)
theorem aggB_z (a : AggT) : aggB zAgg a = a := rfl
def sumI : List Int → Int
  | [] => 0
  | x :: l => x + sumI l
theorem sumI_app : ∀ l m, sumI (l ++ m) = sumI l + sumI m
  | [], m => by simp [sumI]
  | x :: l, m => by simp [sumI, sumI_app l m]; omega
theorem sumI_perm {l m : List Int} (h : l.Perm m) : sumI l = sumI m := by
  induction h with
  | nil => rfl
  | cons x _ ih => simp [sumI, ih]
  | swap x y l => simp [sumI]; omega
  | trans _ _ h1 h2 => exact h1.trans h2
theorem sumI_bd : ∀ l : List Int, (∀ x, x ∈ l → -9 ≤ x ∧ x ≤ 9) → -9 * (l.length : Int) ≤ sumI l ∧ sumI l ≤ 9 * (l.length : Int)
  | [], _ => by simp [sumI]
  | x :: l, h => by
    have h1 := h x (by simp)
    have h2 := sumI_bd l fun y hy => h y (List.mem_cons_of_mem _ hy)
    simp only [sumI, List.length_cons, Int.natCast_add, Int.natCast_one]
    omega
/-- What is known of just these values. -/
structure AggIs (a : AggT) (L : List Int) : Prop where
  n : a.n = (L.length : Int)
  sum : a.sum = sumI L
  z : L = [] → a = zAgg
  nz : L ≠ [] → a.least ∈ L ∧ a.most ∈ L ∧ ∀ x, x ∈ L → a.least ≤ x ∧ x ≤ a.most
theorem aggIs_nil : AggIs zAgg [] := ⟨rfl, rfl, fun _ => rfl, fun h => absurd rfl h⟩
theorem aggIs_one (v : Int) : AggIs (agg1 v) [v] := ⟨rfl, by simp [agg1, sumI], fun h => by simp at h, fun _ => ⟨by simp [agg1], by simp [agg1], fun x hx => by simp at hx; subst hx; exact ⟨Int.le_refl _, Int.le_refl _⟩⟩⟩
theorem aggIs_uniq {a b : AggT} {L M : List Int} (ha : AggIs a L) (hb : AggIs b M) (h : L.Perm M) : a = b := by
  by_cases hL : L = []
  · have hM : M = [] := by subst hL; exact List.nil_perm.1 h
    rw [ha.z hL, hb.z hM]
  · have hM : M ≠ [] := fun e => hL (by subst e; exact List.perm_nil.1 h)
    obtain ⟨a1, a2, a3⟩ := ha.nz hL
    obtain ⟨b1, b2, b3⟩ := hb.nz hM
    have e1 : a.n = b.n := by rw [ha.n, hb.n, h.length_eq]
    have e2 : a.sum = b.sum := by rw [ha.sum, hb.sum, sumI_perm h]
    have h1 := a3 _ (h.mem_iff.2 b1)
    have h2 := b3 _ (h.mem_iff.1 a1)
    have h3 := a3 _ (h.mem_iff.2 b2)
    have h4 := b3 _ (h.mem_iff.1 a2)
    have e3 : a.least = b.least := by omega
    have e4 : a.most = b.most := by omega
    cases a; cases b; simp_all
theorem w64_in (x : Int) (h : -9223372036854775808 ≤ x ∧ x ≤ 9223372036854775807) : w64 x = x := IntWalk.i64_in x h
theorem aggB_is {a b : AggT} {L M : List Int} (ha : AggIs a L) (hb : AggIs b M) (hv : ∀ x, x ∈ L ++ M → -9 ≤ x ∧ x ≤ 9) (hn : (L ++ M).length ≤ 1000000) : AggIs (aggB a b) (L ++ M) := by
  unfold aggB
  by_cases hL : L = []
  · have := ha.z hL
    subst hL; rw [this]
    exact hb
  · have hl : L.length ≠ 0 := fun e => hL (List.length_eq_zero_iff.1 e)
    rw [if_neg (by rw [ha.n]; omega)]
    by_cases hM : M = []
    · have := hb.z hM
      subst hM; rw [this, List.append_nil]
      rw [if_pos (show zAgg.n = 0 from rfl)]
      exact ha
    · have hm : M.length ≠ 0 := fun e => hM (List.length_eq_zero_iff.1 e)
      rw [if_neg (by rw [hb.n]; omega)]
      obtain ⟨a1, a2, a3⟩ := ha.nz hL
      obtain ⟨b1, b2, b3⟩ := hb.nz hM
      have s1 := sumI_bd L fun x hx => hv x (List.mem_append_left _ hx)
      have s2 := sumI_bd M fun x hx => hv x (List.mem_append_right _ hx)
      rw [List.length_append] at hn
      refine ⟨?_, ?_, fun e => absurd (List.append_eq_nil_iff.1 e).1 hL, fun _ => ⟨?_, ?_, fun x hx => ?_⟩⟩
      · show w64 (a.n + b.n) = _
        rw [w64_in _ (by rw [ha.n, hb.n]; omega), ha.n, hb.n, List.length_append]
        omega
      · show w64 (a.sum + b.sum) = _
        rw [w64_in _ (by rw [ha.sum, hb.sum]; omega), ha.sum, hb.sum, sumI_app]
      · show (if b.least < a.least then b.least else a.least) ∈ _
        split
        · exact List.mem_append_right _ b1
        · exact List.mem_append_left _ a1
      · show (if a.most < b.most then b.most else a.most) ∈ _
        split
        · exact List.mem_append_right _ b2
        · exact List.mem_append_left _ a2
      · show (if b.least < a.least then b.least else a.least) ≤ x ∧ x ≤ (if a.most < b.most then b.most else a.most)
        rcases List.mem_append.1 hx with h | h
        · have := a3 x h
          constructor <;> split <;> omega
        · have := b3 x h
          constructor <;> split <;> omega
/-- Lists that rise are told by their members. -/
theorem sorted_ext {α : Type} {lt : α → α → Prop} (irr : ∀ a, ¬ lt a a) (tr : ∀ a b c, lt a b → lt b c → lt a c) : ∀ {l m : List α}, l.Pairwise lt → m.Pairwise lt → (∀ x, x ∈ l ↔ x ∈ m) → l = m
  | [], [], _, _, _ => rfl
  | [], b :: m, _, _, h => absurd ((h b).2 (by simp)) (by simp)
  | a :: l, [], _, _, h => absurd ((h a).1 (by simp)) (by simp)
  | a :: l, b :: m, hl, hm, h => by
    rw [List.pairwise_cons] at hl hm
    have hab : a = b := by
      rcases List.mem_cons.1 ((h a).1 (by simp)) with e | e
      · exact e
      · rcases List.mem_cons.1 ((h b).2 (by simp)) with f | f
        · exact f.symm
        · exact absurd (tr _ _ _ (hl.1 b f) (hm.1 a e)) (irr a)
    subst hab
    refine congrArg (a :: ·) (sorted_ext irr tr hl.2 hm.2 fun x => ⟨fun hx => ?_, fun hx => ?_⟩)
    · rcases List.mem_cons.1 ((h x).1 (List.mem_cons_of_mem _ hx)) with e | e
      · subst e; exact absurd (hl.1 x hx) (irr x)
      · exact e
    · rcases List.mem_cons.1 ((h x).2 (List.mem_cons_of_mem _ hx)) with e | e
      · subst e; exact absurd (hm.1 x hx) (irr x)
      · exact e
theorem ahead_irr (a : TabT) : ¬ Ahead a a := by unfold Ahead; omega
theorem ahead_tr (a b c : TabT) (h : Ahead a b) (h' : Ahead b c) : Ahead a c := by unfold Ahead at *; omega
theorem ahead_tot {r q : TabT} (h : ¬ Ahead r q) (h' : ¬ IsRow r.key r.win q) : Ahead q r := by unfold Ahead at *; unfold IsRow at h'; omega
abbrev Rise (l : List TabT) : Prop := l.Pairwise Ahead
theorem rise_two {l : List TabT} (h : Rise l) {r q : TabT} (hr : r ∈ l) (hq : q ∈ l) (e : IsRow r.key r.win q) : r = q := by
  induction l with
  | nil => simp at hr
  | cons a l ih =>
    rw [Rise, List.pairwise_cons] at h
    rcases List.mem_cons.1 hr with e1 | h1 <;> rcases List.mem_cons.1 hq with e2 | h2
    · rw [e1, e2]
    · have := h.1 q h2; rw [← e1] at this; unfold Ahead at this; unfold IsRow at e; omega
    · have := h.1 r h1; rw [← e2] at this; unfold Ahead at this; unfold IsRow at e; omega
    · exact ih h.2 h1 h2
theorem mem_tIns {r x : TabT} : ∀ {l : List TabT}, x ∈ tIns r l ↔ x = r ∨ x ∈ l
  | [] => by simp [tIns]
  | q :: l => by
    show x ∈ (if Ahead r q then r :: q :: l else q :: tIns r l) ↔ _
    split
    · simp
    · rw [List.mem_cons, mem_tIns, List.mem_cons]
      exact ⟨fun h => h.elim (fun e => .inr (.inl e)) (fun h => h.imp id .inr), fun h => h.elim (fun e => .inr (.inl e)) (fun h => h.elim .inl fun h => .inr (.inr h))⟩
theorem rise_tIns {r : TabT} : ∀ {l : List TabT}, Rise l → (∀ q, q ∈ l → ¬ IsRow r.key r.win q) → Rise (tIns r l)
  | [], _, _ => by simp [tIns, Rise]
  | q :: l, h, hn => by
    have h' := h
    rw [Rise, List.pairwise_cons] at h
    show Rise (if Ahead r q then r :: q :: l else q :: tIns r l)
    split
    · rename_i ha
      rw [Rise, List.pairwise_cons]
      refine ⟨fun x hx => ?_, h'⟩
      rcases List.mem_cons.1 hx with rfl | hx
      · exact ha
      · exact ahead_tr _ _ _ ha (h.1 x hx)
    · rename_i ha
      rw [Rise, List.pairwise_cons]
      refine ⟨fun x hx => ?_, rise_tIns h.2 fun y hy => hn y (List.mem_cons_of_mem _ hy)⟩
      rcases mem_tIns.1 hx with rfl | hx
      · exact ahead_tot ha (hn q (by simp))
      · exact h.1 x hx
theorem tOut_filter (key : Int) (w : WinT) : ∀ l, tOut key w l = l.filter fun r => !decide (IsRow key w r)
  | [] => rfl
  | r :: l => by
    show (if IsRow key w r then tOut key w l else r :: tOut key w l) = _
    rw [List.filter_cons, tOut_filter key w l]
    by_cases h : IsRow key w r <;> simp [h]
theorem rise_tOut {key : Int} {w : WinT} {l : List TabT} (h : Rise l) : Rise (tOut key w l) := by
  rw [tOut_filter]; exact h.sublist List.filter_sublist
theorem mem_tPut {r x : TabT} {l : List TabT} : x ∈ tPut r l ↔ x = r ∨ (x ∈ l ∧ ¬ IsRow r.key r.win x) := by
  unfold tPut; rw [mem_tIns, tOut_in]
theorem rise_tPut {r : TabT} {l : List TabT} (h : Rise l) : Rise (tPut r l) := rise_tIns (rise_tOut h) fun _ hq => (tOut_in.1 hq).2
theorem tFind_some {key : Int} {w : WinT} {a : AggT} : ∀ {l : List TabT}, tFind key w l = some a → ∃ r, r ∈ l ∧ IsRow key w r ∧ r.agg = a
  | [], h => by cases h
  | r :: l, h => by
    have h : (if IsRow key w r then some r.agg else tFind key w l) = some a := h
    split at h
    · rename_i hr
      exact ⟨r, by simp, hr, by simpa using h⟩
    · obtain ⟨q, h1, h2⟩ := tFind_some h
      exact ⟨q, List.mem_cons_of_mem _ h1, h2⟩
theorem tFind_no {key : Int} {w : WinT} : ∀ {l : List TabT}, tFind key w l = none → ∀ r, r ∈ l → ¬ IsRow key w r
  | [], _, r, hr => by simp at hr
  | q :: l, h, r, hr => by
    have h : (if IsRow key w q then some q.agg else tFind key w l) = none := h
    split at h
    · cases h
    · rename_i hq
      rcases List.mem_cons.1 hr with rfl | hr
      · exact hq
      · exact tFind_no h r hr
theorem tFind_rise {key : Int} {w : WinT} {l : List TabT} (h : Rise l) {r : TabT} (hr : r ∈ l) (e : IsRow key w r) : tFind key w l = some r.agg := by
  cases hf : tFind key w l with
  | none => exact absurd e (tFind_no hf r hr)
  | some a =>
    obtain ⟨q, h1, h2, h3⟩ := tFind_some hf
    have : r = q := rise_two h hr h1 (by unfold IsRow at *; omega)
    rw [this, h3]
def tCnt : List TabT → Int
  | [] => 0
  | r :: l => r.agg.n + tCnt l
theorem tCnt_app : ∀ l m, tCnt (l ++ m) = tCnt l + tCnt m
  | [], m => by simp [tCnt]
  | r :: l, m => by simp [tCnt, tCnt_app l m]; omega
theorem tCnt_ins (r : TabT) : ∀ l, tCnt (tIns r l) = r.agg.n + tCnt l
  | [] => rfl
  | q :: l => by
    show tCnt (if Ahead r q then r :: q :: l else q :: tIns r l) = _
    split
    · rfl
    · simp only [tCnt, tCnt_ins r l]; omega
theorem tOut_none {key : Int} {w : WinT} {l : List TabT} (h : ∀ q, q ∈ l → ¬ IsRow key w q) : tOut key w l = l := by
  rw [tOut_filter, List.filter_eq_self]
  intro q hq
  simp [h q hq]
theorem tCnt_out {key : Int} {w : WinT} : ∀ {l : List TabT}, Rise l → tCnt (tOut key w l) + ((tFind key w l).getD zAgg).n = tCnt l
  | [], _ => rfl
  | r :: l, h => by
    have h' := h
    rw [Rise, List.pairwise_cons] at h
    show tCnt (if IsRow key w r then tOut key w l else r :: tOut key w l) + ((if IsRow key w r then some r.agg else tFind key w l).getD zAgg).n = r.agg.n + tCnt l
    split
    · rename_i hr
      rw [tOut_none fun q hq e => absurd (h.1 q hq) (by unfold Ahead; unfold IsRow at hr e; omega)]
      show _ + r.agg.n = _
      omega
    · have := tCnt_out (key := key) (w := w) h.2
      simp only [tCnt]; omega
end Go.Rk
