/- What each of this seat's functions answers, at all data, part 7: no condition. -/
import Derived.Test.YtaddofloloopjaaGreatM5
import Derived.Test.YtaddofloloopjaaGreatProg
import Derived.KernelRfl
import Derived.IntWalk
import Derived.Test.YtaddofloloopjaaGreatChecked
namespace Go.Rk
set_option linter.unusedSimpArgs false
set_option linter.unusedVariables false
open Go.Proofs
def ti3:TI := { desc:=TypeDesc.int IntKind.i64,size:=1,bytes:=8,zero:=[Value.int IntKind.i64 0],eqk:=false }
def ti4:TI := { desc:=TypeDesc.bool,size:=1,bytes:=1,zero:=[Value.bool false],eqk:=false }
def ti5:TI := { desc:=TypeDesc.int IntKind.u8,size:=1,bytes:=1,zero:=[Value.int IntKind.u8 0],eqk:=false }
def ti22:TI := { desc:=TypeDesc.slice 5,size:=1,bytes:=24,zero:=[Value.slice none 0 0],eqk:=false }
def ti24 : TI := { desc := TypeDesc.struct #[{ name := "Sources", type := 3, offset := 0, embedded := false, tag := "", pkgPath := "", byteOffset := 0 }, { name := "Tasks", type := 3, offset := 1, embedded := false, tag := "", pkgPath := "", byteOffset := 8 }, { name := "Kind", type := 3, offset := 2, embedded := false, tag := "", pkgPath := "", byteOffset := 16 }, { name := "Size", type := 3, offset := 3, embedded := false, tag := "", pkgPath := "", byteOffset := 24 }, { name := "Step", type := 3, offset := 4, embedded := false, tag := "", pkgPath := "", byteOffset := 32 }, { name := "Late", type := 3, offset := 5, embedded := false, tag := "", pkgPath := "", byteOffset := 40 }, { name := "Tell", type := 3, offset := 6, embedded := false, tag := "", pkgPath := "", byteOffset := 48 }, { name := "Piece", type := 4, offset := 7, embedded := false, tag := "", pkgPath := "", byteOffset := 56 }, { name := "Least", type := 3, offset := 8, embedded := false, tag := "", pkgPath := "", byteOffset := 64 }, { name := "Room", type := 3, offset := 9, embedded := false, tag := "", pkgPath := "", byteOffset := 72 }], size := 10, bytes := 80, zero := [Value.int IntKind.i64 0, Value.int IntKind.i64 0, Value.int IntKind.i64 0, Value.int IntKind.i64 0, Value.int IntKind.i64 0, Value.int IntKind.i64 0, Value.int IntKind.i64 0, Value.bool false, Value.int IntKind.i64 0, Value.int IntKind.i64 0], eqk := true }
def ti25:TI := { desc:=TypeDesc.slice 3,size:=1,bytes:=24,zero:=[Value.slice none 0 0],eqk:=false }
def ti26:TI := { desc:=TypeDesc.slice 4,size:=1,bytes:=24,zero:=[Value.slice none 0 0],eqk:=false }
def ti27:TI := { desc:=TypeDesc.slice 54,size:=1,bytes:=24,zero:=[Value.slice none 0 0],eqk:=false }
def ti29 : TI := { desc := TypeDesc.struct #[{ name := "N", type := 3, offset := 0, embedded := false, tag := "", pkgPath := "", byteOffset := 0 }, { name := "At", type := 25, offset := 1, embedded := false, tag := "", pkgPath := "", byteOffset := 8 }, { name := "Snaps", type := 27, offset := 2, embedded := false, tag := "", pkgPath := "", byteOffset := 32 }], size := 3, bytes := 56, zero := [Value.int IntKind.i64 0, Value.slice none 0 0, Value.slice none 0 0], eqk := false }
def ti31 : TI := { desc := TypeDesc.struct #[{ name := "N", type := 3, offset := 0, embedded := false, tag := "", pkgPath := "", byteOffset := 0 }, { name := "Open", type := 4, offset := 1, embedded := false, tag := "", pkgPath := "", byteOffset := 8 }, { name := "Src", type := 25, offset := 2, embedded := false, tag := "", pkgPath := "", byteOffset := 16 }, { name := "Tsk", type := 26, offset := 3, embedded := false, tag := "", pkgPath := "", byteOffset := 40 }, { name := "Snaps", type := 27, offset := 4, embedded := false, tag := "", pkgPath := "", byteOffset := 64 }, { name := "Safe", type := 29, offset := 5, embedded := false, tag := "", pkgPath := "", byteOffset := 88 }], size := 8, bytes := 144, zero := [Value.int IntKind.i64 0, Value.bool false, Value.slice none 0 0, Value.slice none 0 0, Value.slice none 0 0, Value.int IntKind.i64 0, Value.slice none 0 0, Value.slice none 0 0], eqk := false }
def ti50:TI := { desc:=TypeDesc.slice 91,size:=1,bytes:=24,zero:=[Value.slice none 0 0],eqk:=false }
def ti52 : TI := { desc := TypeDesc.struct #[{ name := "Mark", type := 3, offset := 0, embedded := false, tag := "", pkgPath := "", byteOffset := 0 }, { name := "Rows", type := 50, offset := 1, embedded := false, tag := "", pkgPath := "", byteOffset := 8 }], size := 2, bytes := 32, zero := [Value.int IntKind.i64 0, Value.slice none 0 0], eqk := false }
def ti54 : TI := { desc := TypeDesc.struct #[{ name := "Op", type := 52, offset := 0, embedded := false, tag := "", pkgPath := "", byteOffset := 0 }, { name := "Marks", type := 25, offset := 2, embedded := false, tag := "", pkgPath := "", byteOffset := 32 }], size := 3, bytes := 56, zero := [Value.int IntKind.i64 0, Value.slice none 0 0, Value.slice none 0 0], eqk := false }
def ti57 : TI := { desc := TypeDesc.struct #[{ name := "Start", type := 3, offset := 0, embedded := false, tag := "", pkgPath := "", byteOffset := 0 }, { name := "End", type := 3, offset := 1, embedded := false, tag := "", pkgPath := "", byteOffset := 8 }], size := 2, bytes := 16, zero := [Value.int IntKind.i64 0, Value.int IntKind.i64 0], eqk := true }
def ti60:TI := { desc:=TypeDesc.slice 106,size:=1,bytes:=24,zero:=[Value.slice none 0 0],eqk:=false }
def ti61:TI := { desc:=TypeDesc.slice 69,size:=1,bytes:=24,zero:=[Value.slice none 0 0],eqk:=false }
def ti62:TI := { desc:=TypeDesc.slice 77,size:=1,bytes:=24,zero:=[Value.slice none 0 0],eqk:=false }
def ti63:TI := { desc:=TypeDesc.slice 155,size:=1,bytes:=24,zero:=[Value.slice none 0 0],eqk:=false }
def ti65 : TI := { desc := TypeDesc.struct #[{ name := "Job", type := 24, offset := 0, embedded := false, tag := "", pkgPath := "", byteOffset := 0 }, { name := "Logs", type := 60, offset := 10, embedded := false, tag := "", pkgPath := "", byteOffset := 80 }, { name := "Srcs", type := 61, offset := 11, embedded := false, tag := "", pkgPath := "", byteOffset := 104 }, { name := "Tasks", type := 62, offset := 12, embedded := false, tag := "", pkgPath := "", byteOffset := 128 }, { name := "Sinks", type := 63, offset := 13, embedded := false, tag := "", pkgPath := "", byteOffset := 152 }, { name := "Ckp", type := 31, offset := 14, embedded := false, tag := "", pkgPath := "", byteOffset := 176 }], size := 22, bytes := 320, zero := [Value.int IntKind.i64 0, Value.int IntKind.i64 0, Value.int IntKind.i64 0, Value.int IntKind.i64 0, Value.int IntKind.i64 0, Value.int IntKind.i64 0, Value.int IntKind.i64 0, Value.bool false, Value.int IntKind.i64 0, Value.int IntKind.i64 0, Value.slice none 0 0, Value.slice none 0 0, Value.slice none 0 0, Value.slice none 0 0, Value.int IntKind.i64 0, Value.bool false, Value.slice none 0 0, Value.slice none 0 0, Value.slice none 0 0, Value.int IntKind.i64 0, Value.slice none 0 0, Value.slice none 0 0], eqk := false }
def ti69 : TI := { desc := TypeDesc.struct #[{ name := "At", type := 3, offset := 0, embedded := false, tag := "", pkgPath := "", byteOffset := 0 }, { name := "Wall", type := 3, offset := 1, embedded := false, tag := "", pkgPath := "", byteOffset := 8 }], size := 2, bytes := 16, zero := [Value.int IntKind.i64 0, Value.int IntKind.i64 0], eqk := true }
def ti71:TI := { desc:=TypeDesc.slice 108,size:=1,bytes:=24,zero:=[Value.slice none 0 0],eqk:=false }
def ti72:TI := { desc:=TypeDesc.slice 176,size:=1,bytes:=24,zero:=[Value.slice none 0 0],eqk:=false }
def ti73:TI := { desc:=TypeDesc.slice 179,size:=1,bytes:=24,zero:=[Value.slice none 0 0],eqk:=false }
def ti75 : TI := { desc := TypeDesc.struct #[{ name := "N", type := 3, offset := 0, embedded := false, tag := "", pkgPath := "", byteOffset := 0 }, { name := "Panes", type := 72, offset := 1, embedded := false, tag := "", pkgPath := "", byteOffset := 8 }, { name := "Lates", type := 73, offset := 2, embedded := false, tag := "", pkgPath := "", byteOffset := 32 }], size := 3, bytes := 56, zero := [Value.int IntKind.i64 0, Value.slice none 0 0, Value.slice none 0 0], eqk := false }
def ti77 : TI := { desc := TypeDesc.struct #[{ name := "Ins", type := 71, offset := 0, embedded := false, tag := "", pkgPath := "", byteOffset := 0 }, { name := "Op", type := 52, offset := 1, embedded := false, tag := "", pkgPath := "", byteOffset := 24 }, { name := "Wall", type := 3, offset := 3, embedded := false, tag := "", pkgPath := "", byteOffset := 56 }, { name := "Pend", type := 75, offset := 4, embedded := false, tag := "", pkgPath := "", byteOffset := 64 }], size := 7, bytes := 120, zero := [Value.slice none 0 0, Value.int IntKind.i64 0, Value.slice none 0 0, Value.int IntKind.i64 0, Value.int IntKind.i64 0, Value.slice none 0 0, Value.slice none 0 0], eqk := false }
def ti82 : TI := { desc := TypeDesc.struct #[{ name := "b", type := 22, offset := 0, embedded := false, tag := "", pkgPath := "loop.example/freshet/spec", byteOffset := 0 }, { name := "p", type := 3, offset := 1, embedded := false, tag := "", pkgPath := "loop.example/freshet/spec", byteOffset := 24 }], size := 2, bytes := 32, zero := [Value.slice none 0 0, Value.int IntKind.i64 0], eqk := false }
def ti89 : TI := { desc := TypeDesc.struct #[{ name := "N", type := 3, offset := 0, embedded := false, tag := "", pkgPath := "", byteOffset := 0 }, { name := "Sum", type := 3, offset := 1, embedded := false, tag := "", pkgPath := "", byteOffset := 8 }, { name := "Least", type := 3, offset := 2, embedded := false, tag := "", pkgPath := "", byteOffset := 16 }, { name := "Most", type := 3, offset := 3, embedded := false, tag := "", pkgPath := "", byteOffset := 24 }], size := 4, bytes := 32, zero := [Value.int IntKind.i64 0, Value.int IntKind.i64 0, Value.int IntKind.i64 0, Value.int IntKind.i64 0], eqk := true }
def ti91 : TI := { desc := TypeDesc.struct #[{ name := "Key", type := 3, offset := 0, embedded := false, tag := "", pkgPath := "", byteOffset := 0 }, { name := "Win", type := 57, offset := 1, embedded := false, tag := "", pkgPath := "", byteOffset := 8 }, { name := "All", type := 89, offset := 3, embedded := false, tag := "", pkgPath := "", byteOffset := 24 }, { name := "Fresh", type := 89, offset := 7, embedded := false, tag := "", pkgPath := "", byteOffset := 56 }, { name := "Told", type := 3, offset := 11, embedded := false, tag := "", pkgPath := "", byteOffset := 88 }, { name := "Timely", type := 4, offset := 12, embedded := false, tag := "", pkgPath := "", byteOffset := 96 }], size := 13, bytes := 104, zero := [Value.int IntKind.i64 0, Value.int IntKind.i64 0, Value.int IntKind.i64 0, Value.int IntKind.i64 0, Value.int IntKind.i64 0, Value.int IntKind.i64 0, Value.int IntKind.i64 0, Value.int IntKind.i64 0, Value.int IntKind.i64 0, Value.int IntKind.i64 0, Value.int IntKind.i64 0, Value.int IntKind.i64 0, Value.bool false], eqk := true }
def ti103:TI := { desc:=TypeDesc.slice 129,size:=1,bytes:=24,zero:=[Value.slice none 0 0],eqk:=false }
def ti106:TI := { desc:=TypeDesc.slice 168,size:=1,bytes:=24,zero:=[Value.slice none 0 0],eqk:=false }
def ti108 : TI := { desc := TypeDesc.struct #[{ name := "Queue", type := 106, offset := 0, embedded := false, tag := "", pkgPath := "", byteOffset := 0 }, { name := "Mark", type := 3, offset := 1, embedded := false, tag := "", pkgPath := "", byteOffset := 24 }, { name := "Held", type := 4, offset := 2, embedded := false, tag := "", pkgPath := "", byteOffset := 32 }], size := 3, bytes := 40, zero := [Value.slice none 0 0, Value.int IntKind.i64 0, Value.bool false], eqk := false }
def ti125:TI := { desc:=TypeDesc.int IntKind.u64,size:=1,bytes:=8,zero:=[Value.int IntKind.u64 0],eqk:=false }
def ti129 : TI := { desc := TypeDesc.struct #[{ name := "Kind", type := 3, offset := 0, embedded := false, tag := "", pkgPath := "", byteOffset := 0 }, { name := "At", type := 3, offset := 1, embedded := false, tag := "", pkgPath := "", byteOffset := 8 }, { name := "In", type := 3, offset := 2, embedded := false, tag := "", pkgPath := "", byteOffset := 16 }], size := 3, bytes := 24, zero := [Value.int IntKind.i64 0, Value.int IntKind.i64 0, Value.int IntKind.i64 0], eqk := true }
def ti153:TI := { desc:=TypeDesc.slice 75,size:=1,bytes:=24,zero:=[Value.slice none 0 0],eqk:=false }
def ti155 : TI := { desc := TypeDesc.struct #[{ name := "Ready", type := 153, offset := 0, embedded := false, tag := "", pkgPath := "", byteOffset := 0 }, { name := "N", type := 3, offset := 1, embedded := false, tag := "", pkgPath := "", byteOffset := 24 }, { name := "Panes", type := 72, offset := 2, embedded := false, tag := "", pkgPath := "", byteOffset := 32 }, { name := "Lates", type := 73, offset := 3, embedded := false, tag := "", pkgPath := "", byteOffset := 56 }], size := 4, bytes := 80, zero := [Value.slice none 0 0, Value.int IntKind.i64 0, Value.slice none 0 0, Value.slice none 0 0], eqk := false }
def ti168 : TI := { desc := TypeDesc.struct #[{ name := "Kind", type := 3, offset := 0, embedded := false, tag := "", pkgPath := "", byteOffset := 0 }, { name := "T", type := 3, offset := 1, embedded := false, tag := "", pkgPath := "", byteOffset := 8 }, { name := "Key", type := 3, offset := 2, embedded := false, tag := "", pkgPath := "", byteOffset := 16 }, { name := "V", type := 3, offset := 3, embedded := false, tag := "", pkgPath := "", byteOffset := 24 }, { name := "N", type := 3, offset := 4, embedded := false, tag := "", pkgPath := "", byteOffset := 32 }], size := 5, bytes := 40, zero := [Value.int IntKind.i64 0, Value.int IntKind.i64 0, Value.int IntKind.i64 0, Value.int IntKind.i64 0, Value.int IntKind.i64 0], eqk := true }
def ti176 : TI := { desc := TypeDesc.struct #[{ name := "Key", type := 3, offset := 0, embedded := false, tag := "", pkgPath := "", byteOffset := 0 }, { name := "Win", type := 57, offset := 1, embedded := false, tag := "", pkgPath := "", byteOffset := 8 }, { name := "No", type := 3, offset := 3, embedded := false, tag := "", pkgPath := "", byteOffset := 24 }, { name := "Kind", type := 3, offset := 4, embedded := false, tag := "", pkgPath := "", byteOffset := 32 }, { name := "Agg", type := 89, offset := 5, embedded := false, tag := "", pkgPath := "", byteOffset := 40 }], size := 9, bytes := 72, zero := [Value.int IntKind.i64 0, Value.int IntKind.i64 0, Value.int IntKind.i64 0, Value.int IntKind.i64 0, Value.int IntKind.i64 0, Value.int IntKind.i64 0, Value.int IntKind.i64 0, Value.int IntKind.i64 0, Value.int IntKind.i64 0], eqk := true }
def ti179 : TI := { desc := TypeDesc.struct #[{ name := "Rec", type := 168, offset := 0, embedded := false, tag := "", pkgPath := "", byteOffset := 0 }, { name := "Win", type := 57, offset := 5, embedded := false, tag := "", pkgPath := "", byteOffset := 40 }], size := 7, bytes := 56, zero := [Value.int IntKind.i64 0, Value.int IntKind.i64 0, Value.int IntKind.i64 0, Value.int IntKind.i64 0, Value.int IntKind.i64 0, Value.int IntKind.i64 0, Value.int IntKind.i64 0], eqk := true }
def ti198:TI := { desc:=TypeDesc.slice 57,size:=1,bytes:=24,zero:=[Value.slice none 0 0],eqk:=false }
def tab:List (Nat × TI):=[(3,ti3),(4,ti4),(5,ti5),(22,ti22),(24,ti24),(25,ti25),(26,ti26),(27,ti27),(29,ti29),(31,ti31),(50,ti50),(52,ti52),(54,ti54),(57,ti57),(60,ti60),(61,ti61),(62,ti62),(63,ti63),(65,ti65),(69,ti69),(71,ti71),(72,ti72),(73,ti73),(75,ti75),(77,ti77),(82,ti82),(89,ti89),(91,ti91),(103,ti103),(106,ti106),(108,ti108),(125,ti125),(129,ti129),(153,ti153),(155,ti155),(168,ti168),(176,ti176),(179,ti179),(198,ti198)]
theorem row3:TRow Tryz.prog 3 ti3:=⟨Tryz.underlying3,⟨Tryz.t3,Value.int IntKind.i64 0,by kernel_rfl,rfl,rfl,rfl,rfl,rfl,rfl⟩,λh=>by cases h⟩
theorem row4:TRow Tryz.prog 4 ti4:=⟨Tryz.underlying4,⟨Tryz.t4,Value.bool false,by kernel_rfl,rfl,rfl,rfl,rfl,rfl,rfl⟩,λh=>by cases h⟩
theorem row5:TRow Tryz.prog 5 ti5:=⟨Tryz.underlying5,⟨Tryz.t5,Value.int IntKind.u8 0,by kernel_rfl,rfl,rfl,rfl,rfl,rfl,rfl⟩,λh=>by cases h⟩
theorem row22:TRow Tryz.prog 22 ti22:=⟨Tryz.underlying22,⟨Tryz.t22,Value.slice none 0 0,by kernel_rfl,rfl,rfl,rfl,rfl,rfl,rfl⟩,λh=>by cases h⟩
theorem row24:TRow Tryz.prog 24 ti24:=⟨Tryz.underlying24,⟨Tryz.t24,Value.agg #[Value.int IntKind.i64 0,Value.int IntKind.i64 0,Value.int IntKind.i64 0,Value.int IntKind.i64 0,Value.int IntKind.i64 0,Value.int IntKind.i64 0,Value.int IntKind.i64 0,Value.bool false,Value.int IntKind.i64 0,Value.int IntKind.i64 0],by kernel_rfl,rfl,rfl,rfl,rfl,rfl,rfl⟩,λ_=>⟨Tryz.stoodInHeld24,Tryz.eqGuardType24⟩⟩
theorem row25:TRow Tryz.prog 25 ti25:=⟨Tryz.underlying25,⟨Tryz.t25,Value.slice none 0 0,by kernel_rfl,rfl,rfl,rfl,rfl,rfl,rfl⟩,λh=>by cases h⟩
theorem row26:TRow Tryz.prog 26 ti26:=⟨Tryz.underlying26,⟨Tryz.t26,Value.slice none 0 0,by kernel_rfl,rfl,rfl,rfl,rfl,rfl,rfl⟩,λh=>by cases h⟩
theorem row27:TRow Tryz.prog 27 ti27:=⟨Tryz.underlying27,⟨Tryz.t27,Value.slice none 0 0,by kernel_rfl,rfl,rfl,rfl,rfl,rfl,rfl⟩,λh=>by cases h⟩
theorem row29:TRow Tryz.prog 29 ti29:=⟨Tryz.underlying29,⟨Tryz.t29,Value.agg #[Value.int IntKind.i64 0,Value.slice none 0 0,Value.slice none 0 0],by kernel_rfl,rfl,rfl,rfl,rfl,rfl,rfl⟩,λh=>by cases h⟩
theorem row31:TRow Tryz.prog 31 ti31:=⟨Tryz.underlying31,⟨Tryz.t31,Value.agg #[Value.int IntKind.i64 0,Value.bool false,Value.slice none 0 0,Value.slice none 0 0,Value.slice none 0 0,Value.int IntKind.i64 0,Value.slice none 0 0,Value.slice none 0 0],by kernel_rfl,rfl,rfl,rfl,rfl,rfl,rfl⟩,λh=>by cases h⟩
theorem row50:TRow Tryz.prog 50 ti50:=⟨Tryz.underlying50,⟨Tryz.t50,Value.slice none 0 0,by kernel_rfl,rfl,rfl,rfl,rfl,rfl,rfl⟩,λh=>by cases h⟩
theorem row52:TRow Tryz.prog 52 ti52:=⟨Tryz.underlying52,⟨Tryz.t52,Value.agg #[Value.int IntKind.i64 0,Value.slice none 0 0],by kernel_rfl,rfl,rfl,rfl,rfl,rfl,rfl⟩,λh=>by cases h⟩
theorem row54:TRow Tryz.prog 54 ti54:=⟨Tryz.underlying54,⟨Tryz.t54,Value.agg #[Value.int IntKind.i64 0,Value.slice none 0 0,Value.slice none 0 0],by kernel_rfl,rfl,rfl,rfl,rfl,rfl,rfl⟩,λh=>by cases h⟩
theorem row57:TRow Tryz.prog 57 ti57:=⟨Tryz.underlying57,⟨Tryz.t57,Value.agg #[Value.int IntKind.i64 0,Value.int IntKind.i64 0],by kernel_rfl,rfl,rfl,rfl,rfl,rfl,rfl⟩,λ_=>⟨Tryz.stoodInHeld57,Tryz.eqGuardType57⟩⟩
theorem row60:TRow Tryz.prog 60 ti60:=⟨Tryz.underlying60,⟨Tryz.t60,Value.slice none 0 0,by kernel_rfl,rfl,rfl,rfl,rfl,rfl,rfl⟩,λh=>by cases h⟩
theorem row61:TRow Tryz.prog 61 ti61:=⟨Tryz.underlying61,⟨Tryz.t61,Value.slice none 0 0,by kernel_rfl,rfl,rfl,rfl,rfl,rfl,rfl⟩,λh=>by cases h⟩
theorem row62:TRow Tryz.prog 62 ti62:=⟨Tryz.underlying62,⟨Tryz.t62,Value.slice none 0 0,by kernel_rfl,rfl,rfl,rfl,rfl,rfl,rfl⟩,λh=>by cases h⟩
theorem row63:TRow Tryz.prog 63 ti63:=⟨Tryz.underlying63,⟨Tryz.t63,Value.slice none 0 0,by kernel_rfl,rfl,rfl,rfl,rfl,rfl,rfl⟩,λh=>by cases h⟩
theorem row65:TRow Tryz.prog 65 ti65:=⟨Tryz.underlying65,⟨Tryz.t65,Value.agg #[Value.int IntKind.i64 0,Value.int IntKind.i64 0,Value.int IntKind.i64 0,Value.int IntKind.i64 0,Value.int IntKind.i64 0,Value.int IntKind.i64 0,Value.int IntKind.i64 0,Value.bool false,Value.int IntKind.i64 0,Value.int IntKind.i64 0,Value.slice none 0 0,Value.slice none 0 0,Value.slice none 0 0,Value.slice none 0 0,Value.int IntKind.i64 0,Value.bool false,Value.slice none 0 0,Value.slice none 0 0,Value.slice none 0 0,Value.int IntKind.i64 0,Value.slice none 0 0,Value.slice none 0 0],by kernel_rfl,rfl,rfl,rfl,rfl,rfl,rfl⟩,λh=>by cases h⟩
theorem row69:TRow Tryz.prog 69 ti69:=⟨Tryz.underlying69,⟨Tryz.t69,Value.agg #[Value.int IntKind.i64 0,Value.int IntKind.i64 0],by kernel_rfl,rfl,rfl,rfl,rfl,rfl,rfl⟩,λ_=>⟨Tryz.stoodInHeld69,Tryz.eqGuardType69⟩⟩
theorem row71:TRow Tryz.prog 71 ti71:=⟨Tryz.underlying71,⟨Tryz.t71,Value.slice none 0 0,by kernel_rfl,rfl,rfl,rfl,rfl,rfl,rfl⟩,λh=>by cases h⟩
theorem row72:TRow Tryz.prog 72 ti72:=⟨Tryz.underlying72,⟨Tryz.t72,Value.slice none 0 0,by kernel_rfl,rfl,rfl,rfl,rfl,rfl,rfl⟩,λh=>by cases h⟩
theorem row73:TRow Tryz.prog 73 ti73:=⟨Tryz.underlying73,⟨Tryz.t73,Value.slice none 0 0,by kernel_rfl,rfl,rfl,rfl,rfl,rfl,rfl⟩,λh=>by cases h⟩
theorem row75:TRow Tryz.prog 75 ti75:=⟨Tryz.underlying75,⟨Tryz.t75,Value.agg #[Value.int IntKind.i64 0,Value.slice none 0 0,Value.slice none 0 0],by kernel_rfl,rfl,rfl,rfl,rfl,rfl,rfl⟩,λh=>by cases h⟩
theorem row77:TRow Tryz.prog 77 ti77:=⟨Tryz.underlying77,⟨Tryz.t77,Value.agg #[Value.slice none 0 0,Value.int IntKind.i64 0,Value.slice none 0 0,Value.int IntKind.i64 0,Value.int IntKind.i64 0,Value.slice none 0 0,Value.slice none 0 0],by kernel_rfl,rfl,rfl,rfl,rfl,rfl,rfl⟩,λh=>by cases h⟩
theorem row82:TRow Tryz.prog 82 ti82:=⟨Tryz.underlying82,⟨Tryz.t82,Value.agg #[Value.slice none 0 0,Value.int IntKind.i64 0],by kernel_rfl,rfl,rfl,rfl,rfl,rfl,rfl⟩,λh=>by cases h⟩
theorem row89:TRow Tryz.prog 89 ti89:=⟨Tryz.underlying89,⟨Tryz.t89,Value.agg #[Value.int IntKind.i64 0,Value.int IntKind.i64 0,Value.int IntKind.i64 0,Value.int IntKind.i64 0],by kernel_rfl,rfl,rfl,rfl,rfl,rfl,rfl⟩,λ_=>⟨Tryz.stoodInHeld89,Tryz.eqGuardType89⟩⟩
theorem row91:TRow Tryz.prog 91 ti91:=⟨Tryz.underlying91,⟨Tryz.t91,Value.agg #[Value.int IntKind.i64 0,Value.int IntKind.i64 0,Value.int IntKind.i64 0,Value.int IntKind.i64 0,Value.int IntKind.i64 0,Value.int IntKind.i64 0,Value.int IntKind.i64 0,Value.int IntKind.i64 0,Value.int IntKind.i64 0,Value.int IntKind.i64 0,Value.int IntKind.i64 0,Value.int IntKind.i64 0,Value.bool false],by kernel_rfl,rfl,rfl,rfl,rfl,rfl,rfl⟩,λ_=>⟨Tryz.stoodInHeld91,Tryz.eqGuardType91⟩⟩
theorem row103:TRow Tryz.prog 103 ti103:=⟨Tryz.underlying103,⟨Tryz.t103,Value.slice none 0 0,by kernel_rfl,rfl,rfl,rfl,rfl,rfl,rfl⟩,λh=>by cases h⟩
theorem row106:TRow Tryz.prog 106 ti106:=⟨Tryz.underlying106,⟨Tryz.t106,Value.slice none 0 0,by kernel_rfl,rfl,rfl,rfl,rfl,rfl,rfl⟩,λh=>by cases h⟩
theorem row108:TRow Tryz.prog 108 ti108:=⟨Tryz.underlying108,⟨Tryz.t108,Value.agg #[Value.slice none 0 0,Value.int IntKind.i64 0,Value.bool false],by kernel_rfl,rfl,rfl,rfl,rfl,rfl,rfl⟩,λh=>by cases h⟩
theorem row125:TRow Tryz.prog 125 ti125:=⟨Tryz.underlying125,⟨Tryz.t125,Value.int IntKind.u64 0,by kernel_rfl,rfl,rfl,rfl,rfl,rfl,rfl⟩,λh=>by cases h⟩
theorem row129:TRow Tryz.prog 129 ti129:=⟨Tryz.underlying129,⟨Tryz.t129,Value.agg #[Value.int IntKind.i64 0,Value.int IntKind.i64 0,Value.int IntKind.i64 0],by kernel_rfl,rfl,rfl,rfl,rfl,rfl,rfl⟩,λ_=>⟨Tryz.stoodInHeld129,Tryz.eqGuardType129⟩⟩
theorem row153:TRow Tryz.prog 153 ti153:=⟨Tryz.underlying153,⟨Tryz.t153,Value.slice none 0 0,by kernel_rfl,rfl,rfl,rfl,rfl,rfl,rfl⟩,λh=>by cases h⟩
theorem row155:TRow Tryz.prog 155 ti155:=⟨Tryz.underlying155,⟨Tryz.t155,Value.agg #[Value.slice none 0 0,Value.int IntKind.i64 0,Value.slice none 0 0,Value.slice none 0 0],by kernel_rfl,rfl,rfl,rfl,rfl,rfl,rfl⟩,λh=>by cases h⟩
theorem row168:TRow Tryz.prog 168 ti168:=⟨Tryz.underlying168,⟨Tryz.t168,Value.agg #[Value.int IntKind.i64 0,Value.int IntKind.i64 0,Value.int IntKind.i64 0,Value.int IntKind.i64 0,Value.int IntKind.i64 0],by kernel_rfl,rfl,rfl,rfl,rfl,rfl,rfl⟩,λ_=>⟨Tryz.stoodInHeld168,Tryz.eqGuardType168⟩⟩
theorem row176:TRow Tryz.prog 176 ti176:=⟨Tryz.underlying176,⟨Tryz.t176,Value.agg #[Value.int IntKind.i64 0,Value.int IntKind.i64 0,Value.int IntKind.i64 0,Value.int IntKind.i64 0,Value.int IntKind.i64 0,Value.int IntKind.i64 0,Value.int IntKind.i64 0,Value.int IntKind.i64 0,Value.int IntKind.i64 0],by kernel_rfl,rfl,rfl,rfl,rfl,rfl,rfl⟩,λ_=>⟨Tryz.stoodInHeld176,Tryz.eqGuardType176⟩⟩
theorem row179:TRow Tryz.prog 179 ti179:=⟨Tryz.underlying179,⟨Tryz.t179,Value.agg #[Value.int IntKind.i64 0,Value.int IntKind.i64 0,Value.int IntKind.i64 0,Value.int IntKind.i64 0,Value.int IntKind.i64 0,Value.int IntKind.i64 0,Value.int IntKind.i64 0],by kernel_rfl,rfl,rfl,rfl,rfl,rfl,rfl⟩,λ_=>⟨Tryz.stoodInHeld179,Tryz.eqGuardType179⟩⟩
theorem row198:TRow Tryz.prog 198 ti198:=⟨Tryz.underlying198,⟨Tryz.t198,Value.slice none 0 0,by kernel_rfl,rfl,rfl,rfl,rfl,rfl,rfl⟩,λh=>by cases h⟩
theorem rows:TRows Tryz.prog tab:=⟨row3,row4,row5,row22,row24,row25,row26,row27,row29,row31,row50,row52,row54,row57,row60,row61,row62,row63,row65,row69,row71,row72,row73,row75,row77,row82,row89,row91,row103,row106,row108,row125,row129,row153,row155,row168,row176,row179,row198,trivial⟩
abbrev TT:TypeId->Option TI:=tabT tab
theorem l6:TTok Tryz.prog TT:=ttok_of rows (by decide +kernel)
end Go.Rk
namespace Go.Rk
set_option linter.unusedSimpArgs false
set_option linter.unusedVariables false
abbrev eI (n:Int):DV:=.v (.int .i64 n)
abbrev eB (n:Bool):DV:=.v (.bool n)
def xd (l:List DV):XT:=.agg (l.map .d)
structure Sl (α:Type) where
  n:Nat
  g:Nat -> α
  hn:n<=maxLen
structure JobT where
  srcs:Int
  tsks:Int
  kind:Int
  size:Int
  step:Int
  late:Int
  tell:Int
  piece:Bool
  least:Int
  room:Int
structure ItmT where
  kind:Int
  t:Int
  key:Int
  v:Int
  n:Int
structure WinT where
  s:Int
  e:Int
structure AggT where
  n:Int
  sum:Int
  least:Int
  most:Int
structure RowT where
  key:Int
  win:WinT
  all:AggT
  fresh:AggT
  told:Int
  timely:Bool
structure OpStT where
  mark:Int
  rows:Sl RowT
structure PaneT where
  key:Int
  win:WinT
  no:Int
  kind:Int
  agg:AggT
structure LatT where
  itm:ItmT
  win:WinT
structure TabT where
  key:Int
  win:WinT
  agg:AggT
structure TskInT where
  queue:Sl ItmT
  mark:Int
  held:Bool
structure TxnT where
  n:Int
  panes:Sl PaneT
  lates:Sl LatT
structure TskT where
  ins:Sl TskInT
  op:OpStT
  wall:Int
  pend:TxnT
structure SnapT where
  op:OpStT
  marks:Sl Int
structure SafeT where
  n:Int
  at_:Sl Int
  snaps:Sl SnapT
structure CkpT where
  n:Int
  opn:Bool
  src:Sl Int
  tsk:Sl Bool
  snaps:Sl SnapT
  safe:SafeT
structure SrcT where
  at_:Int
  wall:Int
structure SinkT where
  ready:Sl TxnT
  n:Int
  panes:Sl PaneT
  lates:Sl LatT
structure FloT where
  job:JobT
  logs:Sl (Sl ItmT)
  srcs:Sl SrcT
  tasks:Sl TskT
  sinks:Sl SinkT
  ckp:CkpT
def u7 (x:JobT):List DV:=[eI x.srcs,eI x.tsks,eI x.kind,eI x.size,eI x.step,eI x.late,eI x.tell,eB x.piece,eI x.least,eI x.room]
def n9 (x:ItmT):List DV:=[eI x.kind,eI x.t,eI x.key,eI x.v,eI x.n]
def eWin (x:WinT):List DV:=[eI x.s,eI x.e]
def eAgg (x:AggT):List DV:=[eI x.n,eI x.sum,eI x.least,eI x.most]
def i6 (x:RowT):List DV:=[eI x.key,eI x.win.s,eI x.win.e,eI x.all.n,eI x.all.sum,eI x.all.least,eI x.all.most,eI x.fresh.n,eI x.fresh.sum,eI x.fresh.least,eI x.fresh.most,eI x.told,eB x.timely]
def eOpSt (x:OpStT):List DV:=[eI x.mark,(.sl 13 x.rows.n λi=>i6 (x.rows.g i))]
def bdOpSt (x:OpStT):Prop:=x.rows.n<=1048576
def m6 (x:PaneT):List DV:=[eI x.key,eI x.win.s,eI x.win.e,eI x.no,eI x.kind,eI x.agg.n,eI x.agg.sum,eI x.agg.least,eI x.agg.most]
def eLat (x:LatT):List DV:=[eI x.itm.kind,eI x.itm.t,eI x.itm.key,eI x.itm.v,eI x.itm.n,eI x.win.s,eI x.win.e]
def l8 (x:TskInT):List DV:=[(.sl 5 x.queue.n λi=>n9 (x.queue.g i)),eI x.mark,eB x.held]
def bdTskIn (x:TskInT):Prop:=x.queue.n<=1048576
def eTxn (x:TxnT):List DV:=[eI x.n,(.sl 9 x.panes.n λi=>m6 (x.panes.g i)),(.sl 7 x.lates.n λi=>eLat (x.lates.g i))]
def bdTxn (x:TxnT):Prop:=x.panes.n<=1048576/\x.lates.n<=1048576
def v9 (x:TskT):List DV:=[(.sl 3 x.ins.n λi=>l8 (x.ins.g i)),eI x.op.mark,(.sl 13 x.op.rows.n λi=>i6 (x.op.rows.g i)),eI x.wall,eI x.pend.n,(.sl 9 x.pend.panes.n λi=>m6 (x.pend.panes.g i)),(.sl 7 x.pend.lates.n λi=>eLat (x.pend.lates.g i))]
def bdTsk (x:TskT):Prop:=x.ins.n<=1048576/\(∀ i,i<x.ins.n->bdTskIn (x.ins.g i))/\bdOpSt x.op/\bdTxn x.pend
def d9 (x:SnapT):List DV:=[eI x.op.mark,(.sl 13 x.op.rows.n λi=>i6 (x.op.rows.g i)),(.sl 1 x.marks.n λi=>[eI (x.marks.g i)])]
def bdSnap (x:SnapT):Prop:=bdOpSt x.op/\x.marks.n<=1048576
def eSafe (x:SafeT):List DV:=[eI x.n,(.sl 1 x.at_.n λi=>[eI (x.at_.g i)]),(.sl 3 x.snaps.n λi=>d9 (x.snaps.g i))]
def bdSafe (x:SafeT):Prop:=x.at_.n<=1048576/\x.snaps.n<=1048576/\(∀ i,i<x.snaps.n->bdSnap (x.snaps.g i))
def eCkp (x:CkpT):List DV:=[eI x.n,eB x.opn,(.sl 1 x.src.n λi=>[eI (x.src.g i)]),(.sl 1 x.tsk.n λi=>[eB (x.tsk.g i)]),(.sl 3 x.snaps.n λi=>d9 (x.snaps.g i)),eI x.safe.n,(.sl 1 x.safe.at_.n λi=>[eI (x.safe.at_.g i)]),(.sl 3 x.safe.snaps.n λi=>d9 (x.safe.snaps.g i))]
def bdCkp (x:CkpT):Prop:=x.src.n<=1048576/\x.tsk.n<=1048576/\x.snaps.n<=1048576/\(∀ i,i<x.snaps.n->bdSnap (x.snaps.g i))/\bdSafe x.safe
def eSrc (x:SrcT):List DV:=[eI x.at_,eI x.wall]
def s0 (x:SinkT):List DV:=[(.sl 3 x.ready.n λi=>eTxn (x.ready.g i)),eI x.n,(.sl 9 x.panes.n λi=>m6 (x.panes.g i)),(.sl 7 x.lates.n λi=>eLat (x.lates.g i))]
def bdSink (x:SinkT):Prop:=x.ready.n<=1048576/\(∀ i,i<x.ready.n->bdTxn (x.ready.g i))/\x.panes.n<=1048576/\x.lates.n<=1048576
def eFlo (x:FloT):List DV:=[eI x.job.srcs,eI x.job.tsks,eI x.job.kind,eI x.job.size,eI x.job.step,eI x.job.late,eI x.job.tell,eB x.job.piece,eI x.job.least,eI x.job.room,(.sl 1 x.logs.n λi=>[.sl 5 (x.logs.g i).n λk=>n9 ((x.logs.g i).g k)]),(.sl 2 x.srcs.n λi=>eSrc (x.srcs.g i)),(.sl 7 x.tasks.n λi=>v9 (x.tasks.g i)),(.sl 4 x.sinks.n λi=>s0 (x.sinks.g i)),eI x.ckp.n,eB x.ckp.opn,(.sl 1 x.ckp.src.n λi=>[eI (x.ckp.src.g i)]),(.sl 1 x.ckp.tsk.n λi=>[eB (x.ckp.tsk.g i)]),(.sl 3 x.ckp.snaps.n λi=>d9 (x.ckp.snaps.g i)),eI x.ckp.safe.n,(.sl 1 x.ckp.safe.at_.n λi=>[eI (x.ckp.safe.at_.g i)]),(.sl 3 x.ckp.safe.snaps.n λi=>d9 (x.ckp.safe.snaps.g i))]
def bdFlo (x:FloT):Prop:=x.logs.n<=1048576/\(∀ i,i<x.logs.n->(x.logs.g i).n<=1048576)/\x.srcs.n<=1048576/\x.tasks.n<=1048576/\(∀ i,i<x.tasks.n->bdTsk (x.tasks.g i))/\x.sinks.n<=1048576/\(∀ i,i<x.sinks.n->bdSink (x.sinks.g i))/\bdCkp x.ckp
theorem cut_of {A:Ar} (hA:real=A) {a b:Int} {n:Nat} (h:0<=a/\a<=b/\b<=n):A.cut a b n:=by subst hA;exact h
theorem sl0 {A:Ar} (hA:real=A) (sz i:Nat) (f:Nat->List DV):DV.sl sz (A.dif (Int.ofNat i) 0) (A.sub (A.nat 0) f)=.sl sz i f:=by
  subst hA
  have e:(λj=>f (0+j))=f:=by funext j;rw [Nat.zero_add]
  show DV.sl sz ((Int.ofNat i-0).toNat) (λj=>f ((0:Int).toNat+j))=_
  simp only [Int.sub_zero]
  exact congrArg (DV.sl sz i) e
theorem u5 (b x:Bool):(bif b then x else false)=(b&&x):=by cases b<;>rfl
theorem v4 (b x:Bool):(bif b then true else x)=(b||x):=by cases b<;>rfl
theorem v7 (b x:Bool):(bif b then false else x)=(!b&&x):=by cases b<;>rfl
theorem w4 (b x:Bool):(bif b then x else true)=(!b||x):=by cases b<;>rfl
def w64 (n:Int):Int:=IntKind.i64.wrap n
inductive FirstIx (n:Nat) (p:Nat->Prop):Int->Prop
  | at (i:Nat) (h:i<n) (hi:p i) (hb:∀ j,j<i->¬ p j):FirstIx n p i
  | none (hb:∀ j,j<n->¬ p j):FirstIx n p (-1)
theorem firstIx_ex (n:Nat) (p:Nat->Prop):∃ x,FirstIx n p x:=by
  by_cases h:∃ i,i<n/\p i
  · obtain ⟨i,hi⟩:=h
    induction i using Nat.strongRecOn with
    | _ i ih=>
      by_cases hm:∃ j,j<i/\p j
      · obtain ⟨j,hj1,hj2⟩:=hm
        exact ih j hj1 ⟨by omega,hj2⟩
      · exact ⟨_,.at i hi.1 hi.2 λj hj e=>hm ⟨j,hj,e⟩⟩
  · exact ⟨-1,.none λj hj e=>h ⟨j,hj,e⟩⟩
theorem firstIx_one {n:Nat} {p:Nat->Prop} {x y:Int} (h:FirstIx n p x) (h':FirstIx n p y):x=y:=by
  cases h with
  | «at» i hi hh hb=>
    cases h' with
    | «at» j hj hh' hb'=>
      have:i=j:=by
        rcases Nat.lt_trichotomy i j with h|h|h
        · exact absurd hh (hb' i h)
        · exact h
        · exact absurd hh' (hb j h)
      rw [this]
    | none hb'=>exact absurd hh (hb' i hi)
  | none hb=>
    cases h' with
    | «at» j hj hh' hb'=>exact absurd hh' (hb j hj)
    | none hb'=>rfl
theorem firstIx_neg {n:Nat} {p:Nat->Prop} {x:Int} (h:FirstIx n p x):(0<=x ↔ ∃ i,i<n/\p i)/\(0<=x->∃ i,i<n/\x=(i:Int)/\p i/\∀ j,j<i->¬ p j)/\(¬ 0<=x->x = -1):=by
  cases h with
  | «at» i hi hh hb=>exact ⟨⟨λ_=>⟨i,hi,hh⟩,λ_=>by omega⟩,λ_=>⟨i,hi,rfl,hh,hb⟩,λh=>absurd (by omega) h⟩
  | none hb=>exact ⟨⟨λh=>by omega,λ⟨i,hi,hp⟩=>absurd hp (hb i hi)⟩,λh=>by omega,λ_=>rfl⟩
def WinOkP (w:WinT):Prop:=(0<=w.s/\w.s<=60)/\IntKind.i64.wrap (w.s+1)<=w.e/\w.e<=120
def AggOkP (a:AggT):Prop:=(a.n=0/\a.sum=0/\a.least=0/\a.most=0) \/
  (a.n≠0/\(1<=a.n/\a.n<=1000)/\(-9<=a.least/\a.least<=9)/\(a.least<=a.most/\a.most<=9)/\(IntKind.i64.wrap (a.n*a.least)<=a.sum/\a.sum<=IntKind.i64.wrap (a.n*a.most)))
def ItmOkP (x:ItmT):Prop:=
  (x.kind=1/\(0<=x.t/\x.t<=60)/\(0<=x.key/\x.key<=3)/\(-9<=x.v/\x.v<=9)/\x.n=0) \/
  (x.kind=2/\((1<=x.t/\x.t<=60)\/x.t=1000)/\x.key=0/\x.v=0/\x.n=0) \/
  (x.kind=3/\x.t=0/\x.key=0/\x.v=0/\(1<=x.n/\x.n<=900))
def t9 (j:JobT):Prop:=(1<=j.srcs/\j.srcs<=3)/\(1<=j.tsks/\j.tsks<=2)/\(1<=j.kind/\j.kind<=3)/\(1<=j.size/\j.size<=20) /\
  ((j.kind=2/\(1<=j.step/\j.step<=j.size)/\j.size<=4*j.step)\/(j.kind≠2/\j.step=0)) /\
  (0<=j.late/\j.late<=20)/\(1<=j.tell/\j.tell<=4)/\(-9<=j.least/\j.least<=9)/\(1<=j.room/\j.room<=4)
def TouchP (a b:WinT):Prop:=a.s<b.e/\b.s<a.e
def WinLt (a b:WinT):Prop:=a.s<b.s\/(a.s=b.s/\a.e<b.e)
def AheadP (ak:Int) (aw:WinT) (bk:Int) (bw:WinT):Prop:=ak<bk\/(ak=bk/\WinLt aw bw)
def RowOkP (j:JobT) (r:RowT) (mark:Int):Prop:=(0<=r.key/\r.key<=3)/\WinOkP r.win/\AggOkP r.all/\AggOkP r.fresh/\r.all.n≠0/\r.fresh.n<=r.all.n/\(0<=r.told/\r.told<=1500) /\
  mark<IntKind.i64.wrap (r.win.e+j.late)/\(r.timely=true↔r.win.e<=mark)/\(0<r.told↔r.win.e<=mark)/\(r.fresh.n=0↔r.win.e<=mark)
def PaneOkP (p:PaneT):Prop:=(0<=p.key/\p.key<=3)/\WinOkP p.win/\(0<=p.no/\p.no<=1500)/\AggOkP p.agg /\
  ((p.kind=1/\p.no=0/\0<p.agg.n)\/(p.kind=2/\0<p.no/\0<p.agg.n)\/(p.kind=3/\0<p.no/\p.agg.n=0))
def LatOkP (l:LatT):Prop:=(l.itm.kind=1/\ItmOkP l.itm)/\WinOkP l.win/\(l.win.s<=l.itm.t/\l.itm.t<=IntKind.i64.wrap (l.win.e-1))
def OpOkP (j:JobT) (s:OpStT):Prop:=t9 j/\(0<=s.mark/\s.mark<=1000)/\s.rows.n<=300 /\
  ∀ i,i<s.rows.n->RowOkP j (s.rows.g i) s.mark/\(0<i->AheadP (s.rows.g (i-1)).key (s.rows.g (i-1)).win (s.rows.g i).key (s.rows.g i).win) /\
    (j.kind=3->∀ k,k<i->¬ ((s.rows.g k).key=(s.rows.g i).key/\TouchP (s.rows.g k).win (s.rows.g i).win))
theorem o0 {i n:Nat} (h:i<n) (hn:n<=maxLen):IntKind.i64.wrap ((i:Int)+1)=((i+1:Nat):Int):=by
  have hm:maxLen=9223372036854775807:=by decide
  rw [hm] at hn
  rw [IntWalk.i64_in _ (by omega)]
  simp
end Go.Rk
namespace Go.Rk
set_option linter.unusedSimpArgs false
set_option linter.unusedVariables false
open Go.Proofs
def EXA:FuncId->List Nat × Bool:=λ_=>([],false)
theorem e8:Tryz.prog.follows .mixedOrders=true:=by kernel_rfl
set_option maxRecDepth 100000 in
theorem c_in (n lo hi:Int):∃ b,b=decide (lo<=n/\n<=hi)/\d7 Tryz.prog 31 [.c (.d (eI n)),.c (.d (eI lo)),.c (.d (eI hi))] ⟨.one (.c (.d (eB b))),[none,none,none]⟩:=by
  obtain ⟨b,hb⟩:∃ b,b=decide (lo<=n/\n<=hi):=⟨_,rfl⟩
  refine ⟨b,hb,?_⟩
  refine d5 (H:=[]) (EX:=EXA) l6 e8 Tryz.func31 rfl (by kernel_rfl) (by decide) ?_
  generalize hA:real=A
  generalize hM:d4 Tryz.prog=M
  cbv
  repeat' first|apply And.intro|exact True.intro|with_reducible rfl|exact b7 hA rfl|apply c8 hA<;>intro _|exact c6 hA id | (subst hA;exact λh=>h) | (refine c5 hA ?_;decide +kernel)|fail
  all_goals subst hA
  all_goals refine congrArg (λb=>XA.one (.c (.d (eB b)))) (Bool.eq_iff_iff.2 ?_)
  all_goals subst_vars
  all_goals try simp only [real,u5,v4,v7,w4,decide_eq_true_eq,decide_eq_false_iff_not,beq_iff_eq,bne_iff_ne,beq_eq_false_iff_ne,bne_eq_false_iff_eq,ne_eq,Bool.and_eq_true,Bool.or_eq_true,Bool.not_eq_true',Bool.not_eq_false',Bool.and_eq_false_iff,Bool.or_eq_false_iff,Bool.false_eq_true,and_false,false_and,or_false,false_or,and_true,true_and,not_true_eq_false,not_false_eq_true,true_iff,false_iff,IntKind.wrap_i64] at *
  all_goals first
    | omega
    | skip
set_option maxRecDepth 100000 in
theorem c_l1In (n lo hi:Int):∃ b,b=decide (lo<=n/\n<=hi)/\d7 Tryz.prog 24 [.c (.d (eI n)),.c (.d (eI lo)),.c (.d (eI hi))] ⟨.one (.c (.d (eB b))),[none,none,none]⟩:=by
  obtain ⟨b,hb⟩:∃ b,b=decide (lo<=n/\n<=hi):=⟨_,rfl⟩
  refine ⟨b,hb,?_⟩
  refine d5 (H:=[]) (EX:=EXA) l6 e8 Tryz.func24 rfl (by kernel_rfl) (by decide) ?_
  generalize hA:real=A
  generalize hM:d4 Tryz.prog=M
  cbv
  repeat' first|apply And.intro|exact True.intro|with_reducible rfl|exact b7 hA rfl|apply c8 hA<;>intro _|exact c6 hA id | (subst hA;exact λh=>h) | (refine c5 hA ?_;decide +kernel)|fail
  all_goals subst hA
  all_goals refine congrArg (λb=>XA.one (.c (.d (eB b)))) (Bool.eq_iff_iff.2 ?_)
  all_goals subst_vars
  all_goals try simp only [real,u5,v4,v7,w4,decide_eq_true_eq,decide_eq_false_iff_not,beq_iff_eq,bne_iff_ne,beq_eq_false_iff_ne,bne_eq_false_iff_eq,ne_eq,Bool.and_eq_true,Bool.or_eq_true,Bool.not_eq_true',Bool.not_eq_false',Bool.and_eq_false_iff,Bool.or_eq_false_iff,Bool.false_eq_true,and_false,false_and,or_false,false_or,and_true,true_and,not_true_eq_false,not_false_eq_true,true_iff,false_iff,IntKind.wrap_i64] at *
  all_goals first
    | omega
    | skip
set_option maxRecDepth 100000 in
theorem c_WinOk (s e:Int):∃ b,b=decide ((0<=s/\s<=60)/\IntKind.i64.wrap (s+1)<=e/\e<=120)/\d7 Tryz.prog 27 [.agg [.d (eI s),.d (eI e)]] ⟨.one (.c (.d (eB b))),[none]⟩:=by
  obtain ⟨b,hb⟩:∃ b,b=decide ((0<=s/\s<=60)/\IntKind.i64.wrap (s+1)<=e/\e<=120):=⟨_,rfl⟩
  refine ⟨b,hb,?_⟩
  refine d5 (H:=[]) (EX:=EXA) l6 e8 Tryz.func27 rfl (by kernel_rfl) (by decide) ?_
  generalize hA:real=A
  generalize hM:d4 Tryz.prog=M
  cbv
  repeat' first|apply And.intro|exact True.intro|with_reducible rfl|exact b7 hA rfl|apply c8 hA<;>intro _|exact c6 hA id | (subst hA;exact λh=>h) | (refine c5 hA ?_;decide +kernel) | (refine d6 hA hM (c_in _ _ _) (λ_ _ => ?_);cbv)|fail
  all_goals subst hA
  all_goals refine congrArg (λb=>XA.one (.c (.d (eB b)))) (Bool.eq_iff_iff.2 ?_)
  all_goals subst_vars
  all_goals try simp only [real,u5,v4,v7,w4,decide_eq_true_eq,decide_eq_false_iff_not,beq_iff_eq,bne_iff_ne,beq_eq_false_iff_ne,bne_eq_false_iff_eq,ne_eq,Bool.and_eq_true,Bool.or_eq_true,Bool.not_eq_true',Bool.not_eq_false',Bool.and_eq_false_iff,Bool.or_eq_false_iff,Bool.false_eq_true,and_false,false_and,or_false,false_or,and_true,true_and,not_true_eq_false,not_false_eq_true,true_iff,false_iff,IntKind.wrap_i64] at *
  all_goals first
    | omega
    | skip
set_option maxRecDepth 100000 in
theorem c_sWinOk (s e:Int):∃ b,b=decide ((0<=s/\s<=60)/\IntKind.i64.wrap (s+1)<=e/\e<=120)/\d7 Tryz.prog 91 [.agg [.d (eI s),.d (eI e)]] ⟨.one (.c (.d (eB b))),[none]⟩:=by
  obtain ⟨b,hb⟩:∃ b,b=decide ((0<=s/\s<=60)/\IntKind.i64.wrap (s+1)<=e/\e<=120):=⟨_,rfl⟩
  refine ⟨b,hb,?_⟩
  refine d5 (H:=[]) (EX:=EXA) l6 e8 Tryz.func91 rfl (by kernel_rfl) (by decide) ?_
  generalize hA:real=A
  generalize hM:d4 Tryz.prog=M
  cbv
  repeat' first|apply And.intro|exact True.intro|with_reducible rfl|exact b7 hA rfl|apply c8 hA<;>intro _|exact c6 hA id | (subst hA;exact λh=>h) | (refine c5 hA ?_;decide +kernel) | (refine d6 hA hM (c_l1In _ _ _) (λ_ _ => ?_);cbv)|fail
  all_goals subst hA
  all_goals refine congrArg (λb=>XA.one (.c (.d (eB b)))) (Bool.eq_iff_iff.2 ?_)
  all_goals subst_vars
  all_goals try simp only [real,u5,v4,v7,w4,decide_eq_true_eq,decide_eq_false_iff_not,beq_iff_eq,bne_iff_ne,beq_eq_false_iff_ne,bne_eq_false_iff_eq,ne_eq,Bool.and_eq_true,Bool.or_eq_true,Bool.not_eq_true',Bool.not_eq_false',Bool.and_eq_false_iff,Bool.or_eq_false_iff,Bool.false_eq_true,and_false,false_and,or_false,false_or,and_true,true_and,not_true_eq_false,not_false_eq_true,true_iff,false_iff,IntKind.wrap_i64] at *
  all_goals first
    | omega
    | skip
set_option maxRecDepth 100000 in
theorem c_tells (n:Int):∃ b,b=decide (1<=n/\n<=4)/\d7 Tryz.prog 48 [.c (.d (eI n))] ⟨.one (.c (.d (eB b))),[none]⟩:=by
  obtain ⟨b,hb⟩:∃ b,b=decide (1<=n/\n<=4):=⟨_,rfl⟩
  refine ⟨b,hb,?_⟩
  refine d5 (H:=[]) (EX:=EXA) l6 e8 Tryz.func48 rfl (by kernel_rfl) (by decide) ?_
  generalize hA:real=A
  generalize hM:d4 Tryz.prog=M
  cbv
  repeat' first|apply And.intro|exact True.intro|with_reducible rfl|exact b7 hA rfl|apply c8 hA<;>intro _|exact c6 hA id | (subst hA;exact λh=>h) | (refine c5 hA ?_;decide +kernel) | (refine d6 hA hM (c_in _ _ _) (λ_ _ => ?_);cbv)|fail
  all_goals subst hA
  all_goals refine congrArg (λb=>XA.one (.c (.d (eB b)))) (Bool.eq_iff_iff.2 ?_)
  all_goals subst_vars
  all_goals try simp only [real,u5,v4,v7,w4,decide_eq_true_eq,decide_eq_false_iff_not,beq_iff_eq,bne_iff_ne,beq_eq_false_iff_ne,bne_eq_false_iff_eq,ne_eq,Bool.and_eq_true,Bool.or_eq_true,Bool.not_eq_true',Bool.not_eq_false',Bool.and_eq_false_iff,Bool.or_eq_false_iff,Bool.false_eq_true,and_false,false_and,or_false,false_or,and_true,true_and,not_true_eq_false,not_false_eq_true,true_iff,false_iff,IntKind.wrap_i64] at *
  all_goals first
    | omega
    | skip
set_option maxRecDepth 100000 in
theorem c_sItmOk (kind t key v n:Int):∃ b,b=decide ((kind=1/\(0<=t/\t<=60)/\(0<=key/\key<=3)/\(-9<=v/\v<=9)/\n=0)\/(kind=2/\((1<=t/\t<=60)\/t=1000)/\key=0/\v=0/\n=0)\/(kind=3/\t=0/\key=0/\v=0/\(1<=n/\n<=900)))/\d7 Tryz.prog 121 [.agg [.d (eI kind),.d (eI t),.d (eI key),.d (eI v),.d (eI n)]] ⟨.one (.c (.d (eB b))),[none]⟩:=by
  obtain ⟨b,hb⟩:∃ b,b=decide ((kind=1/\(0<=t/\t<=60)/\(0<=key/\key<=3)/\(-9<=v/\v<=9)/\n=0)\/(kind=2/\((1<=t/\t<=60)\/t=1000)/\key=0/\v=0/\n=0)\/(kind=3/\t=0/\key=0/\v=0/\(1<=n/\n<=900))):=⟨_,rfl⟩
  refine ⟨b,hb,?_⟩
  refine d5 (H:=[]) (EX:=EXA) l6 e8 Tryz.func121 rfl (by kernel_rfl) (by decide) ?_
  generalize hA:real=A
  generalize hM:d4 Tryz.prog=M
  cbv
  repeat' first|apply And.intro|exact True.intro|with_reducible rfl|exact b7 hA rfl|apply c8 hA<;>intro _|exact c6 hA id | (subst hA;exact λh=>h) | (refine c5 hA ?_;decide +kernel) | (refine d6 hA hM (c_l1In _ _ _) (λ_ _ => ?_);cbv)|fail
  all_goals subst hA
  all_goals refine congrArg (λb=>XA.one (.c (.d (eB b)))) (Bool.eq_iff_iff.2 ?_)
  all_goals subst_vars
  all_goals try simp only [real,u5,v4,v7,w4,decide_eq_true_eq,decide_eq_false_iff_not,beq_iff_eq,bne_iff_ne,beq_eq_false_iff_ne,bne_eq_false_iff_eq,ne_eq,Bool.and_eq_true,Bool.or_eq_true,Bool.not_eq_true',Bool.not_eq_false',Bool.and_eq_false_iff,Bool.or_eq_false_iff,Bool.false_eq_true,and_false,false_and,or_false,false_or,and_true,true_and,not_true_eq_false,not_false_eq_true,true_iff,false_iff,IntKind.wrap_i64] at *
  all_goals first
    | omega
    | skip
set_option maxRecDepth 100000 in
theorem c_JobOk (a b1 kind size step late tell:Int) (p:Bool) (least room:Int):∃ b,b=decide ((1<=a/\a<=3)/\(1<=b1/\b1<=2)/\(1<=kind/\kind<=3)/\(1<=size/\size<=20)/\((kind=2/\(1<=step/\step<=size)/\size<=4*step)\/(kind≠2/\step=0))/\(0<=late/\late<=20)/\(1<=tell/\tell<=4)/\(-9<=least/\least<=9)/\(1<=room/\room<=4))/\d7 Tryz.prog 29 [.agg [.d (eI a),.d (eI b1),.d (eI kind),.d (eI size),.d (eI step),.d (eI late),.d (eI tell),.d (eB p),.d (eI least),.d (eI room)]] ⟨.one (.c (.d (eB b))),[none]⟩:=by
  obtain ⟨b,hb⟩:∃ b,b=decide ((1<=a/\a<=3)/\(1<=b1/\b1<=2)/\(1<=kind/\kind<=3)/\(1<=size/\size<=20)/\((kind=2/\(1<=step/\step<=size)/\size<=4*step)\/(kind≠2/\step=0))/\(0<=late/\late<=20)/\(1<=tell/\tell<=4)/\(-9<=least/\least<=9)/\(1<=room/\room<=4)):=⟨_,rfl⟩
  refine ⟨b,hb,?_⟩
  refine d5 (H:=[]) (EX:=EXA) l6 e8 Tryz.func29 rfl (by kernel_rfl) (by decide) ?_
  generalize hA:real=A
  generalize hM:d4 Tryz.prog=M
  cbv
  repeat' first|apply And.intro|exact True.intro|with_reducible rfl|exact b7 hA rfl|apply c8 hA<;>intro _|exact c6 hA id | (subst hA;exact λh=>h) | (refine c5 hA ?_;decide +kernel) | (refine d6 hA hM (c_in _ _ _) (λ_ _ => ?_);cbv) | (refine d6 hA hM (c_tells _) (λ_ _ => ?_);cbv)|fail
  all_goals subst hA
  all_goals refine congrArg (λb=>XA.one (.c (.d (eB b)))) (Bool.eq_iff_iff.2 ?_)
  all_goals subst_vars
  all_goals try simp only [real,u5,v4,v7,w4,decide_eq_true_eq,decide_eq_false_iff_not,beq_iff_eq,bne_iff_ne,beq_eq_false_iff_ne,bne_eq_false_iff_eq,ne_eq,Bool.and_eq_true,Bool.or_eq_true,Bool.not_eq_true',Bool.not_eq_false',Bool.and_eq_false_iff,Bool.or_eq_false_iff,Bool.false_eq_true,and_false,false_and,or_false,false_or,and_true,true_and,not_true_eq_false,not_false_eq_true,true_iff,false_iff,IntKind.wrap_i64] at *
  all_goals first
    | omega
    | skip
set_option maxRecDepth 100000 in
theorem c_sJobOk (a b1 kind size step late tell:Int) (p:Bool) (least room:Int):∃ b,b=decide ((1<=a/\a<=3)/\(1<=b1/\b1<=2)/\(1<=kind/\kind<=3)/\(1<=size/\size<=20)/\((kind=2/\(1<=step/\step<=size)/\size<=4*step)\/(kind≠2/\step=0))/\(0<=late/\late<=20)/\(1<=tell/\tell<=4)/\(-9<=least/\least<=9)/\(1<=room/\room<=4))/\d7 Tryz.prog 23 [.agg [.d (eI a),.d (eI b1),.d (eI kind),.d (eI size),.d (eI step),.d (eI late),.d (eI tell),.d (eB p),.d (eI least),.d (eI room)]] ⟨.one (.c (.d (eB b))),[none]⟩:=by
  obtain ⟨b,hb⟩:∃ b,b=decide ((1<=a/\a<=3)/\(1<=b1/\b1<=2)/\(1<=kind/\kind<=3)/\(1<=size/\size<=20)/\((kind=2/\(1<=step/\step<=size)/\size<=4*step)\/(kind≠2/\step=0))/\(0<=late/\late<=20)/\(1<=tell/\tell<=4)/\(-9<=least/\least<=9)/\(1<=room/\room<=4)):=⟨_,rfl⟩
  refine ⟨b,hb,?_⟩
  refine d5 (H:=[]) (EX:=EXA) l6 e8 Tryz.func23 rfl (by kernel_rfl) (by decide) ?_
  generalize hA:real=A
  generalize hM:d4 Tryz.prog=M
  cbv
  repeat' first|apply And.intro|exact True.intro|with_reducible rfl|exact b7 hA rfl|apply c8 hA<;>intro _|exact c6 hA id | (subst hA;exact λh=>h) | (refine c5 hA ?_;decide +kernel) | (refine d6 hA hM (c_l1In _ _ _) (λ_ _ => ?_);cbv)|fail
  all_goals subst hA
  all_goals refine congrArg (λb=>XA.one (.c (.d (eB b)))) (Bool.eq_iff_iff.2 ?_)
  all_goals subst_vars
  all_goals try simp only [real,u5,v4,v7,w4,decide_eq_true_eq,decide_eq_false_iff_not,beq_iff_eq,bne_iff_ne,beq_eq_false_iff_ne,bne_eq_false_iff_eq,ne_eq,Bool.and_eq_true,Bool.or_eq_true,Bool.not_eq_true',Bool.not_eq_false',Bool.and_eq_false_iff,Bool.or_eq_false_iff,Bool.false_eq_true,and_false,false_and,or_false,false_or,and_true,true_and,not_true_eq_false,not_false_eq_true,true_iff,false_iff,IntKind.wrap_i64] at *
  all_goals first
    | omega
    | skip
set_option maxRecDepth 100000 in
theorem c_isTime (n:Int):∃ b,b=decide (0<=n/\n<=1000)/\d7 Tryz.prog 72 [.c (.d (eI n))] ⟨.one (.c (.d (eB b))),[none]⟩:=by
  obtain ⟨b,hb⟩:∃ b,b=decide (0<=n/\n<=1000):=⟨_,rfl⟩
  refine ⟨b,hb,?_⟩
  refine d5 (H:=[]) (EX:=EXA) l6 e8 Tryz.func72 rfl (by kernel_rfl) (by decide) ?_
  generalize hA:real=A
  generalize hM:d4 Tryz.prog=M
  cbv
  repeat' first|apply And.intro|exact True.intro|with_reducible rfl|exact b7 hA rfl|apply c8 hA<;>intro _|exact c6 hA id | (subst hA;exact λh=>h) | (refine c5 hA ?_;decide +kernel) | (refine d6 hA hM (c_in _ _ _) (λ_ _ => ?_);cbv)|fail
  all_goals subst hA
  all_goals refine congrArg (λb=>XA.one (.c (.d (eB b)))) (Bool.eq_iff_iff.2 ?_)
  all_goals subst_vars
  all_goals try simp only [real,u5,v4,v7,w4,decide_eq_true_eq,decide_eq_false_iff_not,beq_iff_eq,bne_iff_ne,beq_eq_false_iff_ne,bne_eq_false_iff_eq,ne_eq,Bool.and_eq_true,Bool.or_eq_true,Bool.not_eq_true',Bool.not_eq_false',Bool.and_eq_false_iff,Bool.or_eq_false_iff,Bool.false_eq_true,and_false,false_and,or_false,false_or,and_true,true_and,not_true_eq_false,not_false_eq_true,true_iff,false_iff,IntKind.wrap_i64] at *
  all_goals first
    | omega
    | skip
set_option maxRecDepth 100000 in
theorem c_isKey (n:Int):∃ b,b=decide (0<=n/\n<=3)/\d7 Tryz.prog 94 [.c (.d (eI n))] ⟨.one (.c (.d (eB b))),[none]⟩:=by
  obtain ⟨b,hb⟩:∃ b,b=decide (0<=n/\n<=3):=⟨_,rfl⟩
  refine ⟨b,hb,?_⟩
  refine d5 (H:=[]) (EX:=EXA) l6 e8 Tryz.func94 rfl (by kernel_rfl) (by decide) ?_
  generalize hA:real=A
  generalize hM:d4 Tryz.prog=M
  cbv
  repeat' first|apply And.intro|exact True.intro|with_reducible rfl|exact b7 hA rfl|apply c8 hA<;>intro _|exact c6 hA id | (subst hA;exact λh=>h) | (refine c5 hA ?_;decide +kernel) | (refine d6 hA hM (c_in _ _ _) (λ_ _ => ?_);cbv)|fail
  all_goals subst hA
  all_goals refine congrArg (λb=>XA.one (.c (.d (eB b)))) (Bool.eq_iff_iff.2 ?_)
  all_goals subst_vars
  all_goals try simp only [real,u5,v4,v7,w4,decide_eq_true_eq,decide_eq_false_iff_not,beq_iff_eq,bne_iff_ne,beq_eq_false_iff_ne,bne_eq_false_iff_eq,ne_eq,Bool.and_eq_true,Bool.or_eq_true,Bool.not_eq_true',Bool.not_eq_false',Bool.and_eq_false_iff,Bool.or_eq_false_iff,Bool.false_eq_true,and_false,false_and,or_false,false_or,and_true,true_and,not_true_eq_false,not_false_eq_true,true_iff,false_iff,IntKind.wrap_i64] at *
  all_goals first
    | omega
    | skip
set_option maxRecDepth 100000 in
theorem c_isNaN (n:Int):∃ b,b=decide (False)/\d7 Tryz.prog 111 [.c (.d (eI n))] ⟨.one (.c (.d (eB b))),[none]⟩:=by
  obtain ⟨b,hb⟩:∃ b,b=decide (False):=⟨_,rfl⟩
  refine ⟨b,hb,?_⟩
  refine d5 (H:=[]) (EX:=EXA) l6 e8 Tryz.func111 rfl (by kernel_rfl) (by decide) ?_
  generalize hA:real=A
  generalize hM:d4 Tryz.prog=M
  cbv
  repeat' first|apply And.intro|exact True.intro|with_reducible rfl|exact b7 hA rfl|apply c8 hA<;>intro _|exact c6 hA id | (subst hA;exact λh=>h) | (refine c5 hA ?_;decide +kernel)|fail
  all_goals subst hA
  all_goals refine congrArg (λb=>XA.one (.c (.d (eB b)))) (Bool.eq_iff_iff.2 ?_)
  all_goals subst_vars
  all_goals try simp only [real,u5,v4,v7,w4,decide_eq_true_eq,decide_eq_false_iff_not,beq_iff_eq,bne_iff_ne,beq_eq_false_iff_ne,bne_eq_false_iff_eq,ne_eq,Bool.and_eq_true,Bool.or_eq_true,Bool.not_eq_true',Bool.not_eq_false',Bool.and_eq_false_iff,Bool.or_eq_false_iff,Bool.false_eq_true,and_false,false_and,or_false,false_or,and_true,true_and,not_true_eq_false,not_false_eq_true,true_iff,false_iff,IntKind.wrap_i64] at *
  all_goals first
    | omega
    | skip
set_option maxRecDepth 100000 in
theorem c_Compare (a b:Int):∃ x:Int,x=(if a<b then -1 else if b<a then 1 else 0)/\d7 Tryz.prog 97 [.c (.d (eI a)),.c (.d (eI b))] ⟨.one (.c (.d (eI x))),[none,none]⟩:=by
  obtain ⟨x,hx⟩:∃ x:Int,x=(if a<b then -1 else if b<a then 1 else 0):=⟨_,rfl⟩
  refine ⟨x,hx,?_⟩
  refine d5 (H:=[]) (EX:=EXA) l6 e8 Tryz.func97 rfl (by kernel_rfl) (by decide) ?_
  generalize hA:real=A
  generalize hM:d4 Tryz.prog=M
  cbv
  repeat' first|apply And.intro|exact True.intro|with_reducible rfl|exact b7 hA rfl|apply c8 hA<;>intro _|exact c6 hA id | (subst hA;exact λh=>h) | (refine c5 hA ?_;decide +kernel) | (refine d6 hA hM (c_isNaN _) (λ_ _ => ?_);cbv)|fail
  all_goals subst hA
  all_goals refine congrArg (λx=>XA.one (.c (.d (eI x)))) ?_
  all_goals subst_vars
  all_goals try simp only [real,u5,v4,v7,w4,decide_eq_true_eq,decide_eq_false_iff_not,beq_iff_eq,bne_iff_ne,beq_eq_false_iff_ne,bne_eq_false_iff_eq,ne_eq,Bool.and_eq_true,Bool.or_eq_true,Bool.not_eq_true',Bool.not_eq_false',Bool.and_eq_false_iff,Bool.or_eq_false_iff,Bool.false_eq_true,reduceCtorEq] at *
  all_goals first
    | omega
    | skip
inductive FirstNz (n:Nat) (g:Nat->Int):Int->Prop
  | at (i:Nat) (h:i<n) (hi:g i≠0) (hb:∀ j,j<i->g j=0):FirstNz n g (g i)
  | none (hb:∀ j,j<n->g j=0):FirstNz n g 0
theorem firstNz_ex (n:Nat) (g:Nat->Int):∃ x,FirstNz n g x:=by
  by_cases h:∃ i,i<n/\g i≠0
  · obtain ⟨i,hi⟩:=h
    induction i using Nat.strongRecOn with
    | _ i ih=>
      by_cases hm:∃ j,j<i/\g j≠0
      · obtain ⟨j,hj1,hj2⟩:=hm
        exact ih j hj1 ⟨by omega,hj2⟩
      · exact ⟨_,.at i hi.1 hi.2 λj hj=>Classical.not_not.1 λe=>hm ⟨j,hj,e⟩⟩
  · exact ⟨0,.none λj hj=>Classical.not_not.1 λe=>h ⟨j,hj,e⟩⟩
theorem firstNz_one {n:Nat} {g:Nat->Int} {x y:Int} (h:FirstNz n g x) (h':FirstNz n g y):x=y:=by
  cases h with
  | «at» i hi hh hb=>
    cases h' with
    | «at» j hj hh' hb'=>
      have:i=j:=by
        rcases Nat.lt_trichotomy i j with h|h|h
        · exact absurd (hb' i h) hh
        · exact h
        · exact absurd (hb j h) hh'
      rw [this]
    | none hb'=>exact absurd (hb' i hi) hh
  | none hb=>
    cases h' with
    | «at» j hj hh' hb'=>exact absurd (hb j hj) hh'
    | none hb'=>rfl
theorem firstNz_two {g:Nat->Int} {x:Int} (h:FirstNz 2 g x):x=if g 0=0 then g 1 else g 0:=by
  refine firstNz_one h ?_
  by_cases h0:g 0=0
  · rw [if_pos h0]
    by_cases h1:g 1=0
    · rw [h1];exact .none λj hj=>by rcases j with _|_|j;exact h0;exact h1;omega
    · exact .at 1 (by omega) h1 λj hj=>by rcases j with _|j;exact h0;omega
  · rw [if_neg h0];exact .at 0 (by omega) h0 λj hj=>by omega
def stOr (n:Nat) (g:Nat->Int) (i:Nat):St:=⟨[(8,.c (.d (eI i))),(7,.c (.d (eI n))),(6,.c (.d (.sl 1 n λi=>[eI (g i)]))),(3,.c (.d (eI 0)))],[]⟩
set_option maxRecDepth 100000 in
theorem m_Or (n:Nat) (hn:n<=maxLen) (g:Nat->Int) (x:Int) (hx:FirstNz n g x):d7 Tryz.prog 96 [.c (.d (.sl 1 n λi=>[eI (g i)]))] ⟨.one (.c (.d (eI x))),[none]⟩:=by
  refine d5 (H:=[]) (EX:=EXA) l6 e8 Tryz.func96 rfl (by kernel_rfl) (by decide) ?_
  generalize hA:real=A
  generalize hM:d4 Tryz.prog=M
  cbv
  repeat' first|apply And.intro|exact True.intro|with_reducible rfl|exact b7 hA rfl|apply c8 hA<;>intro _|exact c6 hA id | (subst hA;exact λh=>h) | (refine c5 hA ?_;decide +kernel)|fail
  refine i7 hA (α := { i:Nat // i<=n/\∀ j,j<i->g j=0 }) (λx=>stOr n g x.1) (λx=>n-x.1) ⟨0,Nat.zero_le _,λj h=>absurd h (Nat.not_lt_zero _)⟩ ?_ ?_
  · refine c7 ?_ ?_ ?_
    · cbv;subst hA;exact ⟨rfl,rfl,trivial⟩
    · cbv
    · cbv
  rintro ⟨i,hi,hb⟩
  cbv
  repeat' first|apply And.intro|exact True.intro|with_reducible rfl|exact b7 hA rfl|apply c8 hA<;>intro _|exact c6 hA id | (subst hA;exact λh=>h) | (refine c5 hA ?_;decide +kernel) | (refine d8 hA λ_ => ?_;subst hA;simp only [real,decide_eq_true_eq,Int.ofNat_eq_natCast] at *;omega)|fail
  · rename_i hlt hne
    subst hA
    simp only [real,decide_eq_true_eq,Int.ofNat_eq_natCast,Int.toNat_natCast,bne_iff_ne] at *
    obtain rfl:=firstNz_one hx (.at i (by omega) hne hb)
    rfl
  · rename_i hlt hne
    have hlt':i<n:=by subst hA;simp only [real,decide_eq_true_eq,Int.ofNat_eq_natCast] at hlt;omega
    refine ⟨⟨i+1,by omega,λj hj => ?_⟩,by simp only;omega,c7 ?_ ?_ ?_⟩
    · by_cases e:j=i
      · subst e
        subst hA
        simpa [real] using hne
      · exact hb j (by omega)
    · cbv
      subst hA
      exact ⟨congrArg (λx=>DV.v (.int .i64 x)) (o0 hlt' hn),trivial⟩
    · cbv
    · cbv
  · subst hA
    simp only [real,decide_eq_false_iff_not,Int.ofNat_eq_natCast] at *
    obtain rfl:=firstNz_one hx (.none λj hj=>hb j (by omega))
    rfl
theorem two_of {A:Ar} (hA:real=A) (a b:Int):A.sub 0 (A.app 1 (A.rep [eI a]) (A.app 1 (A.rep [eI b]) (A.rep [eI 0])))=λi=>[eI (if i=0 then a else if i=1 then b else 0)]:=by
  subst hA
  funext i
  rcases i with _|_|i
  · rfl
  · rfl
  · simp [real]
theorem c_Or (a b:Int):∃ x:Int,x=(if a=0 then b else a)/\d7 Tryz.prog 96 [.c (.d (.sl 1 2 λi=>[eI (if i=0 then a else if i=1 then b else 0)]))] ⟨.one (.c (.d (eI x))),[none]⟩:=by
  obtain ⟨x,hx⟩:=firstNz_ex 2 λi=>if i=0 then a else if i=1 then b else 0
  exact ⟨x,firstNz_two hx,m_Or 2 (by decide) _ x hx⟩
set_option maxRecDepth 100000 in
theorem c_wcompare (s e s2 e2:Int):∃ x:Int,x=(if s<s2 then -1 else if s2<s then 1 else if e<e2 then -1 else if e2<e then 1 else 0)/\d7 Tryz.prog 98 [.agg [.d (eI s),.d (eI e)],.agg [.d (eI s2),.d (eI e2)]] ⟨.one (.c (.d (eI x))),[none,none]⟩:=by
  obtain ⟨x,hx⟩:∃ x:Int,x=(if s<s2 then -1 else if s2<s then 1 else if e<e2 then -1 else if e2<e then 1 else 0):=⟨_,rfl⟩
  refine ⟨x,hx,?_⟩
  refine d5 (H:=[]) (EX:=EXA) l6 e8 Tryz.func98 rfl (by kernel_rfl) (by decide) ?_
  generalize hA:real=A
  generalize hM:d4 Tryz.prog=M
  cbv
  repeat' first|apply And.intro|exact True.intro|with_reducible rfl|exact b7 hA rfl|apply c8 hA<;>intro _|exact c6 hA id | (subst hA;exact λh=>h) | (refine c5 hA ?_;decide +kernel) | (refine d6 hA hM (c_Compare _ _) (λ_ _ => ?_);cbv) | (refine l7 hA hM (c_Or _ _) (congrArg (λf=>[XT.c (.d (.sl 1 2 f))]) (two_of hA _ _)) (λ_ _ => ?_);cbv)|fail
  all_goals subst hA
  all_goals refine congrArg (λx=>XA.one (.c (.d (eI x)))) ?_
  all_goals subst_vars
  all_goals try simp only [real,u5,v4,v7,w4,decide_eq_true_eq,decide_eq_false_iff_not,beq_iff_eq,bne_iff_ne,beq_eq_false_iff_ne,bne_eq_false_iff_eq,ne_eq,Bool.and_eq_true,Bool.or_eq_true,Bool.not_eq_true',Bool.not_eq_false',Bool.and_eq_false_iff,Bool.or_eq_false_iff,Bool.false_eq_true,reduceCtorEq] at *
  all_goals first
    | omega
    | skip
set_option maxRecDepth 100000 in
theorem c_rcompare (r q:RowT):∃ x:Int,x=(if r.key<q.key then -1 else if q.key<r.key then 1 else if r.win.s<q.win.s then -1 else if q.win.s<r.win.s then 1 else if r.win.e<q.win.e then -1 else if q.win.e<r.win.e then 1 else 0)/\d7 Tryz.prog 74 [xd (i6 r),xd (i6 q)] ⟨.one (.c (.d (eI x))),[none,none]⟩:=by
  obtain ⟨x,hx⟩:∃ x:Int,x=(if r.key<q.key then -1 else if q.key<r.key then 1 else if r.win.s<q.win.s then -1 else if q.win.s<r.win.s then 1 else if r.win.e<q.win.e then -1 else if q.win.e<r.win.e then 1 else 0):=⟨_,rfl⟩
  refine ⟨x,hx,?_⟩
  refine d5 (H:=[]) (EX:=EXA) l6 e8 Tryz.func74 rfl (by kernel_rfl) (by decide) ?_
  generalize hA:real=A
  generalize hM:d4 Tryz.prog=M
  cbv
  repeat' first|apply And.intro|exact True.intro|with_reducible rfl|exact b7 hA rfl|apply c8 hA<;>intro _|exact c6 hA id | (subst hA;exact λh=>h) | (refine c5 hA ?_;decide +kernel) | (refine d6 hA hM (c_Compare _ _) (λ_ _ => ?_);cbv) | (refine d6 hA hM (c_wcompare _ _ _ _) (λ_ _ => ?_);cbv) | (refine l7 hA hM (c_Or _ _) (congrArg (λf=>[XT.c (.d (.sl 1 2 f))]) (two_of hA _ _)) (λ_ _ => ?_);cbv)|fail
  all_goals subst hA
  all_goals refine congrArg (λx=>XA.one (.c (.d (eI x)))) ?_
  all_goals subst_vars
  all_goals try simp only [real,u5,v4,v7,w4,decide_eq_true_eq,decide_eq_false_iff_not,beq_iff_eq,bne_iff_ne,beq_eq_false_iff_ne,bne_eq_false_iff_eq,ne_eq,Bool.and_eq_true,Bool.or_eq_true,Bool.not_eq_true',Bool.not_eq_false',Bool.and_eq_false_iff,Bool.or_eq_false_iff,Bool.false_eq_true,reduceCtorEq] at *
  all_goals first
    | omega
    | skip
set_option maxRecDepth 100000 in
theorem c_WinTouch (s e s2 e2:Int):∃ b,b=decide (s<e2/\s2<e)/\d7 Tryz.prog 76 [.agg [.d (eI s),.d (eI e)],.agg [.d (eI s2),.d (eI e2)]] ⟨.one (.c (.d (eB b))),[none,none]⟩:=by
  obtain ⟨b,hb⟩:∃ b,b=decide (s<e2/\s2<e):=⟨_,rfl⟩
  refine ⟨b,hb,?_⟩
  refine d5 (H:=[]) (EX:=EXA) l6 e8 Tryz.func76 rfl (by kernel_rfl) (by decide) ?_
  generalize hA:real=A
  generalize hM:d4 Tryz.prog=M
  cbv
  repeat' first|apply And.intro|exact True.intro|with_reducible rfl|exact b7 hA rfl|apply c8 hA<;>intro _|exact c6 hA id | (subst hA;exact λh=>h) | (refine c5 hA ?_;decide +kernel)|fail
  all_goals subst hA
  all_goals refine congrArg (λb=>XA.one (.c (.d (eB b)))) (Bool.eq_iff_iff.2 ?_)
  all_goals subst_vars
  all_goals try simp only [real,u5,v4,v7,w4,decide_eq_true_eq,decide_eq_false_iff_not,beq_iff_eq,bne_iff_ne,beq_eq_false_iff_ne,bne_eq_false_iff_eq,ne_eq,Bool.and_eq_true,Bool.or_eq_true,Bool.not_eq_true',Bool.not_eq_false',Bool.and_eq_false_iff,Bool.or_eq_false_iff,Bool.false_eq_true,and_false,false_and,or_false,false_or,and_true,true_and,not_true_eq_false,not_false_eq_true,true_iff,false_iff,IntKind.wrap_i64] at *
  all_goals first
    | omega
    | skip
set_option maxRecDepth 100000 in
theorem c_sWinTouch (s e s2 e2:Int):∃ b,b=decide (s<e2/\s2<e)/\d7 Tryz.prog 69 [.agg [.d (eI s),.d (eI e)],.agg [.d (eI s2),.d (eI e2)]] ⟨.one (.c (.d (eB b))),[none,none]⟩:=by
  obtain ⟨b,hb⟩:∃ b,b=decide (s<e2/\s2<e):=⟨_,rfl⟩
  refine ⟨b,hb,?_⟩
  refine d5 (H:=[]) (EX:=EXA) l6 e8 Tryz.func69 rfl (by kernel_rfl) (by decide) ?_
  generalize hA:real=A
  generalize hM:d4 Tryz.prog=M
  cbv
  repeat' first|apply And.intro|exact True.intro|with_reducible rfl|exact b7 hA rfl|apply c8 hA<;>intro _|exact c6 hA id | (subst hA;exact λh=>h) | (refine c5 hA ?_;decide +kernel)|fail
  all_goals subst hA
  all_goals refine congrArg (λb=>XA.one (.c (.d (eB b)))) (Bool.eq_iff_iff.2 ?_)
  all_goals subst_vars
  all_goals try simp only [real,u5,v4,v7,w4,decide_eq_true_eq,decide_eq_false_iff_not,beq_iff_eq,bne_iff_ne,beq_eq_false_iff_ne,bne_eq_false_iff_eq,ne_eq,Bool.and_eq_true,Bool.or_eq_true,Bool.not_eq_true',Bool.not_eq_false',Bool.and_eq_false_iff,Bool.or_eq_false_iff,Bool.false_eq_true,and_false,false_and,or_false,false_or,and_true,true_and,not_true_eq_false,not_false_eq_true,true_iff,false_iff,IntKind.wrap_i64] at *
  all_goals first
    | omega
    | skip
set_option maxRecDepth 100000 in
theorem c_l2Less (s e s2 e2:Int):∃ b,b=decide (s<s2\/(s=s2/\e<e2))/\d7 Tryz.prog 93 [.agg [.d (eI s),.d (eI e)],.agg [.d (eI s2),.d (eI e2)]] ⟨.one (.c (.d (eB b))),[none,none]⟩:=by
  obtain ⟨b,hb⟩:∃ b,b=decide (s<s2\/(s=s2/\e<e2)):=⟨_,rfl⟩
  refine ⟨b,hb,?_⟩
  refine d5 (H:=[]) (EX:=EXA) l6 e8 Tryz.func93 rfl (by kernel_rfl) (by decide) ?_
  generalize hA:real=A
  generalize hM:d4 Tryz.prog=M
  cbv
  repeat' first|apply And.intro|exact True.intro|with_reducible rfl|exact b7 hA rfl|apply c8 hA<;>intro _|exact c6 hA id | (subst hA;exact λh=>h) | (refine c5 hA ?_;decide +kernel)|fail
  all_goals subst hA
  all_goals refine congrArg (λb=>XA.one (.c (.d (eB b)))) (Bool.eq_iff_iff.2 ?_)
  all_goals subst_vars
  all_goals try simp only [real,u5,v4,v7,w4,decide_eq_true_eq,decide_eq_false_iff_not,beq_iff_eq,bne_iff_ne,beq_eq_false_iff_ne,bne_eq_false_iff_eq,ne_eq,Bool.and_eq_true,Bool.or_eq_true,Bool.not_eq_true',Bool.not_eq_false',Bool.and_eq_false_iff,Bool.or_eq_false_iff,Bool.false_eq_true,and_false,false_and,or_false,false_or,and_true,true_and,not_true_eq_false,not_false_eq_true,true_iff,false_iff,IntKind.wrap_i64] at *
  all_goals first
    | omega
    | skip
set_option maxRecDepth 100000 in
theorem c_l5Ahead (k s e k2 s2 e2:Int):∃ b,b=decide (k<k2\/(k=k2/\(s<s2\/(s=s2/\e<e2))))/\d7 Tryz.prog 68 [.c (.d (eI k)),.agg [.d (eI s),.d (eI e)],.c (.d (eI k2)),.agg [.d (eI s2),.d (eI e2)]] ⟨.one (.c (.d (eB b))),[none,none,none,none]⟩:=by
  obtain ⟨b,hb⟩:∃ b,b=decide (k<k2\/(k=k2/\(s<s2\/(s=s2/\e<e2)))):=⟨_,rfl⟩
  refine ⟨b,hb,?_⟩
  refine d5 (H:=[]) (EX:=EXA) l6 e8 Tryz.func68 rfl (by kernel_rfl) (by decide) ?_
  generalize hA:real=A
  generalize hM:d4 Tryz.prog=M
  cbv
  repeat' first|apply And.intro|exact True.intro|with_reducible rfl|exact b7 hA rfl|apply c8 hA<;>intro _|exact c6 hA id | (subst hA;exact λh=>h) | (refine c5 hA ?_;decide +kernel) | (refine d6 hA hM (c_l2Less _ _ _ _) (λ_ _ => ?_);cbv)|fail
  all_goals subst hA
  all_goals refine congrArg (λb=>XA.one (.c (.d (eB b)))) (Bool.eq_iff_iff.2 ?_)
  all_goals subst_vars
  all_goals try simp only [real,u5,v4,v7,w4,decide_eq_true_eq,decide_eq_false_iff_not,beq_iff_eq,bne_iff_ne,beq_eq_false_iff_ne,bne_eq_false_iff_eq,ne_eq,Bool.and_eq_true,Bool.or_eq_true,Bool.not_eq_true',Bool.not_eq_false',Bool.and_eq_false_iff,Bool.or_eq_false_iff,Bool.false_eq_true,and_false,false_and,or_false,false_or,and_true,true_and,not_true_eq_false,not_false_eq_true,true_iff,false_iff,IntKind.wrap_i64] at *
  all_goals first
    | omega
    | skip
set_option maxRecDepth 100000 in
theorem c_AggOk (n sum least most:Int):∃ b,b=decide ((n=0/\sum=0/\least=0/\most=0)\/(n≠0/\(1<=n/\n<=1000)/\(-9<=least/\least<=9)/\(least<=most/\most<=9)/\(IntKind.i64.wrap (n*least)<=sum/\sum<=IntKind.i64.wrap (n*most))))/\d7 Tryz.prog 95 [.agg [.d (eI n),.d (eI sum),.d (eI least),.d (eI most)]] ⟨.one (.c (.d (eB b))),[none]⟩:=by
  obtain ⟨b,hb⟩:∃ b,b=decide ((n=0/\sum=0/\least=0/\most=0)\/(n≠0/\(1<=n/\n<=1000)/\(-9<=least/\least<=9)/\(least<=most/\most<=9)/\(IntKind.i64.wrap (n*least)<=sum/\sum<=IntKind.i64.wrap (n*most)))):=⟨_,rfl⟩
  refine ⟨b,hb,?_⟩
  refine d5 (H:=[]) (EX:=EXA) l6 e8 Tryz.func95 rfl (by kernel_rfl) (by decide) ?_
  generalize hA:real=A
  generalize hM:d4 Tryz.prog=M
  cbv
  repeat' first|apply And.intro|exact True.intro|with_reducible rfl|exact b7 hA rfl|apply c8 hA<;>intro _|exact c6 hA id | (subst hA;exact λh=>h) | (refine c5 hA ?_;decide +kernel) | (refine d6 hA hM (c_in _ _ _) (λ_ _ => ?_);cbv)|fail
  all_goals subst hA
  all_goals refine congrArg (λb=>XA.one (.c (.d (eB b)))) (Bool.eq_iff_iff.2 ?_)
  all_goals subst_vars
  all_goals try simp only [real,u5,v4,v7,w4,decide_eq_true_eq,decide_eq_false_iff_not,beq_iff_eq,bne_iff_ne,beq_eq_false_iff_ne,bne_eq_false_iff_eq,ne_eq,Bool.and_eq_true,Bool.or_eq_true,Bool.not_eq_true',Bool.not_eq_false',Bool.and_eq_false_iff,Bool.or_eq_false_iff,Bool.false_eq_true,and_false,false_and,or_false,false_or,and_true,true_and,not_true_eq_false,not_false_eq_true,true_iff,false_iff,IntKind.wrap_i64] at *
  all_goals first
    | omega
    | skip
set_option maxRecDepth 100000 in
theorem c_sAggOk (n sum least most:Int):∃ b,b=decide ((n=0/\sum=0/\least=0/\most=0)\/(n≠0/\(1<=n/\n<=1000)/\(-9<=least/\least<=9)/\(least<=most/\most<=9)/\(IntKind.i64.wrap (n*least)<=sum/\sum<=IntKind.i64.wrap (n*most))))/\d7 Tryz.prog 92 [.agg [.d (eI n),.d (eI sum),.d (eI least),.d (eI most)]] ⟨.one (.c (.d (eB b))),[none]⟩:=by
  obtain ⟨b,hb⟩:∃ b,b=decide ((n=0/\sum=0/\least=0/\most=0)\/(n≠0/\(1<=n/\n<=1000)/\(-9<=least/\least<=9)/\(least<=most/\most<=9)/\(IntKind.i64.wrap (n*least)<=sum/\sum<=IntKind.i64.wrap (n*most)))):=⟨_,rfl⟩
  refine ⟨b,hb,?_⟩
  refine d5 (H:=[]) (EX:=EXA) l6 e8 Tryz.func92 rfl (by kernel_rfl) (by decide) ?_
  generalize hA:real=A
  generalize hM:d4 Tryz.prog=M
  cbv
  repeat' first|apply And.intro|exact True.intro|with_reducible rfl|exact b7 hA rfl|apply c8 hA<;>intro _|exact c6 hA id | (subst hA;exact λh=>h) | (refine c5 hA ?_;decide +kernel) | (refine d6 hA hM (c_l1In _ _ _) (λ_ _ => ?_);cbv)|fail
  all_goals subst hA
  all_goals refine congrArg (λb=>XA.one (.c (.d (eB b)))) (Bool.eq_iff_iff.2 ?_)
  all_goals subst_vars
  all_goals try simp only [real,u5,v4,v7,w4,decide_eq_true_eq,decide_eq_false_iff_not,beq_iff_eq,bne_iff_ne,beq_eq_false_iff_ne,bne_eq_false_iff_eq,ne_eq,Bool.and_eq_true,Bool.or_eq_true,Bool.not_eq_true',Bool.not_eq_false',Bool.and_eq_false_iff,Bool.or_eq_false_iff,Bool.false_eq_true,and_false,false_and,or_false,false_or,and_true,true_and,not_true_eq_false,not_false_eq_true,true_iff,false_iff,IntKind.wrap_i64] at *
  all_goals first
    | omega
    | skip
def stIxRow1 (n:Nat) (g:Nat->RowT) (F:FuncId) (c0:DV) (i:Nat):St:=⟨[(8,.c (.d (eI i))),(7,.c (.d (eI n))),(0,.c (.d (.sl 13 n λi=>i6 (g i)))),(1,.c (.d (.fn F [c0])))],[]⟩
set_option maxRecDepth 100000 in
theorem c_IndexRow1 (n:Nat) (hn:n<=maxLen) (g:Nat->RowT) (F:FuncId) (c0:DV) (Q:RowT->Prop) (hc:∀ r,∃ b,(b=true↔Q r)/\d7 Tryz.prog F [xd (i6 r),.c (.d c0)] ⟨.one (.c (.d (eB b))),[none,none]⟩):∃ x,FirstIx n (λi=>Q (g i)) x/\d7 Tryz.prog 99 [.c (.d (.sl 13 n λi=>i6 (g i))),.c (.d (.fn F [c0]))] ⟨.one (.c (.d (eI x))),[none,none]⟩:=by
  obtain ⟨x,hx⟩:=firstIx_ex n λi=>Q (g i)
  refine ⟨x,hx,?_⟩
  refine d5 (H:=[]) (EX:=EXA) l6 e8 Tryz.func99 rfl (by kernel_rfl) (by decide) ?_
  generalize hA:real=A
  generalize hM:d4 Tryz.prog=M
  cbv
  repeat' first|apply And.intro|exact True.intro|with_reducible rfl|exact b7 hA rfl|apply c8 hA<;>intro _|exact c6 hA id | (subst hA;exact λh=>h) | (refine c5 hA ?_;decide +kernel)|fail
  refine i7 hA (α := { i:Nat // i<=n/\∀ j,j<i->¬ Q (g j) }) (λx=>stIxRow1 n g F c0 x.1) (λx=>n-x.1) ⟨0,Nat.zero_le _,λj h=>absurd h (Nat.not_lt_zero _)⟩ ?_ ?_
  · refine c7 ?_ ?_ ?_
    · cbv;subst hA;exact ⟨rfl,rfl,trivial⟩
    · cbv
    · cbv
  rintro ⟨i,hi,hb⟩
  cbv
  repeat' first|apply And.intro|exact True.intro|with_reducible rfl|exact b7 hA rfl|apply c8 hA<;>intro _|exact c6 hA id | (subst hA;exact λh=>h) | (refine c5 hA ?_;decide +kernel) | (refine d8 hA λ_ => ?_;subst hA;simp only [real,decide_eq_true_eq,Int.ofNat_eq_natCast] at *;omega)|fail
  · refine d6 hA hM (hc (g (A.nat (Int.ofNat i)))) (λb hbb => ?_)
    cbv
    repeat' first|apply And.intro|exact True.intro|with_reducible rfl|exact b7 hA rfl|apply c8 hA<;>intro _|exact c6 hA id | (subst hA;exact λh=>h) | (refine c5 hA ?_;decide +kernel)|fail
    · rename_i hlt ht
      subst hA
      simp only [real,decide_eq_true_eq,Int.ofNat_eq_natCast,Int.toNat_natCast] at *
      obtain rfl:=firstIx_one hx (.at i (by omega) (hbb.1 ht) hb)
      rfl
    · rename_i hlt ht
      have hlt':i<n:=by subst hA;simp only [real,decide_eq_true_eq,Int.ofNat_eq_natCast] at hlt;omega
      refine ⟨⟨i+1,by omega,λj hj => ?_⟩,by simp only;omega,c7 ?_ ?_ ?_⟩
      · by_cases e:j=i
        · subst e
          subst hA
          intro hq
          have:=hbb.2 hq
          rw [ht] at this
          cases this
        · exact hb j (by omega)
      · cbv
        subst hA
        exact ⟨congrArg (λx=>DV.v (.int .i64 x)) (o0 hlt' hn),trivial⟩
      · cbv
      · cbv
  · subst hA
    simp only [real,decide_eq_false_iff_not,Int.ofNat_eq_natCast] at *
    obtain rfl:=firstIx_one hx (.none λj hj=>hb j (by omega))
    rfl
set_option maxRecDepth 100000 in
theorem c_ContainsRow1 (n:Nat) (hn:n<=maxLen) (g:Nat->RowT) (F:FuncId) (c0:DV) (Q:RowT->Prop) (hc:∀ r,∃ b,(b=true↔Q r)/\d7 Tryz.prog F [xd (i6 r),.c (.d c0)] ⟨.one (.c (.d (eB b))),[none,none]⟩):∃ b,(b=true ↔ ∃ i,i<n/\Q (g i))/\d7 Tryz.prog 77 [.c (.d (.sl 13 n λi=>i6 (g i))),.c (.d (.fn F [c0]))] ⟨.one (.c (.d (eB b))),[none,none]⟩:=by
  obtain ⟨x,hx,hm⟩:=c_IndexRow1 n hn g F c0 Q hc
  obtain ⟨b,hb⟩:∃ b,b=decide (0<=x):=⟨_,rfl⟩
  have hxx:=firstIx_neg hx
  refine ⟨b,by rw [hb,decide_eq_true_eq];exact hxx.1,?_⟩
  refine d5 (H:=[]) (EX:=EXA) l6 e8 Tryz.func77 rfl (by kernel_rfl) (by decide) ?_
  generalize hA:real=A
  generalize hM:d4 Tryz.prog=M
  cbv
  repeat' first|apply And.intro|exact True.intro|with_reducible rfl|exact b7 hA rfl|apply c8 hA<;>intro _|exact c6 hA id | (subst hA;exact λh=>h) | (refine c5 hA ?_;decide +kernel) | (refine f7 hA hM _ hm ?_;cbv)|fail
  all_goals subst hA
  all_goals refine congrArg (λb=>XA.one (.c (.d (eB b)))) (Bool.eq_iff_iff.2 ?_)
  all_goals subst_vars
  all_goals try simp only [real,u5,v4,v7,w4,decide_eq_true_eq,decide_eq_false_iff_not,beq_iff_eq,bne_iff_ne,beq_eq_false_iff_ne,bne_eq_false_iff_eq,ne_eq,Bool.and_eq_true,Bool.or_eq_true,Bool.not_eq_true',Bool.not_eq_false',Bool.and_eq_false_iff,Bool.or_eq_false_iff,Bool.false_eq_true,and_false,false_and,or_false,false_or,and_true,true_and,not_true_eq_false,not_false_eq_true,true_iff,false_iff,IntKind.wrap_i64] at *
  all_goals first
    | omega
    | skip
def stIxSnap1 (n:Nat) (g:Nat->SnapT) (F:FuncId) (c0:DV) (i:Nat):St:=⟨[(8,.c (.d (eI i))),(7,.c (.d (eI n))),(0,.c (.d (.sl 3 n λi=>d9 (g i)))),(1,.c (.d (.fn F [c0])))],[]⟩
set_option maxRecDepth 100000 in
theorem c_IndexSnap1 (n:Nat) (hn:n<=maxLen) (g:Nat->SnapT) (F:FuncId) (c0:DV) (Q:SnapT->Prop) (hc:∀ r,∃ b,(b=true↔Q r)/\d7 Tryz.prog F [xd (d9 r),.c (.d c0)] ⟨.one (.c (.d (eB b))),[none,none]⟩):∃ x,FirstIx n (λi=>Q (g i)) x/\d7 Tryz.prog 71 [.c (.d (.sl 3 n λi=>d9 (g i))),.c (.d (.fn F [c0]))] ⟨.one (.c (.d (eI x))),[none,none]⟩:=by
  obtain ⟨x,hx⟩:=firstIx_ex n λi=>Q (g i)
  refine ⟨x,hx,?_⟩
  refine d5 (H:=[]) (EX:=EXA) l6 e8 Tryz.func71 rfl (by kernel_rfl) (by decide) ?_
  generalize hA:real=A
  generalize hM:d4 Tryz.prog=M
  cbv
  repeat' first|apply And.intro|exact True.intro|with_reducible rfl|exact b7 hA rfl|apply c8 hA<;>intro _|exact c6 hA id | (subst hA;exact λh=>h) | (refine c5 hA ?_;decide +kernel)|fail
  refine i7 hA (α := { i:Nat // i<=n/\∀ j,j<i->¬ Q (g j) }) (λx=>stIxSnap1 n g F c0 x.1) (λx=>n-x.1) ⟨0,Nat.zero_le _,λj h=>absurd h (Nat.not_lt_zero _)⟩ ?_ ?_
  · refine c7 ?_ ?_ ?_
    · cbv;subst hA;exact ⟨rfl,rfl,trivial⟩
    · cbv
    · cbv
  rintro ⟨i,hi,hb⟩
  cbv
  repeat' first|apply And.intro|exact True.intro|with_reducible rfl|exact b7 hA rfl|apply c8 hA<;>intro _|exact c6 hA id | (subst hA;exact λh=>h) | (refine c5 hA ?_;decide +kernel) | (refine d8 hA λ_ => ?_;subst hA;simp only [real,decide_eq_true_eq,Int.ofNat_eq_natCast] at *;omega)|fail
  · refine d6 hA hM (hc (g (A.nat (Int.ofNat i)))) (λb hbb => ?_)
    cbv
    repeat' first|apply And.intro|exact True.intro|with_reducible rfl|exact b7 hA rfl|apply c8 hA<;>intro _|exact c6 hA id | (subst hA;exact λh=>h) | (refine c5 hA ?_;decide +kernel)|fail
    · rename_i hlt ht
      subst hA
      simp only [real,decide_eq_true_eq,Int.ofNat_eq_natCast,Int.toNat_natCast] at *
      obtain rfl:=firstIx_one hx (.at i (by omega) (hbb.1 ht) hb)
      rfl
    · rename_i hlt ht
      have hlt':i<n:=by subst hA;simp only [real,decide_eq_true_eq,Int.ofNat_eq_natCast] at hlt;omega
      refine ⟨⟨i+1,by omega,λj hj => ?_⟩,by simp only;omega,c7 ?_ ?_ ?_⟩
      · by_cases e:j=i
        · subst e
          subst hA
          intro hq
          have:=hbb.2 hq
          rw [ht] at this
          cases this
        · exact hb j (by omega)
      · cbv
        subst hA
        exact ⟨congrArg (λx=>DV.v (.int .i64 x)) (o0 hlt' hn),trivial⟩
      · cbv
      · cbv
  · subst hA
    simp only [real,decide_eq_false_iff_not,Int.ofNat_eq_natCast] at *
    obtain rfl:=firstIx_one hx (.none λj hj=>hb j (by omega))
    rfl
set_option maxRecDepth 100000 in
theorem c_ContainsSnap1 (n:Nat) (hn:n<=maxLen) (g:Nat->SnapT) (F:FuncId) (c0:DV) (Q:SnapT->Prop) (hc:∀ r,∃ b,(b=true↔Q r)/\d7 Tryz.prog F [xd (d9 r),.c (.d c0)] ⟨.one (.c (.d (eB b))),[none,none]⟩):∃ b,(b=true ↔ ∃ i,i<n/\Q (g i))/\d7 Tryz.prog 52 [.c (.d (.sl 3 n λi=>d9 (g i))),.c (.d (.fn F [c0]))] ⟨.one (.c (.d (eB b))),[none,none]⟩:=by
  obtain ⟨x,hx,hm⟩:=c_IndexSnap1 n hn g F c0 Q hc
  obtain ⟨b,hb⟩:∃ b,b=decide (0<=x):=⟨_,rfl⟩
  have hxx:=firstIx_neg hx
  refine ⟨b,by rw [hb,decide_eq_true_eq];exact hxx.1,?_⟩
  refine d5 (H:=[]) (EX:=EXA) l6 e8 Tryz.func52 rfl (by kernel_rfl) (by decide) ?_
  generalize hA:real=A
  generalize hM:d4 Tryz.prog=M
  cbv
  repeat' first|apply And.intro|exact True.intro|with_reducible rfl|exact b7 hA rfl|apply c8 hA<;>intro _|exact c6 hA id | (subst hA;exact λh=>h) | (refine c5 hA ?_;decide +kernel) | (refine f7 hA hM _ hm ?_;cbv)|fail
  all_goals subst hA
  all_goals refine congrArg (λb=>XA.one (.c (.d (eB b)))) (Bool.eq_iff_iff.2 ?_)
  all_goals subst_vars
  all_goals try simp only [real,u5,v4,v7,w4,decide_eq_true_eq,decide_eq_false_iff_not,beq_iff_eq,bne_iff_ne,beq_eq_false_iff_ne,bne_eq_false_iff_eq,ne_eq,Bool.and_eq_true,Bool.or_eq_true,Bool.not_eq_true',Bool.not_eq_false',Bool.and_eq_false_iff,Bool.or_eq_false_iff,Bool.false_eq_true,and_false,false_and,or_false,false_or,and_true,true_and,not_true_eq_false,not_false_eq_true,true_iff,false_iff,IntKind.wrap_i64] at *
  all_goals first
    | omega
    | skip
def stIxint0 (n:Nat) (g:Nat->Int) (F:FuncId) (i:Nat):St:=⟨[(8,.c (.d (eI i))),(7,.c (.d (eI n))),(0,.c (.d (.sl 1 n λi=>[eI (g i)]))),(1,.c (.d (.fn F [])))],[]⟩
set_option maxRecDepth 100000 in
theorem c_Indexint0 (n:Nat) (hn:n<=maxLen) (g:Nat->Int) (F:FuncId) (Q:Int->Prop) (hc:∀ r,∃ b,(b=true↔Q r)/\d7 Tryz.prog F [.c (.d (eI r))] ⟨.one (.c (.d (eB b))),[none]⟩):∃ x,FirstIx n (λi=>Q (g i)) x/\d7 Tryz.prog 70 [.c (.d (.sl 1 n λi=>[eI (g i)])),.c (.d (.fn F []))] ⟨.one (.c (.d (eI x))),[none,none]⟩:=by
  obtain ⟨x,hx⟩:=firstIx_ex n λi=>Q (g i)
  refine ⟨x,hx,?_⟩
  refine d5 (H:=[]) (EX:=EXA) l6 e8 Tryz.func70 rfl (by kernel_rfl) (by decide) ?_
  generalize hA:real=A
  generalize hM:d4 Tryz.prog=M
  cbv
  repeat' first|apply And.intro|exact True.intro|with_reducible rfl|exact b7 hA rfl|apply c8 hA<;>intro _|exact c6 hA id | (subst hA;exact λh=>h) | (refine c5 hA ?_;decide +kernel)|fail
  refine i7 hA (α := { i:Nat // i<=n/\∀ j,j<i->¬ Q (g j) }) (λx=>stIxint0 n g F x.1) (λx=>n-x.1) ⟨0,Nat.zero_le _,λj h=>absurd h (Nat.not_lt_zero _)⟩ ?_ ?_
  · refine c7 ?_ ?_ ?_
    · cbv;subst hA;exact ⟨rfl,rfl,trivial⟩
    · cbv
    · cbv
  rintro ⟨i,hi,hb⟩
  cbv
  repeat' first|apply And.intro|exact True.intro|with_reducible rfl|exact b7 hA rfl|apply c8 hA<;>intro _|exact c6 hA id | (subst hA;exact λh=>h) | (refine c5 hA ?_;decide +kernel) | (refine d8 hA λ_ => ?_;subst hA;simp only [real,decide_eq_true_eq,Int.ofNat_eq_natCast] at *;omega)|fail
  · refine d6 hA hM (hc (g (A.nat (Int.ofNat i)))) (λb hbb => ?_)
    cbv
    repeat' first|apply And.intro|exact True.intro|with_reducible rfl|exact b7 hA rfl|apply c8 hA<;>intro _|exact c6 hA id | (subst hA;exact λh=>h) | (refine c5 hA ?_;decide +kernel)|fail
    · rename_i hlt ht
      subst hA
      simp only [real,decide_eq_true_eq,Int.ofNat_eq_natCast,Int.toNat_natCast] at *
      obtain rfl:=firstIx_one hx (.at i (by omega) (hbb.1 ht) hb)
      rfl
    · rename_i hlt ht
      have hlt':i<n:=by subst hA;simp only [real,decide_eq_true_eq,Int.ofNat_eq_natCast] at hlt;omega
      refine ⟨⟨i+1,by omega,λj hj => ?_⟩,by simp only;omega,c7 ?_ ?_ ?_⟩
      · by_cases e:j=i
        · subst e
          subst hA
          intro hq
          have:=hbb.2 hq
          rw [ht] at this
          cases this
        · exact hb j (by omega)
      · cbv
        subst hA
        exact ⟨congrArg (λx=>DV.v (.int .i64 x)) (o0 hlt' hn),trivial⟩
      · cbv
      · cbv
  · subst hA
    simp only [real,decide_eq_false_iff_not,Int.ofNat_eq_natCast] at *
    obtain rfl:=firstIx_one hx (.none λj hj=>hb j (by omega))
    rfl
set_option maxRecDepth 100000 in
theorem c_Containsint0 (n:Nat) (hn:n<=maxLen) (g:Nat->Int) (F:FuncId) (Q:Int->Prop) (hc:∀ r,∃ b,(b=true↔Q r)/\d7 Tryz.prog F [.c (.d (eI r))] ⟨.one (.c (.d (eB b))),[none]⟩):∃ b,(b=true ↔ ∃ i,i<n/\Q (g i))/\d7 Tryz.prog 51 [.c (.d (.sl 1 n λi=>[eI (g i)])),.c (.d (.fn F []))] ⟨.one (.c (.d (eB b))),[none,none]⟩:=by
  obtain ⟨x,hx,hm⟩:=c_Indexint0 n hn g F Q hc
  obtain ⟨b,hb⟩:∃ b,b=decide (0<=x):=⟨_,rfl⟩
  have hxx:=firstIx_neg hx
  refine ⟨b,by rw [hb,decide_eq_true_eq];exact hxx.1,?_⟩
  refine d5 (H:=[]) (EX:=EXA) l6 e8 Tryz.func51 rfl (by kernel_rfl) (by decide) ?_
  generalize hA:real=A
  generalize hM:d4 Tryz.prog=M
  cbv
  repeat' first|apply And.intro|exact True.intro|with_reducible rfl|exact b7 hA rfl|apply c8 hA<;>intro _|exact c6 hA id | (subst hA;exact λh=>h) | (refine c5 hA ?_;decide +kernel) | (refine f7 hA hM _ hm ?_;cbv)|fail
  all_goals subst hA
  all_goals refine congrArg (λb=>XA.one (.c (.d (eB b)))) (Bool.eq_iff_iff.2 ?_)
  all_goals subst_vars
  all_goals try simp only [real,u5,v4,v7,w4,decide_eq_true_eq,decide_eq_false_iff_not,beq_iff_eq,bne_iff_ne,beq_eq_false_iff_ne,bne_eq_false_iff_eq,ne_eq,Bool.and_eq_true,Bool.or_eq_true,Bool.not_eq_true',Bool.not_eq_false',Bool.and_eq_false_iff,Bool.or_eq_false_iff,Bool.false_eq_true,and_false,false_and,or_false,false_or,and_true,true_and,not_true_eq_false,not_false_eq_true,true_iff,false_iff,IntKind.wrap_i64] at *
  all_goals first
    | omega
    | skip
theorem beqB (a b:Bool):((a==b)=true)=(a=true↔b=true):=by cases a<;>cases b<;>simp
theorem beqI (a b:Int):((a==b)=true)=(a=b):=by simp
theorem bneI (a b:Int):((a != b)=true)=¬ (a=b):=by simp
theorem v6 (a b:Int):((a==b)=false)=¬ (a=b):=by simp
theorem w3 (a b:Int):((a != b)=false)=(a=b):=by simp
open Classical in
set_option maxRecDepth 100000 in
theorem c_rowOk (j:JobT) (r:RowT) (mark:Int):∃ b,(b=true↔RowOkP j r mark)/\d7 Tryz.prog 73 [xd (i6 r),xd (u7 j),.c (.d (eI mark))] ⟨.one (.c (.d (eB b))),[none,none,none]⟩:=by
  obtain ⟨b,hb⟩:∃ b,b=decide (RowOkP j r mark):=⟨_,rfl⟩
  refine ⟨b,by rw [hb,decide_eq_true_eq],?_⟩
  refine d5 (H:=[]) (EX:=EXA) l6 e8 Tryz.func73 rfl (by kernel_rfl) (by decide) ?_
  generalize hA:real=A
  generalize hM:d4 Tryz.prog=M
  cbv
  repeat' first|apply And.intro|exact True.intro|with_reducible rfl|exact b7 hA rfl|apply c8 hA<;>intro _|exact c6 hA id | (subst hA;exact λh=>h) | (refine c5 hA ?_;decide +kernel) | (refine d6 hA hM (c_in _ _ _) (λ_ _ => ?_);cbv) | (refine d6 hA hM (c_isKey _) (λ_ _ => ?_);cbv) | (refine d6 hA hM (c_WinOk _ _) (λ_ _ => ?_);cbv) | (refine d6 hA hM (c_AggOk _ _ _ _) (λ_ _ => ?_);cbv)|fail
  all_goals obtain ⟨key,⟨s,e⟩,⟨n1,sum1,least1,most1⟩,⟨n2,sum2,least2,most2⟩,told,timely⟩:=r
  all_goals obtain ⟨_,_,_,_,_,late,_,_,_,_⟩:=j
  all_goals subst hA
  all_goals refine congrArg (λb=>XA.one (.c (.d (eB b)))) (Bool.eq_iff_iff.2 ?_)
  all_goals subst_vars
  all_goals simp only [real,u5,v4,v7,w4,beqB,decide_eq_true_eq,decide_eq_false_iff_not,beqI,bneI,v6,w3,ne_eq,Bool.and_eq_true,Bool.or_eq_true,Bool.not_eq_true',Bool.not_eq_false',Bool.and_eq_false_iff,Bool.or_eq_false_iff,Bool.false_eq_true,and_false,false_and,or_false,false_or,and_true,true_and,not_true_eq_false,not_false_eq_true,true_iff,false_iff,IntKind.wrap_i64,RowOkP,WinOkP,AggOkP] at *
  all_goals first
    | omega
    | (cases timely<;>simp only [true_iff,false_iff,iff_true,iff_false,Bool.false_eq_true,not_true_eq_false,not_false_eq_true,reduceCtorEq] at * <;> omega)
open Classical in
set_option maxRecDepth 100000 in
theorem c_l7Row (j:JobT) (r:RowT) (mark:Int):∃ b,(b=true↔RowOkP j r mark)/\d7 Tryz.prog 67 [xd (u7 j),xd (i6 r),.c (.d (eI mark))] ⟨.one (.c (.d (eB b))),[none,none,none]⟩:=by
  obtain ⟨b,hb⟩:∃ b,b=decide (RowOkP j r mark):=⟨_,rfl⟩
  refine ⟨b,by rw [hb,decide_eq_true_eq],?_⟩
  refine d5 (H:=[]) (EX:=EXA) l6 e8 Tryz.func67 rfl (by kernel_rfl) (by decide) ?_
  generalize hA:real=A
  generalize hM:d4 Tryz.prog=M
  cbv
  repeat' first|apply And.intro|exact True.intro|with_reducible rfl|exact b7 hA rfl|apply c8 hA<;>intro _|exact c6 hA id | (subst hA;exact λh=>h) | (refine c5 hA ?_;decide +kernel) | (refine d6 hA hM (c_l1In _ _ _) (λ_ _ => ?_);cbv) | (refine d6 hA hM (c_sWinOk _ _) (λ_ _ => ?_);cbv) | (refine d6 hA hM (c_sAggOk _ _ _ _) (λ_ _ => ?_);cbv)|fail
  all_goals obtain ⟨key,⟨s,e⟩,⟨n1,sum1,least1,most1⟩,⟨n2,sum2,least2,most2⟩,told,timely⟩:=r
  all_goals obtain ⟨_,_,_,_,_,late,_,_,_,_⟩:=j
  all_goals subst hA
  all_goals refine congrArg (λb=>XA.one (.c (.d (eB b)))) (Bool.eq_iff_iff.2 ?_)
  all_goals subst_vars
  all_goals simp only [real,u5,v4,v7,w4,beqB,decide_eq_true_eq,decide_eq_false_iff_not,beqI,bneI,v6,w3,ne_eq,Bool.and_eq_true,Bool.or_eq_true,Bool.not_eq_true',Bool.not_eq_false',Bool.and_eq_false_iff,Bool.or_eq_false_iff,Bool.false_eq_true,and_false,false_and,or_false,false_or,and_true,true_and,not_true_eq_false,not_false_eq_true,true_iff,false_iff,IntKind.wrap_i64,RowOkP,WinOkP,AggOkP] at *
  all_goals first
    | omega
    | (cases timely<;>simp only [true_iff,false_iff,iff_true,iff_false,Bool.false_eq_true,not_true_eq_false,not_false_eq_true,reduceCtorEq] at * <;> omega)
def OkAt (j:JobT) (mark:Int) (g:Nat->RowT) (i:Nat):Prop:=RowOkP j (g i) mark/\(0<i->AheadP (g (i-1)).key (g (i-1)).win (g i).key (g i).win) /\
    (j.kind=3->∀ k,k<i->¬ ((g k).key=(g i).key/\TouchP (g k).win (g i).win))
theorem down64 {i:Nat} (h:0<i) (hn:i<=maxLen):(IntKind.i64.wrap ((i:Int)-1)).toNat=i-1:=by
  have hm:maxLen=9223372036854775807:=by decide
  rw [hm] at hn
  rw [IntWalk.i64_in _ (by omega)]
  omega
theorem c_rcmpA (r q:RowT):∃ x:Int,(x<0↔AheadP r.key r.win q.key q.win)/\d7 Tryz.prog 74 [xd (i6 r),xd (i6 q)] ⟨.one (.c (.d (eI x))),[none,none]⟩:=by
  obtain ⟨x,hx,hm⟩:=c_rcompare r q
  refine ⟨x,?_,hm⟩
  unfold AheadP WinLt
  omega
set_option maxRecDepth 100000 in
theorem c_OpOk1 (r q:RowT):∃ b,(b=true↔q.key=r.key/\TouchP q.win r.win)/\d7 Tryz.prog 75 [xd (i6 q),.c (.d (.p (i6 r)))] ⟨.one (.c (.d (eB b))),[none,none]⟩:=by
  obtain ⟨b,hb⟩:∃ b,b=decide (q.key=r.key/\q.win.s<r.win.e/\r.win.s<q.win.e):=⟨_,rfl⟩
  refine ⟨b,by rw [hb,decide_eq_true_eq];exact Iff.rfl,?_⟩
  refine d5 (H:=[]) (EX:=EXA) l6 e8 Tryz.func75 rfl (by kernel_rfl) (by decide) ?_
  generalize hA:real=A
  generalize hM:d4 Tryz.prog=M
  cbv
  repeat' first|apply And.intro|exact True.intro|with_reducible rfl|exact b7 hA rfl|apply c8 hA<;>intro _|exact c6 hA id | (subst hA;exact λh=>h) | (refine c5 hA ?_;decide +kernel) | (refine d6 hA hM (c_WinTouch _ _ _ _) (λ_ _ => ?_);cbv)|fail
  all_goals subst hA
  all_goals refine congrArg (λb=>XA.one (.c (.d (eB b)))) (Bool.eq_iff_iff.2 ?_)
  all_goals subst_vars
  all_goals try simp only [real,u5,v4,v7,w4,decide_eq_true_eq,decide_eq_false_iff_not,beq_iff_eq,bne_iff_ne,beq_eq_false_iff_ne,bne_eq_false_iff_eq,ne_eq,Bool.and_eq_true,Bool.or_eq_true,Bool.not_eq_true',Bool.not_eq_false',Bool.and_eq_false_iff,Bool.or_eq_false_iff,Bool.false_eq_true,and_false,false_and,or_false,false_or,and_true,true_and,not_true_eq_false,not_false_eq_true,true_iff,false_iff,IntKind.wrap_i64] at *
  all_goals first
    | omega
    | skip
def stOk (j:JobT) (mark:Int) (n:Nat) (g:Nat->RowT) (i:Nat):St:=⟨[(26,.c (.d (eI i))),(25,.c (.d (eI n))),(24,.c (.d (.sl 13 n λi=>i6 (g i)))),(2,.c (.bp 128 1 0)),(3,.c (.bp 192 1 0))],[(128,1,.box ((u7 j).map .d)),(192,1,.box ([eI mark,.sl 13 n λi=>i6 (g i)].map .d))]⟩
open Classical in
set_option maxRecDepth 100000 in
theorem c_OpOk (j:JobT) (s:OpStT):∃ b,(b=true↔OpOkP j s)/\d7 Tryz.prog 53 [xd (u7 j),xd (eOpSt s)] ⟨.one (.c (.d (eB b))),[none,none]⟩:=by
  obtain ⟨b,hb⟩:∃ b:Bool,(b=true↔OpOkP j s):=⟨decide (OpOkP j s),by rw [decide_eq_true_eq]⟩
  refine ⟨b,hb,?_⟩
  obtain ⟨mark,n,g,hn⟩:=s
  show d7 Tryz.prog 53 [xd (u7 j),xd [eI mark,.sl 13 n λi=>i6 (g i)]] _
  refine d5 (H:=[]) (EX:=EXA) l6 e8 Tryz.func53 rfl (by kernel_rfl) (by decide) ?_
  generalize hA:real=A
  generalize hM:d4 Tryz.prog=M
  cbv
  repeat' first|apply And.intro|exact True.intro|with_reducible rfl|exact b7 hA rfl|apply c8 hA<;>intro _|exact c6 hA id | (subst hA;exact λh=>h) | (refine c5 hA ?_;decide +kernel) | (refine d6 hA hM (c_JobOk _ _ _ _ _ _ _ _ _ _) (λ_ _ => ?_);cbv) | (refine d6 hA hM (c_isTime _) (λ_ _ => ?_);cbv)|fail
  · rename_i hbad
    subst hA;subst_vars
    refine congrArg (λb=>XA.one (.c (.d (eB b)))) ?_
    simp only [real,u5,v4,v7,w4,beqB,decide_eq_true_eq,decide_eq_false_iff_not,beqI,bneI,v6,w3,ne_eq,Bool.and_eq_true,Bool.or_eq_true,Bool.not_eq_true',Bool.not_eq_false',Bool.and_eq_false_iff,Bool.or_eq_false_iff,Bool.false_eq_true,and_false,false_and,or_false,false_or,and_true,true_and,not_true_eq_false,not_false_eq_true,true_iff,false_iff,Int.ofNat_eq_natCast,Int.toNat_natCast] at hbad
    cases b with
    | false=>rfl
    | true=>
      exfalso
      obtain ⟨h1,h2,h3,_⟩:=hb.1 rfl
      unfold t9 at h1
      simp only at h2 h3
      omega
  rename_i hgood
  have hpre:t9 j/\(0<=mark/\mark<=1000)/\n<=300:=by
    subst hA;subst_vars
    simp only [real,u5,v4,v7,w4,beqB,decide_eq_true_eq,decide_eq_false_iff_not,beqI,bneI,v6,w3,ne_eq,Bool.and_eq_true,Bool.or_eq_true,Bool.not_eq_true',Bool.not_eq_false',Bool.and_eq_false_iff,Bool.or_eq_false_iff,Bool.false_eq_true,and_false,false_and,or_false,false_or,and_true,true_and,not_true_eq_false,not_false_eq_true,true_iff,false_iff,Int.ofNat_eq_natCast,Int.toNat_natCast] at hgood
    unfold t9
    omega
  clear hgood
  refine i7 hA (α := { i:Nat // i<=n/\∀ k,k<i->OkAt j mark g k }) (λx=>stOk j mark n g x.1) (λx=>n-x.1) ⟨0,Nat.zero_le _,λj h=>absurd h (Nat.not_lt_zero _)⟩ ?_ ?_
  · refine c7 ?_ ?_ ?_
    · cbv;subst hA;repeat' first|apply And.intro|exact True.intro|rfl
    · cbv;try (repeat' first|apply And.intro|exact True.intro|rfl)
    · cbv
  rintro ⟨i,hi,hk⟩
  cbv
  repeat' first|apply And.intro|exact True.intro|with_reducible rfl|exact b7 hA rfl|apply c8 hA<;>intro _|exact c6 hA id | (subst hA;exact λh=>h) | (refine c5 hA ?_;decide +kernel) | (refine d6 hA hM (c_rowOk _ _ _) (λ_ _ => ?_);cbv) | (refine d6 hA hM (c_rcmpA _ _) (λ_ _ => ?_);cbv) | (refine d8 hA λ_ => ?_;subst hA;simp only [real,Bool.and_eq_true,Bool.not_eq_true',Bool.not_eq_false',decide_eq_true_eq,Int.ofNat_eq_natCast,IntKind.wrap_i64] at *;omega) | (refine cut_of hA ?_;subst hA;simp only [real,decide_eq_true_eq,Int.ofNat_eq_natCast] at *;omega) | (refine l7 hA hM (c_ContainsRow1 i (Nat.le_trans hi hn) g 75 (.p (i6 (g (A.nat (Int.ofNat i))))) _ (λq=>c_OpOk1 (g (A.nat (Int.ofNat i))) q)) (congrArg (λd=>[XT.c (.d d),XT.c (.d (.fn 75 [.p (i6 (g (A.nat (Int.ofNat i))))]))]) (sl0 hA _ _ _)) (λ_ _ => ?_);cbv)
  · rename_i hlt b1 hb1 x hx hc
    subst hA
    refine congrArg (λb=>XA.one (.c (.d (eB b)))) ?_
    simp only [real,u5,v4,v7,w4,beqB,decide_eq_true_eq,decide_eq_false_iff_not,beqI,bneI,v6,w3,ne_eq,Bool.and_eq_true,Bool.or_eq_true,Bool.not_eq_true',Bool.not_eq_false',Bool.and_eq_false_iff,Bool.or_eq_false_iff,Bool.false_eq_true,and_false,false_and,or_false,false_or,and_true,true_and,not_true_eq_false,not_false_eq_true,true_iff,false_iff,Int.ofNat_eq_natCast,Int.toNat_natCast] at hlt hb1 hx hc
    cases b with
    | false=>rfl
    | true=>
      exfalso
      have h:OkAt j mark g i:=(hb.1 rfl).2.2.2 i (show i<n by omega)
      rcases hc with hc|hc
      · have:=hb1.2 h.1;rw [hc] at this;cases this
      · rw [down64 (by omega) (Nat.le_trans hi hn)] at hx
        have:=hx.2 (h.2.1 (by omega));omega
  · rename_i hlt b1 hb1 x hx hc b2 hb2 hc2
    subst hA
    refine congrArg (λb=>XA.one (.c (.d (eB b)))) ?_
    simp only [real,u5,v4,v7,w4,beqB,decide_eq_true_eq,decide_eq_false_iff_not,beqI,bneI,v6,w3,ne_eq,Bool.and_eq_true,Bool.or_eq_true,Bool.not_eq_true',Bool.not_eq_false',Bool.and_eq_false_iff,Bool.or_eq_false_iff,Bool.false_eq_true,and_false,false_and,or_false,false_or,and_true,true_and,not_true_eq_false,not_false_eq_true,true_iff,false_iff,Int.ofNat_eq_natCast,Int.toNat_natCast] at hlt hb2 hc2
    cases b with
    | false=>rfl
    | true=>
      exfalso
      have h:OkAt j mark g i:=(hb.1 rfl).2.2.2 i (show i<n by omega)
      obtain ⟨k,hk1,hk2⟩:=hb2.1 hc2.2
      exact h.2.2 hc2.1 k hk1 hk2
  · rename_i hlt b1 hb1 x hx hc b2 hb2 hc2
    have hlt':i<n:=by subst hA;simp only [real,decide_eq_true_eq,Int.ofNat_eq_natCast] at hlt;omega
    refine ⟨⟨i+1,by omega,λk hk' => ?_⟩,by simp only;omega,c7 ?_ ?_ ?_⟩
    · by_cases e:k=i
      · subst e
        subst hA
        simp only [real,u5,v4,v7,w4,beqB,decide_eq_true_eq,decide_eq_false_iff_not,beqI,bneI,v6,w3,ne_eq,Bool.and_eq_true,Bool.or_eq_true,Bool.not_eq_true',Bool.not_eq_false',Bool.and_eq_false_iff,Bool.or_eq_false_iff,Bool.false_eq_true,and_false,false_and,or_false,false_or,and_true,true_and,not_true_eq_false,not_false_eq_true,true_iff,false_iff,Int.ofNat_eq_natCast,Int.toNat_natCast] at hlt hb1 hx hc hb2 hc2
        refine ⟨hb1.1 (by cases b1<;>simp_all),λhp => ?_,λh3 q hq hqq => ?_⟩
        · rw [down64 hp (Nat.le_trans hi hn)] at hx
          refine hx.1 ?_
          rcases hc.2 with h|h<;>omega
        · rcases hc2 with h|h
          · exact h h3
          · have:=hb2.2 ⟨q,hq,hqq⟩;rw [h] at this;cases this
      · exact hk k (by omega)
    · cbv
      subst hA
      exact ⟨congrArg (λx=>DV.v (.int .i64 x)) (o0 hlt' hn),trivial⟩
    · cbv;try (repeat' first|apply And.intro|exact True.intro|rfl)
    · cbv
  · rename_i hge
    refine congrArg (λb=>XA.one (.c (.d (eB b)))) ?_
    refine (hb.2 ⟨hpre.1,hpre.2.1,hpre.2.2,λk hk' => ?_⟩).symm
    have hk':k<n:=hk'
    exact hk k (by subst hA;simp only [real,decide_eq_false_iff_not,Int.ofNat_eq_natCast] at hge;omega)
def stOks (j:JobT) (mark:Int) (n:Nat) (g:Nat->RowT) (i:Nat):St:=⟨[(5,.c (.d (eI i))),(2,.c (.bp 128 1 0)),(3,.c (.bp 192 1 0))],[(128,1,.box ((u7 j).map .d)),(192,1,.box ([eI mark,.sl 13 n λi=>i6 (g i)].map .d))]⟩
def stOkt (j:JobT) (mark:Int) (n:Nat) (g:Nat->RowT) (i k:Nat):St:=⟨[(7,.c (.d (eI k))),(5,.c (.d (eI i))),(6,.c (.bp 384 1 0)),(2,.c (.bp 128 1 0)),(3,.c (.bp 192 1 0))],[(384,1,.box ((i6 (g i)).map .d)),(128,1,.box ((u7 j).map .d)),(192,1,.box ([eI mark,.sl 13 n λi=>i6 (g i)].map .d))]⟩
theorem c_l5A (k s e k2 s2 e2:Int):∃ b,(b=true↔AheadP k ⟨s,e⟩ k2 ⟨s2,e2⟩)/\d7 Tryz.prog 68 [.c (.d (eI k)),.agg [.d (eI s),.d (eI e)],.c (.d (eI k2)),.agg [.d (eI s2),.d (eI e2)]] ⟨.one (.c (.d (eB b))),[none,none,none,none]⟩:=by
  obtain ⟨b,hb,hm⟩:=c_l5Ahead k s e k2 s2 e2
  exact ⟨b,by rw [hb,decide_eq_true_eq];exact Iff.rfl,hm⟩
theorem c_sTouchP (s e s2 e2:Int):∃ b,(b=true↔TouchP ⟨s,e⟩ ⟨s2,e2⟩)/\d7 Tryz.prog 69 [.agg [.d (eI s),.d (eI e)],.agg [.d (eI s2),.d (eI e2)]] ⟨.one (.c (.d (eB b))),[none,none]⟩:=by
  obtain ⟨b,hb,hm⟩:=c_sWinTouch s e s2 e2
  exact ⟨b,by rw [hb,decide_eq_true_eq];exact Iff.rfl,hm⟩
open Classical in
set_option maxRecDepth 100000 in
theorem c_sOpOk (j:JobT) (s:OpStT):∃ b,(b=true↔OpOkP j s)/\d7 Tryz.prog 47 [xd (u7 j),xd (eOpSt s)] ⟨.one (.c (.d (eB b))),[none,none]⟩:=by
  obtain ⟨b,hb⟩:∃ b:Bool,(b=true↔OpOkP j s):=⟨decide (OpOkP j s),by rw [decide_eq_true_eq]⟩
  refine ⟨b,hb,?_⟩
  obtain ⟨mark,n,g,hn⟩:=s
  show d7 Tryz.prog 47 [xd (u7 j),xd [eI mark,.sl 13 n λi=>i6 (g i)]] _
  refine d5 (H:=[]) (EX:=EXA) l6 e8 Tryz.func47 rfl (by kernel_rfl) (by decide) ?_
  generalize hA:real=A
  generalize hM:d4 Tryz.prog=M
  cbv
  repeat' first|apply And.intro|exact True.intro|with_reducible rfl|exact b7 hA rfl|apply c8 hA<;>intro _|exact c6 hA id | (subst hA;exact λh=>h) | (refine c5 hA ?_;decide +kernel) | (refine d6 hA hM (c_sJobOk _ _ _ _ _ _ _ _ _ _) (λ_ _ => ?_);cbv) | (refine d6 hA hM (c_l1In _ _ _) (λ_ _ => ?_);cbv)|fail
  · rename_i hbad
    subst hA;subst_vars
    refine congrArg (λb=>XA.one (.c (.d (eB b)))) ?_
    simp only [real,u5,v4,v7,w4,beqB,decide_eq_true_eq,decide_eq_false_iff_not,beqI,bneI,v6,w3,ne_eq,Bool.and_eq_true,Bool.or_eq_true,Bool.not_eq_true',Bool.not_eq_false',Bool.and_eq_false_iff,Bool.or_eq_false_iff,Bool.false_eq_true,and_false,false_and,or_false,false_or,and_true,true_and,not_true_eq_false,not_false_eq_true,true_iff,false_iff,Int.ofNat_eq_natCast,Int.toNat_natCast] at hbad
    cases b with
    | false=>rfl
    | true=>
      exfalso
      obtain ⟨h1,h2,h3,_⟩:=hb.1 rfl
      unfold t9 at h1
      simp only at h2 h3
      omega
  rename_i hgood
  have hpre:t9 j/\(0<=mark/\mark<=1000)/\n<=300:=by
    subst hA;subst_vars
    simp only [real,u5,v4,v7,w4,beqB,decide_eq_true_eq,decide_eq_false_iff_not,beqI,bneI,v6,w3,ne_eq,Bool.and_eq_true,Bool.or_eq_true,Bool.not_eq_true',Bool.not_eq_false',Bool.and_eq_false_iff,Bool.or_eq_false_iff,Bool.false_eq_true,and_false,false_and,or_false,false_or,and_true,true_and,not_true_eq_false,not_false_eq_true,true_iff,false_iff,Int.ofNat_eq_natCast,Int.toNat_natCast] at hgood
    unfold t9
    omega
  clear hgood
  refine i7 hA (α := { i:Nat // i<=n/\∀ k,k<i->OkAt j mark g k }) (λx=>stOks j mark n g x.1) (λx=>n-x.1) ⟨0,Nat.zero_le _,λj h=>absurd h (Nat.not_lt_zero _)⟩ ?_ ?_
  · refine c7 ?_ ?_ ?_
    · cbv;try (subst hA;repeat' first|apply And.intro|exact True.intro|rfl)
    · cbv;try (repeat' first|apply And.intro|exact True.intro|rfl)
    · cbv
  rintro ⟨i,hi,hk⟩
  cbv
  repeat' first|apply And.intro|exact True.intro|with_reducible rfl|exact b7 hA rfl|apply c8 hA<;>intro _|exact c6 hA id | (subst hA;exact λh=>h) | (refine c5 hA ?_;decide +kernel) | (refine d6 hA hM (c_l7Row _ _ _) (λ_ _ => ?_);cbv) | (refine d6 hA hM (c_l5A _ _ _ _ _ _) (λ_ _ => ?_);cbv) | (refine d8 hA λ_ => ?_;subst hA;simp only [real,Bool.and_eq_true,Bool.not_eq_true',Bool.not_eq_false',decide_eq_true_eq,Int.ofNat_eq_natCast,IntKind.wrap_i64] at *;omega)|fail
  · rename_i hlt b1 hb1 b2 hb2 hc
    subst hA
    refine congrArg (λb=>XA.one (.c (.d (eB b)))) ?_
    simp only [real,u5,v4,v7,w4,beqB,decide_eq_true_eq,decide_eq_false_iff_not,beqI,bneI,v6,w3,ne_eq,Bool.and_eq_true,Bool.or_eq_true,Bool.not_eq_true',Bool.not_eq_false',Bool.and_eq_false_iff,Bool.or_eq_false_iff,Bool.false_eq_true,and_false,false_and,or_false,false_or,and_true,true_and,not_true_eq_false,not_false_eq_true,true_iff,false_iff,Int.ofNat_eq_natCast,Int.toNat_natCast] at hlt hb1 hb2 hc
    cases b with
    | false=>rfl
    | true=>
      exfalso
      have h:OkAt j mark g i:=(hb.1 rfl).2.2.2 i (show i<n by omega)
      rcases hc with hc|hc
      · have:=hb1.2 h.1;rw [hc] at this;cases this
      · rw [down64 (by omega) (Nat.le_trans hi hn)] at hb2
        have h2:=hb2.2 (h.2.1 (by omega))
        rw [hc.2] at h2
        cases h2
  · rename_i hlt b1 hb1 b2 hb2 hc
    have hlt':i<n:=by subst hA;simp only [real,decide_eq_true_eq,Int.ofNat_eq_natCast] at hlt;omega
    have hrow:RowOkP j (g i) mark/\(0<i->AheadP (g (i-1)).key (g (i-1)).win (g i).key (g i).win):=by
      subst hA
      simp only [real,u5,v4,v7,w4,beqB,decide_eq_true_eq,decide_eq_false_iff_not,beqI,bneI,v6,w3,ne_eq,Bool.and_eq_true,Bool.or_eq_true,Bool.not_eq_true',Bool.not_eq_false',Bool.and_eq_false_iff,Bool.or_eq_false_iff,Bool.false_eq_true,and_false,false_and,or_false,false_or,and_true,true_and,not_true_eq_false,not_false_eq_true,true_iff,false_iff,Int.ofNat_eq_natCast,Int.toNat_natCast] at hlt hb1 hb2 hc
      refine ⟨hb1.1 (by cases b1<;>simp_all),λhp => ?_⟩
      rw [down64 hp (Nat.le_trans hi hn)] at hb2
      rcases hc.2 with h|h
      · omega
      · exact hb2.1 h
    clear hb1 hb2 hc
    refine i7 hA (α := { k:Nat // k<=i/\(0<k->j.kind=3)/\∀ q,q<k->¬ ((g q).key=(g i).key/\TouchP (g q).win (g i).win) }) (λx=>stOkt j mark n g i x.1) (λx=>i-x.1) ⟨0,Nat.zero_le _,λh=>absurd h (Nat.lt_irrefl _),λj h=>absurd h (Nat.not_lt_zero _)⟩ ?_ ?_
    · refine c7 ?_ ?_ ?_
      · cbv;try (repeat' first|apply And.intro|exact True.intro|rfl)
      · cbv;try (subst hA;repeat' first|apply And.intro|exact True.intro|rfl)
      · cbv
    rintro ⟨k,hki,hk3,hkq⟩
    cbv
    repeat' first|apply And.intro|exact True.intro|with_reducible rfl|exact b7 hA rfl|apply c8 hA<;>intro _|exact c6 hA id | (subst hA;exact λh=>h) | (refine c5 hA ?_;decide +kernel) | (refine d6 hA hM (c_sTouchP _ _ _ _) (λ_ _ => ?_);cbv) | (refine d8 hA λ_ => ?_;subst hA;simp only [real,Bool.and_eq_true,Bool.not_eq_true',Bool.not_eq_false',decide_eq_true_eq,Int.ofNat_eq_natCast,IntKind.wrap_i64] at *;omega)|fail
    · rename_i hl b3 hb3 hc
      subst hA
      refine congrArg (λb=>XA.one (.c (.d (eB b)))) ?_
      simp only [real,u5,v4,v7,w4,beqB,decide_eq_true_eq,decide_eq_false_iff_not,beqI,bneI,v6,w3,ne_eq,Bool.and_eq_true,Bool.or_eq_true,Bool.not_eq_true',Bool.not_eq_false',Bool.and_eq_false_iff,Bool.or_eq_false_iff,Bool.false_eq_true,and_false,false_and,or_false,false_or,and_true,true_and,not_true_eq_false,not_false_eq_true,true_iff,false_iff,Int.ofNat_eq_natCast,Int.toNat_natCast] at hl hc
      cases b with
      | false=>rfl
      | true=>
        exfalso
        have h:OkAt j mark g i:=(hb.1 rfl).2.2.2 i hlt'
        exact h.2.2 hl.2 k (by omega) ⟨hc.1,hb3.1 hc.2⟩
    · rename_i hl b3 hb3 hc
      have hlk:k<i/\j.kind=3:=by subst hA;simp only [real,u5,v4,v7,w4,beqB,decide_eq_true_eq,decide_eq_false_iff_not,beqI,bneI,v6,w3,ne_eq,Bool.and_eq_true,Bool.or_eq_true,Bool.not_eq_true',Bool.not_eq_false',Bool.and_eq_false_iff,Bool.or_eq_false_iff,Bool.false_eq_true,and_false,false_and,or_false,false_or,and_true,true_and,not_true_eq_false,not_false_eq_true,true_iff,false_iff,Int.ofNat_eq_natCast,Int.toNat_natCast] at hl;omega
      refine ⟨⟨k+1,by omega,λ_=>hlk.2,λq hq => ?_⟩,by simp only;omega,c7 ?_ ?_ ?_⟩
      · by_cases e:q=k
        · subst e
          subst hA
          simp only [real,u5,v4,v7,w4,beqB,decide_eq_true_eq,decide_eq_false_iff_not,beqI,bneI,v6,w3,ne_eq,Bool.and_eq_true,Bool.or_eq_true,Bool.not_eq_true',Bool.not_eq_false',Bool.and_eq_false_iff,Bool.or_eq_false_iff,Bool.false_eq_true,and_false,false_and,or_false,false_or,and_true,true_and,not_true_eq_false,not_false_eq_true,true_iff,false_iff,Int.ofNat_eq_natCast,Int.toNat_natCast] at hc
          intro hh
          rcases hc with h|h
          · exact h hh.1
          · have:=hb3.2 hh.2
            rw [h] at this
            cases this
        · exact hkq q (by omega)
      · cbv
        subst hA
        exact ⟨congrArg (λx=>DV.v (.int .i64 x)) (o0 hlk.1 (Nat.le_trans hi hn)),by repeat' first|apply And.intro|exact True.intro|rfl⟩
      · cbv;try (repeat' first|apply And.intro|exact True.intro|rfl)
      · cbv
    · rename_i hl
      refine ⟨⟨i+1,by omega,λq hq => ?_⟩,by simp only;omega,c7 ?_ ?_ ?_⟩
      · by_cases e:q=i
        · subst e
          refine ⟨hrow.1,hrow.2,λh3 => ?_⟩
          have:k=q:=by
            subst hA
            simp only [real,u5,v4,v7,w4,beqB,decide_eq_true_eq,decide_eq_false_iff_not,beqI,bneI,v6,w3,ne_eq,Bool.and_eq_true,Bool.or_eq_true,Bool.not_eq_true',Bool.not_eq_false',Bool.and_eq_false_iff,Bool.or_eq_false_iff,Bool.false_eq_true,and_false,false_and,or_false,false_or,and_true,true_and,not_true_eq_false,not_false_eq_true,true_iff,false_iff,Int.ofNat_eq_natCast,Int.toNat_natCast] at hl
            have hl2:¬ (k:Int)<q\/¬ j.kind=3:=hl
            omega
          subst this
          exact hkq
        · exact hk q (by omega)
      · cbv
        subst hA
        exact ⟨congrArg (λx=>DV.v (.int .i64 x)) (o0 hlt' hn),by repeat' first|apply And.intro|exact True.intro|rfl⟩
      · cbv;try (repeat' first|apply And.intro|exact True.intro|rfl)
      · cbv
  · rename_i hge
    refine congrArg (λb=>XA.one (.c (.d (eB b)))) ?_
    refine (hb.2 ⟨hpre.1,hpre.2.1,hpre.2.2,λk hk' => ?_⟩).symm
    have hk':k<n:=hk'
    exact hk k (by subst hA;simp only [real,decide_eq_false_iff_not,Int.ofNat_eq_natCast] at hge;omega)
end Go.Rk
namespace Go.Rk
set_option linter.unusedSimpArgs false
set_option linter.unusedVariables false
def InOkP (j:JobT) (c:TskInT):Prop:=(c.queue.n:Int)<=j.room/\(0<=c.mark/\c.mark<=1000)/\∀ i,i<c.queue.n->ItmOkP (c.queue.g i)
def ToldP (m:Int) (ps:Sl PaneT) (ls:Sl LatT):Prop:=(ps.n:Int)<=m/\(ls.n:Int)<=m/\(∀ i,i<ps.n->PaneOkP (ps.g i))/\∀ i,i<ls.n->LatOkP (ls.g i)
def TxnOkP (x:TxnT):Prop:=(0<=x.n/\x.n<=900)/\ToldP 1500 x.panes x.lates
theorem call_exg {A:Ar} {P:Program} {M:Ms} (hA:real=A) (hM:d4 P=M) {g:Bool} {f:FuncId} {args:List XT} {K:Out->Prop} {β:Type} {S : β->Prop} {out : β->Out}
    (hne:∃ b,S b) (h:∀ b,S b->g=true->d7 P f args (out b)) (k:∀ b,S b->K (out b)):A.hold λ_=>∃ out,(g=true->M.m f args out)/\K out:=by
  subst hA hM
  obtain ⟨b,hb⟩:=hne
  exact ⟨out b,λhg=>h b hb hg,k b hb⟩
theorem nex {b:Bool} {n:Nat} {P:Nat->Prop} (h:b=true ↔ ∃ i,i<n/\¬ P i):b=false ↔ ∀ i,i<n->P i:=by
  rw [<- Bool.not_eq_true,h]
  exact ⟨λh i hi=>Classical.byContradiction λhn=>h ⟨i,hi,hn⟩,λh ⟨i,hi,hn⟩=>hn (h i hi)⟩
def cntB (p:Nat->Bool):Nat->Nat
  | 0=>0
  | i+1=>cntB p i+(if p i=true then 1 else 0)
theorem cntB_le (p:Nat->Bool):∀ i,cntB p i<=i
  | 0=>Nat.le_refl _
  | i+1=>by have:=cntB_le p i;unfold cntB;split<;>omega
def LowP (z:Int) (n:Nat) (g:Nat->Int) (x:Int):Prop:=x<=z/\(∀ i,i<n->x<=g i)/\(x=z\/∃ i,i<n/\x=g i)
theorem lowP_one {z:Int} {n:Nat} {g:Nat->Int} {x y:Int} (h:LowP z n g x) (h':LowP z n g y):x=y:=by
  have a:x<=y:=by
    rcases h'.2.2 with e|⟨i,hi,e⟩
    · rw [e];exact h.1
    · rw [e];exact h.2.1 i hi
  have b:y<=x:=by
    rcases h.2.2 with e|⟨i,hi,e⟩
    · rw [e];exact h'.1
    · rw [e];exact h'.2.1 i hi
  omega
theorem lowP_step {z:Int} {n:Nat} {g:Nat->Int} {x:Int} (h:LowP z n g x):LowP z (n+1) g (if g n<x then g n else x):=by
  obtain ⟨h1,h2,h3⟩:=h
  split
  · refine ⟨by omega,λi hi => ?_,.inr ⟨n,by omega,rfl⟩⟩
    rcases Nat.lt_succ_iff_lt_or_eq.1 hi with hi|rfl
    · have:=h2 i hi;omega
    · omega
  · refine ⟨h1,λi hi => ?_,h3.imp id λ⟨i,hi,e⟩=>⟨i,by omega,e⟩⟩
    rcases Nat.lt_succ_iff_lt_or_eq.1 hi with hi|rfl
    · exact h2 i hi
    · omega
theorem lowP_ex (z:Int) (n:Nat) (g:Nat->Int):∃ x,LowP z n g x:=by
  induction n with
  | zero=>exact ⟨z,by omega,λi hi=>absurd hi (Nat.not_lt_zero i),.inl rfl⟩
  | succ n ih=>obtain ⟨x,hx⟩:=ih;exact ⟨_,lowP_step hx⟩
def MinP (n:Nat) (g:Nat->Int) (x:Int):Prop:=(∀ i,i<n->x<=g i)/\∃ i,i<n/\x=g i
theorem minP_of {n:Nat} {g:Nat->Int} {x:Int} (h0:0<n) (h:LowP (g 0) n g x):MinP n g x:=⟨h.2.1,h.2.2.elim (λe=>⟨0,h0,e⟩) id⟩
theorem minP_one {n:Nat} {g:Nat->Int} {x y:Int} (h:MinP n g x) (h':MinP n g y):x=y:=by
  obtain ⟨i,hi,e⟩:=h.2
  obtain ⟨j,hj,e'⟩:=h'.2
  have:=h.1 j hj
  have:=h'.1 i hi
  omega
def s9 (j:JobT) (t:TskT):Prop:=OpOkP j t.op/\(t.ins.n:Int)=j.srcs/\(0<=t.wall/\t.wall<=900)/\TxnOkP t.pend/\t.pend.n=0/\(∀ i,i<t.ins.n->InOkP j (t.ins.g i)) /\
  cntB (λi=>(t.ins.g i).held) t.ins.n<t.ins.n/\LowP 1000 t.ins.n (λi=>(t.ins.g i).mark) t.op.mark
theorem room_add {A:Ar} (hA:real=A) {n m b:Nat} (hn:n+m<=1048577) (hb:b<=100000):A.room (A.add n m) b:=by
  subst hA
  have h1:(n+m)*b<=1048577*100000:=Nat.mul_le_mul hn hb
  exact ⟨Nat.le_trans h1 (by omega),Nat.le_trans hn (by omega)⟩
theorem t7 {A:Ar} (hA:real=A) (n:Nat) (row:Nat->List DV) (x:List DV) (z:Nat->List DV) (k:Nat) (hk:k<n+1):A.app n row (A.sub 0 (A.app 1 (A.rep x) z)) k=if k<n then row k else x:=by
  subst hA
  show (if k<n then row k else (if 0+(k-n)<1 then x else z (0+(k-n)-1)))=_
  split
  · rfl
  · rw [if_pos (by omega)]
theorem room_n {A:Ar} (hA:real=A) {n b:Nat} (hn:n<=1048577) (hb:b<=100000):A.room n b:=by
  subst hA
  have h1:n*b<=1048577*100000:=Nat.mul_le_mul hn hb
  exact ⟨by omega,by omega⟩
def MarksP (j:JobT) (ms:Sl Int):Prop:=(ms.n:Int)=j.srcs/\∀ i,i<ms.n->(0<=ms.g i/\ms.g i<=1000)
def SnapOkP (j:JobT) (s:SnapT):Prop:=OpOkP j s.op/\MarksP j s.marks/\LowP 1000 s.marks.n s.marks.g s.op.mark
def EmptyP (s:SnapT):Prop:=s.op.mark=0/\s.op.rows.n=0/\s.marks.n=0
def SafeOkP (j:JobT) (s:SafeT):Prop:=(0<=s.n/\s.n<=900)/\(s.at_.n:Int)=j.srcs/\(∀ i,i<s.at_.n->(0<=s.at_.g i/\s.at_.g i<=40))/\(s.snaps.n:Int)=j.tsks/\∀ i,i<s.snaps.n->SnapOkP j (s.snaps.g i)
def SrcP (opn:Bool) (x:Int):Prop:=(-1<=x/\x<=40)/\(opn=true\/x = -1)
def TkP (j:JobT) (opn:Bool) (t:Bool) (s:SnapT):Prop:=(t=true->opn=true/\SnapOkP j s)/\(t=false->EmptyP s)
def CkpOkP (j:JobT) (c:CkpT):Prop:=t9 j/\SafeOkP j c.safe/\(c.safe.n<=c.n/\c.n<=900)/\¬ (c.opn=true/\c.n=c.safe.n)/\(c.src.n:Int)=j.srcs/\(c.tsk.n:Int)=j.tsks/\(c.snaps.n:Int)=j.tsks /\
  (∀ i,i<c.src.n->SrcP c.opn (c.src.g i))/\∀ i,i<c.tsk.n->TkP j c.opn (c.tsk.g i) (c.snaps.g i)
def ReadyP (c:CkpT):Prop:=c.opn=true/\(∀ i,i<c.src.n->c.src.g i ≠ -1)/\∀ i,i<c.tsk.n->c.tsk.g i=true
theorem min_low {n:Nat} {g:Nat->Int} {x:Int} (h0:0<n) (hg:∀ i,i<n->g i<=1000):MinP n g x↔LowP 1000 n g x:=by
  constructor
  · rintro ⟨h1,i,hi,e⟩
    exact ⟨by have:=hg i hi;omega,h1,.inr ⟨i,hi,e⟩⟩
  · rintro ⟨h1,h2,h3⟩
    refine ⟨h2,?_⟩
    rcases h3 with e|h
    · have:=h2 0 h0
      have:=hg 0 h0
      exact ⟨0,h0,by omega⟩
    · exact h
theorem minq_ex (n:Nat) (g:Nat->Int):∃ x,0<n->MinP n g x:=by
  by_cases h:0<n
  · obtain ⟨x,hx⟩:=lowP_ex (g 0) n g
    exact ⟨x,λh0=>minP_of h0 hx⟩
  · exact ⟨0,λh0=>absurd h0 h⟩
theorem tk_of {j:JobT} {opn t b1 b2:Bool} {s:SnapT} (h1:b1=true↔SnapOkP j s) (h2:b2=true↔EmptyP s):TkP j opn t s↔((t&&(!opn || !b1))||(!t && !b2))=false:=by
  unfold TkP
  rw [<- h1,<- h2]
  cases t<;>cases opn<;>cases b1<;>cases b2<;>simp
end Go.Rk
