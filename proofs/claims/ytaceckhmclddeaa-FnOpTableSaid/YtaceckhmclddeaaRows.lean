/-
  No cell of these rows narrows 'for every input' (looked for: loops, veiled, ifaces, maps, wideKeys, modest, calm, conditions, laid).
  DERIVED. THE GIVEN ROWS OF THIS SEAT. 12 by the template 'for every input the law returns true; each argument reads behind the call as it read before'; 0 by the template 'total and deterministic' (their statements: YtaceckhmclddeaaTotals.lean).
  GIVEN WITH THE SEED: the statements are not yours to turn. If you find one false, say at which input.
  Laid BY PROGRAM, IN A SANDBOX (cutbox-rows.mjs): the forced cells as the released guide's own fill.sh prints them over the translation 2c41d0bca8194dc4… (all of the seat's roots in one cut). By AI agents, Wed Nov 11 2026. No macro, syntax, notation, axiom, sorry.
-/
import Derived.Test.YtaceckhmclddeaaChecked
import GoSem.Claim
import GoSem.ClaimJoined
import GoSem.ClaimMapViews
import Derived.JoinedTies
import Derived.KernelRfl
namespace Go.Proofs.Ytaceckhmclddeaa
/- THE CELL 'sum', in the pinned program and in every row, IS THE sha256 OF THE DUMP (.gsa) THAT YtaceckhmclddeaaProg.lean LOADS. Nothing in Lean hashes anything: it is a label: what it is worth is what the hold of that sum in a sandbox is worth. -/
noncomputable def Try.pinned : Pinned := { name := "ytaceckhmclddeaa", sum := "2c41d0bca8194dc4137cf3447171a8fe07e72078f381d56f9a3bcf37662e447f", checked := Try.checked }
namespace Rows
def none {H : Type} : Left H := { results := [], args := [] }

/-- 'laws.FnOpPiece': WHATEVER THE INPUT: true; the input reads as it did. -/
def fnOpPieceSpec : ChangeSpec := { name := "fnOpPiece", fn := fun _ => fun
  | [d] => { results := [.lit (.bool true)], args := [d] }
  | _ => none }
def fnOpPieceRow : OpenClaim := { program := "ytaceckhmclddeaa", sum := "2c41d0bca8194dc4137cf3447171a8fe07e72078f381d56f9a3bcf37662e447f", func := "loop.example/freshet/laws.FnOpPiece", spec := "fnOpPiece", inPlace := ["slices.overlaps[loop.example/freshet/impl.OpRow]", "slices.overlaps[loop.example/freshet/impl.TabRow]"], unfollowed := true, recurses := true, apart := false }
def FnOpPieceSaid : Prop := fnOpPieceRow.holds Try.pinned (OpenSpec.ofChange fnOpPieceSpec)

/-- ITS FALSE NEIGHBOUR: 'it returns false'. Refute it at one input. -/
def fnOpPieceWrong : ChangeSpec := { name := "fnOpPiece", fn := fun _ => fun
  | [d] => { results := [.lit (.bool false)], args := [d] }
  | _ => none }
def FnOpPieceWrongFalsely : Prop := fnOpPieceRow.holds Try.pinned (OpenSpec.ofChange fnOpPieceWrong)

/-- 'laws.FnOpMark': WHATEVER THE INPUT: true; the input reads as it did. -/
def fnOpMarkSpec : ChangeSpec := { name := "fnOpMark", fn := fun _ => fun
  | [d] => { results := [.lit (.bool true)], args := [d] }
  | _ => none }
def fnOpMarkRow : OpenClaim := { program := "ytaceckhmclddeaa", sum := "2c41d0bca8194dc4137cf3447171a8fe07e72078f381d56f9a3bcf37662e447f", func := "loop.example/freshet/laws.FnOpMark", spec := "fnOpMark", unfollowed := true, recurses := true, apart := false }
def FnOpMarkSaid : Prop := fnOpMarkRow.holds Try.pinned (OpenSpec.ofChange fnOpMarkSpec)

/-- ITS FALSE NEIGHBOUR: 'it returns false'. Refute it at one input. -/
def fnOpMarkWrong : ChangeSpec := { name := "fnOpMark", fn := fun _ => fun
  | [d] => { results := [.lit (.bool false)], args := [d] }
  | _ => none }
def FnOpMarkWrongFalsely : Prop := fnOpMarkRow.holds Try.pinned (OpenSpec.ofChange fnOpMarkWrong)

/-- 'laws.FnOpPunctual': WHATEVER THE INPUT: true; the input reads as it did. -/
def fnOpPunctualSpec : ChangeSpec := { name := "fnOpPunctual", fn := fun _ => fun
  | [d] => { results := [.lit (.bool true)], args := [d] }
  | _ => none }
def fnOpPunctualRow : OpenClaim := { program := "ytaceckhmclddeaa", sum := "2c41d0bca8194dc4137cf3447171a8fe07e72078f381d56f9a3bcf37662e447f", func := "loop.example/freshet/laws.FnOpPunctual", spec := "fnOpPunctual", inPlace := ["slices.overlaps[loop.example/freshet/impl.OpRow]", "slices.overlaps[loop.example/freshet/impl.TabRow]"], unfollowed := true, recurses := true, apart := false }
def FnOpPunctualSaid : Prop := fnOpPunctualRow.holds Try.pinned (OpenSpec.ofChange fnOpPunctualSpec)

/-- ITS FALSE NEIGHBOUR: 'it returns false'. Refute it at one input. -/
def fnOpPunctualWrong : ChangeSpec := { name := "fnOpPunctual", fn := fun _ => fun
  | [d] => { results := [.lit (.bool false)], args := [d] }
  | _ => none }
def FnOpPunctualWrongFalsely : Prop := fnOpPunctualRow.holds Try.pinned (OpenSpec.ofChange fnOpPunctualWrong)

/-- 'laws.FnOpTable': WHATEVER THE INPUT: true; the input reads as it did. -/
def fnOpTableSpec : ChangeSpec := { name := "fnOpTable", fn := fun _ => fun
  | [d] => { results := [.lit (.bool true)], args := [d] }
  | _ => none }
def fnOpTableRow : OpenClaim := { program := "ytaceckhmclddeaa", sum := "2c41d0bca8194dc4137cf3447171a8fe07e72078f381d56f9a3bcf37662e447f", func := "loop.example/freshet/laws.FnOpTable", spec := "fnOpTable", inPlace := ["slices.overlaps[loop.example/freshet/impl.OpRow]", "slices.overlaps[loop.example/freshet/impl.TabRow]"], unfollowed := true, recurses := true, apart := false }
def FnOpTableSaid : Prop := fnOpTableRow.holds Try.pinned (OpenSpec.ofChange fnOpTableSpec)

/-- ITS FALSE NEIGHBOUR: 'it returns false'. Refute it at one input. -/
def fnOpTableWrong : ChangeSpec := { name := "fnOpTable", fn := fun _ => fun
  | [d] => { results := [.lit (.bool false)], args := [d] }
  | _ => none }
def FnOpTableWrongFalsely : Prop := fnOpTableRow.holds Try.pinned (OpenSpec.ofChange fnOpTableWrong)

/-- 'laws.FnTskNew': WHATEVER THE INPUT: true; the input reads as it did. -/
def fnTskNewSpec : ChangeSpec := { name := "fnTskNew", fn := fun _ => fun
  | [d] => { results := [.lit (.bool true)], args := [d] }
  | _ => none }
def fnTskNewRow : OpenClaim := { program := "ytaceckhmclddeaa", sum := "2c41d0bca8194dc4137cf3447171a8fe07e72078f381d56f9a3bcf37662e447f", func := "loop.example/freshet/laws.FnTskNew", spec := "fnTskNew", unfollowed := true, recurses := true, apart := false }
def FnTskNewSaid : Prop := fnTskNewRow.holds Try.pinned (OpenSpec.ofChange fnTskNewSpec)

/-- ITS FALSE NEIGHBOUR: 'it returns false'. Refute it at one input. -/
def fnTskNewWrong : ChangeSpec := { name := "fnTskNew", fn := fun _ => fun
  | [d] => { results := [.lit (.bool false)], args := [d] }
  | _ => none }
def FnTskNewWrongFalsely : Prop := fnTskNewRow.holds Try.pinned (OpenSpec.ofChange fnTskNewWrong)

/-- 'laws.FnOpMarks': WHATEVER THE INPUT: true; the input reads as it did. -/
def fnOpMarksSpec : ChangeSpec := { name := "fnOpMarks", fn := fun _ => fun
  | [d] => { results := [.lit (.bool true)], args := [d] }
  | _ => none }
def fnOpMarksRow : OpenClaim := { program := "ytaceckhmclddeaa", sum := "2c41d0bca8194dc4137cf3447171a8fe07e72078f381d56f9a3bcf37662e447f", func := "loop.example/freshet/laws.FnOpMarks", spec := "fnOpMarks", inPlace := ["slices.overlaps[loop.example/freshet/impl.TabRow]"], unfollowed := true, recurses := true, apart := false }
def FnOpMarksSaid : Prop := fnOpMarksRow.holds Try.pinned (OpenSpec.ofChange fnOpMarksSpec)

/-- ITS FALSE NEIGHBOUR: 'it returns false'. Refute it at one input. -/
def fnOpMarksWrong : ChangeSpec := { name := "fnOpMarks", fn := fun _ => fun
  | [d] => { results := [.lit (.bool false)], args := [d] }
  | _ => none }
def FnOpMarksWrongFalsely : Prop := fnOpMarksRow.holds Try.pinned (OpenSpec.ofChange fnOpMarksWrong)

/-- 'laws.FnOpLate': WHATEVER THE INPUT: true; the input reads as it did. -/
def fnOpLateSpec : ChangeSpec := { name := "fnOpLate", fn := fun _ => fun
  | [d] => { results := [.lit (.bool true)], args := [d] }
  | _ => none }
def fnOpLateRow : OpenClaim := { program := "ytaceckhmclddeaa", sum := "2c41d0bca8194dc4137cf3447171a8fe07e72078f381d56f9a3bcf37662e447f", func := "loop.example/freshet/laws.FnOpLate", spec := "fnOpLate", inPlace := ["slices.overlaps[loop.example/freshet/impl.OpRow]"], unfollowed := true, recurses := true, apart := false }
def FnOpLateSaid : Prop := fnOpLateRow.holds Try.pinned (OpenSpec.ofChange fnOpLateSpec)

/-- ITS FALSE NEIGHBOUR: 'it returns false'. Refute it at one input. -/
def fnOpLateWrong : ChangeSpec := { name := "fnOpLate", fn := fun _ => fun
  | [d] => { results := [.lit (.bool false)], args := [d] }
  | _ => none }
def FnOpLateWrongFalsely : Prop := fnOpLateRow.holds Try.pinned (OpenSpec.ofChange fnOpLateWrong)

/-- 'laws.FnOpKeys': WHATEVER THE INPUT: true; the input reads as it did. -/
def fnOpKeysSpec : ChangeSpec := { name := "fnOpKeys", fn := fun _ => fun
  | [d] => { results := [.lit (.bool true)], args := [d] }
  | _ => none }
def fnOpKeysRow : OpenClaim := { program := "ytaceckhmclddeaa", sum := "2c41d0bca8194dc4137cf3447171a8fe07e72078f381d56f9a3bcf37662e447f", func := "loop.example/freshet/laws.FnOpKeys", spec := "fnOpKeys", inPlace := ["slices.overlaps[loop.example/freshet/impl.OpRow]"], unfollowed := true, recurses := true, apart := false }
def FnOpKeysSaid : Prop := fnOpKeysRow.holds Try.pinned (OpenSpec.ofChange fnOpKeysSpec)

/-- ITS FALSE NEIGHBOUR: 'it returns false'. Refute it at one input. -/
def fnOpKeysWrong : ChangeSpec := { name := "fnOpKeys", fn := fun _ => fun
  | [d] => { results := [.lit (.bool false)], args := [d] }
  | _ => none }
def FnOpKeysWrongFalsely : Prop := fnOpKeysRow.holds Try.pinned (OpenSpec.ofChange fnOpKeysWrong)

/-- 'laws.FnOpSwap': WHATEVER THE INPUT: true; the input reads as it did. -/
def fnOpSwapSpec : ChangeSpec := { name := "fnOpSwap", fn := fun _ => fun
  | [d] => { results := [.lit (.bool true)], args := [d] }
  | _ => none }
def fnOpSwapRow : OpenClaim := { program := "ytaceckhmclddeaa", sum := "2c41d0bca8194dc4137cf3447171a8fe07e72078f381d56f9a3bcf37662e447f", func := "loop.example/freshet/laws.FnOpSwap", spec := "fnOpSwap", inPlace := ["slices.overlaps[loop.example/freshet/impl.OpRow]"], unfollowed := true, recurses := true, apart := false }
def FnOpSwapSaid : Prop := fnOpSwapRow.holds Try.pinned (OpenSpec.ofChange fnOpSwapSpec)

/-- ITS FALSE NEIGHBOUR: 'it returns false'. Refute it at one input. -/
def fnOpSwapWrong : ChangeSpec := { name := "fnOpSwap", fn := fun _ => fun
  | [d] => { results := [.lit (.bool false)], args := [d] }
  | _ => none }
def FnOpSwapWrongFalsely : Prop := fnOpSwapRow.holds Try.pinned (OpenSpec.ofChange fnOpSwapWrong)

/-- 'laws.FnOpTake': WHATEVER THE INPUT: true; the input reads as it did. -/
def fnOpTakeSpec : ChangeSpec := { name := "fnOpTake", fn := fun _ => fun
  | [d] => { results := [.lit (.bool true)], args := [d] }
  | _ => none }
def fnOpTakeRow : OpenClaim := { program := "ytaceckhmclddeaa", sum := "2c41d0bca8194dc4137cf3447171a8fe07e72078f381d56f9a3bcf37662e447f", func := "loop.example/freshet/laws.FnOpTake", spec := "fnOpTake", inPlace := ["slices.overlaps[loop.example/freshet/impl.OpRow]"], unfollowed := true, recurses := true, apart := false }
def FnOpTakeSaid : Prop := fnOpTakeRow.holds Try.pinned (OpenSpec.ofChange fnOpTakeSpec)

/-- ITS FALSE NEIGHBOUR: 'it returns false'. Refute it at one input. -/
def fnOpTakeWrong : ChangeSpec := { name := "fnOpTake", fn := fun _ => fun
  | [d] => { results := [.lit (.bool false)], args := [d] }
  | _ => none }
def FnOpTakeWrongFalsely : Prop := fnOpTakeRow.holds Try.pinned (OpenSpec.ofChange fnOpTakeWrong)

/-- 'laws.FnOpEnd': WHATEVER THE INPUT: true; the input reads as it did. -/
def fnOpEndSpec : ChangeSpec := { name := "fnOpEnd", fn := fun _ => fun
  | [d] => { results := [.lit (.bool true)], args := [d] }
  | _ => none }
def fnOpEndRow : OpenClaim := { program := "ytaceckhmclddeaa", sum := "2c41d0bca8194dc4137cf3447171a8fe07e72078f381d56f9a3bcf37662e447f", func := "loop.example/freshet/laws.FnOpEnd", spec := "fnOpEnd", inPlace := ["slices.overlaps[loop.example/freshet/impl.OpRow]"], unfollowed := true, recurses := true, apart := false }
def FnOpEndSaid : Prop := fnOpEndRow.holds Try.pinned (OpenSpec.ofChange fnOpEndSpec)

/-- ITS FALSE NEIGHBOUR: 'it returns false'. Refute it at one input. -/
def fnOpEndWrong : ChangeSpec := { name := "fnOpEnd", fn := fun _ => fun
  | [d] => { results := [.lit (.bool false)], args := [d] }
  | _ => none }
def FnOpEndWrongFalsely : Prop := fnOpEndRow.holds Try.pinned (OpenSpec.ofChange fnOpEndWrong)

/-- 'laws.FnOpStays': WHATEVER THE INPUT: true; the input reads as it did. -/
def fnOpStaysSpec : ChangeSpec := { name := "fnOpStays", fn := fun _ => fun
  | [d1, d2] => { results := [.lit (.bool true)], args := [d1, d2] }
  | _ => none }
def fnOpStaysRow : OpenClaim := { program := "ytaceckhmclddeaa", sum := "2c41d0bca8194dc4137cf3447171a8fe07e72078f381d56f9a3bcf37662e447f", func := "loop.example/freshet/laws.FnOpStays", spec := "fnOpStays", inPlace := ["slices.overlaps[loop.example/freshet/impl.OpRow]"], unfollowed := true, recurses := true, apart := false }
def FnOpStaysSaid : Prop := fnOpStaysRow.holds Try.pinned (OpenSpec.ofChange fnOpStaysSpec)

/-- ITS FALSE NEIGHBOUR: 'it returns false'. Refute it at one input. -/
def fnOpStaysWrong : ChangeSpec := { name := "fnOpStays", fn := fun _ => fun
  | [d1, d2] => { results := [.lit (.bool false)], args := [d1, d2] }
  | _ => none }
def FnOpStaysWrongFalsely : Prop := fnOpStaysRow.holds Try.pinned (OpenSpec.ofChange fnOpStaysWrong)

/- THE SECOND FORM. 'bulk': how many values and letters a reading holds, each counted each time it is reached (what is shared counts as often as it is met; a slice's spare places count too). A statement '..UptoSaid' is the law's where the arguments, and the package variables that the reading takes, are together of bulk at most 1048576: NARROWER than '..Said'. Prove '..Said' where nothing that the law and all that it calls make is longer than what came in: it says more and counts as full. Else prove '..UptoSaid'. A law counts once. -/
mutual
def uptoBulk {H : Type} : DataW H → Nat
  | .lit (.string bytes) => bytes.length + 1
  | .lit _ => 1
  | .nil => 1
  | .ptr d => uptoBulk d + 1
  | .slice elems spare => uptoBulkAll elems + uptoBulkAll spare + 1
  | .agg parts => uptoBulkAll parts + 1
  | .iface _ d => uptoBulk d + 1
  | .map entries => uptoBulkEntries entries + 1
  | .held _ => 1
def uptoBulkAll {H : Type} : List (DataW H) → Nat
  | [] => 0
  | d :: r => uptoBulk d + uptoBulkAll r
def uptoBulkEntries {H : Type} : List (Lit × DataW H) → Nat
  | [] => 0
  | x :: r => uptoBulkEntry x + uptoBulkEntries r
def uptoBulkEntry {H : Type} : Lit × DataW H → Nat
  | (.string bytes, d) => bytes.length + uptoBulk d + 1
  | (_, d) => uptoBulk d + 1
 end
def uptoSmall : (H : Type) → List (DataW H) → Bool := fun _ ds => decide (uptoBulkAll ds ≤ 1048576)
def OpenSpec.upto (s : _root_.Go.ChangeSpec) : _root_.Go.OpenSpec := { _root_.Go.OpenSpec.ofChange s with cond := some uptoSmall }

/-- 'laws.FnOpPiece', WHERE WHAT IT READS IS OF BULK AT MOST 1048576: true; the input reads as it did. -/
def fnOpPieceUptoRow : OpenClaim := { program := "ytaceckhmclddeaa", sum := "2c41d0bca8194dc4137cf3447171a8fe07e72078f381d56f9a3bcf37662e447f", func := "loop.example/freshet/laws.FnOpPiece", spec := "fnOpPiece", inPlace := ["slices.overlaps[loop.example/freshet/impl.OpRow]", "slices.overlaps[loop.example/freshet/impl.TabRow]"], unfollowed := true, recurses := true, apart := false, narrowed := true }
def FnOpPieceUptoSaid : Prop := fnOpPieceUptoRow.holds Try.pinned (OpenSpec.upto fnOpPieceSpec)

/-- 'laws.FnOpMark', WHERE WHAT IT READS IS OF BULK AT MOST 1048576: true; the input reads as it did. -/
def fnOpMarkUptoRow : OpenClaim := { program := "ytaceckhmclddeaa", sum := "2c41d0bca8194dc4137cf3447171a8fe07e72078f381d56f9a3bcf37662e447f", func := "loop.example/freshet/laws.FnOpMark", spec := "fnOpMark", unfollowed := true, recurses := true, apart := false, narrowed := true }
def FnOpMarkUptoSaid : Prop := fnOpMarkUptoRow.holds Try.pinned (OpenSpec.upto fnOpMarkSpec)

/-- 'laws.FnOpPunctual', WHERE WHAT IT READS IS OF BULK AT MOST 1048576: true; the input reads as it did. -/
def fnOpPunctualUptoRow : OpenClaim := { program := "ytaceckhmclddeaa", sum := "2c41d0bca8194dc4137cf3447171a8fe07e72078f381d56f9a3bcf37662e447f", func := "loop.example/freshet/laws.FnOpPunctual", spec := "fnOpPunctual", inPlace := ["slices.overlaps[loop.example/freshet/impl.OpRow]", "slices.overlaps[loop.example/freshet/impl.TabRow]"], unfollowed := true, recurses := true, apart := false, narrowed := true }
def FnOpPunctualUptoSaid : Prop := fnOpPunctualUptoRow.holds Try.pinned (OpenSpec.upto fnOpPunctualSpec)

/-- 'laws.FnOpTable', WHERE WHAT IT READS IS OF BULK AT MOST 1048576: true; the input reads as it did. -/
def fnOpTableUptoRow : OpenClaim := { program := "ytaceckhmclddeaa", sum := "2c41d0bca8194dc4137cf3447171a8fe07e72078f381d56f9a3bcf37662e447f", func := "loop.example/freshet/laws.FnOpTable", spec := "fnOpTable", inPlace := ["slices.overlaps[loop.example/freshet/impl.OpRow]", "slices.overlaps[loop.example/freshet/impl.TabRow]"], unfollowed := true, recurses := true, apart := false, narrowed := true }
def FnOpTableUptoSaid : Prop := fnOpTableUptoRow.holds Try.pinned (OpenSpec.upto fnOpTableSpec)

/-- 'laws.FnTskNew', WHERE WHAT IT READS IS OF BULK AT MOST 1048576: true; the input reads as it did. -/
def fnTskNewUptoRow : OpenClaim := { program := "ytaceckhmclddeaa", sum := "2c41d0bca8194dc4137cf3447171a8fe07e72078f381d56f9a3bcf37662e447f", func := "loop.example/freshet/laws.FnTskNew", spec := "fnTskNew", unfollowed := true, recurses := true, apart := false, narrowed := true }
def FnTskNewUptoSaid : Prop := fnTskNewUptoRow.holds Try.pinned (OpenSpec.upto fnTskNewSpec)

/-- 'laws.FnOpMarks', WHERE WHAT IT READS IS OF BULK AT MOST 1048576: true; the input reads as it did. -/
def fnOpMarksUptoRow : OpenClaim := { program := "ytaceckhmclddeaa", sum := "2c41d0bca8194dc4137cf3447171a8fe07e72078f381d56f9a3bcf37662e447f", func := "loop.example/freshet/laws.FnOpMarks", spec := "fnOpMarks", inPlace := ["slices.overlaps[loop.example/freshet/impl.TabRow]"], unfollowed := true, recurses := true, apart := false, narrowed := true }
def FnOpMarksUptoSaid : Prop := fnOpMarksUptoRow.holds Try.pinned (OpenSpec.upto fnOpMarksSpec)

/-- 'laws.FnOpLate', WHERE WHAT IT READS IS OF BULK AT MOST 1048576: true; the input reads as it did. -/
def fnOpLateUptoRow : OpenClaim := { program := "ytaceckhmclddeaa", sum := "2c41d0bca8194dc4137cf3447171a8fe07e72078f381d56f9a3bcf37662e447f", func := "loop.example/freshet/laws.FnOpLate", spec := "fnOpLate", inPlace := ["slices.overlaps[loop.example/freshet/impl.OpRow]"], unfollowed := true, recurses := true, apart := false, narrowed := true }
def FnOpLateUptoSaid : Prop := fnOpLateUptoRow.holds Try.pinned (OpenSpec.upto fnOpLateSpec)

/-- 'laws.FnOpKeys', WHERE WHAT IT READS IS OF BULK AT MOST 1048576: true; the input reads as it did. -/
def fnOpKeysUptoRow : OpenClaim := { program := "ytaceckhmclddeaa", sum := "2c41d0bca8194dc4137cf3447171a8fe07e72078f381d56f9a3bcf37662e447f", func := "loop.example/freshet/laws.FnOpKeys", spec := "fnOpKeys", inPlace := ["slices.overlaps[loop.example/freshet/impl.OpRow]"], unfollowed := true, recurses := true, apart := false, narrowed := true }
def FnOpKeysUptoSaid : Prop := fnOpKeysUptoRow.holds Try.pinned (OpenSpec.upto fnOpKeysSpec)

/-- 'laws.FnOpSwap', WHERE WHAT IT READS IS OF BULK AT MOST 1048576: true; the input reads as it did. -/
def fnOpSwapUptoRow : OpenClaim := { program := "ytaceckhmclddeaa", sum := "2c41d0bca8194dc4137cf3447171a8fe07e72078f381d56f9a3bcf37662e447f", func := "loop.example/freshet/laws.FnOpSwap", spec := "fnOpSwap", inPlace := ["slices.overlaps[loop.example/freshet/impl.OpRow]"], unfollowed := true, recurses := true, apart := false, narrowed := true }
def FnOpSwapUptoSaid : Prop := fnOpSwapUptoRow.holds Try.pinned (OpenSpec.upto fnOpSwapSpec)

/-- 'laws.FnOpTake', WHERE WHAT IT READS IS OF BULK AT MOST 1048576: true; the input reads as it did. -/
def fnOpTakeUptoRow : OpenClaim := { program := "ytaceckhmclddeaa", sum := "2c41d0bca8194dc4137cf3447171a8fe07e72078f381d56f9a3bcf37662e447f", func := "loop.example/freshet/laws.FnOpTake", spec := "fnOpTake", inPlace := ["slices.overlaps[loop.example/freshet/impl.OpRow]"], unfollowed := true, recurses := true, apart := false, narrowed := true }
def FnOpTakeUptoSaid : Prop := fnOpTakeUptoRow.holds Try.pinned (OpenSpec.upto fnOpTakeSpec)

/-- 'laws.FnOpEnd', WHERE WHAT IT READS IS OF BULK AT MOST 1048576: true; the input reads as it did. -/
def fnOpEndUptoRow : OpenClaim := { program := "ytaceckhmclddeaa", sum := "2c41d0bca8194dc4137cf3447171a8fe07e72078f381d56f9a3bcf37662e447f", func := "loop.example/freshet/laws.FnOpEnd", spec := "fnOpEnd", inPlace := ["slices.overlaps[loop.example/freshet/impl.OpRow]"], unfollowed := true, recurses := true, apart := false, narrowed := true }
def FnOpEndUptoSaid : Prop := fnOpEndUptoRow.holds Try.pinned (OpenSpec.upto fnOpEndSpec)

/-- 'laws.FnOpStays', WHERE WHAT IT READS IS OF BULK AT MOST 1048576: true; the input reads as it did. -/
def fnOpStaysUptoRow : OpenClaim := { program := "ytaceckhmclddeaa", sum := "2c41d0bca8194dc4137cf3447171a8fe07e72078f381d56f9a3bcf37662e447f", func := "loop.example/freshet/laws.FnOpStays", spec := "fnOpStays", inPlace := ["slices.overlaps[loop.example/freshet/impl.OpRow]"], unfollowed := true, recurses := true, apart := false, narrowed := true }
def FnOpStaysUptoSaid : Prop := fnOpStaysUptoRow.holds Try.pinned (OpenSpec.upto fnOpStaysSpec)

end Rows
end Go.Proofs.Ytaceckhmclddeaa
