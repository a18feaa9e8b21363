/-
  No cell of these rows narrows 'for every input' (looked for: loops, veiled, ifaces, maps, wideKeys, modest, calm, conditions, laid).
  DERIVED. THE GIVEN ROWS OF THIS SEAT. 6 by the template 'for every input the law returns true; each argument reads behind the call as it read before'; 0 by the template 'total and deterministic' (their statements: YtgiomkpcpieplaaTotals.lean).
  GIVEN WITH THE SEED: the statements are not yours to turn. If you find one false, say at which input.
  Laid BY PROGRAM, IN A SANDBOX (cutbox-rows.mjs): the forced cells as the released guide's own fill.sh prints them over the translation a9fb7d70073f0775… (all of the seat's roots in one cut). By AI agents, Wed Nov 11 2026. No macro, syntax, notation, axiom, sorry.
-/
import Derived.Test.YtgiomkpcpieplaaChecked
import GoSem.Claim
import GoSem.ClaimJoined
import GoSem.ClaimMapViews
import Derived.JoinedTies
import Derived.KernelRfl
namespace Go.Proofs.Ytgiomkpcpieplaa
/- THE CELL 'sum', in the pinned program and in every row, IS THE sha256 OF THE DUMP (.gsa) THAT YtgiomkpcpieplaaProg.lean LOADS. Nothing in Lean hashes anything: it is a label: what it is worth is what the hold of that sum in a sandbox is worth. -/
noncomputable def Try.pinned : Pinned := { name := "ytgiomkpcpieplaa", sum := "a9fb7d70073f077565632aef30bc58b228347332d49bc116673b885eafab79bf", checked := Try.checked }
namespace Rows
def none {H : Type} : Left H := { results := [], args := [] }

/-- 'laws.FnExactOpOk': WHATEVER THE INPUT: true; the input reads as it did. -/
def fnExactOpOkSpec : ChangeSpec := { name := "fnExactOpOk", fn := fun _ => fun
  | [d1, d2] => { results := [.lit (.bool true)], args := [d1, d2] }
  | _ => none }
def fnExactOpOkRow : OpenClaim := { program := "ytgiomkpcpieplaa", sum := "a9fb7d70073f077565632aef30bc58b228347332d49bc116673b885eafab79bf", func := "loop.example/freshet/laws.FnExactOpOk", spec := "fnExactOpOk", unfollowed := true, recurses := true, apart := false }
def FnExactOpOkSaid : Prop := fnExactOpOkRow.holds Try.pinned (OpenSpec.ofChange fnExactOpOkSpec)

/-- ITS FALSE NEIGHBOUR: 'it returns false'. Refute it at one input. -/
def fnExactOpOkWrong : ChangeSpec := { name := "fnExactOpOk", fn := fun _ => fun
  | [d1, d2] => { results := [.lit (.bool false)], args := [d1, d2] }
  | _ => none }
def FnExactOpOkWrongFalsely : Prop := fnExactOpOkRow.holds Try.pinned (OpenSpec.ofChange fnExactOpOkWrong)

/-- 'laws.FnExactOpMark': WHATEVER THE INPUT: true; the input reads as it did. -/
def fnExactOpMarkSpec : ChangeSpec := { name := "fnExactOpMark", fn := fun _ => fun
  | [d1, d2, d3] => { results := [.lit (.bool true)], args := [d1, d2, d3] }
  | _ => none }
def fnExactOpMarkRow : OpenClaim := { program := "ytgiomkpcpieplaa", sum := "a9fb7d70073f077565632aef30bc58b228347332d49bc116673b885eafab79bf", func := "loop.example/freshet/laws.FnExactOpMark", spec := "fnExactOpMark", unfollowed := true, recurses := true, apart := false }
def FnExactOpMarkSaid : Prop := fnExactOpMarkRow.holds Try.pinned (OpenSpec.ofChange fnExactOpMarkSpec)

/-- ITS FALSE NEIGHBOUR: 'it returns false'. Refute it at one input. -/
def fnExactOpMarkWrong : ChangeSpec := { name := "fnExactOpMark", fn := fun _ => fun
  | [d1, d2, d3] => { results := [.lit (.bool false)], args := [d1, d2, d3] }
  | _ => none }
def FnExactOpMarkWrongFalsely : Prop := fnExactOpMarkRow.holds Try.pinned (OpenSpec.ofChange fnExactOpMarkWrong)

/-- 'laws.FnExactOpTake': WHATEVER THE INPUT: true; the input reads as it did. -/
def fnExactOpTakeSpec : ChangeSpec := { name := "fnExactOpTake", fn := fun _ => fun
  | [d1, d2, d3] => { results := [.lit (.bool true)], args := [d1, d2, d3] }
  | _ => none }
def fnExactOpTakeRow : OpenClaim := { program := "ytgiomkpcpieplaa", sum := "a9fb7d70073f077565632aef30bc58b228347332d49bc116673b885eafab79bf", func := "loop.example/freshet/laws.FnExactOpTake", spec := "fnExactOpTake", inPlace := ["slices.overlaps[loop.example/freshet/impl.OpRow]"], unfollowed := true, recurses := true, apart := false }
def FnExactOpTakeSaid : Prop := fnExactOpTakeRow.holds Try.pinned (OpenSpec.ofChange fnExactOpTakeSpec)

/-- ITS FALSE NEIGHBOUR: 'it returns false'. Refute it at one input. -/
def fnExactOpTakeWrong : ChangeSpec := { name := "fnExactOpTake", fn := fun _ => fun
  | [d1, d2, d3] => { results := [.lit (.bool false)], args := [d1, d2, d3] }
  | _ => none }
def FnExactOpTakeWrongFalsely : Prop := fnExactOpTakeRow.holds Try.pinned (OpenSpec.ofChange fnExactOpTakeWrong)

/-- 'laws.FnExactTskHeld': WHATEVER THE INPUT: true; the input reads as it did. -/
def fnExactTskHeldSpec : ChangeSpec := { name := "fnExactTskHeld", fn := fun _ => fun
  | [d] => { results := [.lit (.bool true)], args := [d] }
  | _ => none }
def fnExactTskHeldRow : OpenClaim := { program := "ytgiomkpcpieplaa", sum := "a9fb7d70073f077565632aef30bc58b228347332d49bc116673b885eafab79bf", func := "loop.example/freshet/laws.FnExactTskHeld", spec := "fnExactTskHeld", apart := false }
def FnExactTskHeldSaid : Prop := fnExactTskHeldRow.holds Try.pinned (OpenSpec.ofChange fnExactTskHeldSpec)

/-- ITS FALSE NEIGHBOUR: 'it returns false'. Refute it at one input. -/
def fnExactTskHeldWrong : ChangeSpec := { name := "fnExactTskHeld", fn := fun _ => fun
  | [d] => { results := [.lit (.bool false)], args := [d] }
  | _ => none }
def FnExactTskHeldWrongFalsely : Prop := fnExactTskHeldRow.holds Try.pinned (OpenSpec.ofChange fnExactTskHeldWrong)

/-- 'laws.FnExactTskLow': WHATEVER THE INPUT: true; the input reads as it did. -/
def fnExactTskLowSpec : ChangeSpec := { name := "fnExactTskLow", fn := fun _ => fun
  | [d] => { results := [.lit (.bool true)], args := [d] }
  | _ => none }
def fnExactTskLowRow : OpenClaim := { program := "ytgiomkpcpieplaa", sum := "a9fb7d70073f077565632aef30bc58b228347332d49bc116673b885eafab79bf", func := "loop.example/freshet/laws.FnExactTskLow", spec := "fnExactTskLow", apart := false }
def FnExactTskLowSaid : Prop := fnExactTskLowRow.holds Try.pinned (OpenSpec.ofChange fnExactTskLowSpec)

/-- ITS FALSE NEIGHBOUR: 'it returns false'. Refute it at one input. -/
def fnExactTskLowWrong : ChangeSpec := { name := "fnExactTskLow", fn := fun _ => fun
  | [d] => { results := [.lit (.bool false)], args := [d] }
  | _ => none }
def FnExactTskLowWrongFalsely : Prop := fnExactTskLowRow.holds Try.pinned (OpenSpec.ofChange fnExactTskLowWrong)

/-- 'laws.FnExactTskNew': WHATEVER THE INPUT: true; the input reads as it did. -/
def fnExactTskNewSpec : ChangeSpec := { name := "fnExactTskNew", fn := fun _ => fun
  | [d1, d2, d3] => { results := [.lit (.bool true)], args := [d1, d2, d3] }
  | _ => none }
def fnExactTskNewRow : OpenClaim := { program := "ytgiomkpcpieplaa", sum := "a9fb7d70073f077565632aef30bc58b228347332d49bc116673b885eafab79bf", func := "loop.example/freshet/laws.FnExactTskNew", spec := "fnExactTskNew", unfollowed := true, recurses := true, apart := false }
def FnExactTskNewSaid : Prop := fnExactTskNewRow.holds Try.pinned (OpenSpec.ofChange fnExactTskNewSpec)

/-- ITS FALSE NEIGHBOUR: 'it returns false'. Refute it at one input. -/
def fnExactTskNewWrong : ChangeSpec := { name := "fnExactTskNew", fn := fun _ => fun
  | [d1, d2, d3] => { results := [.lit (.bool false)], args := [d1, d2, d3] }
  | _ => none }
def FnExactTskNewWrongFalsely : Prop := fnExactTskNewRow.holds Try.pinned (OpenSpec.ofChange fnExactTskNewWrong)

/- THE SECOND FORM. 'bulk': how many values and letters a reading holds, each counted each time it is reached (what is shared counts as often as it is met; a slice's spare places count too). A statement '..UptoSaid' is the law's where the arguments, and the package variables that the reading takes, are together of bulk at most 1048576: NARROWER than '..Said'. Prove '..Said' where nothing that the law and all that it calls make is longer than what came in: it says more and counts as full. Else prove '..UptoSaid'. A law counts once. -/
mutual
def uptoBulk {H : Type} : DataW H → Nat
  | .lit (.string bytes) => bytes.length + 1
  | .lit _ => 1
  | .nil => 1
  | .ptr d => uptoBulk d + 1
  | .slice elems spare => uptoBulkAll elems + uptoBulkAll spare + 1
  | .agg parts => uptoBulkAll parts + 1
  | .iface _ d => uptoBulk d + 1
  | .map entries => uptoBulkEntries entries + 1
  | .held _ => 1
def uptoBulkAll {H : Type} : List (DataW H) → Nat
  | [] => 0
  | d :: r => uptoBulk d + uptoBulkAll r
def uptoBulkEntries {H : Type} : List (Lit × DataW H) → Nat
  | [] => 0
  | x :: r => uptoBulkEntry x + uptoBulkEntries r
def uptoBulkEntry {H : Type} : Lit × DataW H → Nat
  | (.string bytes, d) => bytes.length + uptoBulk d + 1
  | (_, d) => uptoBulk d + 1
 end
def uptoSmall : (H : Type) → List (DataW H) → Bool := fun _ ds => decide (uptoBulkAll ds ≤ 1048576)
def OpenSpec.upto (s : _root_.Go.ChangeSpec) : _root_.Go.OpenSpec := { _root_.Go.OpenSpec.ofChange s with cond := some uptoSmall }

/-- 'laws.FnExactOpOk', WHERE WHAT IT READS IS OF BULK AT MOST 1048576: true; the input reads as it did. -/
def fnExactOpOkUptoRow : OpenClaim := { program := "ytgiomkpcpieplaa", sum := "a9fb7d70073f077565632aef30bc58b228347332d49bc116673b885eafab79bf", func := "loop.example/freshet/laws.FnExactOpOk", spec := "fnExactOpOk", unfollowed := true, recurses := true, apart := false, narrowed := true }
def FnExactOpOkUptoSaid : Prop := fnExactOpOkUptoRow.holds Try.pinned (OpenSpec.upto fnExactOpOkSpec)

/-- 'laws.FnExactOpMark', WHERE WHAT IT READS IS OF BULK AT MOST 1048576: true; the input reads as it did. -/
def fnExactOpMarkUptoRow : OpenClaim := { program := "ytgiomkpcpieplaa", sum := "a9fb7d70073f077565632aef30bc58b228347332d49bc116673b885eafab79bf", func := "loop.example/freshet/laws.FnExactOpMark", spec := "fnExactOpMark", unfollowed := true, recurses := true, apart := false, narrowed := true }
def FnExactOpMarkUptoSaid : Prop := fnExactOpMarkUptoRow.holds Try.pinned (OpenSpec.upto fnExactOpMarkSpec)

/-- 'laws.FnExactOpTake', WHERE WHAT IT READS IS OF BULK AT MOST 1048576: true; the input reads as it did. -/
def fnExactOpTakeUptoRow : OpenClaim := { program := "ytgiomkpcpieplaa", sum := "a9fb7d70073f077565632aef30bc58b228347332d49bc116673b885eafab79bf", func := "loop.example/freshet/laws.FnExactOpTake", spec := "fnExactOpTake", inPlace := ["slices.overlaps[loop.example/freshet/impl.OpRow]"], unfollowed := true, recurses := true, apart := false, narrowed := true }
def FnExactOpTakeUptoSaid : Prop := fnExactOpTakeUptoRow.holds Try.pinned (OpenSpec.upto fnExactOpTakeSpec)

/-- 'laws.FnExactTskHeld', WHERE WHAT IT READS IS OF BULK AT MOST 1048576: true; the input reads as it did. -/
def fnExactTskHeldUptoRow : OpenClaim := { program := "ytgiomkpcpieplaa", sum := "a9fb7d70073f077565632aef30bc58b228347332d49bc116673b885eafab79bf", func := "loop.example/freshet/laws.FnExactTskHeld", spec := "fnExactTskHeld", apart := false, narrowed := true }
def FnExactTskHeldUptoSaid : Prop := fnExactTskHeldUptoRow.holds Try.pinned (OpenSpec.upto fnExactTskHeldSpec)

/-- 'laws.FnExactTskLow', WHERE WHAT IT READS IS OF BULK AT MOST 1048576: true; the input reads as it did. -/
def fnExactTskLowUptoRow : OpenClaim := { program := "ytgiomkpcpieplaa", sum := "a9fb7d70073f077565632aef30bc58b228347332d49bc116673b885eafab79bf", func := "loop.example/freshet/laws.FnExactTskLow", spec := "fnExactTskLow", apart := false, narrowed := true }
def FnExactTskLowUptoSaid : Prop := fnExactTskLowUptoRow.holds Try.pinned (OpenSpec.upto fnExactTskLowSpec)

/-- 'laws.FnExactTskNew', WHERE WHAT IT READS IS OF BULK AT MOST 1048576: true; the input reads as it did. -/
def fnExactTskNewUptoRow : OpenClaim := { program := "ytgiomkpcpieplaa", sum := "a9fb7d70073f077565632aef30bc58b228347332d49bc116673b885eafab79bf", func := "loop.example/freshet/laws.FnExactTskNew", spec := "fnExactTskNew", unfollowed := true, recurses := true, apart := false, narrowed := true }
def FnExactTskNewUptoSaid : Prop := fnExactTskNewUptoRow.holds Try.pinned (OpenSpec.upto fnExactTskNewSpec)

end Rows
end Go.Proofs.Ytgiomkpcpieplaa
