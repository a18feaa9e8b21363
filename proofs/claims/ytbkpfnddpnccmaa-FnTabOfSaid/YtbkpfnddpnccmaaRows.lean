/-
  No cell of these rows narrows 'for every input' (looked for: loops, veiled, ifaces, maps, wideKeys, modest, calm, conditions, laid).
  DERIVED. THE GIVEN ROWS OF THIS SEAT. 12 by the template 'for every input the law returns true; each argument reads behind the call as it read before'; 0 by the template 'total and deterministic' (their statements: YtbkpfnddpnccmaaTotals.lean).
  GIVEN WITH THE SEED: the statements are not yours to turn. If you find one false, say at which input.
  Laid BY PROGRAM, IN A SANDBOX (cutbox-rows.mjs): the forced cells as the released guide's own fill.sh prints them over the translation 1dfcb266d363510c… (all of the seat's roots in one cut). By AI agents, Wed Nov 11 2026. No macro, syntax, notation, axiom, sorry.
-/
import Derived.Test.YtbkpfnddpnccmaaChecked
import GoSem.Claim
import GoSem.ClaimJoined
import GoSem.ClaimMapViews
import Derived.JoinedTies
import Derived.KernelRfl
namespace Go.Proofs.Ytbkpfnddpnccmaa
/- THE CELL 'sum', in the pinned program and in every row, IS THE sha256 OF THE DUMP (.gsa) THAT YtbkpfnddpnccmaaProg.lean LOADS. Nothing in Lean hashes anything: it is a label: what it is worth is what the hold of that sum in a sandbox is worth. -/
noncomputable def Try.pinned : Pinned := { name := "ytbkpfnddpnccmaa", sum := "1dfcb266d363510c69f39173decd18505953e3ae1f5c5b57a6fda9722dfeb38e", checked := Try.checked }
namespace Rows
def none {H : Type} : Left H := { results := [], args := [] }

/-- 'laws.FnExactOpFind': WHATEVER THE INPUT: true; the input reads as it did. -/
def fnExactOpFindSpec : ChangeSpec := { name := "fnExactOpFind", fn := fun _ => fun
  | [d1, d2, d3] => { results := [.lit (.bool true)], args := [d1, d2, d3] }
  | _ => none }
def fnExactOpFindRow : OpenClaim := { program := "ytbkpfnddpnccmaa", sum := "1dfcb266d363510c69f39173decd18505953e3ae1f5c5b57a6fda9722dfeb38e", func := "loop.example/freshet/laws.FnExactOpFind", spec := "fnExactOpFind", unfollowed := true, recurses := true, apart := false }
def FnExactOpFindSaid : Prop := fnExactOpFindRow.holds Try.pinned (OpenSpec.ofChange fnExactOpFindSpec)

/-- ITS FALSE NEIGHBOUR: 'it returns false'. Refute it at one input. -/
def fnExactOpFindWrong : ChangeSpec := { name := "fnExactOpFind", fn := fun _ => fun
  | [d1, d2, d3] => { results := [.lit (.bool false)], args := [d1, d2, d3] }
  | _ => none }
def FnExactOpFindWrongFalsely : Prop := fnExactOpFindRow.holds Try.pinned (OpenSpec.ofChange fnExactOpFindWrong)

/-- 'laws.FnSpcPairs': WHATEVER THE INPUT: true; the input reads as it did. -/
def fnSpcPairsSpec : ChangeSpec := { name := "fnSpcPairs", fn := fun _ => fun
  | [d] => { results := [.lit (.bool true)], args := [d] }
  | _ => none }
def fnSpcPairsRow : OpenClaim := { program := "ytbkpfnddpnccmaa", sum := "1dfcb266d363510c69f39173decd18505953e3ae1f5c5b57a6fda9722dfeb38e", func := "loop.example/freshet/laws.FnSpcPairs", spec := "fnSpcPairs", unfollowed := true, recurses := true, apart := false }
def FnSpcPairsSaid : Prop := fnSpcPairsRow.holds Try.pinned (OpenSpec.ofChange fnSpcPairsSpec)

/-- ITS FALSE NEIGHBOUR: 'it returns false'. Refute it at one input. -/
def fnSpcPairsWrong : ChangeSpec := { name := "fnSpcPairs", fn := fun _ => fun
  | [d] => { results := [.lit (.bool false)], args := [d] }
  | _ => none }
def FnSpcPairsWrongFalsely : Prop := fnSpcPairsRow.holds Try.pinned (OpenSpec.ofChange fnSpcPairsWrong)

/-- 'laws.FnExactSpcPairs': WHATEVER THE INPUT: true; the input reads as it did. -/
def fnExactSpcPairsSpec : ChangeSpec := { name := "fnExactSpcPairs", fn := fun _ => fun
  | [d1, d2] => { results := [.lit (.bool true)], args := [d1, d2] }
  | _ => none }
def fnExactSpcPairsRow : OpenClaim := { program := "ytbkpfnddpnccmaa", sum := "1dfcb266d363510c69f39173decd18505953e3ae1f5c5b57a6fda9722dfeb38e", func := "loop.example/freshet/laws.FnExactSpcPairs", spec := "fnExactSpcPairs", unfollowed := true, recurses := true, apart := false }
def FnExactSpcPairsSaid : Prop := fnExactSpcPairsRow.holds Try.pinned (OpenSpec.ofChange fnExactSpcPairsSpec)

/-- ITS FALSE NEIGHBOUR: 'it returns false'. Refute it at one input. -/
def fnExactSpcPairsWrong : ChangeSpec := { name := "fnExactSpcPairs", fn := fun _ => fun
  | [d1, d2] => { results := [.lit (.bool false)], args := [d1, d2] }
  | _ => none }
def FnExactSpcPairsWrongFalsely : Prop := fnExactSpcPairsRow.holds Try.pinned (OpenSpec.ofChange fnExactSpcPairsWrong)

/-- 'laws.FnExactTabPut': WHATEVER THE INPUT: true; the input reads as it did. -/
def fnExactTabPutSpec : ChangeSpec := { name := "fnExactTabPut", fn := fun _ => fun
  | [d1, d2] => { results := [.lit (.bool true)], args := [d1, d2] }
  | _ => none }
def fnExactTabPutRow : OpenClaim := { program := "ytbkpfnddpnccmaa", sum := "1dfcb266d363510c69f39173decd18505953e3ae1f5c5b57a6fda9722dfeb38e", func := "loop.example/freshet/laws.FnExactTabPut", spec := "fnExactTabPut", inPlace := ["slices.overlaps[loop.example/freshet/impl.TabRow]"], unfollowed := true, recurses := true, apart := false }
def FnExactTabPutSaid : Prop := fnExactTabPutRow.holds Try.pinned (OpenSpec.ofChange fnExactTabPutSpec)

/-- ITS FALSE NEIGHBOUR: 'it returns false'. Refute it at one input. -/
def fnExactTabPutWrong : ChangeSpec := { name := "fnExactTabPut", fn := fun _ => fun
  | [d1, d2] => { results := [.lit (.bool false)], args := [d1, d2] }
  | _ => none }
def FnExactTabPutWrongFalsely : Prop := fnExactTabPutRow.holds Try.pinned (OpenSpec.ofChange fnExactTabPutWrong)

/-- 'laws.FnTabPut': WHATEVER THE INPUT: true; the input reads as it did. -/
def fnTabPutSpec : ChangeSpec := { name := "fnTabPut", fn := fun _ => fun
  | [d] => { results := [.lit (.bool true)], args := [d] }
  | _ => none }
def fnTabPutRow : OpenClaim := { program := "ytbkpfnddpnccmaa", sum := "1dfcb266d363510c69f39173decd18505953e3ae1f5c5b57a6fda9722dfeb38e", func := "loop.example/freshet/laws.FnTabPut", spec := "fnTabPut", inPlace := ["slices.overlaps[loop.example/freshet/impl.TabRow]"], unfollowed := true, recurses := true, apart := false }
def FnTabPutSaid : Prop := fnTabPutRow.holds Try.pinned (OpenSpec.ofChange fnTabPutSpec)

/-- ITS FALSE NEIGHBOUR: 'it returns false'. Refute it at one input. -/
def fnTabPutWrong : ChangeSpec := { name := "fnTabPut", fn := fun _ => fun
  | [d] => { results := [.lit (.bool false)], args := [d] }
  | _ => none }
def FnTabPutWrongFalsely : Prop := fnTabPutRow.holds Try.pinned (OpenSpec.ofChange fnTabPutWrong)

/-- 'laws.FnTabOf': WHATEVER THE INPUT: true; the input reads as it did. -/
def fnTabOfSpec : ChangeSpec := { name := "fnTabOf", fn := fun _ => fun
  | [d] => { results := [.lit (.bool true)], args := [d] }
  | _ => none }
def fnTabOfRow : OpenClaim := { program := "ytbkpfnddpnccmaa", sum := "1dfcb266d363510c69f39173decd18505953e3ae1f5c5b57a6fda9722dfeb38e", func := "loop.example/freshet/laws.FnTabOf", spec := "fnTabOf", inPlace := ["slices.overlaps[loop.example/freshet/impl.TabRow]"], unfollowed := true, recurses := true, apart := false }
def FnTabOfSaid : Prop := fnTabOfRow.holds Try.pinned (OpenSpec.ofChange fnTabOfSpec)

/-- ITS FALSE NEIGHBOUR: 'it returns false'. Refute it at one input. -/
def fnTabOfWrong : ChangeSpec := { name := "fnTabOf", fn := fun _ => fun
  | [d] => { results := [.lit (.bool false)], args := [d] }
  | _ => none }
def FnTabOfWrongFalsely : Prop := fnTabOfRow.holds Try.pinned (OpenSpec.ofChange fnTabOfWrong)

/-- 'laws.FnExactTabOf': WHATEVER THE INPUT: true; the input reads as it did. -/
def fnExactTabOfSpec : ChangeSpec := { name := "fnExactTabOf", fn := fun _ => fun
  | [d1, d2] => { results := [.lit (.bool true)], args := [d1, d2] }
  | _ => none }
def fnExactTabOfRow : OpenClaim := { program := "ytbkpfnddpnccmaa", sum := "1dfcb266d363510c69f39173decd18505953e3ae1f5c5b57a6fda9722dfeb38e", func := "loop.example/freshet/laws.FnExactTabOf", spec := "fnExactTabOf", inPlace := ["slices.overlaps[loop.example/freshet/impl.TabRow]"], unfollowed := true, recurses := true, apart := false }
def FnExactTabOfSaid : Prop := fnExactTabOfRow.holds Try.pinned (OpenSpec.ofChange fnExactTabOfSpec)

/-- ITS FALSE NEIGHBOUR: 'it returns false'. Refute it at one input. -/
def fnExactTabOfWrong : ChangeSpec := { name := "fnExactTabOf", fn := fun _ => fun
  | [d1, d2] => { results := [.lit (.bool false)], args := [d1, d2] }
  | _ => none }
def FnExactTabOfWrongFalsely : Prop := fnExactTabOfRow.holds Try.pinned (OpenSpec.ofChange fnExactTabOfWrong)

/-- 'laws.FnSpcSess': WHATEVER THE INPUT: true; the input reads as it did. -/
def fnSpcSessSpec : ChangeSpec := { name := "fnSpcSess", fn := fun _ => fun
  | [d] => { results := [.lit (.bool true)], args := [d] }
  | _ => none }
def fnSpcSessRow : OpenClaim := { program := "ytbkpfnddpnccmaa", sum := "1dfcb266d363510c69f39173decd18505953e3ae1f5c5b57a6fda9722dfeb38e", func := "loop.example/freshet/laws.FnSpcSess", spec := "fnSpcSess", inPlace := ["slices.overlaps[loop.example/freshet/impl.TabRow]"], unfollowed := true, recurses := true, apart := false }
def FnSpcSessSaid : Prop := fnSpcSessRow.holds Try.pinned (OpenSpec.ofChange fnSpcSessSpec)

/-- ITS FALSE NEIGHBOUR: 'it returns false'. Refute it at one input. -/
def fnSpcSessWrong : ChangeSpec := { name := "fnSpcSess", fn := fun _ => fun
  | [d] => { results := [.lit (.bool false)], args := [d] }
  | _ => none }
def FnSpcSessWrongFalsely : Prop := fnSpcSessRow.holds Try.pinned (OpenSpec.ofChange fnSpcSessWrong)

/-- 'laws.FnSpcMore': WHATEVER THE INPUT: true; the input reads as it did. -/
def fnSpcMoreSpec : ChangeSpec := { name := "fnSpcMore", fn := fun _ => fun
  | [d] => { results := [.lit (.bool true)], args := [d] }
  | _ => none }
def fnSpcMoreRow : OpenClaim := { program := "ytbkpfnddpnccmaa", sum := "1dfcb266d363510c69f39173decd18505953e3ae1f5c5b57a6fda9722dfeb38e", func := "loop.example/freshet/laws.FnSpcMore", spec := "fnSpcMore", inPlace := ["slices.overlaps[loop.example/freshet/impl.TabRow]"], unfollowed := true, recurses := true, apart := false }
def FnSpcMoreSaid : Prop := fnSpcMoreRow.holds Try.pinned (OpenSpec.ofChange fnSpcMoreSpec)

/-- ITS FALSE NEIGHBOUR: 'it returns false'. Refute it at one input. -/
def fnSpcMoreWrong : ChangeSpec := { name := "fnSpcMore", fn := fun _ => fun
  | [d] => { results := [.lit (.bool false)], args := [d] }
  | _ => none }
def FnSpcMoreWrongFalsely : Prop := fnSpcMoreRow.holds Try.pinned (OpenSpec.ofChange fnSpcMoreWrong)

/-- 'laws.FnSpcOrder': WHATEVER THE INPUT: true; the input reads as it did. -/
def fnSpcOrderSpec : ChangeSpec := { name := "fnSpcOrder", fn := fun _ => fun
  | [d] => { results := [.lit (.bool true)], args := [d] }
  | _ => none }
def fnSpcOrderRow : OpenClaim := { program := "ytbkpfnddpnccmaa", sum := "1dfcb266d363510c69f39173decd18505953e3ae1f5c5b57a6fda9722dfeb38e", func := "loop.example/freshet/laws.FnSpcOrder", spec := "fnSpcOrder", inPlace := ["slices.overlaps[loop.example/freshet/impl.TabRow]"], unfollowed := true, recurses := true, apart := false }
def FnSpcOrderSaid : Prop := fnSpcOrderRow.holds Try.pinned (OpenSpec.ofChange fnSpcOrderSpec)

/-- ITS FALSE NEIGHBOUR: 'it returns false'. Refute it at one input. -/
def fnSpcOrderWrong : ChangeSpec := { name := "fnSpcOrder", fn := fun _ => fun
  | [d] => { results := [.lit (.bool false)], args := [d] }
  | _ => none }
def FnSpcOrderWrongFalsely : Prop := fnSpcOrderRow.holds Try.pinned (OpenSpec.ofChange fnSpcOrderWrong)

/-- 'laws.FnSpcTable': WHATEVER THE INPUT: true; the input reads as it did. -/
def fnSpcTableSpec : ChangeSpec := { name := "fnSpcTable", fn := fun _ => fun
  | [d] => { results := [.lit (.bool true)], args := [d] }
  | _ => none }
def fnSpcTableRow : OpenClaim := { program := "ytbkpfnddpnccmaa", sum := "1dfcb266d363510c69f39173decd18505953e3ae1f5c5b57a6fda9722dfeb38e", func := "loop.example/freshet/laws.FnSpcTable", spec := "fnSpcTable", inPlace := ["slices.overlaps[loop.example/freshet/impl.TabRow]"], unfollowed := true, recurses := true, apart := false }
def FnSpcTableSaid : Prop := fnSpcTableRow.holds Try.pinned (OpenSpec.ofChange fnSpcTableSpec)

/-- ITS FALSE NEIGHBOUR: 'it returns false'. Refute it at one input. -/
def fnSpcTableWrong : ChangeSpec := { name := "fnSpcTable", fn := fun _ => fun
  | [d] => { results := [.lit (.bool false)], args := [d] }
  | _ => none }
def FnSpcTableWrongFalsely : Prop := fnSpcTableRow.holds Try.pinned (OpenSpec.ofChange fnSpcTableWrong)

/-- 'laws.FnExactSpcTable': WHATEVER THE INPUT: true; the input reads as it did. -/
def fnExactSpcTableSpec : ChangeSpec := { name := "fnExactSpcTable", fn := fun _ => fun
  | [d1, d2] => { results := [.lit (.bool true)], args := [d1, d2] }
  | _ => none }
def fnExactSpcTableRow : OpenClaim := { program := "ytbkpfnddpnccmaa", sum := "1dfcb266d363510c69f39173decd18505953e3ae1f5c5b57a6fda9722dfeb38e", func := "loop.example/freshet/laws.FnExactSpcTable", spec := "fnExactSpcTable", inPlace := ["slices.overlaps[loop.example/freshet/impl.TabRow]"], unfollowed := true, recurses := true, apart := false }
def FnExactSpcTableSaid : Prop := fnExactSpcTableRow.holds Try.pinned (OpenSpec.ofChange fnExactSpcTableSpec)

/-- ITS FALSE NEIGHBOUR: 'it returns false'. Refute it at one input. -/
def fnExactSpcTableWrong : ChangeSpec := { name := "fnExactSpcTable", fn := fun _ => fun
  | [d1, d2] => { results := [.lit (.bool false)], args := [d1, d2] }
  | _ => none }
def FnExactSpcTableWrongFalsely : Prop := fnExactSpcTableRow.holds Try.pinned (OpenSpec.ofChange fnExactSpcTableWrong)

/- THE SECOND FORM. 'bulk': how many values and letters a reading holds, each counted each time it is reached (what is shared counts as often as it is met; a slice's spare places count too). A statement '..UptoSaid' is the law's where the arguments, and the package variables that the reading takes, are together of bulk at most 1048576: NARROWER than '..Said'. Prove '..Said' where nothing that the law and all that it calls make is longer than what came in: it says more and counts as full. Else prove '..UptoSaid'. A law counts once. -/
mutual
def uptoBulk {H : Type} : DataW H → Nat
  | .lit (.string bytes) => bytes.length + 1
  | .lit _ => 1
  | .nil => 1
  | .ptr d => uptoBulk d + 1
  | .slice elems spare => uptoBulkAll elems + uptoBulkAll spare + 1
  | .agg parts => uptoBulkAll parts + 1
  | .iface _ d => uptoBulk d + 1
  | .map entries => uptoBulkEntries entries + 1
  | .held _ => 1
def uptoBulkAll {H : Type} : List (DataW H) → Nat
  | [] => 0
  | d :: r => uptoBulk d + uptoBulkAll r
def uptoBulkEntries {H : Type} : List (Lit × DataW H) → Nat
  | [] => 0
  | x :: r => uptoBulkEntry x + uptoBulkEntries r
def uptoBulkEntry {H : Type} : Lit × DataW H → Nat
  | (.string bytes, d) => bytes.length + uptoBulk d + 1
  | (_, d) => uptoBulk d + 1
 end
def uptoSmall : (H : Type) → List (DataW H) → Bool := fun _ ds => decide (uptoBulkAll ds ≤ 1048576)
def OpenSpec.upto (s : _root_.Go.ChangeSpec) : _root_.Go.OpenSpec := { _root_.Go.OpenSpec.ofChange s with cond := some uptoSmall }

/-- 'laws.FnExactOpFind', WHERE WHAT IT READS IS OF BULK AT MOST 1048576: true; the input reads as it did. -/
def fnExactOpFindUptoRow : OpenClaim := { program := "ytbkpfnddpnccmaa", sum := "1dfcb266d363510c69f39173decd18505953e3ae1f5c5b57a6fda9722dfeb38e", func := "loop.example/freshet/laws.FnExactOpFind", spec := "fnExactOpFind", unfollowed := true, recurses := true, apart := false, narrowed := true }
def FnExactOpFindUptoSaid : Prop := fnExactOpFindUptoRow.holds Try.pinned (OpenSpec.upto fnExactOpFindSpec)

/-- 'laws.FnSpcPairs', WHERE WHAT IT READS IS OF BULK AT MOST 1048576: true; the input reads as it did. -/
def fnSpcPairsUptoRow : OpenClaim := { program := "ytbkpfnddpnccmaa", sum := "1dfcb266d363510c69f39173decd18505953e3ae1f5c5b57a6fda9722dfeb38e", func := "loop.example/freshet/laws.FnSpcPairs", spec := "fnSpcPairs", unfollowed := true, recurses := true, apart := false, narrowed := true }
def FnSpcPairsUptoSaid : Prop := fnSpcPairsUptoRow.holds Try.pinned (OpenSpec.upto fnSpcPairsSpec)

/-- 'laws.FnExactSpcPairs', WHERE WHAT IT READS IS OF BULK AT MOST 1048576: true; the input reads as it did. -/
def fnExactSpcPairsUptoRow : OpenClaim := { program := "ytbkpfnddpnccmaa", sum := "1dfcb266d363510c69f39173decd18505953e3ae1f5c5b57a6fda9722dfeb38e", func := "loop.example/freshet/laws.FnExactSpcPairs", spec := "fnExactSpcPairs", unfollowed := true, recurses := true, apart := false, narrowed := true }
def FnExactSpcPairsUptoSaid : Prop := fnExactSpcPairsUptoRow.holds Try.pinned (OpenSpec.upto fnExactSpcPairsSpec)

/-- 'laws.FnExactTabPut', WHERE WHAT IT READS IS OF BULK AT MOST 1048576: true; the input reads as it did. -/
def fnExactTabPutUptoRow : OpenClaim := { program := "ytbkpfnddpnccmaa", sum := "1dfcb266d363510c69f39173decd18505953e3ae1f5c5b57a6fda9722dfeb38e", func := "loop.example/freshet/laws.FnExactTabPut", spec := "fnExactTabPut", inPlace := ["slices.overlaps[loop.example/freshet/impl.TabRow]"], unfollowed := true, recurses := true, apart := false, narrowed := true }
def FnExactTabPutUptoSaid : Prop := fnExactTabPutUptoRow.holds Try.pinned (OpenSpec.upto fnExactTabPutSpec)

/-- 'laws.FnTabPut', WHERE WHAT IT READS IS OF BULK AT MOST 1048576: true; the input reads as it did. -/
def fnTabPutUptoRow : OpenClaim := { program := "ytbkpfnddpnccmaa", sum := "1dfcb266d363510c69f39173decd18505953e3ae1f5c5b57a6fda9722dfeb38e", func := "loop.example/freshet/laws.FnTabPut", spec := "fnTabPut", inPlace := ["slices.overlaps[loop.example/freshet/impl.TabRow]"], unfollowed := true, recurses := true, apart := false, narrowed := true }
def FnTabPutUptoSaid : Prop := fnTabPutUptoRow.holds Try.pinned (OpenSpec.upto fnTabPutSpec)

/-- 'laws.FnTabOf', WHERE WHAT IT READS IS OF BULK AT MOST 1048576: true; the input reads as it did. -/
def fnTabOfUptoRow : OpenClaim := { program := "ytbkpfnddpnccmaa", sum := "1dfcb266d363510c69f39173decd18505953e3ae1f5c5b57a6fda9722dfeb38e", func := "loop.example/freshet/laws.FnTabOf", spec := "fnTabOf", inPlace := ["slices.overlaps[loop.example/freshet/impl.TabRow]"], unfollowed := true, recurses := true, apart := false, narrowed := true }
def FnTabOfUptoSaid : Prop := fnTabOfUptoRow.holds Try.pinned (OpenSpec.upto fnTabOfSpec)

/-- 'laws.FnExactTabOf', WHERE WHAT IT READS IS OF BULK AT MOST 1048576: true; the input reads as it did. -/
def fnExactTabOfUptoRow : OpenClaim := { program := "ytbkpfnddpnccmaa", sum := "1dfcb266d363510c69f39173decd18505953e3ae1f5c5b57a6fda9722dfeb38e", func := "loop.example/freshet/laws.FnExactTabOf", spec := "fnExactTabOf", inPlace := ["slices.overlaps[loop.example/freshet/impl.TabRow]"], unfollowed := true, recurses := true, apart := false, narrowed := true }
def FnExactTabOfUptoSaid : Prop := fnExactTabOfUptoRow.holds Try.pinned (OpenSpec.upto fnExactTabOfSpec)

/-- 'laws.FnSpcSess', WHERE WHAT IT READS IS OF BULK AT MOST 1048576: true; the input reads as it did. -/
def fnSpcSessUptoRow : OpenClaim := { program := "ytbkpfnddpnccmaa", sum := "1dfcb266d363510c69f39173decd18505953e3ae1f5c5b57a6fda9722dfeb38e", func := "loop.example/freshet/laws.FnSpcSess", spec := "fnSpcSess", inPlace := ["slices.overlaps[loop.example/freshet/impl.TabRow]"], unfollowed := true, recurses := true, apart := false, narrowed := true }
def FnSpcSessUptoSaid : Prop := fnSpcSessUptoRow.holds Try.pinned (OpenSpec.upto fnSpcSessSpec)

/-- 'laws.FnSpcMore', WHERE WHAT IT READS IS OF BULK AT MOST 1048576: true; the input reads as it did. -/
def fnSpcMoreUptoRow : OpenClaim := { program := "ytbkpfnddpnccmaa", sum := "1dfcb266d363510c69f39173decd18505953e3ae1f5c5b57a6fda9722dfeb38e", func := "loop.example/freshet/laws.FnSpcMore", spec := "fnSpcMore", inPlace := ["slices.overlaps[loop.example/freshet/impl.TabRow]"], unfollowed := true, recurses := true, apart := false, narrowed := true }
def FnSpcMoreUptoSaid : Prop := fnSpcMoreUptoRow.holds Try.pinned (OpenSpec.upto fnSpcMoreSpec)

/-- 'laws.FnSpcOrder', WHERE WHAT IT READS IS OF BULK AT MOST 1048576: true; the input reads as it did. -/
def fnSpcOrderUptoRow : OpenClaim := { program := "ytbkpfnddpnccmaa", sum := "1dfcb266d363510c69f39173decd18505953e3ae1f5c5b57a6fda9722dfeb38e", func := "loop.example/freshet/laws.FnSpcOrder", spec := "fnSpcOrder", inPlace := ["slices.overlaps[loop.example/freshet/impl.TabRow]"], unfollowed := true, recurses := true, apart := false, narrowed := true }
def FnSpcOrderUptoSaid : Prop := fnSpcOrderUptoRow.holds Try.pinned (OpenSpec.upto fnSpcOrderSpec)

/-- 'laws.FnSpcTable', WHERE WHAT IT READS IS OF BULK AT MOST 1048576: true; the input reads as it did. -/
def fnSpcTableUptoRow : OpenClaim := { program := "ytbkpfnddpnccmaa", sum := "1dfcb266d363510c69f39173decd18505953e3ae1f5c5b57a6fda9722dfeb38e", func := "loop.example/freshet/laws.FnSpcTable", spec := "fnSpcTable", inPlace := ["slices.overlaps[loop.example/freshet/impl.TabRow]"], unfollowed := true, recurses := true, apart := false, narrowed := true }
def FnSpcTableUptoSaid : Prop := fnSpcTableUptoRow.holds Try.pinned (OpenSpec.upto fnSpcTableSpec)

/-- 'laws.FnExactSpcTable', WHERE WHAT IT READS IS OF BULK AT MOST 1048576: true; the input reads as it did. -/
def fnExactSpcTableUptoRow : OpenClaim := { program := "ytbkpfnddpnccmaa", sum := "1dfcb266d363510c69f39173decd18505953e3ae1f5c5b57a6fda9722dfeb38e", func := "loop.example/freshet/laws.FnExactSpcTable", spec := "fnExactSpcTable", inPlace := ["slices.overlaps[loop.example/freshet/impl.TabRow]"], unfollowed := true, recurses := true, apart := false, narrowed := true }
def FnExactSpcTableUptoSaid : Prop := fnExactSpcTableUptoRow.holds Try.pinned (OpenSpec.upto fnExactSpcTableSpec)

end Rows
end Go.Proofs.Ytbkpfnddpnccmaa
