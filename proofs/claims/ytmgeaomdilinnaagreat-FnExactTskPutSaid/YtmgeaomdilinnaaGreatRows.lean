/-
  No cell of these rows narrows 'for every input' (looked for: loops, veiled, ifaces, maps, wideKeys, modest, calm, conditions, laid).
  DERIVED. THE GIVEN ROWS OF THIS SEAT. 4 by the template 'for every input the law returns true; each argument reads behind the call as it read before'; 0 by the template 'total and deterministic' (their statements: YtmgeaomdilinnaaGreatTotals.lean).
  GIVEN WITH THE SEED: the statements are not yours to turn. If you find one false, say at which input.
  Laid BY PROGRAM, IN A SANDBOX (cutbox-rows.mjs): the forced cells as the released guide's own fill.sh prints them over the translation 77734e654b6ee6b9… (all of the seat's roots in one cut). By AI agents, Wed Nov 11 2026. No macro, syntax, notation, axiom, sorry.
-/
import Derived.Test.YtmgeaomdilinnaaGreatChecked
import GoSem.Claim
import GoSem.ClaimJoined
import GoSem.ClaimMapViews
import Derived.JoinedTies
import Derived.KernelRfl
namespace Go.Proofs.YtmgeaomdilinnaaGreat
/- THE CELL 'sum', in the pinned program and in every row, IS THE sha256 OF THE DUMP (.gsa) THAT YtmgeaomdilinnaaGreatProg.lean LOADS. Nothing in Lean hashes anything: it is a label: what it is worth is what the hold of that sum in a sandbox is worth. -/
noncomputable def Tryz.pinned : Pinned := { name := "ytmgeaomdilinnaagreat", sum := "77734e654b6ee6b96a1c0ba3f2cf8e95df38f4685cdefd99b1bdedfb8eeac8e8", checked := Tryz.checked }
namespace Rows
def none {H : Type} : Left H := { results := [], args := [] }

/-- 'laws.FnExactTskPut': WHATEVER THE INPUT: true; the input reads as it did. -/
def fnExactTskPutSpec : ChangeSpec := { name := "fnExactTskPut", fn := fun _ => fun
  | [d1, d2, d3, d4] => { results := [.lit (.bool true)], args := [d1, d2, d3, d4] }
  | _ => none }
def fnExactTskPutRow : OpenClaim := { program := "ytmgeaomdilinnaagreat", sum := "77734e654b6ee6b96a1c0ba3f2cf8e95df38f4685cdefd99b1bdedfb8eeac8e8", func := "loop.example/freshet/laws.FnExactTskPut", spec := "fnExactTskPut", unfollowed := true, recurses := true, apart := false }
def FnExactTskPutSaid : Prop := fnExactTskPutRow.holds Tryz.pinned (OpenSpec.ofChange fnExactTskPutSpec)

/-- ITS FALSE NEIGHBOUR: 'it returns false'. Refute it at one input. -/
def fnExactTskPutWrong : ChangeSpec := { name := "fnExactTskPut", fn := fun _ => fun
  | [d1, d2, d3, d4] => { results := [.lit (.bool false)], args := [d1, d2, d3, d4] }
  | _ => none }
def FnExactTskPutWrongFalsely : Prop := fnExactTskPutRow.holds Tryz.pinned (OpenSpec.ofChange fnExactTskPutWrong)

/-- 'laws.FnExactCkpAsk': WHATEVER THE INPUT: true; the input reads as it did. -/
def fnExactCkpAskSpec : ChangeSpec := { name := "fnExactCkpAsk", fn := fun _ => fun
  | [d1, d2] => { results := [.lit (.bool true)], args := [d1, d2] }
  | _ => none }
def fnExactCkpAskRow : OpenClaim := { program := "ytmgeaomdilinnaagreat", sum := "77734e654b6ee6b96a1c0ba3f2cf8e95df38f4685cdefd99b1bdedfb8eeac8e8", func := "loop.example/freshet/laws.FnExactCkpAsk", spec := "fnExactCkpAsk", unfollowed := true, recurses := true, apart := false }
def FnExactCkpAskSaid : Prop := fnExactCkpAskRow.holds Tryz.pinned (OpenSpec.ofChange fnExactCkpAskSpec)

/-- ITS FALSE NEIGHBOUR: 'it returns false'. Refute it at one input. -/
def fnExactCkpAskWrong : ChangeSpec := { name := "fnExactCkpAsk", fn := fun _ => fun
  | [d1, d2] => { results := [.lit (.bool false)], args := [d1, d2] }
  | _ => none }
def FnExactCkpAskWrongFalsely : Prop := fnExactCkpAskRow.holds Tryz.pinned (OpenSpec.ofChange fnExactCkpAskWrong)

/-- 'laws.FnExactCkpDrop': WHATEVER THE INPUT: true; the input reads as it did. -/
def fnExactCkpDropSpec : ChangeSpec := { name := "fnExactCkpDrop", fn := fun _ => fun
  | [d1, d2] => { results := [.lit (.bool true)], args := [d1, d2] }
  | _ => none }
def fnExactCkpDropRow : OpenClaim := { program := "ytmgeaomdilinnaagreat", sum := "77734e654b6ee6b96a1c0ba3f2cf8e95df38f4685cdefd99b1bdedfb8eeac8e8", func := "loop.example/freshet/laws.FnExactCkpDrop", spec := "fnExactCkpDrop", unfollowed := true, recurses := true, apart := false }
def FnExactCkpDropSaid : Prop := fnExactCkpDropRow.holds Tryz.pinned (OpenSpec.ofChange fnExactCkpDropSpec)

/-- ITS FALSE NEIGHBOUR: 'it returns false'. Refute it at one input. -/
def fnExactCkpDropWrong : ChangeSpec := { name := "fnExactCkpDrop", fn := fun _ => fun
  | [d1, d2] => { results := [.lit (.bool false)], args := [d1, d2] }
  | _ => none }
def FnExactCkpDropWrongFalsely : Prop := fnExactCkpDropRow.holds Tryz.pinned (OpenSpec.ofChange fnExactCkpDropWrong)

/-- 'laws.FnExactCkpSave': WHATEVER THE INPUT: true; the input reads as it did. -/
def fnExactCkpSaveSpec : ChangeSpec := { name := "fnExactCkpSave", fn := fun _ => fun
  | [d1, d2] => { results := [.lit (.bool true)], args := [d1, d2] }
  | _ => none }
def fnExactCkpSaveRow : OpenClaim := { program := "ytmgeaomdilinnaagreat", sum := "77734e654b6ee6b96a1c0ba3f2cf8e95df38f4685cdefd99b1bdedfb8eeac8e8", func := "loop.example/freshet/laws.FnExactCkpSave", spec := "fnExactCkpSave", unfollowed := true, recurses := true, apart := false }
def FnExactCkpSaveSaid : Prop := fnExactCkpSaveRow.holds Tryz.pinned (OpenSpec.ofChange fnExactCkpSaveSpec)

/-- ITS FALSE NEIGHBOUR: 'it returns false'. Refute it at one input. -/
def fnExactCkpSaveWrong : ChangeSpec := { name := "fnExactCkpSave", fn := fun _ => fun
  | [d1, d2] => { results := [.lit (.bool false)], args := [d1, d2] }
  | _ => none }
def FnExactCkpSaveWrongFalsely : Prop := fnExactCkpSaveRow.holds Tryz.pinned (OpenSpec.ofChange fnExactCkpSaveWrong)

/- THE SECOND FORM. 'bulk': how many values and letters a reading holds, each counted each time it is reached (what is shared counts as often as it is met; a slice's spare places count too). A statement '..UptoSaid' is the law's where the arguments, and the package variables that the reading takes, are together of bulk at most 1048576: NARROWER than '..Said'. Prove '..Said' where nothing that the law and all that it calls make is longer than what came in: it says more and counts as full. Else prove '..UptoSaid'. A law counts once. -/
mutual
def uptoBulk {H : Type} : DataW H → Nat
  | .lit (.string bytes) => bytes.length + 1
  | .lit _ => 1
  | .nil => 1
  | .ptr d => uptoBulk d + 1
  | .slice elems spare => uptoBulkAll elems + uptoBulkAll spare + 1
  | .agg parts => uptoBulkAll parts + 1
  | .iface _ d => uptoBulk d + 1
  | .map entries => uptoBulkEntries entries + 1
  | .held _ => 1
def uptoBulkAll {H : Type} : List (DataW H) → Nat
  | [] => 0
  | d :: r => uptoBulk d + uptoBulkAll r
def uptoBulkEntries {H : Type} : List (Lit × DataW H) → Nat
  | [] => 0
  | x :: r => uptoBulkEntry x + uptoBulkEntries r
def uptoBulkEntry {H : Type} : Lit × DataW H → Nat
  | (.string bytes, d) => bytes.length + uptoBulk d + 1
  | (_, d) => uptoBulk d + 1
 end
def uptoSmall : (H : Type) → List (DataW H) → Bool := fun _ ds => decide (uptoBulkAll ds ≤ 1048576)
def OpenSpec.upto (s : _root_.Go.ChangeSpec) : _root_.Go.OpenSpec := { _root_.Go.OpenSpec.ofChange s with cond := some uptoSmall }

/-- 'laws.FnExactTskPut', WHERE WHAT IT READS IS OF BULK AT MOST 1048576: true; the input reads as it did. -/
def fnExactTskPutUptoRow : OpenClaim := { program := "ytmgeaomdilinnaagreat", sum := "77734e654b6ee6b96a1c0ba3f2cf8e95df38f4685cdefd99b1bdedfb8eeac8e8", func := "loop.example/freshet/laws.FnExactTskPut", spec := "fnExactTskPut", unfollowed := true, recurses := true, apart := false, narrowed := true }
def FnExactTskPutUptoSaid : Prop := fnExactTskPutUptoRow.holds Tryz.pinned (OpenSpec.upto fnExactTskPutSpec)

/-- 'laws.FnExactCkpAsk', WHERE WHAT IT READS IS OF BULK AT MOST 1048576: true; the input reads as it did. -/
def fnExactCkpAskUptoRow : OpenClaim := { program := "ytmgeaomdilinnaagreat", sum := "77734e654b6ee6b96a1c0ba3f2cf8e95df38f4685cdefd99b1bdedfb8eeac8e8", func := "loop.example/freshet/laws.FnExactCkpAsk", spec := "fnExactCkpAsk", unfollowed := true, recurses := true, apart := false, narrowed := true }
def FnExactCkpAskUptoSaid : Prop := fnExactCkpAskUptoRow.holds Tryz.pinned (OpenSpec.upto fnExactCkpAskSpec)

/-- 'laws.FnExactCkpDrop', WHERE WHAT IT READS IS OF BULK AT MOST 1048576: true; the input reads as it did. -/
def fnExactCkpDropUptoRow : OpenClaim := { program := "ytmgeaomdilinnaagreat", sum := "77734e654b6ee6b96a1c0ba3f2cf8e95df38f4685cdefd99b1bdedfb8eeac8e8", func := "loop.example/freshet/laws.FnExactCkpDrop", spec := "fnExactCkpDrop", unfollowed := true, recurses := true, apart := false, narrowed := true }
def FnExactCkpDropUptoSaid : Prop := fnExactCkpDropUptoRow.holds Tryz.pinned (OpenSpec.upto fnExactCkpDropSpec)

/-- 'laws.FnExactCkpSave', WHERE WHAT IT READS IS OF BULK AT MOST 1048576: true; the input reads as it did. -/
def fnExactCkpSaveUptoRow : OpenClaim := { program := "ytmgeaomdilinnaagreat", sum := "77734e654b6ee6b96a1c0ba3f2cf8e95df38f4685cdefd99b1bdedfb8eeac8e8", func := "loop.example/freshet/laws.FnExactCkpSave", spec := "fnExactCkpSave", unfollowed := true, recurses := true, apart := false, narrowed := true }
def FnExactCkpSaveUptoSaid : Prop := fnExactCkpSaveUptoRow.holds Tryz.pinned (OpenSpec.upto fnExactCkpSaveSpec)

end Rows
end Go.Proofs.YtmgeaomdilinnaaGreat
