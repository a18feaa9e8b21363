/-
  No cell of these rows narrows 'for every input' (looked for: loops, veiled, ifaces, maps, wideKeys, modest, calm, conditions, laid).
  DERIVED. THE GIVEN ROWS OF THIS SEAT. 4 by the template 'for every input the law returns true; each argument reads behind the call as it read before'; 0 by the template 'total and deterministic' (their statements: YtppekklalfebkaaTotals.lean).
  GIVEN WITH THE SEED: the statements are not yours to turn. If you find one false, say at which input.
  Laid BY PROGRAM, IN A SANDBOX (cutbox-rows.mjs): the forced cells as the released guide's own fill.sh prints them over the translation 2834ed9d68d11404… (all of the seat's roots in one cut). By AI agents, Wed Nov 11 2026. No macro, syntax, notation, axiom, sorry.
-/
import Derived.Test.YtppekklalfebkaaChecked
import GoSem.Claim
import GoSem.ClaimJoined
import GoSem.ClaimMapViews
import Derived.JoinedTies
import Derived.KernelRfl
namespace Go.Proofs.Ytppekklalfebkaa
/- THE CELL 'sum', in the pinned program and in every row, IS THE sha256 OF THE DUMP (.gsa) THAT YtppekklalfebkaaProg.lean LOADS. Nothing in Lean hashes anything: it is a label: what it is worth is what the hold of that sum in a sandbox is worth. -/
noncomputable def Try.pinned : Pinned := { name := "ytppekklalfebkaa", sum := "2834ed9d68d114048b2977c212b60de5e8ffbfe9b3f2b5c4a046711d2744e168", checked := Try.checked }
namespace Rows
def none {H : Type} : Left H := { results := [], args := [] }

/-- 'laws.FnCkpNew': WHATEVER THE INPUT: true; the input reads as it did. -/
def fnCkpNewSpec : ChangeSpec := { name := "fnCkpNew", fn := fun _ => fun
  | [d] => { results := [.lit (.bool true)], args := [d] }
  | _ => none }
def fnCkpNewRow : OpenClaim := { program := "ytppekklalfebkaa", sum := "2834ed9d68d114048b2977c212b60de5e8ffbfe9b3f2b5c4a046711d2744e168", func := "loop.example/freshet/laws.FnCkpNew", spec := "fnCkpNew", unfollowed := true, recurses := true, apart := false }
def FnCkpNewSaid : Prop := fnCkpNewRow.holds Try.pinned (OpenSpec.ofChange fnCkpNewSpec)

/-- ITS FALSE NEIGHBOUR: 'it returns false'. Refute it at one input. -/
def fnCkpNewWrong : ChangeSpec := { name := "fnCkpNew", fn := fun _ => fun
  | [d] => { results := [.lit (.bool false)], args := [d] }
  | _ => none }
def FnCkpNewWrongFalsely : Prop := fnCkpNewRow.holds Try.pinned (OpenSpec.ofChange fnCkpNewWrong)

/-- 'laws.FnExactCkpNew': WHATEVER THE INPUT: true; the input reads as it did. -/
def fnExactCkpNewSpec : ChangeSpec := { name := "fnExactCkpNew", fn := fun _ => fun
  | [d] => { results := [.lit (.bool true)], args := [d] }
  | _ => none }
def fnExactCkpNewRow : OpenClaim := { program := "ytppekklalfebkaa", sum := "2834ed9d68d114048b2977c212b60de5e8ffbfe9b3f2b5c4a046711d2744e168", func := "loop.example/freshet/laws.FnExactCkpNew", spec := "fnExactCkpNew", apart := false }
def FnExactCkpNewSaid : Prop := fnExactCkpNewRow.holds Try.pinned (OpenSpec.ofChange fnExactCkpNewSpec)

/-- ITS FALSE NEIGHBOUR: 'it returns false'. Refute it at one input. -/
def fnExactCkpNewWrong : ChangeSpec := { name := "fnExactCkpNew", fn := fun _ => fun
  | [d] => { results := [.lit (.bool false)], args := [d] }
  | _ => none }
def FnExactCkpNewWrongFalsely : Prop := fnExactCkpNewRow.holds Try.pinned (OpenSpec.ofChange fnExactCkpNewWrong)

/-- 'laws.FnExactCkpOk': WHATEVER THE INPUT: true; the input reads as it did. -/
def fnExactCkpOkSpec : ChangeSpec := { name := "fnExactCkpOk", fn := fun _ => fun
  | [d1, d2] => { results := [.lit (.bool true)], args := [d1, d2] }
  | _ => none }
def fnExactCkpOkRow : OpenClaim := { program := "ytppekklalfebkaa", sum := "2834ed9d68d114048b2977c212b60de5e8ffbfe9b3f2b5c4a046711d2744e168", func := "loop.example/freshet/laws.FnExactCkpOk", spec := "fnExactCkpOk", unfollowed := true, recurses := true, apart := false }
def FnExactCkpOkSaid : Prop := fnExactCkpOkRow.holds Try.pinned (OpenSpec.ofChange fnExactCkpOkSpec)

/-- ITS FALSE NEIGHBOUR: 'it returns false'. Refute it at one input. -/
def fnExactCkpOkWrong : ChangeSpec := { name := "fnExactCkpOk", fn := fun _ => fun
  | [d1, d2] => { results := [.lit (.bool false)], args := [d1, d2] }
  | _ => none }
def FnExactCkpOkWrongFalsely : Prop := fnExactCkpOkRow.holds Try.pinned (OpenSpec.ofChange fnExactCkpOkWrong)

/-- 'laws.FnExactCkpReady': WHATEVER THE INPUT: true; the input reads as it did. -/
def fnExactCkpReadySpec : ChangeSpec := { name := "fnExactCkpReady", fn := fun _ => fun
  | [d1, d2] => { results := [.lit (.bool true)], args := [d1, d2] }
  | _ => none }
def fnExactCkpReadyRow : OpenClaim := { program := "ytppekklalfebkaa", sum := "2834ed9d68d114048b2977c212b60de5e8ffbfe9b3f2b5c4a046711d2744e168", func := "loop.example/freshet/laws.FnExactCkpReady", spec := "fnExactCkpReady", unfollowed := true, recurses := true, apart := false }
def FnExactCkpReadySaid : Prop := fnExactCkpReadyRow.holds Try.pinned (OpenSpec.ofChange fnExactCkpReadySpec)

/-- ITS FALSE NEIGHBOUR: 'it returns false'. Refute it at one input. -/
def fnExactCkpReadyWrong : ChangeSpec := { name := "fnExactCkpReady", fn := fun _ => fun
  | [d1, d2] => { results := [.lit (.bool false)], args := [d1, d2] }
  | _ => none }
def FnExactCkpReadyWrongFalsely : Prop := fnExactCkpReadyRow.holds Try.pinned (OpenSpec.ofChange fnExactCkpReadyWrong)

/- THE SECOND FORM. 'bulk': how many values and letters a reading holds, each counted each time it is reached (what is shared counts as often as it is met; a slice's spare places count too). A statement '..UptoSaid' is the law's where the arguments, and the package variables that the reading takes, are together of bulk at most 1048576: NARROWER than '..Said'. Prove '..Said' where nothing that the law and all that it calls make is longer than what came in: it says more and counts as full. Else prove '..UptoSaid'. A law counts once. -/
mutual
def uptoBulk {H : Type} : DataW H → Nat
  | .lit (.string bytes) => bytes.length + 1
  | .lit _ => 1
  | .nil => 1
  | .ptr d => uptoBulk d + 1
  | .slice elems spare => uptoBulkAll elems + uptoBulkAll spare + 1
  | .agg parts => uptoBulkAll parts + 1
  | .iface _ d => uptoBulk d + 1
  | .map entries => uptoBulkEntries entries + 1
  | .held _ => 1
def uptoBulkAll {H : Type} : List (DataW H) → Nat
  | [] => 0
  | d :: r => uptoBulk d + uptoBulkAll r
def uptoBulkEntries {H : Type} : List (Lit × DataW H) → Nat
  | [] => 0
  | x :: r => uptoBulkEntry x + uptoBulkEntries r
def uptoBulkEntry {H : Type} : Lit × DataW H → Nat
  | (.string bytes, d) => bytes.length + uptoBulk d + 1
  | (_, d) => uptoBulk d + 1
 end
def uptoSmall : (H : Type) → List (DataW H) → Bool := fun _ ds => decide (uptoBulkAll ds ≤ 1048576)
def OpenSpec.upto (s : _root_.Go.ChangeSpec) : _root_.Go.OpenSpec := { _root_.Go.OpenSpec.ofChange s with cond := some uptoSmall }

/-- 'laws.FnCkpNew', WHERE WHAT IT READS IS OF BULK AT MOST 1048576: true; the input reads as it did. -/
def fnCkpNewUptoRow : OpenClaim := { program := "ytppekklalfebkaa", sum := "2834ed9d68d114048b2977c212b60de5e8ffbfe9b3f2b5c4a046711d2744e168", func := "loop.example/freshet/laws.FnCkpNew", spec := "fnCkpNew", unfollowed := true, recurses := true, apart := false, narrowed := true }
def FnCkpNewUptoSaid : Prop := fnCkpNewUptoRow.holds Try.pinned (OpenSpec.upto fnCkpNewSpec)

/-- 'laws.FnExactCkpNew', WHERE WHAT IT READS IS OF BULK AT MOST 1048576: true; the input reads as it did. -/
def fnExactCkpNewUptoRow : OpenClaim := { program := "ytppekklalfebkaa", sum := "2834ed9d68d114048b2977c212b60de5e8ffbfe9b3f2b5c4a046711d2744e168", func := "loop.example/freshet/laws.FnExactCkpNew", spec := "fnExactCkpNew", apart := false, narrowed := true }
def FnExactCkpNewUptoSaid : Prop := fnExactCkpNewUptoRow.holds Try.pinned (OpenSpec.upto fnExactCkpNewSpec)

/-- 'laws.FnExactCkpOk', WHERE WHAT IT READS IS OF BULK AT MOST 1048576: true; the input reads as it did. -/
def fnExactCkpOkUptoRow : OpenClaim := { program := "ytppekklalfebkaa", sum := "2834ed9d68d114048b2977c212b60de5e8ffbfe9b3f2b5c4a046711d2744e168", func := "loop.example/freshet/laws.FnExactCkpOk", spec := "fnExactCkpOk", unfollowed := true, recurses := true, apart := false, narrowed := true }
def FnExactCkpOkUptoSaid : Prop := fnExactCkpOkUptoRow.holds Try.pinned (OpenSpec.upto fnExactCkpOkSpec)

/-- 'laws.FnExactCkpReady', WHERE WHAT IT READS IS OF BULK AT MOST 1048576: true; the input reads as it did. -/
def fnExactCkpReadyUptoRow : OpenClaim := { program := "ytppekklalfebkaa", sum := "2834ed9d68d114048b2977c212b60de5e8ffbfe9b3f2b5c4a046711d2744e168", func := "loop.example/freshet/laws.FnExactCkpReady", spec := "fnExactCkpReady", unfollowed := true, recurses := true, apart := false, narrowed := true }
def FnExactCkpReadyUptoSaid : Prop := fnExactCkpReadyUptoRow.holds Try.pinned (OpenSpec.upto fnExactCkpReadySpec)

end Rows
end Go.Proofs.Ytppekklalfebkaa
