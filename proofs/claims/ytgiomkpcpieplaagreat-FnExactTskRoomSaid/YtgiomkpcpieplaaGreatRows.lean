/-
  No cell of these rows narrows 'for every input' (looked for: loops, veiled, ifaces, maps, wideKeys, modest, calm, conditions, laid).
  DERIVED. THE GIVEN ROWS OF THIS SEAT. 3 by the template 'for every input the law returns true; each argument reads behind the call as it read before'; 0 by the template 'total and deterministic' (their statements: YtgiomkpcpieplaaGreatTotals.lean).
  GIVEN WITH THE SEED: the statements are not yours to turn. If you find one false, say at which input.
  Laid BY PROGRAM, IN A SANDBOX (cutbox-rows.mjs): the forced cells as the released guide's own fill.sh prints them over the translation 596707276da1b6a8… (all of the seat's roots in one cut). By AI agents, Wed Nov 11 2026. No macro, syntax, notation, axiom, sorry.
-/
import Derived.Test.YtgiomkpcpieplaaGreatChecked
import GoSem.Claim
import GoSem.ClaimJoined
import GoSem.ClaimMapViews
import Derived.JoinedTies
import Derived.KernelRfl
namespace Go.Proofs.YtgiomkpcpieplaaGreat
/- THE CELL 'sum', in the pinned program and in every row, IS THE sha256 OF THE DUMP (.gsa) THAT YtgiomkpcpieplaaGreatProg.lean LOADS. Nothing in Lean hashes anything: it is a label: what it is worth is what the hold of that sum in a sandbox is worth. -/
noncomputable def Tryz.pinned : Pinned := { name := "ytgiomkpcpieplaagreat", sum := "596707276da1b6a8b0091b8cbfe80fe89a39c6bd1a09392f8ba2312a86f9f4f1", checked := Tryz.checked }
namespace Rows
def none {H : Type} : Left H := { results := [], args := [] }

/-- 'laws.FnExactTskOk': WHATEVER THE INPUT: true; the input reads as it did. -/
def fnExactTskOkSpec : ChangeSpec := { name := "fnExactTskOk", fn := fun _ => fun
  | [d1, d2] => { results := [.lit (.bool true)], args := [d1, d2] }
  | _ => none }
def fnExactTskOkRow : OpenClaim := { program := "ytgiomkpcpieplaagreat", sum := "596707276da1b6a8b0091b8cbfe80fe89a39c6bd1a09392f8ba2312a86f9f4f1", func := "loop.example/freshet/laws.FnExactTskOk", spec := "fnExactTskOk", unfollowed := true, recurses := true, apart := false }
def FnExactTskOkSaid : Prop := fnExactTskOkRow.holds Tryz.pinned (OpenSpec.ofChange fnExactTskOkSpec)

/-- ITS FALSE NEIGHBOUR: 'it returns false'. Refute it at one input. -/
def fnExactTskOkWrong : ChangeSpec := { name := "fnExactTskOk", fn := fun _ => fun
  | [d1, d2] => { results := [.lit (.bool false)], args := [d1, d2] }
  | _ => none }
def FnExactTskOkWrongFalsely : Prop := fnExactTskOkRow.holds Tryz.pinned (OpenSpec.ofChange fnExactTskOkWrong)

/-- 'laws.FnExactTskRoom': WHATEVER THE INPUT: true; the input reads as it did. -/
def fnExactTskRoomSpec : ChangeSpec := { name := "fnExactTskRoom", fn := fun _ => fun
  | [d1, d2, d3] => { results := [.lit (.bool true)], args := [d1, d2, d3] }
  | _ => none }
def fnExactTskRoomRow : OpenClaim := { program := "ytgiomkpcpieplaagreat", sum := "596707276da1b6a8b0091b8cbfe80fe89a39c6bd1a09392f8ba2312a86f9f4f1", func := "loop.example/freshet/laws.FnExactTskRoom", spec := "fnExactTskRoom", unfollowed := true, recurses := true, apart := false }
def FnExactTskRoomSaid : Prop := fnExactTskRoomRow.holds Tryz.pinned (OpenSpec.ofChange fnExactTskRoomSpec)

/-- ITS FALSE NEIGHBOUR: 'it returns false'. Refute it at one input. -/
def fnExactTskRoomWrong : ChangeSpec := { name := "fnExactTskRoom", fn := fun _ => fun
  | [d1, d2, d3] => { results := [.lit (.bool false)], args := [d1, d2, d3] }
  | _ => none }
def FnExactTskRoomWrongFalsely : Prop := fnExactTskRoomRow.holds Tryz.pinned (OpenSpec.ofChange fnExactTskRoomWrong)

/-- 'laws.FnExactTskPut': WHATEVER THE INPUT: true; the input reads as it did. -/
def fnExactTskPutSpec : ChangeSpec := { name := "fnExactTskPut", fn := fun _ => fun
  | [d1, d2, d3, d4] => { results := [.lit (.bool true)], args := [d1, d2, d3, d4] }
  | _ => none }
def fnExactTskPutRow : OpenClaim := { program := "ytgiomkpcpieplaagreat", sum := "596707276da1b6a8b0091b8cbfe80fe89a39c6bd1a09392f8ba2312a86f9f4f1", func := "loop.example/freshet/laws.FnExactTskPut", spec := "fnExactTskPut", unfollowed := true, recurses := true, apart := false }
def FnExactTskPutSaid : Prop := fnExactTskPutRow.holds Tryz.pinned (OpenSpec.ofChange fnExactTskPutSpec)

/-- ITS FALSE NEIGHBOUR: 'it returns false'. Refute it at one input. -/
def fnExactTskPutWrong : ChangeSpec := { name := "fnExactTskPut", fn := fun _ => fun
  | [d1, d2, d3, d4] => { results := [.lit (.bool false)], args := [d1, d2, d3, d4] }
  | _ => none }
def FnExactTskPutWrongFalsely : Prop := fnExactTskPutRow.holds Tryz.pinned (OpenSpec.ofChange fnExactTskPutWrong)

/- THE SECOND FORM. 'bulk': how many values and letters a reading holds, each counted each time it is reached (what is shared counts as often as it is met; a slice's spare places count too). A statement '..UptoSaid' is the law's where the arguments, and the package variables that the reading takes, are together of bulk at most 1048576: NARROWER than '..Said'. Prove '..Said' where nothing that the law and all that it calls make is longer than what came in: it says more and counts as full. Else prove '..UptoSaid'. A law counts once. -/
mutual
def uptoBulk {H : Type} : DataW H → Nat
  | .lit (.string bytes) => bytes.length + 1
  | .lit _ => 1
  | .nil => 1
  | .ptr d => uptoBulk d + 1
  | .slice elems spare => uptoBulkAll elems + uptoBulkAll spare + 1
  | .agg parts => uptoBulkAll parts + 1
  | .iface _ d => uptoBulk d + 1
  | .map entries => uptoBulkEntries entries + 1
  | .held _ => 1
def uptoBulkAll {H : Type} : List (DataW H) → Nat
  | [] => 0
  | d :: r => uptoBulk d + uptoBulkAll r
def uptoBulkEntries {H : Type} : List (Lit × DataW H) → Nat
  | [] => 0
  | x :: r => uptoBulkEntry x + uptoBulkEntries r
def uptoBulkEntry {H : Type} : Lit × DataW H → Nat
  | (.string bytes, d) => bytes.length + uptoBulk d + 1
  | (_, d) => uptoBulk d + 1
 end
def uptoSmall : (H : Type) → List (DataW H) → Bool := fun _ ds => decide (uptoBulkAll ds ≤ 1048576)
def OpenSpec.upto (s : _root_.Go.ChangeSpec) : _root_.Go.OpenSpec := { _root_.Go.OpenSpec.ofChange s with cond := some uptoSmall }

/-- 'laws.FnExactTskOk', WHERE WHAT IT READS IS OF BULK AT MOST 1048576: true; the input reads as it did. -/
def fnExactTskOkUptoRow : OpenClaim := { program := "ytgiomkpcpieplaagreat", sum := "596707276da1b6a8b0091b8cbfe80fe89a39c6bd1a09392f8ba2312a86f9f4f1", func := "loop.example/freshet/laws.FnExactTskOk", spec := "fnExactTskOk", unfollowed := true, recurses := true, apart := false, narrowed := true }
def FnExactTskOkUptoSaid : Prop := fnExactTskOkUptoRow.holds Tryz.pinned (OpenSpec.upto fnExactTskOkSpec)

/-- 'laws.FnExactTskRoom', WHERE WHAT IT READS IS OF BULK AT MOST 1048576: true; the input reads as it did. -/
def fnExactTskRoomUptoRow : OpenClaim := { program := "ytgiomkpcpieplaagreat", sum := "596707276da1b6a8b0091b8cbfe80fe89a39c6bd1a09392f8ba2312a86f9f4f1", func := "loop.example/freshet/laws.FnExactTskRoom", spec := "fnExactTskRoom", unfollowed := true, recurses := true, apart := false, narrowed := true }
def FnExactTskRoomUptoSaid : Prop := fnExactTskRoomUptoRow.holds Tryz.pinned (OpenSpec.upto fnExactTskRoomSpec)

/-- 'laws.FnExactTskPut', WHERE WHAT IT READS IS OF BULK AT MOST 1048576: true; the input reads as it did. -/
def fnExactTskPutUptoRow : OpenClaim := { program := "ytgiomkpcpieplaagreat", sum := "596707276da1b6a8b0091b8cbfe80fe89a39c6bd1a09392f8ba2312a86f9f4f1", func := "loop.example/freshet/laws.FnExactTskPut", spec := "fnExactTskPut", unfollowed := true, recurses := true, apart := false, narrowed := true }
def FnExactTskPutUptoSaid : Prop := fnExactTskPutUptoRow.holds Tryz.pinned (OpenSpec.upto fnExactTskPutSpec)

end Rows
end Go.Proofs.YtgiomkpcpieplaaGreat
