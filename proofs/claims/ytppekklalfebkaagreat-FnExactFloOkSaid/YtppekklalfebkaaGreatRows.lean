/-
  No cell of these rows narrows 'for every input' (looked for: loops, veiled, ifaces, maps, wideKeys, modest, calm, conditions, laid).
  DERIVED. THE GIVEN ROWS OF THIS SEAT. 6 by the template 'for every input the law returns true; each argument reads behind the call as it read before'; 0 by the template 'total and deterministic' (their statements: YtppekklalfebkaaGreatTotals.lean).
  GIVEN WITH THE SEED: the statements are not yours to turn. If you find one false, say at which input.
  Laid BY PROGRAM, IN A SANDBOX (cutbox-rows.mjs): the forced cells as the released guide's own fill.sh prints them over the translation 8320576f88a63cbd… (all of the seat's roots in one cut). By AI agents, Wed Nov 11 2026. No macro, syntax, notation, axiom, sorry.
-/
import Derived.Test.YtppekklalfebkaaGreatChecked
import GoSem.Claim
import GoSem.ClaimJoined
import GoSem.ClaimMapViews
import Derived.JoinedTies
import Derived.KernelRfl
namespace Go.Proofs.YtppekklalfebkaaGreat
/- THE CELL 'sum', in the pinned program and in every row, IS THE sha256 OF THE DUMP (.gsa) THAT YtppekklalfebkaaGreatProg.lean LOADS. Nothing in Lean hashes anything: it is a label: what it is worth is what the hold of that sum in a sandbox is worth. -/
noncomputable def Tryz.pinned : Pinned := { name := "ytppekklalfebkaagreat", sum := "8320576f88a63cbda64b7cc1d863d75a742b23850471bdb35739901130f798a6", checked := Tryz.checked }
namespace Rows
def none {H : Type} : Left H := { results := [], args := [] }

/-- 'laws.FnExactCkpAsk': WHATEVER THE INPUT: true; the input reads as it did. -/
def fnExactCkpAskSpec : ChangeSpec := { name := "fnExactCkpAsk", fn := fun _ => fun
  | [d1, d2] => { results := [.lit (.bool true)], args := [d1, d2] }
  | _ => none }
def fnExactCkpAskRow : OpenClaim := { program := "ytppekklalfebkaagreat", sum := "8320576f88a63cbda64b7cc1d863d75a742b23850471bdb35739901130f798a6", func := "loop.example/freshet/laws.FnExactCkpAsk", spec := "fnExactCkpAsk", unfollowed := true, recurses := true, apart := false }
def FnExactCkpAskSaid : Prop := fnExactCkpAskRow.holds Tryz.pinned (OpenSpec.ofChange fnExactCkpAskSpec)

/-- ITS FALSE NEIGHBOUR: 'it returns false'. Refute it at one input. -/
def fnExactCkpAskWrong : ChangeSpec := { name := "fnExactCkpAsk", fn := fun _ => fun
  | [d1, d2] => { results := [.lit (.bool false)], args := [d1, d2] }
  | _ => none }
def FnExactCkpAskWrongFalsely : Prop := fnExactCkpAskRow.holds Tryz.pinned (OpenSpec.ofChange fnExactCkpAskWrong)

/-- 'laws.FnExactCkpDrop': WHATEVER THE INPUT: true; the input reads as it did. -/
def fnExactCkpDropSpec : ChangeSpec := { name := "fnExactCkpDrop", fn := fun _ => fun
  | [d1, d2] => { results := [.lit (.bool true)], args := [d1, d2] }
  | _ => none }
def fnExactCkpDropRow : OpenClaim := { program := "ytppekklalfebkaagreat", sum := "8320576f88a63cbda64b7cc1d863d75a742b23850471bdb35739901130f798a6", func := "loop.example/freshet/laws.FnExactCkpDrop", spec := "fnExactCkpDrop", unfollowed := true, recurses := true, apart := false }
def FnExactCkpDropSaid : Prop := fnExactCkpDropRow.holds Tryz.pinned (OpenSpec.ofChange fnExactCkpDropSpec)

/-- ITS FALSE NEIGHBOUR: 'it returns false'. Refute it at one input. -/
def fnExactCkpDropWrong : ChangeSpec := { name := "fnExactCkpDrop", fn := fun _ => fun
  | [d1, d2] => { results := [.lit (.bool false)], args := [d1, d2] }
  | _ => none }
def FnExactCkpDropWrongFalsely : Prop := fnExactCkpDropRow.holds Tryz.pinned (OpenSpec.ofChange fnExactCkpDropWrong)

/-- 'laws.FnExactCkpSave': WHATEVER THE INPUT: true; the input reads as it did. -/
def fnExactCkpSaveSpec : ChangeSpec := { name := "fnExactCkpSave", fn := fun _ => fun
  | [d1, d2] => { results := [.lit (.bool true)], args := [d1, d2] }
  | _ => none }
def fnExactCkpSaveRow : OpenClaim := { program := "ytppekklalfebkaagreat", sum := "8320576f88a63cbda64b7cc1d863d75a742b23850471bdb35739901130f798a6", func := "loop.example/freshet/laws.FnExactCkpSave", spec := "fnExactCkpSave", unfollowed := true, recurses := true, apart := false }
def FnExactCkpSaveSaid : Prop := fnExactCkpSaveRow.holds Tryz.pinned (OpenSpec.ofChange fnExactCkpSaveSpec)

/-- ITS FALSE NEIGHBOUR: 'it returns false'. Refute it at one input. -/
def fnExactCkpSaveWrong : ChangeSpec := { name := "fnExactCkpSave", fn := fun _ => fun
  | [d1, d2] => { results := [.lit (.bool false)], args := [d1, d2] }
  | _ => none }
def FnExactCkpSaveWrongFalsely : Prop := fnExactCkpSaveRow.holds Tryz.pinned (OpenSpec.ofChange fnExactCkpSaveWrong)

/-- 'laws.FnExactFloOk': WHATEVER THE INPUT: true; the input reads as it did. -/
def fnExactFloOkSpec : ChangeSpec := { name := "fnExactFloOk", fn := fun _ => fun
  | [d] => { results := [.lit (.bool true)], args := [d] }
  | _ => none }
def fnExactFloOkRow : OpenClaim := { program := "ytppekklalfebkaagreat", sum := "8320576f88a63cbda64b7cc1d863d75a742b23850471bdb35739901130f798a6", func := "loop.example/freshet/laws.FnExactFloOk", spec := "fnExactFloOk", unfollowed := true, recurses := true, apart := false }
def FnExactFloOkSaid : Prop := fnExactFloOkRow.holds Tryz.pinned (OpenSpec.ofChange fnExactFloOkSpec)

/-- ITS FALSE NEIGHBOUR: 'it returns false'. Refute it at one input. -/
def fnExactFloOkWrong : ChangeSpec := { name := "fnExactFloOk", fn := fun _ => fun
  | [d] => { results := [.lit (.bool false)], args := [d] }
  | _ => none }
def FnExactFloOkWrongFalsely : Prop := fnExactFloOkRow.holds Tryz.pinned (OpenSpec.ofChange fnExactFloOkWrong)

/-- 'laws.FnCkpAsk': WHATEVER THE INPUT: true; the input reads as it did. -/
def fnCkpAskSpec : ChangeSpec := { name := "fnCkpAsk", fn := fun _ => fun
  | [d] => { results := [.lit (.bool true)], args := [d] }
  | _ => none }
def fnCkpAskRow : OpenClaim := { program := "ytppekklalfebkaagreat", sum := "8320576f88a63cbda64b7cc1d863d75a742b23850471bdb35739901130f798a6", func := "loop.example/freshet/laws.FnCkpAsk", spec := "fnCkpAsk", unfollowed := true, recurses := true, apart := false }
def FnCkpAskSaid : Prop := fnCkpAskRow.holds Tryz.pinned (OpenSpec.ofChange fnCkpAskSpec)

/-- ITS FALSE NEIGHBOUR: 'it returns false'. Refute it at one input. -/
def fnCkpAskWrong : ChangeSpec := { name := "fnCkpAsk", fn := fun _ => fun
  | [d] => { results := [.lit (.bool false)], args := [d] }
  | _ => none }
def FnCkpAskWrongFalsely : Prop := fnCkpAskRow.holds Tryz.pinned (OpenSpec.ofChange fnCkpAskWrong)

/-- 'laws.FnCkpDrop': WHATEVER THE INPUT: true; the input reads as it did. -/
def fnCkpDropSpec : ChangeSpec := { name := "fnCkpDrop", fn := fun _ => fun
  | [d] => { results := [.lit (.bool true)], args := [d] }
  | _ => none }
def fnCkpDropRow : OpenClaim := { program := "ytppekklalfebkaagreat", sum := "8320576f88a63cbda64b7cc1d863d75a742b23850471bdb35739901130f798a6", func := "loop.example/freshet/laws.FnCkpDrop", spec := "fnCkpDrop", unfollowed := true, recurses := true, apart := false }
def FnCkpDropSaid : Prop := fnCkpDropRow.holds Tryz.pinned (OpenSpec.ofChange fnCkpDropSpec)

/-- ITS FALSE NEIGHBOUR: 'it returns false'. Refute it at one input. -/
def fnCkpDropWrong : ChangeSpec := { name := "fnCkpDrop", fn := fun _ => fun
  | [d] => { results := [.lit (.bool false)], args := [d] }
  | _ => none }
def FnCkpDropWrongFalsely : Prop := fnCkpDropRow.holds Tryz.pinned (OpenSpec.ofChange fnCkpDropWrong)

/- THE SECOND FORM. 'bulk': how many values and letters a reading holds, each counted each time it is reached (what is shared counts as often as it is met; a slice's spare places count too). A statement '..UptoSaid' is the law's where the arguments, and the package variables that the reading takes, are together of bulk at most 1048576: NARROWER than '..Said'. Prove '..Said' where nothing that the law and all that it calls make is longer than what came in: it says more and counts as full. Else prove '..UptoSaid'. A law counts once. -/
mutual
def uptoBulk {H : Type} : DataW H → Nat
  | .lit (.string bytes) => bytes.length + 1
  | .lit _ => 1
  | .nil => 1
  | .ptr d => uptoBulk d + 1
  | .slice elems spare => uptoBulkAll elems + uptoBulkAll spare + 1
  | .agg parts => uptoBulkAll parts + 1
  | .iface _ d => uptoBulk d + 1
  | .map entries => uptoBulkEntries entries + 1
  | .held _ => 1
def uptoBulkAll {H : Type} : List (DataW H) → Nat
  | [] => 0
  | d :: r => uptoBulk d + uptoBulkAll r
def uptoBulkEntries {H : Type} : List (Lit × DataW H) → Nat
  | [] => 0
  | x :: r => uptoBulkEntry x + uptoBulkEntries r
def uptoBulkEntry {H : Type} : Lit × DataW H → Nat
  | (.string bytes, d) => bytes.length + uptoBulk d + 1
  | (_, d) => uptoBulk d + 1
 end
def uptoSmall : (H : Type) → List (DataW H) → Bool := fun _ ds => decide (uptoBulkAll ds ≤ 1048576)
def OpenSpec.upto (s : _root_.Go.ChangeSpec) : _root_.Go.OpenSpec := { _root_.Go.OpenSpec.ofChange s with cond := some uptoSmall }

/-- 'laws.FnExactCkpAsk', WHERE WHAT IT READS IS OF BULK AT MOST 1048576: true; the input reads as it did. -/
def fnExactCkpAskUptoRow : OpenClaim := { program := "ytppekklalfebkaagreat", sum := "8320576f88a63cbda64b7cc1d863d75a742b23850471bdb35739901130f798a6", func := "loop.example/freshet/laws.FnExactCkpAsk", spec := "fnExactCkpAsk", unfollowed := true, recurses := true, apart := false, narrowed := true }
def FnExactCkpAskUptoSaid : Prop := fnExactCkpAskUptoRow.holds Tryz.pinned (OpenSpec.upto fnExactCkpAskSpec)

/-- 'laws.FnExactCkpDrop', WHERE WHAT IT READS IS OF BULK AT MOST 1048576: true; the input reads as it did. -/
def fnExactCkpDropUptoRow : OpenClaim := { program := "ytppekklalfebkaagreat", sum := "8320576f88a63cbda64b7cc1d863d75a742b23850471bdb35739901130f798a6", func := "loop.example/freshet/laws.FnExactCkpDrop", spec := "fnExactCkpDrop", unfollowed := true, recurses := true, apart := false, narrowed := true }
def FnExactCkpDropUptoSaid : Prop := fnExactCkpDropUptoRow.holds Tryz.pinned (OpenSpec.upto fnExactCkpDropSpec)

/-- 'laws.FnExactCkpSave', WHERE WHAT IT READS IS OF BULK AT MOST 1048576: true; the input reads as it did. -/
def fnExactCkpSaveUptoRow : OpenClaim := { program := "ytppekklalfebkaagreat", sum := "8320576f88a63cbda64b7cc1d863d75a742b23850471bdb35739901130f798a6", func := "loop.example/freshet/laws.FnExactCkpSave", spec := "fnExactCkpSave", unfollowed := true, recurses := true, apart := false, narrowed := true }
def FnExactCkpSaveUptoSaid : Prop := fnExactCkpSaveUptoRow.holds Tryz.pinned (OpenSpec.upto fnExactCkpSaveSpec)

/-- 'laws.FnExactFloOk', WHERE WHAT IT READS IS OF BULK AT MOST 1048576: true; the input reads as it did. -/
def fnExactFloOkUptoRow : OpenClaim := { program := "ytppekklalfebkaagreat", sum := "8320576f88a63cbda64b7cc1d863d75a742b23850471bdb35739901130f798a6", func := "loop.example/freshet/laws.FnExactFloOk", spec := "fnExactFloOk", unfollowed := true, recurses := true, apart := false, narrowed := true }
def FnExactFloOkUptoSaid : Prop := fnExactFloOkUptoRow.holds Tryz.pinned (OpenSpec.upto fnExactFloOkSpec)

/-- 'laws.FnCkpAsk', WHERE WHAT IT READS IS OF BULK AT MOST 1048576: true; the input reads as it did. -/
def fnCkpAskUptoRow : OpenClaim := { program := "ytppekklalfebkaagreat", sum := "8320576f88a63cbda64b7cc1d863d75a742b23850471bdb35739901130f798a6", func := "loop.example/freshet/laws.FnCkpAsk", spec := "fnCkpAsk", unfollowed := true, recurses := true, apart := false, narrowed := true }
def FnCkpAskUptoSaid : Prop := fnCkpAskUptoRow.holds Tryz.pinned (OpenSpec.upto fnCkpAskSpec)

/-- 'laws.FnCkpDrop', WHERE WHAT IT READS IS OF BULK AT MOST 1048576: true; the input reads as it did. -/
def fnCkpDropUptoRow : OpenClaim := { program := "ytppekklalfebkaagreat", sum := "8320576f88a63cbda64b7cc1d863d75a742b23850471bdb35739901130f798a6", func := "loop.example/freshet/laws.FnCkpDrop", spec := "fnCkpDrop", unfollowed := true, recurses := true, apart := false, narrowed := true }
def FnCkpDropUptoSaid : Prop := fnCkpDropUptoRow.holds Tryz.pinned (OpenSpec.upto fnCkpDropSpec)

end Rows
end Go.Proofs.YtppekklalfebkaaGreat
