/- A part of the walk over this seat's functions: what each answers, at all data. -/
import Derived.Test.YtbkpfnddpnccmaaRA0
import Derived.Test.YtbkpfnddpnccmaaRk26
import Derived.Test.YtbkpfnddpnccmaaChecked
namespace Go.Rk
open Go.Proofs
abbrev eI (n : Int) : DV := .v (.int .i64 n)
abbrev eB (n : Bool) : DV := .v (.bool n)
structure WinT where
  s : Int
  e : Int
structure AggT where
  n : Int
  sum : Int
  least : Int
  most : Int
structure RowT where
  key : Int
  win : WinT
  all : AggT
  fresh : AggT
  told : Int
  timely : Bool
def eWin (w : WinT) : List DV := [eI w.s, eI w.e]
def eAgg (a : AggT) : List DV := [eI a.n, eI a.sum, eI a.least, eI a.most]
def eRow (r : RowT) : List DV := [eI r.key, eI r.win.s, eI r.win.e, eI r.all.n, eI r.all.sum, eI r.all.least, eI r.all.most, eI r.fresh.n, eI r.fresh.sum, eI r.fresh.least, eI r.fresh.most, eI r.told, eB r.timely]
def zRow : RowT := ⟨0, ⟨0, 0⟩, ⟨0, 0, 0, 0⟩, ⟨0, 0, 0, 0⟩, 0, false⟩
def eSt (mark : Int) (n : Nat) (rd : Nat → RowT) : List DV := [eI mark, .sl 13 n fun i => eRow (rd i)]
def xd (l : List DV) : XT := .agg (l.map .d)
def EXA : FuncId → List Nat × Bool := fun _ => ([], false)
theorem mixed : Try.prog.follows .mixedOrders = true := by kernel_rfl

theorem m18 (w : WinT) : Meets Try.prog 18 [xd (eWin w)] ⟨.one (xd (eWin w)), [none]⟩ := by
  refine meets_of (H := []) (EX := EXA) ttok mixed Try.func18 rfl (by kernel_rfl) (by decide) ?_
  generalize hA : real = A
  generalize hM : Meets Try.prog = M
  cbv
  subst hA
  simp [real]
theorem m87 (w : AggT) : Meets Try.prog 87 [xd (eAgg w)] ⟨.one (xd (eAgg w)), [none]⟩ := by
  refine meets_of (H := []) (EX := EXA) ttok mixed Try.func87 rfl (by kernel_rfl) (by decide) ?_
  generalize hA : real = A
  generalize hM : Meets Try.prog = M
  cbv
  subst hA
  simp [real]
theorem m106 (r : RowT) : Meets Try.prog 106 [xd (eRow r)] ⟨.one (xd (eRow r)), [none]⟩ := by
  refine meets_of (H := []) (EX := EXA) ttok mixed Try.func106 rfl (by kernel_rfl) (by decide) ?_
  generalize hA : real = A
  generalize hM : Meets Try.prog = M
  cbv
  repeat' apply And.intro
  all_goals first | exact same_of hA rfl | skip
  refine call_of hA hM _ (m18 r.win) ?_
  cbv
  repeat' apply And.intro
  all_goals first | exact same_of hA rfl | skip
  refine call_of hA hM _ (m87 r.all) ?_
  cbv
  repeat' apply And.intro
  all_goals first | exact same_of hA rfl | skip
  refine call_of hA hM _ (m87 r.fresh) ?_
  cbv
  repeat' apply And.intro
  all_goals first | exact same_of hA rfl | skip
  trace_state
  all_goals trivial
end Go.Rk
