/- The data of this program, by shapes. -/
import Derived.Test.YtbkpfnddpnccmaaRk27
namespace Go.Rk
set_option linter.unusedSimpArgs false
set_option linter.unusedVariables false
abbrev eI (n : Int) : DV := .v (.int .i64 n)
abbrev eB (n : Bool) : DV := .v (.bool n)
def xd (l : List DV) : XT := .agg (l.map .d)
/-- Rows. -/
structure Sl (α : Type) where
  n : Nat
  g : Nat → α
  hn : n ≤ maxLen
structure JobT where
  srcs : Int
  tsks : Int
  kind : Int
  size : Int
  step : Int
  late : Int
  tell : Int
  piece : Bool
  least : Int
  room : Int
structure ItmT where
  kind : Int
  t : Int
  key : Int
  v : Int
  n : Int
structure WinT where
  s : Int
  e : Int
structure AggT where
  n : Int
  sum : Int
  least : Int
  most : Int
structure RowT where
  key : Int
  win : WinT
  all : AggT
  fresh : AggT
  told : Int
  timely : Bool
structure OpStT where
  mark : Int
  rows : Sl RowT
structure PaneT where
  key : Int
  win : WinT
  no : Int
  kind : Int
  agg : AggT
structure LatT where
  itm : ItmT
  win : WinT
structure TabT where
  key : Int
  win : WinT
  agg : AggT
structure TskInT where
  queue : Sl ItmT
  mark : Int
  held : Bool
structure TxnT where
  n : Int
  panes : Sl PaneT
  lates : Sl LatT
structure TskT where
  ins : Sl TskInT
  op : OpStT
  wall : Int
  pend : TxnT
structure SnapT where
  op : OpStT
  marks : Sl Int
structure SafeT where
  n : Int
  at_ : Sl Int
  snaps : Sl SnapT
structure CkpT where
  n : Int
  opn : Bool
  src : Sl Int
  tsk : Sl Bool
  snaps : Sl SnapT
  safe : SafeT
structure SrcT where
  at_ : Int
  wall : Int
structure SinkT where
  ready : Sl TxnT
  n : Int
  panes : Sl PaneT
  lates : Sl LatT
structure FloT where
  job : JobT
  logs : Sl (Sl ItmT)
  srcs : Sl SrcT
  tasks : Sl TskT
  sinks : Sl SinkT
  ckp : CkpT
def eJob (x : JobT) : List DV := [eI x.srcs, eI x.tsks, eI x.kind, eI x.size, eI x.step, eI x.late, eI x.tell, eB x.piece, eI x.least, eI x.room]
def eItm (x : ItmT) : List DV := [eI x.kind, eI x.t, eI x.key, eI x.v, eI x.n]
def eWin (x : WinT) : List DV := [eI x.s, eI x.e]
def eAgg (x : AggT) : List DV := [eI x.n, eI x.sum, eI x.least, eI x.most]
def eRow (x : RowT) : List DV := [eI x.key, eI x.win.s, eI x.win.e, eI x.all.n, eI x.all.sum, eI x.all.least, eI x.all.most, eI x.fresh.n, eI x.fresh.sum, eI x.fresh.least, eI x.fresh.most, eI x.told, eB x.timely]
def eOpSt (x : OpStT) : List DV := [eI x.mark, (.sl 13 x.rows.n fun i => eRow (x.rows.g i))]
def bdOpSt (x : OpStT) : Prop := x.rows.n ≤ 1048576
def ePane (x : PaneT) : List DV := [eI x.key, eI x.win.s, eI x.win.e, eI x.no, eI x.kind, eI x.agg.n, eI x.agg.sum, eI x.agg.least, eI x.agg.most]
def eLat (x : LatT) : List DV := [eI x.itm.kind, eI x.itm.t, eI x.itm.key, eI x.itm.v, eI x.itm.n, eI x.win.s, eI x.win.e]
def eTab (x : TabT) : List DV := [eI x.key, eI x.win.s, eI x.win.e, eI x.agg.n, eI x.agg.sum, eI x.agg.least, eI x.agg.most]
def eTskIn (x : TskInT) : List DV := [(.sl 5 x.queue.n fun i => eItm (x.queue.g i)), eI x.mark, eB x.held]
def bdTskIn (x : TskInT) : Prop := x.queue.n ≤ 1048576
def eTxn (x : TxnT) : List DV := [eI x.n, (.sl 9 x.panes.n fun i => ePane (x.panes.g i)), (.sl 7 x.lates.n fun i => eLat (x.lates.g i))]
def bdTxn (x : TxnT) : Prop := x.panes.n ≤ 1048576 ∧ x.lates.n ≤ 1048576
def eTsk (x : TskT) : List DV := [(.sl 3 x.ins.n fun i => eTskIn (x.ins.g i)), eI x.op.mark, (.sl 13 x.op.rows.n fun i => eRow (x.op.rows.g i)), eI x.wall, eI x.pend.n, (.sl 9 x.pend.panes.n fun i => ePane (x.pend.panes.g i)), (.sl 7 x.pend.lates.n fun i => eLat (x.pend.lates.g i))]
def bdTsk (x : TskT) : Prop := x.ins.n ≤ 1048576 ∧ (∀ i, i < x.ins.n → bdTskIn (x.ins.g i)) ∧ bdOpSt x.op ∧ bdTxn x.pend
def eSnap (x : SnapT) : List DV := [eI x.op.mark, (.sl 13 x.op.rows.n fun i => eRow (x.op.rows.g i)), (.sl 1 x.marks.n fun i => [eI (x.marks.g i)])]
def bdSnap (x : SnapT) : Prop := bdOpSt x.op ∧ x.marks.n ≤ 1048576
def eSafe (x : SafeT) : List DV := [eI x.n, (.sl 1 x.at_.n fun i => [eI (x.at_.g i)]), (.sl 3 x.snaps.n fun i => eSnap (x.snaps.g i))]
def bdSafe (x : SafeT) : Prop := x.at_.n ≤ 1048576 ∧ x.snaps.n ≤ 1048576 ∧ (∀ i, i < x.snaps.n → bdSnap (x.snaps.g i))
def eCkp (x : CkpT) : List DV := [eI x.n, eB x.opn, (.sl 1 x.src.n fun i => [eI (x.src.g i)]), (.sl 1 x.tsk.n fun i => [eB (x.tsk.g i)]), (.sl 3 x.snaps.n fun i => eSnap (x.snaps.g i)), eI x.safe.n, (.sl 1 x.safe.at_.n fun i => [eI (x.safe.at_.g i)]), (.sl 3 x.safe.snaps.n fun i => eSnap (x.safe.snaps.g i))]
def bdCkp (x : CkpT) : Prop := x.src.n ≤ 1048576 ∧ x.tsk.n ≤ 1048576 ∧ x.snaps.n ≤ 1048576 ∧ (∀ i, i < x.snaps.n → bdSnap (x.snaps.g i)) ∧ bdSafe x.safe
def eSrc (x : SrcT) : List DV := [eI x.at_, eI x.wall]
def eSink (x : SinkT) : List DV := [(.sl 3 x.ready.n fun i => eTxn (x.ready.g i)), eI x.n, (.sl 9 x.panes.n fun i => ePane (x.panes.g i)), (.sl 7 x.lates.n fun i => eLat (x.lates.g i))]
def bdSink (x : SinkT) : Prop := x.ready.n ≤ 1048576 ∧ (∀ i, i < x.ready.n → bdTxn (x.ready.g i)) ∧ x.panes.n ≤ 1048576 ∧ x.lates.n ≤ 1048576
def eFlo (x : FloT) : List DV := [eI x.job.srcs, eI x.job.tsks, eI x.job.kind, eI x.job.size, eI x.job.step, eI x.job.late, eI x.job.tell, eB x.job.piece, eI x.job.least, eI x.job.room, (.sl 1 x.logs.n fun i => [.sl 5 (x.logs.g i).n fun k => eItm ((x.logs.g i).g k)]), (.sl 2 x.srcs.n fun i => eSrc (x.srcs.g i)), (.sl 7 x.tasks.n fun i => eTsk (x.tasks.g i)), (.sl 4 x.sinks.n fun i => eSink (x.sinks.g i)), eI x.ckp.n, eB x.ckp.opn, (.sl 1 x.ckp.src.n fun i => [eI (x.ckp.src.g i)]), (.sl 1 x.ckp.tsk.n fun i => [eB (x.ckp.tsk.g i)]), (.sl 3 x.ckp.snaps.n fun i => eSnap (x.ckp.snaps.g i)), eI x.ckp.safe.n, (.sl 1 x.ckp.safe.at_.n fun i => [eI (x.ckp.safe.at_.g i)]), (.sl 3 x.ckp.safe.snaps.n fun i => eSnap (x.ckp.safe.snaps.g i))]
def bdFlo (x : FloT) : Prop := x.logs.n ≤ 1048576 ∧ (∀ i, i < x.logs.n → (x.logs.g i).n ≤ 1048576) ∧ x.srcs.n ≤ 1048576 ∧ x.tasks.n ≤ 1048576 ∧ (∀ i, i < x.tasks.n → bdTsk (x.tasks.g i)) ∧ x.sinks.n ≤ 1048576 ∧ (∀ i, i < x.sinks.n → bdSink (x.sinks.g i)) ∧ bdCkp x.ckp
end Go.Rk
