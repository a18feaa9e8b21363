/- The walk over this seat's functions, part 1: what each of them answers, at all data. -/
import Derived.Orders
import Derived.Laws.Sem
import Derived.Laws.World
import Derived.Laws.CopyRow
import Derived.Laws.Append
import Derived.Laws.Tables
import Derived.Laws.Entries
/- The abstract machine's words: data values, what a temporary holds, what an own block holds, and what one operation does to these. -/
namespace Go.Rk
set_option linter.unusedSimpArgs false
set_option linter.unusedVariables false
/-- Tests of numbers, as the walk evaluates them at once. -/
def nbeq (a b : Nat) : Bool := decide (a = b)
def nble (a b : Nat) : Bool := decide (a ≤ b)
def nblt (a b : Nat) : Bool := decide (a < b)
@[simp] theorem nbeq_refl (a : Nat) : nbeq a a = true := decide_eq_true rfl
theorem eq_of_nbeq {a b : Nat} (h : nbeq a b = true) : a = b := of_decide_eq_true h
@[simp] theorem nbeq_eq {a b : Nat} : (nbeq a b = true) = (a = b) := decide_eq_true_eq
@[simp] theorem nblt_eq {a b : Nat} : (nblt a b = true) = (a < b) := decide_eq_true_eq
@[simp] theorem nble_eq {a b : Nat} : (nble a b = true) = (a ≤ b) := decide_eq_true_eq
theorem le_of_nble {a b : Nat} (h : nble a b = true) : a ≤ b := of_decide_eq_true h
/-- What is read and never written while it is held: a cell's value; a slice ('n' rows of 'sz' cells); what a pointer leads to; a function with what it has caught. -/
inductive DV where
  | v (x : Value)
  | sl (sz n : Nat) (row : Nat → List DV)
  | p (cells : List DV)
  | fn (f : FuncId) (caps : List DV)

abbrev nilS : Value := .slice none 0 0

/-- One cell's or temporary's: 'own': a part of an own row; 'bp': into an own box; 'op': into an own row's element; 'nown', 'nop': a nest, into its element; 'zc': a slice with no room. -/
inductive CV where
  | junk
  | d (x : DV)
  | own (l : Nat) (off len ver : Nat)
  | bp (l : Nat) (ver off : Nat)
  | op (l : Nat) (ver row off : Nat)
  | nown (l : Nat) (len ver : Nat)
  | nop (l : Nat) (ver row off : Nat)
  | clo (f : FuncId) (caps : List (Nat × Nat))
  | zc

inductive TV where
  | c (x : CV)
  | agg (xs : List CV)

inductive AV where
  | c (x : CV)
  | agg (xs : List CV)
  | tup (xs : List TV)
  | gd (t : Bool) (x : AV)
def TV.av : TV → AV
  | .c x => .c x
  | .agg xs => .agg xs

inductive HO where
  | dead
  | box (cells : List CV)
  | arr (sz n : Nat) (row : Nat → List DV)
  /-- Rows that bear own slices in turn; one of them may lie open: its cells are named. -/
  | nest (sz n : Nat) (row : Nat → List DV) (foc : Option (Nat × List CV))

structure St where
  slots : List (Nat × AV)
  objs : List (Nat × Nat × HO)

def lookS : List (Nat × AV) → Nat → AV
  | [], _ => .c .junk
  | (j, v) :: r, k => bif nbeq j k then v else lookS r k
def lookO : List (Nat × Nat × HO) → Nat → Nat × HO
  | [], _ => (0, .dead)
  | (j, v) :: r, k => bif nbeq j k then v else lookO r k
def St.s (σ : St) (k : Nat) : AV := lookS σ.slots k
def St.o (σ : St) (l : Nat) : Nat × HO := lookO σ.objs l
def St.put (σ : St) (dst : Option Nat) (x : AV) (us : List (Nat × Nat × HO)) : St :=
  { slots := match dst with | some k => (k, x) :: σ.slots | none => σ.slots, objs := us ++ σ.objs }

/-- A type, as the operations ask it: 'eqk': all cells are compared as they lie. -/
structure TI where
  desc : TypeDesc
  size : Nat
  bytes : Nat
  zero : List Value
  eqk : Bool

/-- One operation of a region, as its order is asked: its own temporary, those behind which it comes, the temporaries and own things it looks at, and those it turns. -/
structure Rec where
  dst : Option Nat
  pre : List Nat
  sl : List Nat
  lk : List Nat
  us : List Nat
def memN : List Nat → Nat → Bool
  | [], _ => false
  | j :: r, k => bif nbeq j k then true else memN r k
def apartN : List Nat → List Nat → Bool
  | [], _ => true
  | j :: r, l => bif memN l j then false else apartN r l
def offN (d : Option Nat) (l : List Nat) : Bool := match d with | some k => !memN l k | none => true
def offD (d e : Option Nat) : Bool := match d, e with | some k, some j => !nbeq k j | _, _ => true
def apartR (x y : Rec) : Bool := offN x.dst y.sl && (offN y.dst x.sl && (offD x.dst y.dst && (apartN x.us y.lk && (apartN y.us x.lk && apartN x.us y.us))))
def orAll (an : List Nat) : List Nat → Nat
  | [] => 0
  | p :: r => (an.getD p 0 ||| 1 <<< p) ||| orAll an r
def ancs : List Rec → List Nat → List Nat
  | [], an => an
  | r :: rs, an => ancs rs (an ++ [orAll an r.pre])
def preB : Nat → List Rec → Bool
  | _, [] => true
  | i, r :: rs => (r.pre.all fun p => nblt p i) && preB (i + 1) rs
def pairsB : Nat → List Rec → List Nat → Bool
  | i, r :: rs, _ :: an => ((rs.zip an).all fun q => q.2.testBit i || apartR r q.1) && pairsB (i + 1) rs an
  | _, _, _ => true
/-- Two that no other orders do not touch each other's things. -/
def indep (rs : List Rec) : Bool := preB 0 rs && pairsB 0 rs (ancs rs [])

/-- What the walk does not look into: arithmetic, tests and rows. 'real' is what they are. -/
structure Ar where
  ar : BinOp → IntKind → Int → Int → Int
  cmp : BinOp → Int → Int → Bool
  band : Bool → Bool → Bool
  bnot : Bool → Bool
  bite : Bool → Bool → Bool → Bool
  beq : Bool → Bool → Bool
  wrap : IntKind → Int → Int
  mn : Int → Int → Int
  mx : Int → Int → Int
  nat : Int → Nat
  int : Nat → Int
  add : Nat → Nat → Nat
  dif : Int → Int → Nat
  inb : Bool → Int → Nat → Prop
  cut : Int → Int → Nat → Prop
  room : Nat → Nat → Prop
  same : Nat → Nat → Prop
  nz : Bool → Int → Prop
  imp : Bool → Bool → Prop
  made : Int → Int → Nat → Prop
  app : Nat → (Nat → List DV) → (Nat → List DV) → Nat → List DV
  sub : Nat → (Nat → List DV) → Nat → List DV
  upd : (Nat → List DV) → Nat → List DV → Nat → List DV
  rep : List DV → Nat → List DV
  flat : Nat → (Nat → List DV) → Prop
  ind : List Rec → Prop
  hold : (Unit → Prop) → Prop
  br : Bool → Prop → Prop → Prop
  sel : List Int → Nat → Int

def real : Ar where
  ar := fun op k a b => match op with
    | .add => k.wrap (a + b)
    | .sub => k.wrap (a - b)
    | .mul => k.wrap (a * b)
    | .xor => k.wrap (BitVec.ofInt k.bits a ^^^ BitVec.ofInt k.bits b).toNat
    | .and => k.wrap (BitVec.ofInt k.bits a &&& BitVec.ofInt k.bits b).toNat
    | .quo => k.wrap (a.tdiv b)
    | .rem => a.tmod b
    | .shr => a.fdiv (2 ^ min b.toNat k.bits)
    | _ => 0
  cmp := fun op a b => match op with
    | .eql => a == b
    | .neq => a != b
    | .lss => decide (a < b)
    | .leq => decide (a ≤ b)
    | .gtr => decide (a > b)
    | .geq => decide (a ≥ b)
    | _ => false
  band := (· && ·)
  bnot := (! ·)
  bite := fun t x y => bif t then x else y
  beq := fun a b => a == b
  wrap := fun k n => k.wrap n
  mn := fun a b => if b < a then b else a
  mx := fun a b => if b > a then b else a
  nat := Int.toNat
  int := fun n => (n : Int)
  add := (· + ·)
  dif := fun b a => (b - a).toNat
  inb := fun g i n => g = true → 0 ≤ i ∧ i < n
  cut := fun a b n => 0 ≤ a ∧ a ≤ b ∧ b ≤ n
  room := fun n bytes => n * bytes ≤ 140737488355328 ∧ n ≤ 140737488355328
  same := fun a b => a = b
  nz := fun g n => g = true → n ≠ 0
  imp := fun g t => g = true → t = true
  made := fun n c bytes => 0 ≤ n ∧ n = c ∧ n * bytes ≤ 140737488355328 ∧ n ≤ 140737488355328
  app := fun n a b i => if i < n then a i else b (i - n)
  sub := fun n a i => a (n + i)
  upd := fun a j x i => if i = j then x else a i
  rep := fun x _ => x
  flat := fun n row => ∀ i, i < n → ∀ x, x ∈ row i → ∃ u, x = .v u
  ind := fun rs => indep rs = true
  hold := fun f => f ()
  br := fun t p q => (t = true → p) ∧ (t = false → q)
  sel := fun l i => l.getD i 0

inductive G (α : Type) : Type where
  | ret (a : α)
  | get (l : Nat) (k : Nat × HO → G α)
  | vc (p : Prop) (k : G α)
  | fail

namespace G
def bind {α β : Type} : G α → (α → G β) → G β
  | .ret a, f => f a
  | .get l k, f => .get l fun r => (k r).bind f
  | .vc p k, f => .vc p (k.bind f)
  | .fail, _ => .fail
instance : Monad G where
  pure := G.ret
  bind := G.bind
/-- What is to be shown: the conditions, and what is asked of the answer and of the own blocks that were looked at. -/
def wp {α : Type} : G α → (Nat → Nat × HO) → (α → List Nat → Prop) → Prop
  | .ret a, _, Q => Q a []
  | .get l k, σ, Q => (k (σ l)).wp σ fun a r => Q a (l :: r)
  | .vc p k, σ, Q => p ∧ k.wp σ Q
  | .fail, _, _ => False
/-- The same, the looks left out. -/
def run {α : Type} : G α → (Nat → Nat × HO) → (α → Prop) → Prop
  | .ret a, _, Q => Q a
  | .get l k, σ, Q => (k (σ l)).run σ Q
  | .vc p k, σ, Q => p ∧ k.run σ Q
  | .fail, _, _ => False
theorem run_bind {α β : Type} (m : G α) (f : α → G β) (σ : Nat → Nat × HO) (Q : β → Prop) : (m.bind f).run σ Q ↔ m.run σ fun a => (f a).run σ Q := by
  induction m with
  | ret a => exact Iff.rfl
  | get l k ih => exact ih _
  | vc p k ih => exact and_congr Iff.rfl ih
  | fail => exact Iff.rfl
/-- One answer, and the looks: whoever agrees on these has that answer. -/
theorem wp_det {α : Type} {m : G α} {σ : Nat → Nat × HO} {Q : α → List Nat → Prop} (h : m.wp σ Q) :
    ∃ a r, Q a r ∧ ∀ σ' : Nat → Nat × HO, (∀ l, l ∈ r → σ' l = σ l) → ∀ Q' : α → Prop, Q' a → m.run σ' Q' := by
  induction m generalizing Q with
  | ret a => exact ⟨a, [], h, fun _ _ _ q => q⟩
  | get l k ih =>
    obtain ⟨a, r, hq, hr⟩ := ih _ h
    refine ⟨a, l :: r, hq, fun σ' hl Q' q => ?_⟩
    show (k (σ' l)).run σ' Q'
    rw [hl l (by simp)]
    exact hr σ' (fun l' hl' => hl l' (by simp [hl'])) Q' q
  | vc p k ih =>
    obtain ⟨a, r, hq, hr⟩ := ih h.2
    exact ⟨a, r, hq, fun σ' hl Q' q => ⟨h.1, hr σ' hl Q' q⟩⟩
  | fail => exact h.elim
end G

def constAV (v : Value) : AV :=
  match v with
  | .agg cs => if cs.toList.all (·.oneCell') then .agg (cs.toList.map fun x => .d (.v x)) else .c .junk
  | .tuple _ => .c .junk
  | v => .c (.d (.v v))
def rho (σ : List (Nat × AV)) : Operand → AV
  | .tmp t => lookS σ t
  | .const v => constAV v
  | .global _ => .c .junk
  | .func f => .c (.d (.fn f []))

/-! What is handed over at a call. -/
inductive XC where
  | d (x : DV)
  | own (sz n : Nat) (row : Nat → List DV)
inductive XV where
  | d (x : DV)
  | own (sz n : Nat) (row : Nat → List DV)
  | box (cells : List XC)
  | nown (sz n : Nat) (row : Nat → List DV)
inductive XT where
  | c (x : XV)
  | agg (xs : List XV)
inductive XA where
  | one (x : XT)
  | tup (xs : List XT)
/-- What a call hands back; and for each argument that was handed over to be written, what it holds behind the call. -/
structure Out where
  res : XA
  back : List (Option XV)

inductive OpOut where
  | val (x : AV) (us : List (Nat × Nat × HO))
  | call (f : FuncId) (args : List XT) (ret : Out → G (AV × List (Nat × Nat × HO)))
  | inl (f : FuncId) (avs : List AV)
/-- What is known of calls: of those to which things are handed over, and of those that work on the caller's own things. -/
structure Ms where
  m : FuncId → List XT → Out → Prop
  i : FuncId → List AV → List (Nat × Nat × HO) → AV → List (Nat × Nat × HO) → Prop
def baseOf (EX : FuncId → List Nat × Bool) : Nat := match (EX 1).1 with | b :: _ => b | [] => 0

section
variable (A : Ar) (T : TypeId → Option TI) (EX : FuncId → List Nat × Bool)

/-- An operand, under a guard. -/
def opv (g : Bool) (x : AV) : G AV :=
  match x with
  | .gd t a => .vc (A.imp g t) (.ret a)
  | a => .ret a
def cellv (g : Bool) (x : AV) : G CV :=
  match x with
  | .gd t (.c a) => .vc (A.imp g t) (.ret a)
  | .c a => .ret a
  | _ => .fail
def intv (g : Bool) (x : AV) : G (IntKind × Int) :=
  match x with
  | .gd t (.c (.d (.v (.int k n)))) => .vc (A.imp g t) (.ret (k, n))
  | .c (.d (.v (.int k n))) => .ret (k, n)
  | _ => .fail
def boolv (g : Bool) (x : AV) : G Bool :=
  match x with
  | .gd t (.c (.d (.v (.bool b)))) => .vc (A.imp g t) (.ret b)
  | .c (.d (.v (.bool b))) => .ret b
  | _ => .fail
def tiv (t : TypeId) : G TI :=
  match T t with
  | some i => .ret i
  | none => .fail
def elemv (t : TypeId) : G TI :=
  match T t with
  | some ⟨.slice e, _, _, _, _⟩ => tiv T e
  | _ => .fail
def fieldv (t : TypeId) (f : Nat) : G (Nat × TI) :=
  match T t with
  | some ⟨.struct fs, _, _, _, _⟩ => match fs[f]? with
    | some x => match T x.type with
      | some i => bif nbeq i.size 0 then .fail else .ret (x.offset, i)
      | none => .fail
    | none => .fail
  | _ => .fail
def isAggT : TypeDesc → Bool
  | .struct _ | .array _ _ => true
  | _ => false

def AV.cells : AV → List CV
  | .c x => [x]
  | .agg xs => xs
  | _ => []
def cellsv (g : Bool) (x : AV) : G (List CV) :=
  match x with
  | .gd _ (.c .junk) => .fail
  | .gd t (.c a) => .vc (A.imp g t) (.ret [a])
  | .gd t (.agg a) => .vc (A.imp g t) (.ret a)
  | .c .junk => .fail
  | .c a => .ret [a]
  | .agg a => .ret a
  | _ => .fail
def noJunk : List CV → Bool
  | [] => true
  | .junk :: _ => false
  | _ :: r => noJunk r
def mkAV (agg : Bool) (cs : List CV) : G AV :=
  if agg then .ret (.agg cs) else match cs with
    | [x] => .ret (.c x)
    | _ => .fail
def takeN {α : Type} : Nat → List α → Option (List α)
  | 0, _ => some []
  | _ + 1, [] => none
  | n + 1, x :: r => (takeN n r).map (x :: ·)
def dropN {α : Type} : Nat → List α → List α
  | 0, l => l
  | _ + 1, [] => []
  | n + 1, _ :: r => dropN n r
/-- Cells from 'off' on turned into those. -/
def patch {α : Type} : Nat → List α → List α → Option (List α)
  | 0, [], l => some l
  | 0, x :: xs, _ :: r => (patch 0 xs r).map (x :: ·)
  | 0, _ :: _, [] => none
  | n + 1, xs, y :: r => (patch n xs r).map (y :: ·)
  | _ + 1, _, [] => none
def optv {α : Type} : Option α → G α
  | some a => .ret a
  | none => .fail
def toD : CV → Option DV
  | .d x => some x
  | _ => none
def toDs : List CV → Option (List DV)
  | [] => some []
  | x :: r => match toD x, toDs r with
    | some a, some b => some (a :: b)
    | _, _ => none

/-- A slice's rows, to be read. -/
def rowsv (e : TI) (x : CV) : G (Nat × (Nat → List DV)) :=
  match x with
  | .d (.sl sz n row) => bif nbeq sz e.size then .ret (n, row) else .fail
  | .d (.v (.slice _ 0 _)) => .ret (0, A.rep (e.zero.map .v))
  | .zc => .ret (0, A.rep (e.zero.map .v))
  | .own l off len ver => .get l fun r => match r with
    | (ver', .arr sz _ row) => bif nbeq sz e.size then .vc (A.same ver ver') (.ret (len, A.sub off row)) else .fail
    | _ => .fail
  | _ => .fail
def lenv (x : CV) : G Nat :=
  match x with
  | .d (.sl _ n _) => .ret n
  | .d (.v (.slice _ 0 _)) => .ret 0
  | .zc => .ret 0
  | .own l _ len ver => .get l fun r => match r with
    | (ver', .arr _ _ _) => .vc (A.same ver ver') (.ret len)
    | _ => .fail
  | .nown l len ver => .get l fun r => match r with
    | (ver', .nest _ _ _ _) => .vc (A.same ver ver') (.ret len)
    | _ => .fail
  | _ => .fail

def newObj' (L : Nat) (x : HO) (k : Nat → AV) : G OpOut :=
  .get L fun r => .ret (.val (k (r.1 + 1)) [(L, r.1 + 1, x)])

def fillC (place : Nat → Option (Nat × Nat)) : List CV → List (Nat × List CV) → Option (List CV)
  | cells, [] => some cells
  | cells, (i, v) :: rest => match place i with
    | none => none
    | some (off, size) => if v.length = size then match patch off v cells with
        | some cs => fillC place cs rest
        | none => none
      else none
def partsv (g : Bool) (σ : Operand → AV) : List (Nat × Operand) → G (List (Nat × List CV))
  | [] => .ret []
  | (i, x) :: r => (cellsv A g (σ x)).bind fun a => (partsv g σ r).bind fun b => .ret ((i, a) :: b)
def sizesv (fs : List Field) : G (List (Nat × Nat)) :=
  match fs with
  | [] => .ret []
  | f :: r => (tiv T f.type).bind fun i => (sizesv r).bind fun b => .ret ((f.offset, i.size) :: b)

def capvs (g : Bool) (σ : Operand → AV) : List Operand → G (List (Nat × Nat))
  | [] => .ret []
  | x :: r => (cellv A g (σ x)).bind fun
    | .bp l ver 0 => (capvs g σ r).bind fun b => .ret ((l, ver) :: b)
    | _ => .fail
/-- So many rows out of cells, one behind the other; zeros behind them. -/
def rowsOf (z : List DV) (sz : Nat) : Nat → List CV → Option (Nat → List DV)
  | 0, _ => some (A.rep z)
  | n + 1, cs => match takeN sz cs with
    | none => none
    | some a => match toDs a, rowsOf z sz n (dropN sz cs) with
      | some x, some r => some (A.app 1 (A.rep x) r)
      | _, _ => none

def intsK (k : IntKind) : List CV → Option (List Int)
  | [] => some []
  | .d (.v (.int k' n)) :: r => if k' = k then (intsK k r).map (n :: ·) else none
  | _ => none
def headK : List CV → Option IntKind
  | .d (.v (.int k _)) :: _ => some k
  | _ => none
/-- Cells that stand at place 'j' of each row. -/
def colN (sz j : Nat) : Nat → List Int → List Int
  | 0, _ => []
  | n + 1, l => match dropN j l with
    | x :: _ => x :: colN sz j n (dropN sz l)
    | [] => []
def colsN (sz : Nat) (l : List Int) : Nat → Nat → List (List Int)
  | 0, _ => []
  | n + 1, j => colN sz j l.length l :: colsN sz l n (j + 1)
/-- So many rows that their place may be unknown. -/
def litOk (two : Bool) (sz : Nat) (cs : List CV) : Bool := bif nbeq sz 1 then nble (bif two then 2 else 3) cs.length else (bif nbeq sz 0 then false else nble (3 * sz) cs.length)
def litRow (two : Bool) (sz : Nat) (cs : List CV) (row : Nat → List DV) : Nat → List DV :=
  bif litOk two sz cs then (match headK cs with
  | some k => (match intsK k cs with
    | some l => fun i => (colsN sz l sz 0).map fun c => .v (.int k (A.sel c i))
    | none => row)
  | none => row) else row

def binSem (op : BinOp) (k : IntKind) (a b : Int) : Option Value :=
  match op with
  | .add | .sub | .mul | .xor | .and => some (.int k (A.ar op k a b))
  | .eql | .neq | .lss | .leq | .gtr | .geq => some (.bool (A.cmp op a b))
  | .shr => match b with
    | .ofNat _ => some (.int k (A.ar op k a b))
    | .negSucc _ => none
  | _ => none
def divSem (op : BinOp) (k : IntKind) (a b : Int) : Option Value :=
  match op with
  | .quo | .rem => some (.int k (A.ar op k a b))
  | _ => none
/-- Cells of whole numbers, bools and strings, pair by pair. -/
def eqCells : List CV → List CV → Option Bool
  | [], [] => some true
  | .d (.v (.int k a)) :: r, .d (.v (.int k' b)) :: s => if k = k' then (eqCells r s).map (A.band (A.cmp .eql a b) ·) else none
  | .d (.v (.bool a)) :: r, .d (.v (.bool b)) :: s => (eqCells r s).map (A.band (A.beq a b) ·)
  | _, _ => none

/-- The cells are of the kinds that a type's zeros are. -/
def kindsB : List CV → List Value → Bool
  | [], [] => true
  | .d (.v (.int k _)) :: r, .int k' _ :: s => decide (k = k') && kindsB r s
  | .d (.v (.bool _)) :: r, .bool _ :: s => kindsB r s
  | _, _ => false

/-! ## Calls -/
/-- Labels with their versions: those whose things are handed over to be written, and those that are lent. -/
structure Lent where
  ex : List (Nat × Nat)
  bo : List (Nat × Nat)
def Lent.none : Lent := ⟨[], []⟩
def Lent.both (a b : Lent) : Lent := ⟨a.ex ++ b.ex, a.bo ++ b.bo⟩
/-- An own box's cells, as they are handed over. -/
def giveCells : List CV → G (List XC × List (Nat × Nat))
  | [] => .ret ([], [])
  | .d x :: r => (giveCells r).bind fun b => .ret (.d x :: b.1, b.2)
  | .own l off len ver :: r => .get l fun q => match q with
    | (ver', .arr sz _ row) => .vc (A.same ver ver') (.vc (A.same off 0) ((giveCells r).bind fun b => .ret (.own sz len row :: b.1, (l, ver) :: b.2)))
    | _ => .fail
  | _ :: _ => .fail
def readOwn (l off len ver : Nat) : G DV := .get l fun q => match q with
  | (ver', .arr sz _ row) => .vc (A.same ver ver') (.ret (.sl sz len (A.sub off row)))
  | _ => .fail
def readNest (l len ver : Nat) : G DV := .get l fun q => match q with
  | (ver', .nest sz _ row none) => .vc (A.same ver ver') (.ret (.sl sz len row))
  | _ => .fail
def readCell (x : CV) : G (DV × List (Nat × Nat)) :=
  match x with
  | .d x => .ret (x, [])
  | .own l off len ver => (readOwn A l off len ver).bind fun y => .ret (y, [(l, ver)])
  | .nown l len ver => (readNest A l len ver).bind fun y => .ret (y, [(l, ver)])
  | _ => .fail
def readCells : List CV → G (List DV × List (Nat × Nat))
  | [] => .ret ([], [])
  | x :: r => (readCell A x).bind fun a => (readCells r).bind fun b => .ret (a.1 :: b.1, a.2 ++ b.2)
def boxD (l ver : Nat) : G (DV × List (Nat × Nat)) := .get l fun q => match q with
  | (ver', .box cells) => .vc (A.same ver ver') ((readCells A cells).bind fun cs => .ret (.p cs.1, (l, ver) :: cs.2))
  | _ => .fail
def capsD : List (Nat × Nat) → G (List DV × List (Nat × Nat))
  | [] => .ret ([], [])
  | (l, ver) :: r => (boxD A l ver).bind fun a => (capsD r).bind fun b => .ret (a.1 :: b.1, a.2 ++ b.2)
def givenCell (ex : Bool) (x : CV) : G (XV × Lent) :=
  match x with
  | .d x => .ret (.d x, .none)
  | .own l off len ver =>
    if ex then .get l fun q => match q with
      | (ver', .arr sz _ row) => .vc (A.same ver ver') (.vc (A.same off 0) (.ret (.own sz len row, ⟨[(l, ver)], []⟩)))
      | _ => .fail
    else (readOwn A l off len ver).bind fun x => .ret (.d x, ⟨[], [(l, ver)]⟩)
  | .nown l len ver =>
    if ex then .get l fun q => match q with
      | (ver', .nest sz _ row none) => .vc (A.same ver ver') (.ret (.nown sz len row, ⟨[(l, ver)], []⟩))
      | _ => .fail
    else (readNest A l len ver).bind fun x => .ret (.d x, ⟨[], [(l, ver)]⟩)
  | .bp l ver off =>
    if ex then .vc (A.same off 0) ((boxD A l ver).bind fun a => .ret (.d a.1, ⟨[], a.2⟩))
    else .get l fun q => match q with
      | (ver', .box cells) => .vc (A.same ver ver') (.vc (A.same off 0) ((giveCells A cells).bind fun cs => .ret (.box cs.1, ⟨(l, ver) :: cs.2, []⟩)))
      | _ => .fail
  | .clo f caps => (capsD A caps).bind fun cs => .ret (.d (.fn f cs.1), ⟨[], cs.2⟩)
  | _ => .fail
def givenCells (ex : Bool) : List CV → G (List XV × Lent)
  | [] => .ret ([], .none)
  | x :: r => (givenCell A ex x).bind fun a => (givenCells ex r).bind fun b => .ret (a.1 :: b.1, a.2.both b.2)
def givenArg (g ex : Bool) (x : AV) : G (XT × Lent) :=
  (opv A g x).bind fun
    | .c x => (givenCell A ex x).bind fun a => .ret (.c a.1, a.2)
    | .agg xs => (givenCells A ex xs).bind fun a => .ret (.agg a.1, a.2)
    | _ => .fail
def givenArgs (g : Bool) (ex : Nat → Bool) (σ : Operand → AV) : Nat → List Operand → G (List XT × Lent)
  | _, [] => .ret ([], .none)
  | i, x :: r => (givenArg A g (ex i) (σ x)).bind fun a => (givenArgs g ex σ (i + 1) r).bind fun b => .ret (a.1 :: b.1, a.2.both b.2)
def inLabs : List (Nat × Nat) → Nat → Bool
  | [], _ => false
  | (j, _) :: r, l => bif nbeq j l then true else inLabs r l
/-- No thing is handed over twice, nor lent as well. -/
def exOk : List (Nat × Nat) → List (Nat × Nat) → Bool
  | [], _ => true
  | (j, _) :: r, bo => bif inLabs r j then false else bif inLabs bo j then false else exOk r bo

/-! ### What comes back -/
def cellLab (l j : Nat) : Nat := (l + 1) * 100000 + j
/-- A handed thing's cells, from cell 'j' of box 'l' on, as an own box's. -/
def takenCells (l : Nat) : Nat → List XC → G (List CV × List (Nat × Nat × HO))
  | _, [] => .ret ([], [])
  | j, .d x :: r => (takenCells l (j + 1) r).bind fun b => .ret (.d x :: b.1, b.2)
  | j, .own sz n row :: r => .get (cellLab l j) fun q =>
    (takenCells l (j + 1) r).bind fun b => .ret (.own (cellLab l j) 0 n (q.1 + 1) :: b.1, (cellLab l j, q.1 + 1, .arr sz n row) :: b.2)
/-- One result at label 'L'. -/
def takenCell (L : Nat) (x : XV) : G (CV × List (Nat × Nat × HO)) :=
  match x with
  | .d x => .ret (.d x, [])
  | .own sz n row => .get L fun q => .ret (.own L 0 n (q.1 + 1), [(L, q.1 + 1, .arr sz n row)])
  | .box cells => .get L fun q => (takenCells L 0 cells).bind fun b => .ret (.bp L (q.1 + 1) 0, (L, q.1 + 1, .box b.1) :: b.2)
  | .nown sz n row => .get L fun q => .ret (.nown L n (q.1 + 1), [(L, q.1 + 1, .nest sz n row none)])
def takenList (L : Nat) : Nat → List XV → G (List CV × List (Nat × Nat × HO))
  | _, [] => .ret ([], [])
  | k, x :: r => (takenCell (L + k) x).bind fun a => (takenList L (k + 1) r).bind fun b => .ret (a.1 :: b.1, a.2 ++ b.2)
def taken1 (L k : Nat) (x : XT) : G (TV × Nat × List (Nat × Nat × HO)) :=
  match x with
  | .c x => (takenCell (L + k) x).bind fun a => .ret (.c a.1, k + 1, a.2)
  | .agg xs => (takenList L k xs).bind fun a => .ret (.agg a.1, k + xs.length, a.2)
def takenTup (L : Nat) : Nat → List XT → G (List TV × List (Nat × Nat × HO))
  | _, [] => .ret ([], [])
  | k, x :: r => (taken1 L k x).bind fun a => (takenTup L a.2.1 r).bind fun b => .ret (a.1 :: b.1, a.2.2 ++ b.2)
def taken (L : Nat) (x : XA) : G (AV × List (Nat × Nat × HO)) :=
  match x with
  | .tup xs => (takenTup L 0 xs).bind fun a => .ret (.tup a.1, a.2)
  | .one x => (taken1 L 0 x).bind fun a => .ret (a.1.av, a.2.2)
/-- What was handed over to be written is as the call left it. -/
def backArg (x : AV) (b : Option XV) : G (List (Nat × Nat × HO)) :=
  match x, b with
  | .c (.bp l ver off), some (.box cells) => .get l fun q => match q with
    | (ver', .box _) => .vc (A.same ver ver') (.vc (A.same off 0) ((takenCells l 0 cells).bind fun a => .ret ((l, ver, .box a.1) :: a.2)))
    | _ => .fail
  | .c (.own l off _ ver), some (.own sz n row) => .get l fun q => match q with
    | (ver', .arr sz' n' _) => bif nbeq sz sz' then .vc (A.same ver ver') (.vc (A.same off 0) (.vc (A.same n n') (.ret [(l, ver, .arr sz n row)]))) else .fail
    | _ => .fail
  | .c (.nown l _ ver), some (.nown sz n row) => .get l fun q => match q with
    | (ver', .nest sz' n' _ none) => bif nbeq sz sz' then .vc (A.same ver ver') (.vc (A.same n n') (.ret [(l, ver, .nest sz n row none)])) else .fail
    | _ => .fail
  | _, none => .ret []
  | _, _ => .fail
def backArgG (g : Bool) (x : AV) (b : Option XV) : G (List (Nat × Nat × HO)) :=
  match x, b with
  | .gd t (.c y), some b => .vc (A.imp g t) (backArg A (.c y) (some b))
  | x, b => backArg A x b
def backArgs (g : Bool) (σ : Operand → AV) : List Operand → List (Option XV) → G (List (Nat × Nat × HO))
  | [], [] => .ret []
  | x :: r, b :: s => (backArgG A g (σ x) b).bind fun a => (backArgs g σ r s).bind fun c => .ret (a ++ c)
  | _, _ => .fail
def hasLab : List (Nat × Nat × HO) → Nat → Bool
  | [], _ => false
  | (j, _) :: r, l => bif nbeq j l then true else hasLab r l
/-- What was handed over and has not come back is gone. -/
def killed (new : List (Nat × Nat × HO)) : List (Nat × Nat) → List (Nat × Nat × HO)
  | [] => []
  | (l, ver) :: r => bif hasLab new l then killed new r else (l, ver + 1, .dead) :: killed new r
def nodupL : List (Nat × Nat × HO) → Bool
  | [] => true
  | (j, _) :: r => bif hasLab r j then false else nodupL r
/-- No part that may lead to what was lent. -/
def plainC : XC → G Bool
  | .d (.v _) => .ret true
  | .own _ n row => .vc (A.flat n row) (.ret true)
  | _ => .fail
def plainCs : List XC → G Bool
  | [] => .ret true
  | x :: r => (plainC A x).bind fun _ => plainCs r
def plainV : XV → G Bool
  | .d (.v _) => .ret true
  | .own _ n row => .vc (A.flat n row) (.ret true)
  | .box cells => plainCs A cells
  | .nown _ _ _ => .ret true
  | _ => .fail
def plainVs : List XV → G Bool
  | [] => .ret true
  | x :: r => (plainV A x).bind fun _ => plainVs r
def plainT : XT → G Bool
  | .c x => plainV A x
  | .agg xs => plainVs A xs
def plainTs : List XT → G Bool
  | [] => .ret true
  | x :: r => (plainT A x).bind fun _ => plainTs r
def plainA : XA → G Bool
  | .one x => plainT A x
  | .tup xs => plainTs A xs
def plainB : List (Option XV) → G Bool
  | [] => .ret true
  | none :: r => plainB r
  | some x :: r => (plainV A x).bind fun _ => plainB r

/-! ### The operations -/
/-- A slice of a slice: from 'a' on up to 'b'. -/
def sliceSem (e : TI) (x : CV) (a b : Int) : G CV :=
  match x with
  | .d (.sl sz n row) => bif nbeq sz e.size then .vc (A.cut a b n) (.ret (.d (.sl sz (A.dif b a) (A.sub (A.nat a) row)))) else .fail
  | .d (.v (.slice none 0 0)) => .vc (A.cut a b 0) (.ret (.d (.v nilS)))
  | .own l off len ver => .get l fun q => match q with
    | (ver', .arr sz _ _) => bif nbeq sz e.size then .vc (A.same ver ver') (.vc (A.cut a b len) (.ret (.own l (A.add off (A.nat a)) (A.dif b a) ver))) else .fail
    | _ => .fail
  | _ => .fail
def loSem (g : Bool) (σ : Operand → AV) : Option Operand → G Int
  | some a => (intv A g (σ a)).bind fun n => .ret n.2
  | none => .ret 0
def hiSem (g : Bool) (σ : Operand → AV) (s : CV) : Option Operand → G Int
  | some b => (intv A g (σ b)).bind fun n => .ret n.2
  | none => (lenv A s).bind fun n => .ret (A.int n)
def appendSem (L : Nat) (e : TI) (x : CV) (m : Nat) (new : Nat → List DV) : G OpOut :=
  match x with
  | .d (.v (.slice none 0 0)) => .vc (A.room m e.bytes) (newObj' L (.arr e.size m new) fun ver => .c (.own L 0 m ver))
  | .zc => .vc (A.room m e.bytes) (newObj' L (.arr e.size m new) fun ver => .c (.own L 0 m ver))
  | .own l off len ver => .get l fun q => match q with
    | (ver', .arr sz n row) => bif nbeq sz e.size then .vc (A.same ver ver') (.vc (A.same off 0) (.vc (A.same len n) (.vc (A.room (A.add n m) e.bytes)
        (.ret (.val (.c (.own l 0 (A.add n m) (ver + 1))) [(l, ver + 1, .arr sz (A.add n m) (A.app n row new))]))))) else .fail
    | _ => .fail
  | _ => .fail

/-- One row, whose cells are named, behind a nest's rows. -/
def nestApp (L : Nat) (e : TI) (x : CV) (l2 ver2 : Nat) : G OpOut :=
  .get l2 fun q => match q with
  | (v2, .nest sz2 n2 _ (some (_, cells))) => bif nbeq sz2 e.size && (nbeq n2 1 && noJunk cells) then .vc (A.same ver2 v2) (match x with
    | .d (.v (.slice none 0 0)) => .vc (A.room 1 e.bytes) (.get L fun r => .ret (.val (.c (.nown L 1 (r.1 + 1))) [(L, r.1 + 1, .nest sz2 1 (A.rep []) (some (0, cells))), (l2, v2 + 1, .dead)]))
    | .zc => .vc (A.room 1 e.bytes) (.get L fun r => .ret (.val (.c (.nown L 1 (r.1 + 1))) [(L, r.1 + 1, .nest sz2 1 (A.rep []) (some (0, cells))), (l2, v2 + 1, .dead)]))
    | .nown l len ver => .get l fun q => match q with
      | (ver', .nest sz n row none) => bif nbeq sz e.size then .vc (A.same ver ver') (.vc (A.same len n) (.vc (A.room (A.add n 1) e.bytes)
          (.ret (.val (.c (.nown l (A.add n 1) (ver + 1))) [(l, ver + 1, .nest sz (A.add n 1) row (some (n, cells))), (l2, v2 + 1, .dead)])))) else .fail
      | _ => .fail
    | _ => .fail) else .fail
  | _ => .fail
/-- Rows laid over an own row's first ones. -/
def copySem (e : TI) (x : CV) (m : Nat) (new : Nat → List DV) : G OpOut :=
  match x with
  | .own l off len ver => .get l fun q => match q with
    | (ver', .arr sz n row) => bif nbeq sz e.size then .vc (A.same ver ver') (.ret (.val (.c (.d (.v (.int .i64 (A.mn (A.int len) (A.int m))))))
        [(l, ver', .arr sz n (A.app off row (A.app (A.nat (A.mn (A.int len) (A.int m))) new (A.sub (A.add off (A.nat (A.mn (A.int len) (A.int m)))) row))))])) else .fail
    | _ => .fail
  | _ => .fail

def allNone : List (Option XV) → Bool
  | [] => true
  | none :: r => allNone r
  | some _ :: _ => false
def splitB : Nat → List (Option XV) → Option (List (Option XV))
  | 0, l => if allNone l then some [] else none
  | _ + 1, [] => none
  | n + 1, x :: r => (splitB n r).map (x :: ·)
def callRet (g : Bool) (σ : Operand → AV) (L : Nat) (keeps : Bool) (args : List Operand) (le : Lent) (out : Out) : G (AV × List (Nat × Nat × HO)) :=
  (taken L out.res).bind fun r => (optv (splitB args.length out.back)).bind fun bs => (backArgs A g σ args bs).bind fun us =>
    match le.bo, keeps with
    | [], _ => .ret (r.1, r.2 ++ us ++ killed (r.2 ++ us) le.ex)
    | _, true => .ret (r.1, r.2 ++ us ++ killed (r.2 ++ us) (le.ex ++ le.bo))
    | _, false => (plainA A out.res).bind fun _ => (plainB A out.back).bind fun _ => .ret (r.1, r.2 ++ us ++ killed (r.2 ++ us) le.ex)
def callSem (g : Bool) (σ : Operand → AV) (L : Nat) (f : FuncId) (args : List Operand) (caps : List DV) (bo : List (Nat × Nat)) : G OpOut :=
  (givenArgs A g (fun i => (EX f).1.contains i) σ 0 args).bind fun as =>
    bif exOk as.2.ex (as.2.bo ++ bo) then
      .ret (.call f (as.1 ++ caps.map fun x => .c (.d x)) (callRet A g σ L (EX f).2 args ⟨as.2.ex, as.2.bo ++ bo⟩))
    else .fail

def opvs (g : Bool) (σ : Operand → AV) : List Operand → G (List AV)
  | [] => .ret []
  | x :: r => (opv A g (σ x)).bind fun a => (opvs g σ r).bind fun b => .ret (a :: b)
def inlSem (g : Bool) (σ : Operand → AV) (f : FuncId) (args : List Operand) (caps : List DV) : G OpOut :=
  match caps with
  | [] => (opvs A g σ args).bind fun as => .ret (.inl f as)
  | _ => .fail
def semOp (o : Oper) (g : Bool) (σ : Operand → AV) : G OpOut :=
  let L := (o.dst.getD 0) * 64 + baseOf EX
  let val (x : AV) : G OpOut := .ret (.val x [])
  match o.op with
  | .move x | .assign x => (opv A g (σ x)).bind val
  | .pick c a b => (boolv A g (σ c)).bind fun t =>
      (boolv A (A.band g t) (σ a)).bind fun x => (boolv A (A.band g (A.bnot t)) (σ b)).bind fun y => val (.c (.d (.v (.bool (A.bite t x y)))))
  | .alloc t => (tiv T t).bind fun i => newObj' L (.box (i.zero.map fun x => .d (.v x))) fun ver => .c (.bp L ver 0)
  | .box _ x => (cellsv A g (σ x)).bind fun cs => newObj' L (.box cs) fun ver => .c (.bp L ver 0)
  | .build t parts => (tiv T t).bind fun i => match i.desc with
    | .struct fs => (sizesv T fs.toList).bind fun ps => (partsv A g σ parts.toList).bind fun vs =>
        (optv (fillC (fun k => ps[k]?) (i.zero.map fun x => .d (.v x)) vs)).bind fun cs => val (.agg cs)
    | _ => .fail
  | .buildSlice t len parts => (elemv T t).bind fun e => (partsv A g σ parts.toList).bind fun vs =>
      (optv (fillC (fun k => some (k * e.size, e.size)) ((List.replicate len (e.zero.map fun x => CV.d (.v x))).flatten) vs)).bind fun cs =>
        match rowsOf A (e.zero.map .v) e.size len cs with
        | none => bif nbeq len 1 && (noJunk cs && nble e.size 16777216) then newObj' L (.nest e.size 1 (A.rep []) (some (0, cs))) fun ver => .c (.nown L 1 ver) else .fail
        | some rows => bif nble (len * e.size) 16777216 then (newObj' L (.arr e.size len (litRow A (EX 0).2 e.size cs rows)) fun ver => .c (.own L 0 len ver)) else .fail
  | .load t p => (tiv T t).bind fun i => (cellv A g (σ p)).bind fun
    | .bp l ver off => .get l fun q => match q with
      | (ver', .box cells) => .vc (A.same ver ver') ((optv (takeN i.size (dropN off cells))).bind fun cs => (mkAV (isAggT i.desc) cs).bind val)
      | _ => .fail
    | .op l ver row off => .get l fun q => match q with
      | (ver', .arr _ _ rows) => .vc (A.same ver ver') ((optv (takeN i.size (dropN off (rows row)))).bind fun cs => (mkAV (isAggT i.desc) (cs.map .d)).bind val)
      | _ => .fail
    | .nop l ver row off => .get l fun q => match q with
      | (ver', .nest _ _ _ (some (r, cells))) => .vc (A.same ver ver') (.vc (A.same row r) ((optv (takeN i.size (dropN off cells))).bind fun cs => (mkAV (isAggT i.desc) cs).bind val))
      | _ => .fail
    | .d (.p cells) => (optv (takeN i.size cells)).bind fun cs => (mkAV (isAggT i.desc) (cs.map .d)).bind val
    | _ => .fail
  | .store t p x => (tiv T t).bind fun i => (cellsv A g (σ x)).bind fun xs => bif nbeq xs.length i.size && noJunk xs then (cellv A g (σ p)).bind fun
    | .bp l ver off => .get l fun q => match q with
      | (ver', .box cells) => .vc (A.same ver ver') ((optv (patch off xs cells)).bind fun cs => .ret (.val (.c .junk) [(l, ver', .box cs)]))
      | _ => .fail
    | .op l ver row off => .get l fun q => match q with
      | (ver', .arr sz n rows) => .vc (A.same ver ver') ((optv (toDs xs)).bind fun ds => (optv (patch off ds (rows row))).bind fun cs =>
          .ret (.val (.c .junk) [(l, ver', .arr sz n (A.upd rows row cs))]))
      | _ => .fail
    | .nop l ver row off => .get l fun q => match q with
      | (ver', .nest sz n rows (some (r, cells))) => .vc (A.same ver ver') (.vc (A.same row r) ((optv (patch off xs cells)).bind fun cs => .ret (.val (.c .junk) [(l, ver', .nest sz n rows (some (r, cs)))])))
      | _ => .fail
    | _ => .fail
    else .fail
  | .nilCheck x => (cellv A g (σ x)).bind fun
    | .bp l ver off => .get l fun q => match q with
      | (ver', .box _) => .vc (A.same ver ver') (val (.c (.bp l ver off)))
      | _ => .fail
    | .op l ver row off => .get l fun q => match q with
      | (ver', .arr _ _ _) => .vc (A.same ver ver') (val (.c (.op l ver row off)))
      | _ => .fail
    | .nop l ver row off => .get l fun q => match q with
      | (ver', .nest _ _ _ _) => .vc (A.same ver ver') (val (.c (.nop l ver row off)))
      | _ => .fail
    | .d (.p cells) => val (.c (.d (.p cells)))
    | _ => .fail
  | .binOp op t x y _ => (opv A g (σ x)).bind fun a => (opv A g (σ y)).bind fun b => match a, b with
    | .c (.d (.v (.int k m))), .c (.d (.v (.int k' n))) => if k = k' then match binSem A op k m n with
        | some v => val (.c (.d (.v v)))
        | none => match divSem A op k m n with
          | some v => .vc (A.nz g n) (val (.c (.d (.v v))))
          | none => .fail
        else .fail
    | .c (.d (.v (.bool m))), .c (.d (.v (.bool n))) => (tiv T t).bind fun i => match op, i.desc with
        | .eql, .bool => val (.c (.d (.v (.bool (A.beq m n)))))
        | .neq, .bool => val (.c (.d (.v (.bool (A.bnot (A.beq m n))))))
        | _, _ => .fail
    | .agg xs, .agg ys => (tiv T t).bind fun i => if i.eqk && kindsB xs i.zero then (optv (eqCells A xs ys)).bind fun r => match op with
        | .eql => val (.c (.d (.v (.bool r))))
        | .neq => val (.c (.d (.v (.bool (A.bnot r)))))
        | _ => .fail
        else .fail
    | .c (.d (.v (.slice ad 0 _))), .c (.d (.v (.slice none 0 0))) => (tiv T t).bind fun i => match op, i.desc with
        | .eql, .slice _ => val (.c (.d (.v (.bool ad.isNone))))
        | _, _ => .fail
    | .c (.d (.sl _ n _)), .c (.d (.v (.slice none 0 0))) => (tiv T t).bind fun i => match op, i.desc with
        | .eql, .slice _ => .vc (A.inb true 0 n) (val (.c (.d (.v (.bool false)))))
        | _, _ => .fail
    | _, _ => .fail
  | .unOp .neg _ x => (intv A g (σ x)).bind fun n => val (.c (.d (.v (.int n.1 (A.ar .sub n.1 0 n.2)))))
  | .unOp .not _ x => (boolv A g (σ x)).bind fun b => val (.c (.d (.v (.bool (A.bnot b)))))
  | .convert src dst x => (tiv T src).bind fun _ => (tiv T dst).bind fun i => match i.desc with
    | .int k => (intv A g (σ x)).bind fun n => val (.c (.d (.v (.int k (A.wrap k n.2)))))
    | _ => .fail
  | .makeFunc (.func f) first caps => if first.size = 0 then (capvs A g σ caps.toList).bind fun cs => val (.c (match cs with | [] => .d (.fn f []) | cs => .clo f cs)) else .fail
  | .makeSlice t len cap => (elemv T t).bind fun e => (intv A g (σ len)).bind fun n => (intv A g (σ cap)).bind fun c =>
      .vc (A.made n.2 c.2 e.bytes) (bif (EX 9998).1.contains (o.dst.getD 0) then val (.c (.d (.sl e.size (A.nat n.2) (A.rep (e.zero.map .v))))) else newObj' L (.arr e.size (A.nat n.2) (A.rep (e.zero.map .v))) fun ver => .c (.own L 0 (A.nat n.2) ver))
  | .slice t x lo hi mx => (elemv T t).bind fun e => match mx with
    | none => (cellv A g (σ x)).bind fun s => (loSem A g σ lo).bind fun a => (hiSem A g σ s hi).bind fun b =>
          (sliceSem A e s a b).bind fun y => val (.c y)
    | _ => .fail
  | .fieldAddr t p f => (fieldv T t f).bind fun o => (cellv A g (σ p)).bind fun
    | .bp l ver off => .get l fun q => match q with
      | (ver', .box _) => .vc (A.same ver ver') (val (.c (.bp l ver (off + o.1))))
      | _ => .fail
    | .op l ver row off => .get l fun q => match q with
      | (ver', .arr _ _ _) => .vc (A.same ver ver') (val (.c (.op l ver row (off + o.1))))
      | _ => .fail
    | .nop l ver row off => .get l fun q => match q with
      | (ver', .nest _ _ _ _) => .vc (A.same ver ver') (val (.c (.nop l ver row (off + o.1))))
      | _ => .fail
    | .d (.p cells) => val (.c (.d (.p (dropN o.1 cells))))
    | _ => .fail
  | .field t x f => (fieldv T t f).bind fun o => (opv A g (σ x)).bind fun
    | .agg cs => (optv (takeN o.2.size (dropN o.1 cs))).bind fun cs => (mkAV (isAggT o.2.desc) cs).bind val
    | _ => .fail
  | .indexAddr t x i => (elemv T t).bind fun e => (cellv A g (σ x)).bind fun s => (intv A g (σ i)).bind fun n => match s with
    | .d (.sl sz m row) => bif nbeq sz e.size then .vc (A.inb g n.2 m) (val (.c (.d (.p (row (A.nat n.2)))))) else .fail
    | .own l off len ver => .get l fun q => match q with
      | (ver', .arr sz _ _) => bif nbeq sz e.size then .vc (A.same ver ver') (.vc (A.inb g n.2 len) (val (.c (.op l ver (A.add off (A.nat n.2)) 0)))) else .fail
      | _ => .fail
    | .nown l len ver => .get l fun q => match q with
      | (ver', .nest sz _ _ _) => bif nbeq sz e.size then .vc (A.same ver ver') (.vc (A.inb g n.2 len) (val (.c (.nop l ver (A.nat n.2) 0)))) else .fail
      | _ => .fail
    | _ => .fail
  | .extract x i => (opv A g (σ x)).bind fun
    | .tup xs => (optv xs[i]?).bind fun y => val y.av
    | _ => .fail
  | .call ⟨.builtin .len, args, ts⟩ => match args.toList, ts[0]? with
    | [x], some t => (tiv T t).bind fun i => match i.desc with
      | .slice _ => (cellv A g (σ x)).bind fun s => (lenv A s).bind fun n => val (.c (.d (.v (.int .i64 (A.int n)))))
      | _ => .fail
    | _, _ => .fail
  | .call ⟨.builtin .append, args, ts⟩ => match args.toList, ts[0]?, ts[1]? with
    | [x, y], some t, some u => (tiv T u).bind fun iu => match iu.desc with
      | .slice _ => (elemv T t).bind fun e => (cellv A g (σ x)).bind fun a => (cellv A g (σ y)).bind fun b => match b with
        | .nown l2 _ ver2 => nestApp A L e a l2 ver2
        | b => (rowsv A e b).bind fun new => appendSem A L e a new.1 new.2
      | _ => .fail
    | _, _, _ => .fail
  | .call ⟨.builtin .copy, args, ts⟩ => match args.toList, ts[0]?, ts[1]? with
    | [x, y], some t, some u => (tiv T u).bind fun iu => match iu.desc with
      | .slice _ => (elemv T t).bind fun e => (cellv A g (σ x)).bind fun a => (cellv A g (σ y)).bind fun b => (rowsv A e b).bind fun new => copySem A e a new.1 new.2
      | _ => .fail
    | _, _, _ => .fail
  | .call ⟨.builtin .clear, args, ts⟩ => match args.toList, ts[0]? with
    | [x], some t => (elemv T t).bind fun e => (cellv A g (σ x)).bind fun s => match s with
      | .own l off len ver => .get l fun q => match q with
        | (ver', .arr sz n row) => bif nbeq sz e.size then .vc (A.same ver ver') (.ret (.val (.c .junk) [(l, ver', .arr sz n (A.app off row (A.app len (A.rep (e.zero.map .v)) (A.sub (A.add off len) row))))])) else .fail
        | _ => .fail
      | _ => .fail
    | _, _ => .fail
  | .call ⟨.builtin .min, args, _⟩ => match args.toList with
    | [x, y] => (intv A g (σ x)).bind fun a => (intv A g (σ y)).bind fun b => val (.c (.d (.v (.int a.1 (A.mn a.2 b.2)))))
    | _ => .fail
  | .call ⟨.builtin .max, args, _⟩ => match args.toList with
    | [x, y] => (intv A g (σ x)).bind fun a => (intv A g (σ y)).bind fun b => val (.c (.d (.v (.int a.1 (A.mx a.2 b.2)))))
    | _ => .fail
  | .call ⟨.value h, args, _⟩ => (cellv A g (σ h)).bind fun
    | .d (.fn f caps) => bif (EX f).1.contains 99 then inlSem A g σ f args.toList caps else callSem A EX g σ L f args.toList caps []
    | .clo f caps => (capsD A caps).bind fun cs => callSem A EX g σ L f args.toList cs.1 cs.2
    | _ => .fail
  | _ => .fail
end
end Go.Rk
/- What an abstract state says of the machine's: representation, and how it is carried from one world to the next. -/
namespace Go.Rk
set_option linter.unusedSimpArgs false
set_option linter.unusedVariables false

/-- A data value as it is read in a world, in blocks of which N holds. -/
inductive DRep (w : World) (N : Nat → Prop) : DV → Value → Prop
  | v (x : Value) (h : x.oneCell' = true) : DRep w N (.v x) x
  | nil (sz : Nat) (row : Nat → List DV) : DRep w N (.sl sz 0 row) (.slice none 0 0)
  | empty (sz : Nat) (row : Nat → List DV) (ad : Addr) : DRep w N (.sl sz 0 row) (.slice (some ad) 0 0)
  | sl (sz n : Nat) (row : Nat → List DV) (b off cap : Nat) (cs : Array Value) (e : TypeId) (fr : Nat × Nat) (u : Nat → Nat → Value)
      (hN : N b) (hb : w.heap[b]? = some (.cells cs e fr)) (hc : n ≤ cap) (hs : off + cap * sz ≤ cs.size)
      (hr : ∀ i, i < n → (row i).length = sz)
      (hu : ∀ i j x, i < n → (row i)[j]? = some x → cs[off + i * sz + j]? = some (u i j))
      (hd : ∀ i j x, i < n → (row i)[j]? = some x → DRep w N x (u i j)) :
      DRep w N (.sl sz n row) (.slice (some ⟨b, off, none⟩) n cap)
  | p (cells : List DV) (b off : Nat) (cs : Array Value) (e : TypeId) (fr : Nat × Nat) (u : Nat → Value)
      (hN : N b) (hb : w.heap[b]? = some (.cells cs e fr))
      (hu : ∀ j x, cells[j]? = some x → cs[off + j]? = some (u j))
      (hd : ∀ j x, cells[j]? = some x → DRep w N x (u j)) :
      DRep w N (.p cells) (.pointer (some ⟨b, off, none⟩))
  | fn (f : FuncId) (caps : List DV) (cs : Array Value) (u : Nat → Value) (hn : cs.size = caps.length)
      (hu : ∀ j x, caps[j]? = some x → cs[j]? = some (u j))
      (hd : ∀ j x, caps[j]? = some x → DRep w N x (u j)) :
      DRep w N (.fn f caps) (.func (.func f) #[] cs)

theorem DRep.carry {w w' : World} {N N' : Nat → Prop} (h : ∀ b, N b → w'.heap[b]? = w.heap[b]? ∧ N' b) {x : DV} {v : Value} (hx : DRep w N x v) : DRep w' N' x v := by
  induction hx with
  | v x h' => exact .v x h'
  | nil sz row => exact .nil sz row
  | empty sz row ad => exact .empty sz row ad
  | sl sz n row b off cap cs e fr u hN hb hc hs hr hu hd ih => exact .sl sz n row b off cap cs e fr u (h b hN).2 (by rw [(h b hN).1]; exact hb) hc hs hr hu ih
  | p cells b off cs e fr u hN hb hu hd ih => exact .p cells b off cs e fr u (h b hN).2 (by rw [(h b hN).1]; exact hb) hu ih
  | fn f caps cs u hn hu hd ih => exact .fn f caps cs u hn hu ih

/-- What owns all that it leads to: values, and slices of such, each in a block of its own; F holds just of these blocks. -/
inductive NRep (w : World) : DV → Value → (Nat → Prop) → Prop
  | v (x : Value) (F : Nat → Prop) (h : x.oneCell' = true) (hF : ∀ k, ¬ F k) : NRep w (.v x) x F
  | nil (sz : Nat) (row : Nat → List DV) (a : Option Addr) (F : Nat → Prop) (hF : ∀ k, ¬ F k) : NRep w (.sl sz 0 row) (.slice a 0 0) F
  | sl (sz n : Nat) (row : Nat → List DV) (b base cap : Nat) (cs : Array Value) (e : TypeId) (u : Nat → Nat → Value) (G : Nat → Nat → Nat → Prop) (F : Nat → Prop)
      (hb : w.heap[b]? = some (.cells cs e (0, 0))) (hc : n ≤ cap) (hp : 0 < cap) (hs : base + cap * sz ≤ cs.size)
      (hr : ∀ i, i < n → (row i).length = sz)
      (hu : ∀ i j x, i < n → (row i)[j]? = some x → cs[base + i * sz + j]? = some (u i j))
      (hd : ∀ i j x, i < n → (row i)[j]? = some x → NRep w x (u i j) (G i j))
      (hF : ∀ k, F k ↔ k = b ∨ ∃ i j, i < n ∧ j < sz ∧ G i j k)
      (hG : ∀ i j i' j' k, i < n → j < sz → i' < n → j' < sz → G i j k → G i' j' k → i = i' ∧ j = j')
      (hGb : ∀ i j, i < n → j < sz → ¬ G i j b) :
      NRep w (.sl sz n row) (.slice (some ⟨b, base, none⟩) n cap) F
theorem NRep.carry {w w' : World} {x : DV} {v : Value} {F : Nat → Prop} (hx : NRep w x v F) : (∀ b, F b → w'.heap[b]? = w.heap[b]?) → NRep w' x v F := by
  induction hx with
  | v x F h hF => intro _; exact .v x F h hF
  | nil sz row a F hF => intro _; exact .nil sz row a F hF
  | sl sz n row b base cap cs e u G F hb hc hp hs hr hu hd hF hG hGb ih =>
    intro h
    refine .sl sz n row b base cap cs e u G F (by rw [h b ((hF b).2 (.inl rfl))]; exact hb) hc hp hs hr hu (fun i j x hi hj => ih i j x hi hj fun k hk => h k ((hF k).2 (.inr ⟨i, j, hi, ?_, hk⟩))) hF hG hGb
    rw [← hr i hi]; exact (List.getElem?_eq_some_iff.1 hj).1
theorem NRep.eqv {w : World} {x : DV} {v : Value} {F F' : Nat → Prop} (hx : NRep w x v F) (h : ∀ k, F' k ↔ F k) : NRep w x v F' := by
  have : F' = F := funext fun k => propext (h k)
  rw [this]; exact hx
/-- Read as data. -/
theorem NRep.data {w : World} {N : Nat → Prop} {x : DV} {v : Value} {F : Nat → Prop} (hx : NRep w x v F) : (∀ b, F b → N b) → DRep w N x v := by
  induction hx with
  | v x F h hF => intro _; exact .v x h
  | nil sz row a F hF =>
    intro _
    cases a with
    | none => exact .nil sz row
    | some a => exact .empty sz row a
  | sl sz n row b base cap cs e u G F hb hc hp hs hr hu hd hF hG hGb ih =>
    intro h
    refine .sl sz n row b base cap cs e (0, 0) u (h b ((hF b).2 (.inl rfl))) hb hc hs hr hu (fun i j x hi hj => ih i j x hi hj fun k hk => h k ((hF k).2 (.inr ⟨i, j, hi, ?_, hk⟩)))
    rw [← hr i hi]; exact (List.getElem?_eq_some_iff.1 hj).1
theorem NRep.one {w : World} {x : DV} {v : Value} {F : Nat → Prop} (hx : NRep w x v F) : v.oneCell' = true := by cases hx <;> first | assumption | rfl

abbrev Objs := Nat → Nat × HO
/-- Where a label's own block lies; and, of a nest, the blocks that its rows lead to. -/
structure Place where
  m : Nat → Option (Nat × Nat)
  k : Nat → List Nat
instance : CoeFun Place (fun _ => Nat → Option (Nat × Nat)) := ⟨Place.m⟩
def Has (μ : Place) (l b : Nat) : Prop := (∃ base, μ l = some (b, base)) ∨ b ∈ μ.k l
def isNest : HO → Bool
  | .nest _ _ _ _ => true
  | _ => false
def live (σ : Objs) (l : Nat) : Prop := (σ l).2 ≠ .dead
/-- Blocks that were handed over to be written; blocks that may be read, or written anew. -/
structure Sets where
  own : Nat → Prop
  lent : Nat → Prop
  gh : List (AV × Value)
  free : Bool
  kp : List (Nat × Nat × Option (Nat × Nat))
instance : CoeFun Sets (fun _ => Nat → Prop) := ⟨Sets.own⟩
/-- The blocks that nobody here writes. -/
def Nof (S : Sets) (σ : Objs) (μ : Place) (w : World) (b : Nat) : Prop := b < w.heap.size ∧ S.lent b ∧ ∀ l, live σ l → ¬ Has μ l b

def CRep (σ : Objs) (μ : Place) (w : World) (N : Nat → Prop) : CV → Value → Prop
  | .junk, _ => True
  | .d x, v => DRep w N x v
  | .zc, v => ∃ a, v = .slice a 0 0
  | .own l off len ver, v => v.oneCell' = true ∧ ver ≤ (σ l).1 ∧ ∀ sz n row, σ l = (ver, .arr sz n row) → off + len ≤ n ∧
      ((μ l = none ∧ len = 0 ∧ ∃ a, v = .slice a 0 0) ∨
        ∃ b base o cap cs e, μ l = some (b, base) ∧ v = .slice (some ⟨b, o, none⟩) len cap ∧ len ≤ cap ∧ (0 < len ∨ off = 0 → o = base + off * sz) ∧
          w.heap[b]? = some (.cells cs e (0, 0)) ∧ o + cap * sz ≤ cs.size ∧ (off = 0 → 0 < cap))
  | .bp l ver off, v => v.oneCell' = true ∧ ver ≤ (σ l).1 ∧ ∀ cells, σ l = (ver, .box cells) → ∃ b, μ l = some (b, 0) ∧ v = .pointer (some ⟨b, off, none⟩)
  | .op l ver row off, v => v.oneCell' = true ∧ ver ≤ (σ l).1 ∧ ∀ sz n rw, σ l = (ver, .arr sz n rw) → row < n ∧ ∃ b base, μ l = some (b, base) ∧ v = .pointer (some ⟨b, base + row * sz + off, none⟩)
  | .nown l len ver, v => v.oneCell' = true ∧ ver ≤ (σ l).1 ∧ ∀ sz n row foc, σ l = (ver, .nest sz n row foc) → len = n ∧
      ((μ l = none ∧ len = 0 ∧ ∃ a, v = .slice a 0 0) ∨
        ∃ b base cap cs e, μ l = some (b, base) ∧ v = .slice (some ⟨b, base, none⟩) len cap ∧ len ≤ cap ∧ 0 < cap ∧ w.heap[b]? = some (.cells cs e (0, 0)) ∧ base + cap * sz ≤ cs.size)
  | .nop l ver row off, v => v.oneCell' = true ∧ ver ≤ (σ l).1 ∧ ∀ sz n rw foc, σ l = (ver, .nest sz n rw foc) → row < n ∧ ∃ b base, μ l = some (b, base) ∧ v = .pointer (some ⟨b, base + row * sz + off, none⟩)
  | .clo f caps, v => ∃ cs : Array Value, v = .func (.func f) #[] cs ∧ cs.size = caps.length ∧
      ∀ (j l ver : Nat), caps[j]? = some (l, ver) → ver ≤ (σ l).1 ∧ ∀ cells, σ l = (ver, .box cells) → ∃ b, μ l = some (b, 0) ∧ cs[j]? = some (Value.pointer (some ⟨b, 0, none⟩))

def CsRep (σ : Objs) (μ : Place) (w : World) (N : Nat → Prop) : List CV → List Value → Prop
  | [], [] => True
  | x :: r, v :: s => CRep σ μ w N x v ∧ CsRep σ μ w N r s
  | _, _ => False
def TRep (σ : Objs) (μ : Place) (w : World) (N : Nat → Prop) : TV → Value → Prop
  | .c x, v => CRep σ μ w N x v
  | .agg xs, v => ∃ cs : Array Value, v = .agg cs ∧ CsRep σ μ w N xs cs.toList
def TsRep (σ : Objs) (μ : Place) (w : World) (N : Nat → Prop) : List TV → List Value → Prop
  | [], [] => True
  | x :: r, v :: s => TRep σ μ w N x v ∧ TsRep σ μ w N r s
  | _, _ => False
def ARep (σ : Objs) (μ : Place) (w : World) (N : Nat → Prop) : AV → Value → Prop
  | .c x, v => CRep σ μ w N x v
  | .agg xs, v => ∃ cs : Array Value, v = .agg cs ∧ CsRep σ μ w N xs cs.toList
  | .tup xs, v => ∃ cs : Array Value, v = .tuple cs ∧ TsRep σ μ w N xs cs.toList
  | .gd t x, v => (t = true → ARep σ μ w N x v) ∧ (t = false → v = undef)

/-- Rows of which all but those that lie open own what they lead to. -/
def Kids (w : World) (cs : Array Value) (base sz n : Nat) (row : Nat → List DV) (skip : Nat → Prop) (F : Nat → Prop) : Prop :=
  (∀ i, i < n → ¬ skip i → (row i).length = sz) ∧ ∃ G : Nat → Nat → Nat → Prop,
    (∀ i j x, i < n → ¬ skip i → (row i)[j]? = some x → ∃ u, cs[base + i * sz + j]? = some u ∧ NRep w x u (G i j)) ∧
    (∀ k, F k ↔ ∃ i j, i < n ∧ ¬ skip i ∧ j < sz ∧ G i j k) ∧
    ∀ i j i' j' k, i < n → ¬ skip i → j < sz → i' < n → ¬ skip i' → j' < sz → G i j k → G i' j' k → i = i' ∧ j = j'
def isFoc (foc : Option (Nat × List CV)) (i : Nat) : Prop := ∃ c, foc = some (i, c)
/-- The row that lies open. -/
def FocRep (σ : Objs) (μ : Place) (w : World) (N : Nat → Prop) (cs : Array Value) (base sz n : Nat) (foc : Option (Nat × List CV)) : Prop :=
  ∀ i cells, foc = some (i, cells) → i < n ∧ cells.length = sz ∧ ∀ (j : Nat) x, cells[j]? = some x → ∃ u, cs[base + i * sz + j]? = some u ∧ CRep σ μ w N x u
theorem Kids.carry {w w' : World} {cs : Array Value} {base sz n : Nat} {row : Nat → List DV} {skip F : Nat → Prop} (h : ∀ b, F b → w'.heap[b]? = w.heap[b]?) (hk : Kids w cs base sz n row skip F) : Kids w' cs base sz n row skip F := by
  obtain ⟨h0, G, h1, h2, h3⟩ := hk
  refine ⟨h0, G, fun i j x hi hn hj => ?_, h2, h3⟩
  obtain ⟨u, hu, hd⟩ := h1 i j x hi hn hj
  exact ⟨u, hu, hd.carry fun b hb => h b ((h2 b).2 ⟨i, j, hi, hn, by rw [← h0 i hi hn]; exact (List.getElem?_eq_some_iff.1 hj).1, hb⟩)⟩

/-- An own thing as it lies. -/
def ObjRep (σ : Objs) (μ : Place) (w : World) (N : Nat → Prop) (l : Nat) : HO → Prop
  | .dead => True
  | .box cells => ∃ b cs e, μ l = some (b, 0) ∧ w.heap[b]? = some (.cells cs e (0, 0)) ∧ CsRep σ μ w N cells cs.toList
  | .arr sz n row => (∀ i, i < n → (row i).length = sz) ∧ ((μ l = none ∧ n = 0) ∨
      ∃ b base cs e, μ l = some (b, base) ∧ w.heap[b]? = some (.cells cs e (0, 0)) ∧ base + n * sz ≤ cs.size ∧
        ∀ i j x, i < n → (row i)[j]? = some x → ∃ u, cs[base + i * sz + j]? = some u ∧ DRep w N x u)
  | .nest sz n row foc => (μ l = none ∧ n = 0 ∧ foc = none ∧ μ.k l = []) ∨
      ∃ b base cs e, μ l = some (b, base) ∧ w.heap[b]? = some (.cells cs e (0, 0)) ∧ base + n * sz ≤ cs.size ∧ Kids w cs base sz n row (isFoc foc) (fun k => k ∈ μ.k l) ∧ b ∉ μ.k l ∧ (μ.k l).Nodup ∧ FocRep σ μ w N cs base sz n foc

/-- What may turn of a label, so that what speaks of it stays true. -/
def Keeps (σ σ' : Objs) (μ μ' : Place) (w w' : World) (l : Nat) : Prop :=
  (σ l).1 < (σ' l).1 ∨ ((σ l).1 = (σ' l).1 ∧ μ' l = μ l ∧
    (∀ cells, (σ' l).2 = .box cells → ∃ cells', (σ l).2 = .box cells') ∧
    (∀ sz n row, (σ' l).2 = .arr sz n row → ∃ n' row', (σ l).2 = .arr sz n' row' ∧ n' ≤ n) ∧
    (∀ sz n row foc, (σ' l).2 = .nest sz n row foc → ∃ row' foc', (σ l).2 = .nest sz n row' foc') ∧
    (∀ b base cs e, μ l = some (b, base) → (σ' l).2 ≠ .dead → w.heap[b]? = some (.cells cs e (0, 0)) → ∃ cs', w'.heap[b]? = some (.cells cs' e (0, 0)) ∧ cs'.size = cs.size))

structure Step (S : Sets) (σ σ' : Objs) (μ μ' : Place) (w w' : World) : Prop where
  size : w.heap.size ≤ w'.heap.size
  old : ∀ b, Nof S σ μ w b → w'.heap[b]? = w.heap[b]? ∧ Nof S σ' μ' w' b
  lab : ∀ l, Keeps σ σ' μ μ' w w' l

section
variable {S : Sets} {σ σ' : Objs} {μ μ' : Place} {w w' : World}
theorem CRep.step (h : Step S σ σ' μ μ' w w') {x : CV} {v : Value} (hx : CRep σ μ w (Nof S σ μ w) x v) : CRep σ' μ' w' (Nof S σ' μ' w') x v := by
  cases x with
  | junk => trivial
  | d x => exact DRep.carry h.old hx
  | zc => exact hx
  | own l off len ver =>
    obtain ⟨h1c, hv, hx⟩ := hx
    rcases h.lab l with hl | ⟨hl, hm, _, ha, _, hk⟩
    · exact ⟨h1c, by omega, fun sz n row e => by rw [e] at hl; simp at hl; omega⟩
    · refine ⟨h1c, by omega, fun sz n row e => ?_⟩
      obtain ⟨n', row', e', hn⟩ := ha sz n row (by rw [e])
      have es : σ l = (ver, .arr sz n' row') := by
        have : (σ l).1 = ver := by rw [hl, e]
        rw [← this, ← e']
      obtain ⟨h1, h2⟩ := hx sz n' row' es
      refine ⟨by omega, ?_⟩
      rcases h2 with ⟨h2, h3⟩ | ⟨b, base, o, cap, cs, e1, h2, h3, h4, h5, h6, h7, h7'⟩
      · exact .inl ⟨by rw [hm]; exact h2, h3⟩
      · obtain ⟨cs', h8, h9⟩ := hk b base cs e1 h2 (by rw [e]; exact HO.noConfusion) h6
        exact .inr ⟨b, base, o, cap, cs', e1, by rw [hm]; exact h2, h3, h4, h5, h8, by omega, h7'⟩
  | bp l ver off =>
    obtain ⟨h1c, hv, hx⟩ := hx
    rcases h.lab l with hl | ⟨hl, hm, hb, _, _⟩
    · exact ⟨h1c, by omega, fun cells e => by rw [e] at hl; simp at hl; omega⟩
    · refine ⟨h1c, by omega, fun cells e => ?_⟩
      obtain ⟨cells', e'⟩ := hb cells (by rw [e])
      have es : σ l = (ver, .box cells') := by
        have : (σ l).1 = ver := by rw [hl, e]
        rw [← this, ← e']
      obtain ⟨b, h1, h2⟩ := hx cells' es
      exact ⟨b, by rw [hm]; exact h1, h2⟩
  | op l ver row off =>
    obtain ⟨h1c, hv, hx⟩ := hx
    rcases h.lab l with hl | ⟨hl, hm, _, ha, _⟩
    · exact ⟨h1c, by omega, fun sz n rw' e => by rw [e] at hl; simp at hl; omega⟩
    · refine ⟨h1c, by omega, fun sz n rw' e => ?_⟩
      obtain ⟨n', row', e', hn⟩ := ha sz n rw' (by rw [e])
      have es : σ l = (ver, .arr sz n' row') := by
        have : (σ l).1 = ver := by rw [hl, e]
        rw [← this, ← e']
      obtain ⟨h1, b, base, h2, h3⟩ := hx sz n' row' es
      exact ⟨by omega, b, base, by rw [hm]; exact h2, h3⟩
  | nown l len ver =>
    obtain ⟨h1c, hv, hx⟩ := hx
    rcases h.lab l with hl | ⟨hl, hm, _, _, ha, hk⟩
    · exact ⟨h1c, by omega, fun sz n row foc e => by rw [e] at hl; simp at hl; omega⟩
    · refine ⟨h1c, by omega, fun sz n row foc e => ?_⟩
      obtain ⟨row', foc', e'⟩ := ha sz n row foc (by rw [e])
      have es : σ l = (ver, .nest sz n row' foc') := by
        have : (σ l).1 = ver := by rw [hl, e]
        rw [← this, ← e']
      obtain ⟨h1, h2⟩ := hx sz n row' foc' es
      refine ⟨h1, ?_⟩
      rcases h2 with ⟨h2, h3⟩ | ⟨b, base, cap, cs, e1, h2, h3, h4, h5, h6, h7⟩
      · exact .inl ⟨by rw [hm]; exact h2, h3⟩
      · obtain ⟨cs', h8, h9⟩ := hk b base cs e1 h2 (by rw [e]; exact HO.noConfusion) h6
        exact .inr ⟨b, base, cap, cs', e1, by rw [hm]; exact h2, h3, h4, h5, h8, by omega⟩
  | nop l ver row off =>
    obtain ⟨h1c, hv, hx⟩ := hx
    rcases h.lab l with hl | ⟨hl, hm, _, _, ha, _⟩
    · exact ⟨h1c, by omega, fun sz n rw' foc e => by rw [e] at hl; simp at hl; omega⟩
    · refine ⟨h1c, by omega, fun sz n rw' foc e => ?_⟩
      obtain ⟨row', foc', e'⟩ := ha sz n rw' foc (by rw [e])
      have es : σ l = (ver, .nest sz n row' foc') := by
        have : (σ l).1 = ver := by rw [hl, e]
        rw [← this, ← e']
      obtain ⟨h1, b, base, h2, h3⟩ := hx sz n row' foc' es
      exact ⟨h1, b, base, by rw [hm]; exact h2, h3⟩
  | clo f caps =>
    obtain ⟨cs, h1, h2, h3⟩ := hx
    refine ⟨cs, h1, h2, fun j l ver hj => ?_⟩
    obtain ⟨hv, hx⟩ := h3 j l ver hj
    rcases h.lab l with hl | ⟨hl, hm, hb, _, _⟩
    · exact ⟨by omega, fun cells e => by rw [e] at hl; simp at hl; omega⟩
    · refine ⟨by omega, fun cells e => ?_⟩
      obtain ⟨cells', e'⟩ := hb cells (by rw [e])
      have es : σ l = (ver, .box cells') := by
        have : (σ l).1 = ver := by rw [hl, e]
        rw [← this, ← e']
      obtain ⟨b, h1, h2⟩ := hx cells' es
      exact ⟨b, by rw [hm]; exact h1, h2⟩
theorem CsRep.step (h : Step S σ σ' μ μ' w w') : ∀ {xs : List CV} {vs : List Value}, CsRep σ μ w (Nof S σ μ w) xs vs → CsRep σ' μ' w' (Nof S σ' μ' w') xs vs
  | [], [], _ => trivial
  | _ :: _, _ :: _, hx => ⟨hx.1.step h, CsRep.step h hx.2⟩
  | [], _ :: _, hx => hx.elim
  | _ :: _, [], hx => hx.elim
theorem TRep.step (h : Step S σ σ' μ μ' w w') {x : TV} {v : Value} (hx : TRep σ μ w (Nof S σ μ w) x v) : TRep σ' μ' w' (Nof S σ' μ' w') x v := by
  cases x with
  | c x => exact CRep.step h hx
  | agg xs => obtain ⟨cs, h1, h2⟩ := hx; exact ⟨cs, h1, h2.step h⟩
theorem TsRep.step (h : Step S σ σ' μ μ' w w') : ∀ {xs : List TV} {vs : List Value}, TsRep σ μ w (Nof S σ μ w) xs vs → TsRep σ' μ' w' (Nof S σ' μ' w') xs vs
  | [], [], _ => trivial
  | _ :: _, _ :: _, hx => ⟨hx.1.step h, TsRep.step h hx.2⟩
  | [], _ :: _, hx => hx.elim
  | _ :: _, [], hx => hx.elim
theorem ARep.step (h : Step S σ σ' μ μ' w w') : ∀ {x : AV} {v : Value}, ARep σ μ w (Nof S σ μ w) x v → ARep σ' μ' w' (Nof S σ' μ' w') x v
  | .c _, _, hx => CRep.step h hx
  | .agg _, _, ⟨cs, h1, h2⟩ => ⟨cs, h1, h2.step h⟩
  | .tup _, _, ⟨cs, h1, h2⟩ => ⟨cs, h1, h2.step h⟩
  | .gd _ x, _, hx => ⟨fun ht => ARep.step h (x := x) (hx.1 ht), hx.2⟩
/-- An own thing that has not turned. -/
theorem ObjRep.step (h : Step S σ σ' μ μ' w w') {l : Nat} {o : HO} (hm : μ' l = μ l) (hmk : μ'.k l = μ.k l) (hH : ∀ b, Has μ l b → w'.heap[b]? = w.heap[b]?)
    (ho : ObjRep σ μ w (Nof S σ μ w) l o) : ObjRep σ' μ' w' (Nof S σ' μ' w') l o := by
  have hb : ∀ b base, μ l = some (b, base) → w'.heap[b]? = w.heap[b]? := fun b base e => hH b (.inl ⟨base, e⟩)
  cases o with
  | dead => trivial
  | nest sz n row foc =>
    rcases ho with ⟨h1, h2, h3, h4⟩ | ⟨b, base, cs, e, h1, h2, h3, h4, h5, h6, h7⟩
    · exact .inl ⟨by rw [hm]; exact h1, h2, h3, by rw [hmk]; exact h4⟩
    · refine .inr ⟨b, base, cs, e, by rw [hm]; exact h1, by rw [hb b base h1]; exact h2, h3, ?_, by rw [hmk]; exact h5, by rw [hmk]; exact h6, fun i cells hf => ?_⟩
      · rw [hmk]; exact h4.carry fun b hb => hH b (.inr hb)
      · obtain ⟨q1, q2, q3⟩ := h7 i cells hf
        refine ⟨q1, q2, fun j x hj => ?_⟩
        obtain ⟨u, hu, hc⟩ := q3 j x hj
        exact ⟨u, hu, hc.step h⟩
  | box cells =>
    obtain ⟨b, cs, e, h1, h2, h3⟩ := ho
    exact ⟨b, cs, e, by rw [hm]; exact h1, by rw [hb b 0 h1]; exact h2, h3.step h⟩
  | arr sz n row =>
    refine ⟨ho.1, ?_⟩
    rcases ho.2 with ⟨h1, h2⟩ | ⟨b, base, cs, e, h1, h2, h3, h4⟩
    · exact .inl ⟨by rw [hm]; exact h1, h2⟩
    · refine .inr ⟨b, base, cs, e, by rw [hm]; exact h1, by rw [hb b base h1]; exact h2, h3, fun i j x hi hj => ?_⟩
      obtain ⟨u, hu, hd⟩ := h4 i j x hi hj
      exact ⟨u, hu, DRep.carry h.old hd⟩
end

def labC : CV → Bool
  | .own l _ _ _ => nblt l 64
  | .bp l _ _ => nblt l 64
  | .nown l _ _ => nblt l 64
  | .junk | .d _ | .zc => true
  | _ => false
def labA : AV → Bool
  | .c x => labC x
  | .agg xs => xs.all labC
  | _ => false
/-- The whole: 'w0' the world at the call's begin, 'S' the blocks that were handed over to be written, 'nt' how many temporaries. -/
structure RelM (w0 : World) (S : Sets) (nt : Nat) (sl : Nat → AV) (σ : Objs) (a : Act) (w : World) (μ : Place) : Prop where
  size : a.tmps.size = nt
  defs : a.defers = []
  env : w.os = w0.os ∧ w.output = w0.output ∧ w.tape = w0.tape
  grow : w0.heap.size ≤ w.heap.size
  reach : ∀ b, w0.heap.size ≤ b ∨ S b → S.lent b
  frame : ∀ b, b < w0.heap.size → ¬ S b → w.heap[b]? = w0.heap[b]?
  shape : ∀ (b : Nat) cs e fr, w0.heap[b]? = some (Obj.cells cs e fr) → ∃ cs', w.heap[b]? = some (Obj.cells cs' e fr) ∧ cs'.size = cs.size
  ownH : ∀ l b, live σ l → Has μ l b → b < w.heap.size ∧ (w0.heap.size ≤ b ∨ S b)
  injH : ∀ l l' b, live σ l → live σ l' → Has μ l b → Has μ l' b → l = l'
  kz : ∀ l, live σ l → isNest (σ l).2 = false → μ.k l = []
  ghost : ∀ p, p ∈ S.gh → ARep σ μ w (Nof S σ μ w) p.1 p.2
  ghl : ∀ p, p ∈ S.gh → labA p.1 = true
  keep : S.free = true → ∀ p, p ∈ S.kp → p.2.1 ≤ (σ p.1).1 ∧ ((σ p.1).1 = p.2.1 → live σ p.1 → μ p.1 = p.2.2)
  objs : ∀ l, ObjRep σ μ w (Nof S σ μ w) l (σ l).2
  slots : ∀ k, ARep σ μ w (Nof S σ μ w) (sl k) (a.tmps.getD k undef)
theorem RelM.own {w0 : World} {S : Sets} {nt : Nat} {sl : Nat → AV} {σ : Objs} {a : Act} {w : World} {μ : Place} (R : RelM w0 S nt sl σ a w μ) (l b base : Nat) (hl : live σ l) (hm : μ l = some (b, base)) : b < w.heap.size ∧ (w0.heap.size ≤ b ∨ S b) := R.ownH l b hl (.inl ⟨base, hm⟩)
theorem RelM.inj {w0 : World} {S : Sets} {nt : Nat} {sl : Nat → AV} {σ : Objs} {a : Act} {w : World} {μ : Place} (R : RelM w0 S nt sl σ a w μ) (l l' b base base' : Nat) (hl : live σ l) (hl' : live σ l') (hm : μ l = some (b, base)) (hm' : μ l' = some (b, base')) : l = l' := R.injH l l' b hl hl' (.inl ⟨base, hm⟩) (.inl ⟨base', hm'⟩)
def Rel (w0 : World) (S : Sets) (nt : Nat) (sl : Nat → AV) (σ : Objs) (a : Act) (w : World) : Prop := ∃ μ, RelM w0 S nt sl σ a w μ
end Go.Rk
/- How the representation goes on: a temporary filled, a new block, a block written. -/
namespace Go.Rk
set_option linter.unusedSimpArgs false
set_option linter.unusedVariables false

theorem CRep.one {σ : Objs} {μ : Place} {w : World} {N : Nat → Prop} {x : CV} {v : Value} (hj : x ≠ .junk) (hx : CRep σ μ w N x v) : v.oneCell' = true := by
  cases x with
  | junk => exact (hj rfl).elim
  | d x => cases hx <;> first | assumption | rfl
  | zc => obtain ⟨a, rfl⟩ := hx; rfl
  | own l off len ver => exact hx.1
  | bp l ver off => exact hx.1
  | op l ver row off => exact hx.1
  | nown l len ver => exact hx.1
  | nop l ver row off => exact hx.1
  | clo f caps => obtain ⟨cs, rfl, _⟩ := hx; rfl

def updO (σ : Objs) (l : Nat) (x : Nat × HO) : Objs := fun k => if k = l then x else σ k
def updP (μ : Place) (l : Nat) (x : Option (Nat × Nat)) : Place := ⟨fun k => if k = l then x else μ k, fun k => if k = l then [] else μ.k k⟩
def putS (sl : Nat → AV) (dst : Option Nat) (x : AV) : Nat → AV := fun k => if dst = some k then x else sl k
@[simp] theorem updO_same (σ : Objs) (l : Nat) (x : Nat × HO) : updO σ l x l = x := by simp [updO]
theorem updO_ne (σ : Objs) {l k : Nat} (x : Nat × HO) (h : k ≠ l) : updO σ l x k = σ k := by simp [updO, h]
@[simp] theorem updP_same (μ : Place) (l : Nat) (x : Option (Nat × Nat)) : updP μ l x l = x := by simp [updP]
theorem updP_ne (μ : Place) {l k : Nat} (x : Option (Nat × Nat)) (h : k ≠ l) : updP μ l x k = μ k := by simp [updP, h]
@[simp] theorem updP_k_same (μ : Place) (l : Nat) (x : Option (Nat × Nat)) : (updP μ l x).k l = [] := by simp [updP]
theorem updP_k_ne (μ : Place) {l k : Nat} (x : Option (Nat × Nat)) (h : k ≠ l) : (updP μ l x).k k = μ.k k := by simp [updP, h]
theorem has_updP_same {μ : Place} {l b : Nat} {x : Option (Nat × Nat)} : Has (updP μ l x) l b ↔ ∃ base, x = some (b, base) := by
  unfold Has; rw [updP_same, updP_k_same]; simp
theorem has_updP_ne {μ : Place} {l k b : Nat} {x : Option (Nat × Nat)} (h : k ≠ l) : Has (updP μ l x) k b ↔ Has μ k b := by
  unfold Has; rw [updP_ne _ _ h, updP_k_ne _ _ h]
/-- A label's place, and what its rows lead to. -/
def updK (μ : Place) (l : Nat) (x : Option (Nat × Nat)) (ks : List Nat) : Place := ⟨fun k => if k = l then x else μ k, fun k => if k = l then ks else μ.k k⟩
@[simp] theorem updK_same (μ : Place) (l : Nat) (x : Option (Nat × Nat)) (ks : List Nat) : updK μ l x ks l = x := by simp [updK]
theorem updK_ne (μ : Place) {l k : Nat} (x : Option (Nat × Nat)) (ks : List Nat) (h : k ≠ l) : updK μ l x ks k = μ k := by simp [updK, h]
@[simp] theorem updK_k_same (μ : Place) (l : Nat) (x : Option (Nat × Nat)) (ks : List Nat) : (updK μ l x ks).k l = ks := by simp [updK]
theorem updK_k_ne (μ : Place) {l k : Nat} (x : Option (Nat × Nat)) (ks : List Nat) (h : k ≠ l) : (updK μ l x ks).k k = μ.k k := by simp [updK, h]
theorem has_updK_same {μ : Place} {l b : Nat} {x : Option (Nat × Nat)} {ks : List Nat} : Has (updK μ l x ks) l b ↔ (∃ base, x = some (b, base)) ∨ b ∈ ks := by
  unfold Has; rw [updK_same, updK_k_same]
theorem has_updK_ne {μ : Place} {l k b : Nat} {x : Option (Nat × Nat)} {ks : List Nat} (h : k ≠ l) : Has (updK μ l x ks) k b ↔ Has μ k b := by
  unfold Has; rw [updK_ne _ _ _ h, updK_k_ne _ _ _ h]
theorem live_updO_ne {σ : Objs} {l k : Nat} {x : Nat × HO} (h : k ≠ l) : live (updO σ l x) k ↔ live σ k := by simp [live, updO_ne _ _ h]

section
variable {w0 : World} {S : Sets} {nt : Nat} {sl : Nat → AV} {σ : Objs} {a : Act} {w : World} {μ : Place}

theorem getD_put {a : Act} {dst : Option Nat} {v : Value} {k : Nat} (h : ∀ d, dst = some d → d < a.tmps.size) :
    (a.put dst v).tmps.getD k undef = if dst = some k then v else a.tmps.getD k undef := by
  cases dst with
  | none => simp [Act.put]
  | some d =>
    have hd := h d rfl
    simp only [Act.put, Array.getD_eq_getD_getElem?, Array.getElem?_setIfInBounds, Option.some.injEq]
    by_cases e : d = k
    · subst e; simp [hd]
    · simp [e]

theorem RelM.put (R : RelM w0 S nt sl σ a w μ) {dst : Option Nat} (hd : ∀ d, dst = some d → d < nt) {x : AV} {v : Value} (hx : ARep σ μ w (Nof S σ μ w) x v) :
    RelM w0 S nt (putS sl dst x) σ (a.put dst v) w μ := by
  refine ⟨?_, ?_, R.env, R.grow, R.reach, R.frame, R.shape, R.ownH, R.injH, R.kz, R.ghost, R.ghl, R.keep, R.objs, fun k => ?_⟩
  · rw [← R.size]; cases dst <;> simp [Act.put]
  · rw [← R.defs]; cases dst <;> simp [Act.put]
  · rw [getD_put (fun d e => by rw [R.size]; exact hd d e)]
    unfold putS
    split
    · exact hx
    · exact R.slots k

/-- The temporaries aside: what turns in memory is carried. -/
theorem RelM.carry (R : RelM w0 S nt sl σ a w μ) {σ' : Objs} {μ' : Place} {w' : World} (h : Step S σ σ' μ μ' w w')
    (env : w'.os = w.os ∧ w'.output = w.output ∧ w'.tape = w.tape)
    (frame : ∀ b, b < w0.heap.size → ¬ S b → w'.heap[b]? = w.heap[b]?)
    (shape : ∀ (b : Nat) cs e fr, w.heap[b]? = some (Obj.cells cs e fr) → ∃ cs', w'.heap[b]? = some (Obj.cells cs' e fr) ∧ cs'.size = cs.size)
    (own : ∀ l b, live σ' l → Has μ' l b → b < w'.heap.size ∧ (w0.heap.size ≤ b ∨ S b))
    (inj : ∀ l l' b, live σ' l → live σ' l' → Has μ' l b → Has μ' l' b → l = l')
    (kz : ∀ l, live σ' l → isNest (σ' l).2 = false → μ'.k l = [])
    (objs : ∀ l, (σ' l = σ l ∧ μ' l = μ l ∧ μ'.k l = μ.k l ∧ ∀ b, live σ l → Has μ l b → w'.heap[b]? = w.heap[b]?) ∨ ObjRep σ' μ' w' (Nof S σ' μ' w') l (σ' l).2) :
    RelM w0 S nt sl σ' a w' μ' := by
  refine ⟨R.size, R.defs, ?_, Nat.le_trans R.grow h.size, R.reach, fun b hb hs => (frame b hb hs).trans (R.frame b hb hs), fun b cs e fr hb => ?_, own, inj, kz, fun p hp => (R.ghost p hp).step h, R.ghl, fun hf p hp => ?_, fun l => ?_, fun k => (R.slots k).step h⟩
  · obtain ⟨e1, e2, e3⟩ := env
    obtain ⟨f1, f2, f3⟩ := R.env
    exact ⟨e1.trans f1, e2.trans f2, e3.trans f3⟩
  · obtain ⟨cs1, h1, h2⟩ := R.shape b cs e fr hb
    obtain ⟨cs2, h3, h4⟩ := shape b cs1 e fr h1
    exact ⟨cs2, h3, h4.trans h2⟩
  · obtain ⟨k1, k2⟩ := R.keep hf p hp
    rcases h.lab p.1 with hl | ⟨hl, hm, hb, ha, hn, _⟩
    · exact ⟨by omega, fun e => by omega⟩
    · refine ⟨by omega, fun e hlv => ?_⟩
      rw [hm]
      refine k2 (by omega) ?_
      unfold live at hlv ⊢
      cases ho : (σ' p.1).2 with
      | dead => exact absurd ho hlv
      | box cells => obtain ⟨c, hc⟩ := hb cells ho; rw [hc]; exact HO.noConfusion
      | arr sz n row => obtain ⟨n', row', hc, _⟩ := ha sz n row ho; rw [hc]; exact HO.noConfusion
      | nest sz n row foc => obtain ⟨row', foc', hc⟩ := hn sz n row foc ho; rw [hc]; exact HO.noConfusion
  · rcases objs l with ⟨h1, h2, h2k, h3⟩ | h1
    · rw [h1]
      by_cases hl : live σ l
      · exact (R.objs l).step h h2 h2k (fun b => h3 b hl)
      · have : (σ l).2 = .dead := by simpa [live] using hl
        rw [this]; trivial
    · exact h1

theorem heap_alloc_lt (w : World) (o : Obj) {b : Nat} (h : b < w.heap.size) : (w.alloc o).heap[b]? = w.heap[b]? := by
  show (w.heap.push o)[b]? = _
  rw [Array.getElem?_push, if_neg (by omega)]
theorem heap_alloc_new (w : World) (o : Obj) : (w.alloc o).heap[w.heap.size]? = some o := by
  show (w.heap.push o)[w.heap.size]? = _
  simp
theorem size_alloc' (w : World) (o : Obj) : (w.alloc o).heap.size = w.heap.size + 1 := by simp

theorem Nof_alloc {o : Obj} {L : Nat} {x : Nat × HO} {base : Nat} {ks : List Nat} (hks : ∀ b, b ∈ ks → live σ L ∧ b ∈ μ.k L) {b : Nat} (h : Nof S σ μ w b) : Nof S (updO σ L x) (updK μ L (some (w.heap.size, base)) ks) (w.alloc o) b := by
  refine ⟨by rw [size_alloc']; have := h.1; omega, h.2.1, fun l hl hh => ?_⟩
  by_cases e : l = L
  · subst e
    rcases has_updK_same.1 hh with ⟨base', h1⟩ | h1
    · simp at h1; have := h.1; omega
    · exact h.2.2 l (hks b h1).1 (.inr (hks b h1).2)
  · exact h.2.2 l ((live_updO_ne e).1 hl) ((has_updK_ne e).1 hh)

/-- What an own thing's cells are to be, before it lies. -/
def Content (σ : Objs) (μ : Place) (w : World) (N : Nat → Prop) (base : Nat) (cs : Array Value) : HO → Prop
  | .dead | .nest _ _ _ _ => False
  | .box cells => base = 0 ∧ CsRep σ μ w N cells cs.toList
  | .arr sz n row => (∀ i, i < n → (row i).length = sz) ∧ base + n * sz ≤ cs.size ∧
      ∀ i j x, i < n → (row i)[j]? = some x → ∃ u, cs[base + i * sz + j]? = some u ∧ DRep w N x u

theorem Content.obj {σ' : Objs} {μ' : Place} {w' : World} (h : Step S σ σ' μ μ' w w') {base b L : Nat} {cs : Array Value} {e : TypeId} {o : HO} (hm : μ' L = some (b, base))
    (hb : w'.heap[b]? = some (.cells cs e (0, 0))) (hc : Content σ μ w (Nof S σ μ w) base cs o) : ObjRep σ' μ' w' (Nof S σ' μ' w') L o := by
  cases o with
  | dead => trivial
  | nest _ _ _ _ => exact hc.elim
  | box cells => obtain ⟨rfl, hc⟩ := hc; exact ⟨b, cs, e, hm, hb, hc.step h⟩
  | arr sz n row =>
    obtain ⟨h1, h2, h3⟩ := hc
    refine ⟨h1, .inr ⟨b, base, cs, e, hm, hb, h2, fun i j x hi hj => ?_⟩⟩
    obtain ⟨u, hu, hd⟩ := h3 i j x hi hj
    exact ⟨u, hu, DRep.carry h.old hd⟩

/-- A new block under a label; what the label's rows led to may stay. -/
theorem RelM.allocK (R : RelM w0 S nt sl σ a w μ) (L : Nat) (ver : Nat) (hv : (σ L).1 < ver) (o : HO) (cs : Array Value) (e : TypeId) (ks : List Nat) (hks : ∀ b, b ∈ ks → live σ L ∧ b ∈ μ.k L) (hnn : isNest o = false → ks = [])
    (hc : Step S σ (updO σ L (ver, o)) μ (updK μ L (some (w.heap.size, 0)) ks) w (w.alloc (.cells cs e)) →
      ObjRep (updO σ L (ver, o)) (updK μ L (some (w.heap.size, 0)) ks) (w.alloc (.cells cs e)) (Nof S (updO σ L (ver, o)) (updK μ L (some (w.heap.size, 0)) ks) (w.alloc (.cells cs e))) L o) :
    Step S σ (updO σ L (ver, o)) μ (updK μ L (some (w.heap.size, 0)) ks) w (w.alloc (.cells cs e)) ∧
    RelM w0 S nt sl (updO σ L (ver, o)) a (w.alloc (.cells cs e)) (updK μ L (some (w.heap.size, 0)) ks) := by
  have hst : Step S σ (updO σ L (ver, o)) μ (updK μ L (some (w.heap.size, 0)) ks) w (w.alloc (.cells cs e)) := by
    refine ⟨by rw [size_alloc']; omega, fun b hb => ⟨heap_alloc_lt _ _ hb.1, Nof_alloc hks hb⟩, fun l => ?_⟩
    by_cases el : l = L
    · subst el; left; simpa using hv
    · right
      rw [updO_ne _ _ el, updK_ne _ _ _ el]
      refine ⟨rfl, rfl, fun c hc => ⟨c, hc⟩, fun sz n row hr => ⟨n, row, hr, Nat.le_refl _⟩, fun sz n row foc hr => ⟨row, foc, hr⟩, fun b base cs' e' hm _ hb => ⟨cs', ?_, rfl⟩⟩
      rw [heap_alloc_lt _ _ (Array.getElem?_eq_some_iff.1 hb).1]; exact hb
  have hold : ∀ b, b ∈ ks → b < w.heap.size ∧ (w0.heap.size ≤ b ∨ S b) := fun b hb => R.ownH L b (hks b hb).1 (.inr (hks b hb).2)
  refine ⟨hst, R.carry hst ⟨rfl, rfl, rfl⟩ (fun b hb _ => heap_alloc_lt _ _ (Nat.lt_of_lt_of_le hb R.grow)) (fun b cs e fr hb => ⟨cs, by rw [heap_alloc_lt _ _ (Array.getElem?_eq_some_iff.1 hb).1]; exact hb, rfl⟩) (fun l b hl hm => ?_) (fun l l' b hl hl' hm hm' => ?_) (fun l hl hn => ?_) (fun l => ?_)⟩
  · by_cases el : l = L
    · subst el
      rcases has_updK_same.1 hm with ⟨base, hm⟩ | hm
      · simp at hm; obtain ⟨rfl, rfl⟩ := hm
        exact ⟨by rw [size_alloc']; omega, .inl R.grow⟩
      · have := hold b hm; exact ⟨by rw [size_alloc']; omega, this.2⟩
    · have := R.ownH l b ((live_updO_ne el).1 hl) ((has_updK_ne el).1 hm)
      exact ⟨by rw [size_alloc']; omega, this.2⟩
  · have key : ∀ l', l' ≠ L → live (updO σ L (ver, o)) l' → Has (updK μ L (some (w.heap.size, 0)) ks) l' b → Has (updK μ L (some (w.heap.size, 0)) ks) L b → False := fun l' el' hl' hm' hm => by
      have h1 := (has_updK_ne el').1 hm'
      have h2 := (live_updO_ne el').1 hl'
      rcases has_updK_same.1 hm with ⟨base, hm⟩ | hm
      · simp at hm
        have := R.ownH l' b h2 h1
        omega
      · exact el' (R.injH l' L b h2 (hks b hm).1 h1 (.inr (hks b hm).2))
    by_cases el : l = L <;> by_cases el' : l' = L
    · rw [el, el']
    · subst el; exact (key l' el' hl' hm' hm).elim
    · subst el'; exact (key l el hl hm hm').elim
    · exact R.injH l l' b ((live_updO_ne el).1 hl) ((live_updO_ne el').1 hl') ((has_updK_ne el).1 hm) ((has_updK_ne el').1 hm')
  · by_cases el : l = L
    · subst el; rw [updO_same] at hn; rw [updK_k_same]; exact hnn hn
    · rw [updO_ne _ _ el] at hn; rw [updK_k_ne _ _ _ el]; exact R.kz l ((live_updO_ne el).1 hl) hn
  · by_cases el : l = L
    · subst el; right
      rw [updO_same]
      exact hc hst
    · left
      refine ⟨updO_ne _ _ el, updK_ne _ _ _ el, updK_k_ne _ _ _ el, fun b hl hm => heap_alloc_lt _ _ (R.ownH l b hl hm).1⟩
theorem RelM.allocC (R : RelM w0 S nt sl σ a w μ) (L : Nat) (ver : Nat) (hv : (σ L).1 < ver) (o : HO) (cs : Array Value) (e : TypeId)
    (hc : Step S σ (updO σ L (ver, o)) μ (updP μ L (some (w.heap.size, 0))) w (w.alloc (.cells cs e)) →
      ObjRep (updO σ L (ver, o)) (updP μ L (some (w.heap.size, 0))) (w.alloc (.cells cs e)) (Nof S (updO σ L (ver, o)) (updP μ L (some (w.heap.size, 0))) (w.alloc (.cells cs e))) L o) :
    Step S σ (updO σ L (ver, o)) μ (updP μ L (some (w.heap.size, 0))) w (w.alloc (.cells cs e)) ∧
    RelM w0 S nt sl (updO σ L (ver, o)) a (w.alloc (.cells cs e)) (updP μ L (some (w.heap.size, 0))) :=
  R.allocK L ver hv o cs e [] (fun b hb => by simp at hb) (fun _ => rfl) hc
theorem RelM.alloc (R : RelM w0 S nt sl σ a w μ) (L : Nat) (ver : Nat) (hv : (σ L).1 < ver) (o : HO) (cs : Array Value) (e : TypeId) (hc : Content σ μ w (Nof S σ μ w) 0 cs o) :
    Step S σ (updO σ L (ver, o)) μ (updP μ L (some (w.heap.size, 0))) w (w.alloc (.cells cs e)) ∧
    RelM w0 S nt sl (updO σ L (ver, o)) a (w.alloc (.cells cs e)) (updP μ L (some (w.heap.size, 0))) :=
  R.allocC L ver hv o cs e fun hst => hc.obj hst (by simp) (heap_alloc_new _ _)

/-- A new block that nobody names. -/
theorem RelM.garb (R : RelM w0 S nt sl σ a w μ) (o : Obj) : RelM w0 S nt sl σ a (w.alloc o) μ := by
  have hst : Step S σ σ μ μ w (w.alloc o) := by
    refine ⟨by rw [size_alloc']; omega, fun b hb => ⟨heap_alloc_lt _ _ hb.1, by rw [size_alloc']; have := hb.1; omega, hb.2⟩, fun l => .inr ⟨rfl, rfl, fun c hc => ⟨c, hc⟩, fun sz n row hr => ⟨n, row, hr, Nat.le_refl _⟩, fun sz n row foc hr => ⟨row, foc, hr⟩, fun b base cs e _ _ hb => ⟨cs, ?_, rfl⟩⟩⟩
    rw [heap_alloc_lt _ _ (Array.getElem?_eq_some_iff.1 hb).1]; exact hb
  exact R.carry hst ⟨rfl, rfl, rfl⟩ (fun b hb _ => heap_alloc_lt _ _ (Nat.lt_of_lt_of_le hb R.grow)) (fun b cs e fr hb => ⟨cs, by rw [heap_alloc_lt _ _ (Array.getElem?_eq_some_iff.1 hb).1]; exact hb, rfl⟩)
    (fun l b hl hm => by have := R.ownH l b hl hm; exact ⟨by rw [size_alloc']; omega, this.2⟩) R.injH R.kz (fun l => .inl ⟨rfl, rfl, rfl, fun b hl hm => heap_alloc_lt _ _ (R.ownH l b hl hm).1⟩)

/-- A label that bears an empty row without a block, or nothing any more. -/
theorem RelM.bare (R : RelM w0 S nt sl σ a w μ) (L : Nat) (ver : Nat) (hv : (σ L).1 < ver) (o : HO) (ho : o = .dead ∨ (∃ sz row, o = .arr sz 0 row) ∨ ∃ sz row, o = .nest sz 0 row none) :
    Step S σ (updO σ L (ver, o)) μ (updP μ L none) w w ∧ RelM w0 S nt sl (updO σ L (ver, o)) a w (updP μ L none) := by
  have hst : Step S σ (updO σ L (ver, o)) μ (updP μ L none) w w := by
    refine ⟨Nat.le_refl _, fun b hb => ⟨rfl, hb.1, hb.2.1, fun l hl hh => ?_⟩, fun l => ?_⟩
    · by_cases el : l = L
      · subst el; obtain ⟨base, hm⟩ := has_updP_same.1 hh; simp at hm
      · exact hb.2.2 l ((live_updO_ne el).1 hl) ((has_updP_ne el).1 hh)
    · by_cases el : l = L
      · subst el; left; simpa using hv
      · right
        rw [updO_ne _ _ el, updP_ne _ _ el]
        exact ⟨rfl, rfl, fun c hc => ⟨c, hc⟩, fun sz n row hr => ⟨n, row, hr, Nat.le_refl _⟩, fun sz n row foc hr => ⟨row, foc, hr⟩, fun b base cs' e' hm _ hb => ⟨cs', hb, rfl⟩⟩
  refine ⟨hst, R.carry hst ⟨rfl, rfl, rfl⟩ (fun _ _ _ => rfl) (fun b cs e fr hb => ⟨cs, hb, rfl⟩) (fun l b hl hm => ?_) (fun l l' b hl hl' hm hm' => ?_) (fun l hl hn => ?_) (fun l => ?_)⟩
  · by_cases el : l = L
    · subst el; obtain ⟨base, hm⟩ := has_updP_same.1 hm; simp at hm
    · exact R.ownH l b ((live_updO_ne el).1 hl) ((has_updP_ne el).1 hm)
  · by_cases el : l = L
    · subst el; obtain ⟨base, hm⟩ := has_updP_same.1 hm; simp at hm
    · by_cases el' : l' = L
      · subst el'; obtain ⟨base, hm'⟩ := has_updP_same.1 hm'; simp at hm'
      · exact R.injH l l' b ((live_updO_ne el).1 hl) ((live_updO_ne el').1 hl') ((has_updP_ne el).1 hm) ((has_updP_ne el').1 hm')
  · by_cases el : l = L
    · subst el; simp
    · rw [updO_ne _ _ el] at hn; rw [updP_k_ne _ _ el]; exact R.kz l ((live_updO_ne el).1 hl) hn
  · by_cases el : l = L
    · subst el; right
      simp only [updO_same]
      rcases ho with rfl | ⟨sz, row, rfl⟩ | ⟨sz, row, rfl⟩
      · trivial
      · exact ⟨fun i hi => by omega, .inl ⟨by simp, rfl⟩⟩
      · exact .inl ⟨by simp, rfl, rfl, by simp⟩
    · left
      exact ⟨updO_ne _ _ el, updP_ne _ _ el, updP_k_ne _ _ el, fun b hl hm => rfl⟩

/-- An own block written: its label says what it holds now. -/
theorem RelM.writeC (R : RelM w0 S nt sl σ a w μ) (L ver : Nat) (o : HO) (hl : live σ L) (ho : o ≠ .dead) (hnn : isNest o = false → isNest (σ L).2 = false)
    (hv : (σ L).1 < ver ∨ ((σ L).1 = ver ∧ (∀ cells, o = .box cells → ∃ cells', (σ L).2 = .box cells') ∧ (∀ sz n row, o = .arr sz n row → ∃ n' row', (σ L).2 = .arr sz n' row' ∧ n' ≤ n) ∧
      ∀ sz n row foc, o = .nest sz n row foc → ∃ row' foc', (σ L).2 = .nest sz n row' foc'))
    {b base : Nat} (hm : μ L = some (b, base)) {cs cs' : Array Value} {e : TypeId} (hb : w.heap[b]? = some (.cells cs e (0, 0))) (hsz : cs'.size = cs.size)
    (hc : Step S σ (updO σ L (ver, o)) μ μ w (w.setRow b cs') → ObjRep (updO σ L (ver, o)) μ (w.setRow b cs') (Nof S (updO σ L (ver, o)) μ (w.setRow b cs')) L o) :
    Step S σ (updO σ L (ver, o)) μ μ w (w.setRow b cs') ∧ RelM w0 S nt sl (updO σ L (ver, o)) a (w.setRow b cs') μ := by
  have hlive : ∀ l, live (updO σ L (ver, o)) l ↔ live σ l := fun l => by
    by_cases el : l = L
    · subst el; simp [live, ho]; exact hl
    · simp [live, updO_ne _ _ el]
  have hst : Step S σ (updO σ L (ver, o)) μ μ w (w.setRow b cs') := by
    refine ⟨by simp, fun k hk => ⟨setRow_other _ _ _ _ fun ek => hk.2.2 L hl (.inl ⟨base, ek ▸ hm⟩), by simpa using hk.1, hk.2.1, fun l h => hk.2.2 l ((hlive l).1 h)⟩, fun l => ?_⟩
    by_cases el : l = L
    · subst el
      rcases hv with hv | ⟨hv, h1, h2, h3⟩
      · left; simpa using hv
      · right
        simp only [updO_same]
        refine ⟨hv, trivial, h1, h2, h3, fun b' base' cs1 e1 hm1 _ hb1 => ?_⟩
        rw [hm] at hm1; obtain ⟨rfl, rfl⟩ := Prod.mk.inj (Option.some.inj hm1)
        rw [hb] at hb1; simp at hb1; obtain ⟨rfl, rfl⟩ := hb1
        exact ⟨cs', setRow_heap _ _ _ _ _ _ hb, hsz⟩
    · right
      rw [updO_ne _ _ el]
      refine ⟨rfl, rfl, fun c hc => ⟨c, hc⟩, fun sz n row hr => ⟨n, row, hr, Nat.le_refl _⟩, fun sz n row foc hr => ⟨row, foc, hr⟩, fun b' base' cs1 e1 hm1 hlv hb1 => ⟨cs1, ?_, rfl⟩⟩
      rw [setRow_other _ _ _ _ fun ek => el (R.inj l L b' base' base hlv hl hm1 (by rw [ek]; exact hm))]
      exact hb1
  refine ⟨hst, R.carry hst ⟨rfl, rfl, rfl⟩ (fun k hk hs => setRow_other _ _ _ _ fun ek => ?_) (fun k cs1 e1 fr hk => ?_) (fun l b' h hm' => ?_) (fun l l' b' h h' h1 h2 => R.injH l l' b' ((hlive l).1 h) ((hlive l').1 h') h1 h2) (fun l h hn => ?_) (fun l => ?_)⟩
  · rcases (R.own L b base hl hm).2 with h | h
    · omega
    · exact hs (ek ▸ h)
  · by_cases ek : k = b
    · subst ek
      rw [hb] at hk; simp at hk; obtain ⟨rfl, rfl, rfl⟩ := hk
      exact ⟨cs', setRow_heap _ _ _ _ _ _ hb, hsz⟩
    · exact ⟨cs1, by rw [setRow_other _ _ _ _ ek]; exact hk, rfl⟩
  · have := R.ownH l b' ((hlive l).1 h) hm'
    exact ⟨by simpa using this.1, this.2⟩
  · by_cases el : l = L
    · subst el; rw [updO_same] at hn; exact R.kz l hl (hnn hn)
    · rw [updO_ne _ _ el] at hn; exact R.kz l ((hlive l).1 h) hn
  · by_cases el : l = L
    · subst el; right
      rw [updO_same]
      exact hc hst
    · left
      refine ⟨updO_ne _ _ el, rfl, rfl, fun b' h hm' => setRow_other _ _ _ _ fun ek => el (R.injH l L b' h hl hm' (by rw [ek]; exact .inl ⟨base, hm⟩))⟩
theorem RelM.write (R : RelM w0 S nt sl σ a w μ) (L ver : Nat) (o : HO) (hl : live σ L) (ho : o ≠ .dead)
    (hv : ((σ L).1 < ver ∧ isNest (σ L).2 = false) ∨ ((σ L).1 = ver ∧ (∀ cells, o = .box cells → ∃ cells', (σ L).2 = .box cells') ∧ ∀ sz n row, o = .arr sz n row → ∃ n' row', (σ L).2 = .arr sz n' row' ∧ n' ≤ n))
    {b base : Nat} (hm : μ L = some (b, base)) {cs cs' : Array Value} {e : TypeId} (hb : w.heap[b]? = some (.cells cs e (0, 0))) (hsz : cs'.size = cs.size)
    (hc : Content σ μ w (Nof S σ μ w) base cs' o) :
    Step S σ (updO σ L (ver, o)) μ μ w (w.setRow b cs') ∧ RelM w0 S nt sl (updO σ L (ver, o)) a (w.setRow b cs') μ := by
  refine R.writeC L ver o hl ho (fun _ => ?_) ?_ hm hb hsz fun hst => hc.obj hst hm (setRow_heap _ _ _ _ _ _ hb)
  · rcases hv with hv | ⟨_, h1, h2⟩
    · exact hv.2
    · cases o with
      | dead => exact (ho rfl).elim
      | box c => obtain ⟨c', h⟩ := h1 c rfl; rw [h]; rfl
      | arr sz n row => obtain ⟨n', r', h, _⟩ := h2 sz n row rfl; rw [h]; rfl
      | nest _ _ _ _ => exact hc.elim
  · rcases hv with hv | ⟨h0, h1, h2⟩
    · exact .inl hv.1
    · refine .inr ⟨h0, h1, h2, fun sz n row foc e => ?_⟩
      subst e; exact hc.elim

/-- A draw turns nothing. -/
theorem DRep.same_heap {w w' : World} (h : w'.heap = w.heap) {N : Nat → Prop} {x : DV} {v : Value} (hx : DRep w N x v) : DRep w' N x v := hx.carry fun b hb => ⟨by rw [h], hb⟩
theorem Step.drew {S : Sets} {σ : Objs} {w : World} {μ : Place} : Step S σ σ μ μ w w.drew := ⟨Nat.le_refl _, fun b hb => ⟨rfl, hb⟩, fun l => .inr ⟨rfl, rfl, fun c hc => ⟨c, hc⟩, fun sz n row hr => ⟨n, row, hr, Nat.le_refl _⟩, fun sz n row foc hr => ⟨row, foc, hr⟩, fun b base cs e _ _ hb => ⟨cs, hb, rfl⟩⟩⟩
theorem RelM.drew (R : RelM w0 S nt sl σ a w μ) : RelM w0 S nt sl σ a w.drew μ := by
  have hst : Step S σ σ μ μ w w.drew := .drew
  exact R.carry hst ⟨rfl, rfl, rfl⟩ (fun _ _ _ => rfl) (fun b cs e fr hb => ⟨cs, hb, rfl⟩) R.ownH R.injH R.kz (fun l => .inl ⟨rfl, rfl, rfl, fun _ _ _ => rfl⟩)
end
end Go.Rk
/- What the readers of operands say of the machine's values. -/
namespace Go.Rk
set_option linter.unusedSimpArgs false
set_option linter.unusedVariables false

/-- The table of types says what the program's own says. -/
structure TTok (P : Program) (T : TypeId → Option TI) : Prop where
  desc : ∀ t i, T t = some i → P.underlying t = some i.desc
  info : ∀ t i, T t = some i → ∃ inf z, P.info? t = some inf ∧ inf.size = i.size ∧ inf.bytes = i.bytes ∧ inf.zero = some z ∧ z.cells.toList = i.zero ∧ i.zero.length = i.size ∧ ∀ x ∈ i.zero, x.oneCell' = true
  eq : ∀ t i, T t = some i → i.eqk = true → ∀ (xs ys : List CV) (r : Bool), kindsB xs i.zero = true → eqCells real xs ys = some r → ∀ (us vs : Array Value), us.toList.length = xs.length → vs.toList.length = ys.length →
    (∀ (j : Nat) x, xs[j]? = some (CV.d (.v x)) → us[j]? = some x) → (∀ (j : Nat) y, ys[j]? = some (CV.d (.v y)) → vs[j]? = some y) →
    ∀ w, (eqGuard .eql t (.tmp 0) (.tmp 0) (.agg us) (.agg vs)).run P w = .ok () w ∧ (eqGuard .neq t (.tmp 0) (.tmp 0) (.agg us) (.agg vs)).run P w = .ok () w ∧ (Op.equal t (.agg us) (.agg vs)).run P w = .ok r w

section
variable {P : Program} {T : TypeId → Option TI} {w0 : World} {S : Sets} {nt : Nat} {slots : List (Nat × AV)} {σ : Objs} {a : Act} {w : World} {μ : Place} {N : Nat → Prop}

theorem tiv_run {t : TypeId} {Q : TI → Prop} (h : (tiv T t).run σ Q) : ∃ i, T t = some i ∧ Q i := by
  unfold tiv at h
  cases e : T t with
  | none => simp [e, G.run] at h
  | some i => simp only [e, G.run] at h; exact ⟨i, rfl, h⟩
theorem elemv_run {t : TypeId} {Q : TI → Prop} (h : (elemv T t).run σ Q) : ∃ it e i, T t = some it ∧ it.desc = .slice e ∧ T e = some i ∧ Q i := by
  unfold elemv at h
  split at h
  · rename_i e s b z q ht
    obtain ⟨i, hi, hq⟩ := tiv_run h
    exact ⟨_, e, i, ht, rfl, hi, hq⟩
  · exact h.elim
theorem fieldv_run {t : TypeId} {f : Nat} {Q : Nat × TI → Prop} (h : (fieldv T t f).run σ Q) :
    ∃ it fs x i, T t = some it ∧ it.desc = .struct fs ∧ fs[f]? = some x ∧ T x.type = some i ∧ i.size ≠ 0 ∧ Q (x.offset, i) := by
  unfold fieldv at h
  split at h
  · rename_i fs s b z q ht
    split at h
    · rename_i x hx
      split at h
      · rename_i i hi
        cases hz : nbeq i.size 0 with
        | true => simp [hz, G.run] at h
        | false => simp only [hz, cond_false, G.run] at h; exact ⟨_, fs, x, i, ht, rfl, hx, hi, fun e => by simp [e] at hz, h⟩
      · exact h.elim
    · exact h.elim
  · exact h.elim

theorem opv_run {x : AV} {v : Value} {Q : AV → Prop} (h : (opv real true x).run σ Q) (hx : ARep σ μ w N x v) : ∃ y, ARep σ μ w N y v ∧ Q y := by
  cases x with
  | gd t y => exact ⟨y, hx.1 (h.1 rfl), h.2⟩
  | _ => exact ⟨_, hx, h⟩
theorem cellv_run {x : AV} {v : Value} {Q : CV → Prop} (h : (cellv real true x).run σ Q) (hx : ARep σ μ w N x v) : ∃ y, CRep σ μ w N y v ∧ Q y := by
  cases x with
  | gd t y => cases y with
    | c y => exact ⟨y, hx.1 (h.1 rfl), h.2⟩
    | _ => exact h.elim
  | c y => exact ⟨y, hx, h⟩
  | _ => exact h.elim
theorem intv_run {x : AV} {v : Value} {Q : IntKind × Int → Prop} (h : (intv real true x).run σ Q) (hx : ARep σ μ w N x v) : ∃ k n, v = .int k n ∧ Q (k, n) := by
  unfold intv at h
  split at h
  · have := hx.1 (h.1 rfl); cases this; exact ⟨_, _, rfl, h.2⟩
  · cases hx; exact ⟨_, _, rfl, h⟩
  · exact h.elim
theorem boolv_run {g : Bool} {x : AV} {v : Value} {Q : Bool → Prop} (h : (boolv real g x).run σ Q) (hx : g = true → ARep σ μ w N x v) : ∃ b, (g = true → v = .bool b) ∧ Q b := by
  unfold boolv at h
  split at h
  · refine ⟨_, fun hg => ?_, h.2⟩; have := (hx hg).1 (h.1 hg); cases this; rfl
  · refine ⟨_, fun hg => ?_, h⟩; have := hx hg; cases this; rfl
  · exact h.elim

theorem noAgg {v : Value} (h : v.oneCell' = true) : v.cells = #[v] := by cases v <;> first | rfl | simp [Value.oneCell'] at h

theorem csRep_consts : ∀ {l : List Value}, (∀ x ∈ l, x.oneCell' = true) → CsRep σ μ w N (l.map fun x => CV.d (.v x)) l
  | [], _ => trivial
  | x :: r, h => ⟨DRep.v x (h x (by simp)), csRep_consts fun y hy => h y (by simp [hy])⟩
theorem constAV_rep (v : Value) : ARep σ μ w N (constAV v) v := by
  cases v with
  | agg cs =>
    show ARep σ μ w N (if cs.toList.all (·.oneCell') = true then AV.agg (cs.toList.map fun x => CV.d (.v x)) else .c .junk) (.agg cs)
    by_cases h : cs.toList.all (·.oneCell') = true
    · rw [if_pos h]; exact ⟨cs, rfl, csRep_consts (List.all_eq_true.1 h)⟩
    · rw [if_neg h]; trivial
  | tuple vs => trivial
  | _ => exact DRep.v _ rfl

theorem rho_rep (R : RelM w0 S nt (lookS slots) σ a w μ) (x : Operand) : ARep σ μ w (Nof S σ μ w) (rho slots x) (a.eval x) := by
  cases x with
  | tmp t => exact R.slots t
  | const v => exact constAV_rep v
  | global g => trivial
  | func f => exact DRep.fn f [] #[] (fun _ => undef) rfl (fun j x h => by simp at h) (fun j x h => by simp at h)

/-! ### Cells in rows -/
theorem CsRep.length : ∀ {xs : List CV} {vs : List Value}, CsRep σ μ w N xs vs → vs.length = xs.length
  | [], [], _ => rfl
  | _ :: _, _ :: _, h => by simp [h.2.length]
  | [], _ :: _, h => h.elim
  | _ :: _, [], h => h.elim
theorem CsRep.get : ∀ {xs : List CV} {vs : List Value} {j : Nat} {x : CV}, CsRep σ μ w N xs vs → xs[j]? = some x → ∃ u, vs[j]? = some u ∧ CRep σ μ w N x u
  | _ :: _, v :: _, 0, x, h, e => by simp at e; subst e; exact ⟨v, rfl, h.1⟩
  | _ :: _, _ :: _, j + 1, x, h, e => by simp at e; simpa using h.2.get e
  | [], [], _, _, _, e => by simp at e
  | [], _ :: _, _, _, h, _ => h.elim
  | _ :: _, [], _, _, h, _ => h.elim
theorem CsRep.of_get : ∀ {xs : List CV} {vs : List Value}, vs.length = xs.length → (∀ (j : Nat) x, xs[j]? = some x → ∃ u, vs[j]? = some u ∧ CRep σ μ w N x u) → CsRep σ μ w N xs vs
  | [], [], _, _ => trivial
  | x :: r, v :: s, hl, h => by
    refine ⟨?_, CsRep.of_get (by simpa using hl) fun j y hj => ?_⟩
    · obtain ⟨u, hu, hc⟩ := h 0 x rfl; simp at hu; subst hu; exact hc
    · obtain ⟨u, hu, hc⟩ := h (j + 1) y (by simpa using hj); exact ⟨u, by simpa using hu, hc⟩
  | [], _ :: _, hl, _ => by simp at hl
  | _ :: _, [], hl, _ => by simp at hl
theorem takeN_spec {α : Type} : ∀ {n : Nat} {l r : List α}, takeN n l = some r → r.length = n ∧ ∀ (j : Nat) x, r[j]? = some x → l[j]? = some x
  | 0, l, r, h => by simp [takeN] at h; subst h; simp
  | n + 1, [], r, h => by simp [takeN] at h
  | n + 1, y :: l, r, h => by
    simp only [takeN, Option.map_eq_some_iff] at h
    obtain ⟨r', h', rfl⟩ := h
    obtain ⟨h1, h2⟩ := takeN_spec h'
    refine ⟨by simp [h1], fun j x hj => ?_⟩
    cases j with
    | zero => simpa using hj
    | succ j => simp at hj ⊢; exact h2 j x hj
theorem dropN_get {α : Type} : ∀ (n : Nat) (l : List α) (j : Nat), (dropN n l)[j]? = l[n + j]?
  | 0, l, j => by simp [dropN]
  | n + 1, [], j => by simp [dropN]
  | n + 1, _ :: r, j => by
    rw [show n + 1 + j = (n + j) + 1 by omega]
    simpa [dropN] using dropN_get n r j
theorem patch_spec {α : Type} : ∀ {off : Nat} {xs l r : List α}, patch off xs l = some r → r.length = l.length ∧ off + xs.length ≤ l.length ∧
    ∀ (j : Nat) x, r[j]? = some x → (if j < off then l[j]? = some x else if j < off + xs.length then xs[j - off]? = some x else l[j]? = some x)
  | 0, [], l, r, h => by simp [patch] at h; subst h; simp
  | 0, x :: xs, y :: l, r, h => by
    simp only [patch, Option.map_eq_some_iff] at h
    obtain ⟨r', h', rfl⟩ := h
    obtain ⟨h1, h2, h3⟩ := patch_spec h'
    refine ⟨by simp [h1], by simp at h2 ⊢; omega, fun j z hj => ?_⟩
    cases j with
    | zero => simpa using hj
    | succ j =>
      simp at hj
      have := h3 j z hj
      simp at this ⊢
      exact this
  | 0, _ :: _, [], r, h => by simp [patch] at h
  | n + 1, xs, y :: l, r, h => by
    simp only [patch, Option.map_eq_some_iff] at h
    obtain ⟨r', h', rfl⟩ := h
    obtain ⟨h1, h2, h3⟩ := patch_spec h'
    refine ⟨by simp [h1], by simp at h2 ⊢; omega, fun j z hj => ?_⟩
    cases j with
    | zero => simpa using hj
    | succ j =>
      simp at hj
      have := h3 j z hj
      rw [show j + 1 - (n + 1) = j - n by omega]
      by_cases c1 : j < n
      · simp [c1] at this ⊢; exact this
      · by_cases c2 : j < n + xs.length
        · rw [if_neg c1, if_pos c2] at this
          rw [if_neg (by omega), if_pos (by omega)]; exact this
        · rw [if_neg c1, if_neg c2] at this
          rw [if_neg (by omega), if_neg (by omega)]; simpa using this
  | n + 1, xs, [], r, h => by cases xs <;> simp [patch] at h

theorem toDs_spec : ∀ {xs : List CV} {ds : List DV}, toDs xs = some ds → xs = ds.map .d
  | [], ds, h => by simp [toDs] at h; subst h; rfl
  | x :: r, ds, h => by
    simp only [toDs] at h
    split at h
    · rename_i a b ha hb
      simp at h; subst h
      have := toDs_spec hb
      cases x <;> simp [toD] at ha
      subst ha; simp [this]
    · simp at h
end
end Go.Rk
/- One operation: if its abstract answer is found, the machine's own is what that says. -/
namespace Go.Rk
set_option linter.unusedSimpArgs false
set_option linter.unusedVariables false

def putO (σ : Objs) : List (Nat × Nat × HO) → Objs
  | [] => σ
  | (j, x) :: r => updO (putO σ r) j x
theorem lookO_put (objs : List (Nat × Nat × HO)) : ∀ us : List (Nat × Nat × HO), lookO (us ++ objs) = putO (lookO objs) us
  | [] => rfl
  | (j, x) :: r => by
    funext l
    show (bif nbeq j l then x else lookO (r ++ objs) l) = _
    rw [lookO_put objs r]
    simp only [putO, updO]
    by_cases e : l = j
    · subst e; simp
    · have : nbeq j l = false := by cases h' : nbeq j l with | false => rfl | true => exact absurd (eq_of_nbeq h').symm e
      simp [this, e]
theorem lookS_put (slots : List (Nat × AV)) (dst : Option Nat) (x : AV) : lookS (match dst with | some k => (k, x) :: slots | none => slots) = putS (lookS slots) dst x := by
  funext k
  cases dst with
  | none => simp [putS]
  | some d =>
    simp only [putS, Option.some.injEq]
    show (bif nbeq d k then x else lookS slots k) = _
    by_cases e : d = k
    · subst e; simp
    · have : nbeq d k = false := by cases h' : nbeq d k with | false => rfl | true => exact absurd (eq_of_nbeq h') e
      simp [this, e]

/-- How one thing may have turned, so that what speaks of it stays true. -/
def okTn (o n : Nat × HO) : Prop := o.1 < n.1 ∨ (o.1 = n.1 ∧ match o.2, n.2 with
  | _, .dead => True
  | .box _, .box _ => True
  | .arr sz m _, .arr sz' m' _ => sz = sz' ∧ m = m'
  | .nest sz m _ _, .nest sz' m' _ _ => sz = sz' ∧ m = m'
  | _, _ => False)
def okTs (σ : Objs) (kn : List (Nat × Nat × HO)) : List (Nat × Nat × HO) → Prop
  | [] => True
  | (l, x) :: r => okTn (σ l) x ∧ (hasLab kn l = true ∨ (σ l).1 < x.1) ∧ okTs σ kn r
def agrees (σ : Objs) : List (Nat × Nat × HO) → Prop
  | [] => True
  | (l, x) :: r => σ l = x ∧ agrees σ r
def inC (kn : List (Nat × Nat × HO)) : CV → Bool
  | .junk | .d _ | .zc => true
  | .own l _ _ _ => hasLab kn l
  | .bp l _ _ => hasLab kn l
  | .op l _ _ _ => hasLab kn l
  | .nown l _ _ => hasLab kn l
  | .nop l _ _ _ => hasLab kn l
  | .clo _ caps => caps.all fun p => hasLab kn p.1
def inA (kn : List (Nat × Nat × HO)) : AV → Bool
  | .c x => inC kn x
  | .agg xs => xs.all (inC kn)
  | _ => false
def inR (kn : List (Nat × Nat × HO)) : AV → Bool
  | .tup [] => true
  | x => inA kn x
def inH (kn : List (Nat × Nat × HO)) : HO → Bool
  | .box cells => cells.all (inC kn)
  | .nest _ _ _ (some (_, cells)) => cells.all (inC kn)
  | _ => true
def okI (σ : Objs) (avs : List AV) (kn : List (Nat × Nat × HO)) (x : AV) (us : List (Nat × Nat × HO)) : Prop :=
  nodupL kn = true ∧ nodupL us = true ∧ agrees σ kn ∧ (kn.all fun p => hasLab us p.1) = true ∧ okTs σ kn us ∧ avs.all (inA kn) = true ∧ (kn.all fun p => inH kn p.2.2) = true ∧ inR us x = true ∧ (us.all fun p => inH us p.2.2) = true
def OpOut.run (M : Ms) (σ : Objs) (K : AV → List (Nat × Nat × HO) → Prop) : OpOut → Prop
  | .val x us => K x us
  | .call f args ret => ∃ out, M.m f args out ∧ (ret out).run σ fun r => K r.1 r.2
  | .inl f avs => ∃ x kn us, M.i f avs kn x us ∧ okI σ avs kn x us ∧ K x us

section
variable {P : Program} {T : TypeId → Option TI} {EX : FuncId → List Nat × Bool} {M : Ms}
variable {w0 : World} {S : Sets} {nt : Nat} {slots : List (Nat × AV)} {σ : Objs} {a : Act} {w : World} {μ : Place}
variable {o : Oper} {K : AV → List (Nat × Nat × HO) → Prop} {next : Act → World → Prop} {Q : Exit → Act → World → Prop}

def Cont (w0 : World) (S : Sets) (nt : Nat) (slots : List (Nat × AV)) (σ : Objs) (o : Oper) (K : AV → List (Nat × Nat × HO) → Prop) (a' : Act) (w' : World) : Prop :=
  ∃ x us, K x us ∧ ∃ μ', RelM w0 S nt (putS (lookS slots) o.dst x) (putO σ us) a' w' μ'

/-- What every operation is to show. -/
def Sound (P : Program) (w0 : World) (S : Sets) (nt : Nat) (slots : List (Nat × AV)) (σ : Objs) (a : Act) (w : World) (o : Oper) (K : AV → List (Nat × Nat × HO) → Prop) : Prop :=
  ∀ (next : Act → World → Prop) (Q : Exit → Act → World → Prop), (∀ a' w', Cont w0 S nt slots σ o K a' w' → next a' w') → o.wp P a w next Q

theorem sound_val (R : RelM w0 S nt (lookS slots) σ a w μ) (hd : ∀ d, o.dst = some d → d < nt) {x : AV} {v : Value} (hr : (execOp a.eval o).run P w = .ok (.value v) w)
    (hx : ARep σ μ w (Nof S σ μ w) x v) (hk : K x []) : Sound P w0 S nt slots σ a w o K := by
  intro next Q hn
  unfold Oper.wp
  rw [hr]
  exact hn _ _ ⟨x, [], hk, μ, R.put hd hx⟩
/-- With memory turned. -/
theorem sound_mem {σ' : Objs} {μ' : Place} {w' : World} (R : RelM w0 S nt (lookS slots) σ' a w' μ') (hd : ∀ d, o.dst = some d → d < nt) {x : AV} {v : Value} {us : List (Nat × Nat × HO)}
    (hr : (execOp a.eval o).run P w = .ok (.value v) w' ∨ ((execOp a.eval o).run P w = .ok .skip w' ∧ v = undef)) (hs : putO σ us = σ')
    (hx : ARep σ' μ' w' (Nof S σ' μ' w') x v) (hk : K x us) : Sound P w0 S nt slots σ a w o K := by
  intro next Q hn
  unfold Oper.wp
  rcases hr with hr | ⟨hr, rfl⟩ <;> rw [hr] <;> exact hn _ _ ⟨x, us, hk, μ', by rw [hs]; exact R.put hd hx⟩

theorem cellsv_run {x : AV} {v : Value} {N : Nat → Prop} {Q : List CV → Prop} (h : (cellsv real true x).run σ Q) (hx : ARep σ μ w N x v) : ∃ cs, CsRep σ μ w N cs v.cells.toList ∧ Q cs := by
  unfold cellsv at h
  split at h
  · exact h.elim
  · rename_i t c hc
    have hv : CRep σ μ w N c v := hx.1 (h.1 rfl)
    exact ⟨[c], by rw [noAgg (hv.one hc)]; exact ⟨hv, trivial⟩, h.2⟩
  · obtain ⟨cs, rfl, hcs⟩ := hx.1 (h.1 rfl)
    exact ⟨_, hcs, h.2⟩
  · exact h.elim
  · rename_i c hc
    have hv : CRep σ μ w N c v := hx
    exact ⟨[c], by rw [noAgg (hv.one hc)]; exact ⟨hv, trivial⟩, h⟩
  · obtain ⟨cs, rfl, hcs⟩ := hx
    exact ⟨_, hcs, h⟩
  · exact h.elim

theorem optv_run {α : Type} {x : Option α} {Q : α → Prop} (h : (optv x).run σ Q) : ∃ y, x = some y ∧ Q y := by
  cases x with
  | none => exact h.elim
  | some y => exact ⟨y, rfl, h⟩

theorem sound_move (R : RelM w0 S nt (lookS slots) σ a w μ) (hd : ∀ d, o.dst = some d → d < nt) {x : Operand} (ho : o.op = .move x ∨ o.op = .assign x)
    (h : (semOp real T EX o true (rho slots)).run σ (OpOut.run M σ K)) : Sound P w0 S nt slots σ a w o K := by
  have h' : ((opv real true (rho slots x)).bind fun y => G.ret (OpOut.val y [])).run σ (OpOut.run M σ K) := by rcases ho with ho | ho <;> simpa [semOp, ho] using h
  rw [G.run_bind] at h'
  obtain ⟨y, hy, hk⟩ := opv_run h' (rho_rep R x)
  refine sound_val R hd (v := a.eval x) ?_ hy hk
  rcases ho with ho | ho <;> simp [execOp, ho]

theorem sound_pick (R : RelM w0 S nt (lookS slots) σ a w μ) (hd : ∀ d, o.dst = some d → d < nt) {c x y : Operand} (ho : o.op = .pick c x y)
    (h : (semOp real T EX o true (rho slots)).run σ (OpOut.run M σ K)) : Sound P w0 S nt slots σ a w o K := by
  simp only [semOp, ho, G.run_bind] at h
  obtain ⟨t, ht, h⟩ := boolv_run h (fun _ => rho_rep R c)
  obtain ⟨p, hp, h⟩ := boolv_run h (fun _ => rho_rep R x)
  obtain ⟨q, hq, hk⟩ := boolv_run h (fun _ => rho_rep R y)
  have ht' := ht rfl
  refine sound_val R hd (v := .bool (bif t then p else q)) ?_ (x := .c (.d (.v (.bool (bif t then p else q))))) (DRep.v _ rfl) hk
  cases t with
  | true => have := hp rfl; simp [execOp, ho, ht', asBool, this]
  | false => have := hq rfl; simp [execOp, ho, ht', asBool, this]

theorem zeroValue_run (hT : TTok P T) {t : TypeId} {i : TI} (h : T t = some i) : ∃ z : Value, (∀ w, (zeroValue t).run P w = .ok z w) ∧ z.cells.toList = i.zero := by
  obtain ⟨inf, z, h1, h2, h3, h4, h5, _⟩ := hT.info t i h
  exact ⟨z, fun w => by simp [zeroValue, typeInfo, h1, h4], h5⟩
theorem zero_csRep (hT : TTok P T) {t : TypeId} {i : TI} {N : Nat → Prop} (h : T t = some i) : CsRep σ μ w N (i.zero.map fun x => CV.d (.v x)) i.zero := by
  obtain ⟨inf, z, _, _, _, _, _, _, h6⟩ := hT.info t i h
  exact csRep_consts h6
theorem sizeOf_run (hT : TTok P T) {t : TypeId} {i : TI} (h : T t = some i) (w : World) : (sizeOf t).run P w = .ok i.size w := by
  obtain ⟨inf, z, h1, h2, _⟩ := hT.info t i h
  simp [sizeOf, typeInfo, h1, h2]
theorem isAgg_run (hT : TTok P T) {t : TypeId} {i : TI} (h : T t = some i) (w : World) : (isAgg t).run P w = .ok (isAggT i.desc) w := by
  have := hT.desc t i h
  cases hd : i.desc <;> rw [hd] at this <;> simp [isAgg, underlying, this, isAggT]

theorem sound_alloc (hT : TTok P T) (R : RelM w0 S nt (lookS slots) σ a w μ) (hd : ∀ d, o.dst = some d → d < nt) {t : TypeId} (ho : o.op = .alloc t)
    (h : (semOp real T EX o true (rho slots)).run σ (OpOut.run M σ K)) : Sound P w0 S nt slots σ a w o K := by
  simp only [semOp, ho, G.run_bind] at h
  obtain ⟨i, hi, h⟩ := tiv_run h
  obtain ⟨z, hz, hzc⟩ := zeroValue_run hT hi
  have hk : K (.c (.bp (o.dst.getD 0 * 64 + baseOf EX) ((σ (o.dst.getD 0 * 64 + baseOf EX)).1 + 1) 0)) [((o.dst.getD 0 * 64 + baseOf EX), (σ (o.dst.getD 0 * 64 + baseOf EX)).1 + 1, .box (i.zero.map fun x => .d (.v x)))] := h
  generalize (o.dst.getD 0 * 64 + baseOf EX) = L at *
  obtain ⟨st, R'⟩ := R.alloc L ((σ L).1 + 1) (by omega) (.box (i.zero.map fun x => .d (.v x))) z.cells t ⟨rfl, by rw [hzc]; exact zero_csRep hT hi⟩
  refine sound_mem R' hd (v := .pointer (some ⟨w.heap.size, 0, none⟩)) (.inl ?_) rfl ?_ hk
  · simp [execOp, ho, Instr.alloc, hz, newVar, newRow]
  · exact ⟨rfl, by simp, fun cells e => ⟨w.heap.size, by simp, rfl⟩⟩

theorem sound_box (R : RelM w0 S nt (lookS slots) σ a w μ) (hd : ∀ d, o.dst = some d → d < nt) {t : TypeId} {x : Operand} (ho : o.op = .box t x)
    (h : (semOp real T EX o true (rho slots)).run σ (OpOut.run M σ K)) : Sound P w0 S nt slots σ a w o K := by
  simp only [semOp, ho, G.run_bind] at h
  obtain ⟨cs, hc, h⟩ := cellsv_run h (rho_rep R x)
  have hk : K (.c (.bp (o.dst.getD 0 * 64 + baseOf EX) ((σ (o.dst.getD 0 * 64 + baseOf EX)).1 + 1) 0)) [((o.dst.getD 0 * 64 + baseOf EX), (σ (o.dst.getD 0 * 64 + baseOf EX)).1 + 1, .box cs)] := h
  generalize (o.dst.getD 0 * 64 + baseOf EX) = L at *
  obtain ⟨st, R'⟩ := R.alloc L ((σ L).1 + 1) (by omega) (.box cs) (a.eval x).cells t ⟨rfl, hc⟩
  refine sound_mem R' hd (v := .pointer (some ⟨w.heap.size, 0, none⟩)) (.inl ?_) rfl ?_ hk
  · simp [execOp, ho, Instr.box, newVar, newRow]
  · exact ⟨rfl, by simp, fun cells e => ⟨w.heap.size, by simp, rfl⟩⟩
end
end Go.Rk
/- Operations, more: loads and stores, addresses, arithmetic. -/
namespace Go.Rk
set_option linter.unusedSimpArgs false
set_option linter.unusedVariables false
section
variable {P : Program} {T : TypeId → Option TI} {EX : FuncId → List Nat × Bool} {M : Ms}
variable {w0 : World} {S : Sets} {nt : Nat} {slots : List (Nat × AV)} {σ : Objs} {a : Act} {w : World} {μ : Place}
variable {o : Oper} {K : AV → List (Nat × Nat × HO) → Prop} {next : Act → World → Prop} {Q : Exit → Act → World → Prop}

theorem add_off (b off j : Nat) : (⟨b, off, none⟩ : Addr).add j = ⟨b, off + j, none⟩ := by
  unfold Addr.add
  split
  · rename_i h; subst h; rfl
  · rfl
theorem cell_at {w : World} {b off : Nat} {cs : Array Value} {e : TypeId} {fr : Nat × Nat} (h : w.heap[b]? = some (.cells cs e fr)) : w.cell? ⟨b, off, none⟩ = cs[off]? := by
  simp [World.cell?, h]

theorem load_run (hT : TTok P T) {t : TypeId} {i : TI} (hi : T t = some i) {N : Nat → Prop} {b off : Nat} {cs : Array Value} {e : TypeId} {fr : Nat × Nat} (hb : w.heap[b]? = some (.cells cs e fr))
    {xs : List CV} (hl : xs.length = i.size) (hx : ∀ (j : Nat) x, xs[j]? = some x → ∃ u, cs[off + j]? = some u ∧ CRep σ μ w N x u) {Q : AV → Prop} (h : (mkAV (isAggT i.desc) xs).run σ Q) :
    ∃ v, (loadVar t ⟨b, off, none⟩).run P w = .ok v w ∧ ∃ y, ARep σ μ w N y v ∧ Q y := by
  have hlen : ∀ j, j < xs.length → off + j < cs.size := fun j hj => by
    obtain ⟨u, hu, _⟩ := hx j xs[j] (List.getElem?_eq_getElem hj)
    exact (Array.getElem?_eq_some_iff.1 hu).1
  unfold mkAV at h
  cases hg : isAggT i.desc with
  | true =>
    simp only [hg, if_true] at h
    let vs : List Value := (List.range xs.length).map fun j => cs.getD (off + j) undef
    have hvl : vs.length = i.size := by simp [vs, hl]
    have hvj : ∀ (j : Nat) v, vs[j]? = some v → cs[off + j]? = some v := fun j v hj => by
      simp only [vs, List.getElem?_map, Option.map_eq_some_iff] at hj
      obtain ⟨k, hk, rfl⟩ := hj
      obtain ⟨hlt, rfl⟩ := List.getElem?_eq_some_iff.1 hk
      simp at hlt ⊢
      rw [Array.getElem?_eq_getElem (hlen j hlt)]; simp
    have hload := run_loadCells_list (P := P) w ⟨b, off, none⟩ vs (fun j v hj => by rw [add_off, cell_at hb]; exact hvj j v hj)
    rw [hvl] at hload
    refine ⟨.agg vs.toArray, by simp [loadVar, isAgg_run hT hi, hg, sizeOf_run hT hi, hload], .agg xs, ⟨_, rfl, ?_⟩, h⟩
    refine CsRep.of_get (by simp [hvl, hl]) fun j x hj => ?_
    obtain ⟨u, hu, hc⟩ := hx j x hj
    refine ⟨u, ?_, hc⟩
    have hj' : j < xs.length := (List.getElem?_eq_some_iff.1 hj).1
    simp [vs, hj', Array.getD_eq_getD_getElem?, hu]
  | false =>
    simp only [hg] at h
    match xs, h with
    | [x], h =>
      obtain ⟨u, hu, hc⟩ := hx 0 x rfl
      refine ⟨u, ?_, .c x, hc, h⟩
      have hu' : cs[off]? = some u := by simpa using hu
      simp [loadVar, isAgg_run hT hi, hg, cell_at hb, hu']

theorem sound_load (hT : TTok P T) (R : RelM w0 S nt (lookS slots) σ a w μ) (hd : ∀ d, o.dst = some d → d < nt) {t : TypeId} {p : Operand} (ho : o.op = .load t p)
    (h : (semOp real T EX o true (rho slots)).run σ (OpOut.run M σ K)) : Sound P w0 S nt slots σ a w o K := by
  simp only [semOp, ho, G.run_bind] at h
  obtain ⟨i, hi, h⟩ := tiv_run h
  obtain ⟨c, hc, h⟩ := cellv_run h (rho_rep R p)
  have fin : ∀ b off (cs : Array Value) e fr (xs : List CV), a.eval p = .pointer (some ⟨b, off, none⟩) → w.heap[b]? = some (.cells cs e fr) → xs.length = i.size →
      (∀ (j : Nat) x, xs[j]? = some x → ∃ u, cs[off + j]? = some u ∧ CRep σ μ w (Nof S σ μ w) x u) → (mkAV (isAggT i.desc) xs).run σ (fun y => K y []) → Sound P w0 S nt slots σ a w o K := by
    intro b off cs e fr xs he hb hl hx hm
    obtain ⟨v, hr, y, hy, hk⟩ := load_run hT hi hb hl hx hm
    exact sound_val R hd (by simp [execOp, ho, he, Instr.loadAt, Instr.sureAddr, hr]) hy hk
  cases c with
  | bp l ver off =>
    simp only [G.run] at h
    split at h
    · rename_i ver' cells hσ
      obtain ⟨hv, h⟩ := h
      have hv : ver = ver' := hv
      subst hv
      rw [G.run_bind] at h
      obtain ⟨xs, hxs, h⟩ := optv_run h
      rw [G.run_bind] at h
      obtain ⟨hone, hle, hc⟩ := hc
      obtain ⟨b, hμ, he⟩ := hc cells hσ
      have ob := R.objs l
      rw [hσ] at ob
      obtain ⟨b', cs, e, hμ', hb, hcs⟩ := ob
      rw [hμ] at hμ'; simp at hμ'; subst hμ'
      obtain ⟨hl, hg⟩ := takeN_spec hxs
      refine fin b off cs e (0, 0) xs he hb hl (fun j x hj => ?_) h
      have := hg j x hj
      rw [dropN_get] at this
      obtain ⟨u, hu, hc⟩ := hcs.get this
      exact ⟨u, by simpa using hu, hc⟩
    · exact h.elim
  | op l ver row off =>
    simp only [G.run] at h
    split at h
    · rename_i ver' sz n rows hσ
      obtain ⟨hv, h⟩ := h
      have hv : ver = ver' := hv
      subst hv
      rw [G.run_bind] at h
      obtain ⟨xs, hxs, h⟩ := optv_run h
      rw [G.run_bind] at h
      obtain ⟨hone, hle, hc⟩ := hc
      obtain ⟨hrow, b, base, hμ, he⟩ := hc sz n rows hσ
      have ob := R.objs l
      rw [hσ] at ob
      obtain ⟨hr, ob⟩ := ob
      rcases ob with ⟨h1, _⟩ | ⟨b', base', cs, e, hμ', hb, hsz, hcs⟩
      · rw [hμ] at h1; simp at h1
      rw [hμ] at hμ'; simp at hμ'; obtain ⟨rfl, rfl⟩ := hμ'
      obtain ⟨hl, hg⟩ := takeN_spec hxs
      refine fin b (base + row * sz + off) cs e (0, 0) (xs.map .d) he hb (by simpa using hl) (fun j x hj => ?_) h
      simp only [List.getElem?_map, Option.map_eq_some_iff] at hj
      obtain ⟨x', hx', rfl⟩ := hj
      have := hg j x' hx'
      rw [dropN_get] at this
      obtain ⟨u, hu, hc⟩ := hcs row (off + j) x' hrow this
      exact ⟨u, by rw [show base + row * sz + off + j = base + row * sz + (off + j) by omega]; exact hu, hc⟩
    · exact h.elim
  | nop l ver row off =>
    simp only [G.run] at h
    split at h
    · rename_i ver' sz n rows r cells hσ
      obtain ⟨hv, h1, h⟩ := h
      have hv : ver = ver' := hv
      have h1 : row = r := h1
      subst hv h1
      rw [G.run_bind] at h
      obtain ⟨xs, hxs, h⟩ := optv_run h
      rw [G.run_bind] at h
      obtain ⟨hone, hle, hc⟩ := hc
      obtain ⟨hrow, b, base, hμ, he⟩ := hc sz n rows _ hσ
      have ob := R.objs l
      rw [hσ] at ob
      rcases ob with ⟨_, _, h1, _⟩ | ⟨b', base', cs, e, hμ', hb, hsz, hk, _, _, hfoc⟩
      · cases h1
      rw [hμ] at hμ'; simp at hμ'; obtain ⟨rfl, rfl⟩ := hμ'
      obtain ⟨_, hcl, hcs⟩ := hfoc _ _ rfl
      obtain ⟨hl, hg⟩ := takeN_spec hxs
      refine fin b (base + row * sz + off) cs e (0, 0) xs he hb (by simpa using hl) (fun j x hj => ?_) h
      have := hg j x hj
      rw [dropN_get] at this
      obtain ⟨u, hu, hc⟩ := hcs (off + j) x this
      exact ⟨u, by rw [show base + row * sz + off + j = base + row * sz + (off + j) by omega]; exact hu, hc⟩
    · exact h.elim
  | d x =>
    cases x with
    | p cells =>
      rw [G.run_bind] at h
      obtain ⟨xs, hxs, h⟩ := optv_run h
      rw [G.run_bind] at h
      generalize he : a.eval p = pv at hc
      cases hc with
      | p _ b off cs e fr u hN hb hu hdd =>
        obtain ⟨hl, hg⟩ := takeN_spec hxs
        refine fin b off cs e fr (xs.map .d) he hb (by simpa using hl) (fun j x hj => ?_) h
        simp only [List.getElem?_map, Option.map_eq_some_iff] at hj
        obtain ⟨x', hx', rfl⟩ := hj
        exact ⟨u j, hu j x' (hg j x' hx'), hdd j x' (hg j x' hx')⟩
    | _ => exact h.elim
  | _ => exact h.elim

theorem spliced_get (cur : Array Value) (vs : List Value) (k j : Nat) (h : k + vs.length ≤ cur.size) :
    ((cur.toList.take k ++ vs ++ cur.toList.drop (k + vs.length)).toArray)[j]? = if j < k then cur[j]? else if j < k + vs.length then vs[j - k]? else cur[j]? := by
  simp only [List.getElem?_toArray, List.getElem?_append, List.length_append, List.length_take, Array.length_toList, List.getElem?_take, List.getElem?_drop, Array.getElem?_toList]
  have : min k cur.size = k := by omega
  rw [this]
  by_cases c1 : j < k
  · rw [if_pos (by omega), if_pos c1, if_pos c1, if_pos c1]
  · by_cases c2 : j < k + vs.length
    · rw [if_pos c2, if_neg c1, if_neg c1, if_pos c2]
    · rw [if_neg c2, if_neg c1, if_neg c2]; congr 1; omega
theorem spliced_size (cur : Array Value) (vs : List Value) (k : Nat) (h : k + vs.length ≤ cur.size) : ((cur.toList.take k ++ vs ++ cur.toList.drop (k + vs.length)).toArray).size = cur.size := by
  simp; omega

theorem noJunk_one : ∀ {xs : List CV} {vs : List Value} {N : Nat → Prop}, noJunk xs = true → CsRep σ μ w N xs vs → ∀ v ∈ vs, v.oneCell' = true
  | [], [], _, _, _, v, hv => by simp at hv
  | x :: r, u :: s, N, hj, hc, v, hv => by
    have hx : x ≠ .junk := fun e => by subst e; simp [noJunk] at hj
    have hr : noJunk r = true := by cases x <;> simp [noJunk] at hj hx ⊢ <;> exact hj
    rcases List.mem_cons.1 hv with rfl | hv
    · exact hc.1.one hx
    · exact noJunk_one hr hc.2 v hv
  | [], _ :: _, _, _, h, _, _ => h.elim
  | _ :: _, [], _, _, h, _, _ => h.elim

theorem storeVar_run (hT : TTok P T) {t : TypeId} {i : TI} (hi : T t = some i) {b off : Nat} {cs : Array Value} {e : TypeId} (hb : w.heap[b]? = some (.cells cs e (0, 0))) {v : Value}
    (hl : v.cells.toList.length = i.size) (h1 : ∀ u ∈ v.cells.toList, u.oneCell' = true) (hs : off + v.cells.toList.length ≤ cs.size) :
    (storeVar t ⟨b, off, none⟩ v).run P w = .ok () (w.setRow b (cs.toList.take off ++ v.cells.toList ++ cs.toList.drop (off + v.cells.toList.length)).toArray) := by
  have hst := run_storeCells_at P b off e v.cells.toList 0 cs w hb (by simpa using hs) h1
  simp only [Nat.add_zero] at hst
  have : v.cells.size = i.size := by simpa using hl
  simp [storeVar, sizeOf_run hT hi, this, hst]

theorem sound_store (hT : TTok P T) (R : RelM w0 S nt (lookS slots) σ a w μ) (hd : ∀ d, o.dst = some d → d < nt) {t : TypeId} {p x : Operand} (ho : o.op = .store t p x)
    (h : (semOp real T EX o true (rho slots)).run σ (OpOut.run M σ K)) : Sound P w0 S nt slots σ a w o K := by
  simp only [semOp, ho, G.run_bind] at h
  obtain ⟨i, hi, h⟩ := tiv_run h
  obtain ⟨xs, hxs, h⟩ := cellsv_run h (rho_rep R x)
  cases hif : (nbeq xs.length i.size && noJunk xs) with
  | false => rw [hif] at h; exact h.elim
  | true =>
  rw [hif] at h
  simp only [cond_true, G.run_bind] at h
  simp only [Bool.and_eq_true] at hif
  obtain ⟨hif, hnj⟩ := hif
  have hlen : xs.length = i.size := eq_of_nbeq hif
  have hone := noJunk_one hnj hxs
  have hvl : (a.eval x).cells.toList.length = i.size := by rw [hxs.length, hlen]
  obtain ⟨c, hc, h⟩ := cellv_run h (rho_rep R p)
  cases c with
  | bp l ver off =>
    simp only [G.run] at h
    split at h
    · rename_i ver' cells hσ
      obtain ⟨hv, h⟩ := h
      have hv : ver = ver' := hv
      subst hv
      rw [G.run_bind] at h
      obtain ⟨cs', hcs', hK⟩ := optv_run h
      have hK : K (.c .junk) [(l, ver, .box cs')] := hK
      obtain ⟨_, hle, hc⟩ := hc
      obtain ⟨b, hμ, he⟩ := hc cells hσ
      have ob := R.objs l
      rw [hσ] at ob
      obtain ⟨b', cs, e, hμ', hb, hcs⟩ := ob
      rw [hμ] at hμ'; simp at hμ'; subst hμ'
      obtain ⟨p1, p2, p3⟩ := patch_spec hcs'
      have hsz : off + (a.eval x).cells.toList.length ≤ cs.size := by
        have := hcs.length; simp at this; rw [hvl, ← hlen]; omega
      have hst := storeVar_run hT hi hb hvl hone hsz
      obtain ⟨st, R'⟩ := R.write l ver (.box cs') (by simp [live, hσ]) (by simp) (.inr ⟨by rw [hσ], fun _ _ => ⟨cells, by rw [hσ]⟩, fun _ _ _ h => by simp at h⟩) hμ hb (spliced_size _ _ _ hsz)
        ⟨rfl, CsRep.of_get (by
            have := hcs.length
            rw [Array.length_toList] at this
            rw [Array.length_toList, spliced_size _ _ _ hsz, p1]; exact this) fun j y hj => by
          have hp := p3 j y hj
          rw [Array.getElem?_toList, spliced_get _ _ _ _ hsz, hxs.length]
          by_cases c1 : j < off
          · rw [if_pos c1] at hp ⊢
            obtain ⟨u, hu, hcu⟩ := hcs.get hp
            exact ⟨u, by simpa using hu, hcu⟩
          · by_cases c2 : j < off + xs.length
            · rw [if_neg c1, if_pos c2] at hp ⊢
              obtain ⟨u, hu, hcu⟩ := hxs.get hp
              exact ⟨u, hu, hcu⟩
            · rw [if_neg c1, if_neg c2] at hp ⊢
              obtain ⟨u, hu, hcu⟩ := hcs.get hp
              exact ⟨u, by simpa using hu, hcu⟩⟩
      refine sound_mem (x := .c .junk) R' hd (.inr ⟨?_, rfl⟩) rfl trivial hK
      simp [execOp, ho, he, Instr.storeAt, Instr.sureAddr, hst]
    · exact h.elim
  | op l ver row off =>
    simp only [G.run] at h
    split at h
    · rename_i ver' sz n rows hσ
      obtain ⟨hv, h⟩ := h
      have hv : ver = ver' := hv
      subst hv
      rw [G.run_bind] at h
      obtain ⟨ds, hds, h⟩ := optv_run h
      rw [G.run_bind] at h
      obtain ⟨cs', hcs', hK⟩ := optv_run h
      have hK : K (.c .junk) [(l, ver, .arr sz n (real.upd rows row cs'))] := hK
      have hds := toDs_spec hds
      obtain ⟨_, hle, hc⟩ := hc
      obtain ⟨hrow, b, base, hμ, he⟩ := hc sz n rows hσ
      have ob := R.objs l
      rw [hσ] at ob
      obtain ⟨hr, ob⟩ := ob
      rcases ob with ⟨h1, _⟩ | ⟨b', base', cs, e, hμ', hb, hsz0, hcs⟩
      · rw [hμ] at h1; simp at h1
      rw [hμ] at hμ'; simp at hμ'; obtain ⟨rfl, rfl⟩ := hμ'
      obtain ⟨p1, p2, p3⟩ := patch_spec hcs'
      have hrl := hr row hrow
      have hmul : (row + 1) * sz ≤ n * sz := Nat.mul_le_mul_right _ hrow
      have hdl : ds.length = i.size := by rw [← hlen, hds]; simp
      have hsz : base + row * sz + off + (a.eval x).cells.toList.length ≤ cs.size := by
        rw [hvl, ← hdl]; rw [Nat.add_mul] at hmul; omega
      have hst := storeVar_run hT hi hb hvl hone hsz
      obtain ⟨st, R'⟩ := R.write l ver (.arr sz n (real.upd rows row cs')) (by simp [live, hσ]) (by simp)
        (.inr ⟨by rw [hσ], fun _ h => by simp at h, fun sz' n' row' h => by simp at h; obtain ⟨rfl, rfl, _⟩ := h; exact ⟨n, rows, by rw [hσ], Nat.le_refl _⟩⟩) hμ hb (spliced_size _ _ _ hsz)
        ⟨fun k hk => by
            show (if k = row then cs' else rows k).length = sz
            split
            · rw [p1]; exact hrl
            · exact hr k hk, by rw [spliced_size _ _ _ hsz]; exact hsz0, fun k j y hk hj => by
          have hj : (if k = row then cs' else rows k)[j]? = some y := hj
          rw [spliced_get _ _ _ _ hsz, hxs.length]
          by_cases ek : k = row
          · subst ek
            rw [if_pos rfl] at hj
            have hp := p3 j y hj
            have hj' : j < sz := by rw [← hrl, ← p1]; exact (List.getElem?_eq_some_iff.1 hj).1
            by_cases c1 : j < off
            · rw [if_pos c1] at hp
              obtain ⟨u, hu, hcu⟩ := hcs k j y hk hp
              exact ⟨u, by rw [if_pos (by omega)]; exact hu, hcu⟩
            · by_cases c2 : j < off + ds.length
              · rw [if_neg c1, if_pos c2] at hp
                have hx' : xs[j - off]? = some (.d y) := by rw [hds]; simp [hp]
                obtain ⟨u, hu, hcu⟩ := hxs.get hx'
                refine ⟨u, ?_, hcu⟩
                rw [if_neg (by omega), if_pos (by rw [hlen, ← hdl]; omega), show base + k * sz + j - (base + k * sz + off) = j - off by omega]
                exact hu
              · rw [if_neg c1, if_neg c2] at hp
                obtain ⟨u, hu, hcu⟩ := hcs k j y hk hp
                exact ⟨u, by rw [if_neg (by omega), if_neg (by rw [hlen, ← hdl]; omega)]; exact hu, hcu⟩
          · rw [if_neg ek] at hj
            obtain ⟨u, hu, hcu⟩ := hcs k j y hk hj
            have hj' : j < sz := by rw [← hr k hk]; exact (List.getElem?_eq_some_iff.1 hj).1
            refine ⟨u, ?_, hcu⟩
            rcases Nat.lt_or_gt_of_ne ek with hlt | hgt
            · have : (k + 1) * sz ≤ row * sz := Nat.mul_le_mul_right _ hlt
              rw [Nat.add_mul] at this
              rw [if_pos (by omega)]; exact hu
            · have : (row + 1) * sz ≤ k * sz := Nat.mul_le_mul_right _ hgt
              rw [Nat.add_mul] at this
              rw [if_neg (by omega), if_neg (by rw [hlen, ← hdl]; omega)]; exact hu⟩
      refine sound_mem (x := .c .junk) R' hd (.inr ⟨?_, rfl⟩) rfl trivial hK
      simp [execOp, ho, he, Instr.storeAt, Instr.sureAddr, hst]
    · exact h.elim
  | nop l ver row off =>
    simp only [G.run] at h
    split at h
    · rename_i ver' sz n rows r cells hσ
      obtain ⟨hv, h1, h⟩ := h
      have hv : ver = ver' := hv
      have h1 : row = r := h1
      subst hv h1
      rw [G.run_bind] at h
      obtain ⟨cs', hcs', hK⟩ := optv_run h
      have hK : K (.c .junk) [(l, ver, .nest sz n rows (some (row, cs')))] := hK
      obtain ⟨_, hle, hc⟩ := hc
      obtain ⟨hrow, b, base, hμ, he⟩ := hc sz n rows _ hσ
      have ob := R.objs l
      rw [hσ] at ob
      rcases ob with ⟨_, _, h1, _⟩ | ⟨b', base', cs, e, hμ', hb, hsz0, hk, hkb, hknd, hfoc⟩
      · cases h1
      rw [hμ] at hμ'; simp at hμ'; obtain ⟨rfl, rfl⟩ := hμ'
      obtain ⟨_, hcl, hcs⟩ := hfoc _ _ rfl
      obtain ⟨p1, p2, p3⟩ := patch_spec hcs'
      have hmul : (row + 1) * sz ≤ n * sz := Nat.mul_le_mul_right _ hrow
      rw [Nat.add_mul] at hmul
      have hsz : base + row * sz + off + (a.eval x).cells.toList.length ≤ cs.size := by
        rw [hvl, ← hlen]; omega
      have hst := storeVar_run hT hi hb hvl hone hsz
      have hlv : live σ l := by simp [live, hσ]
      obtain ⟨st, R'⟩ := R.writeC l ver (.nest sz n rows (some (row, cs'))) hlv (by simp) (fun h => by cases h)
        (.inr ⟨by rw [hσ], fun _ h => by simp at h, fun _ _ _ h => by simp at h, fun sz' n' row' foc' h => by simp at h; obtain ⟨rfl, rfl, _⟩ := h; exact ⟨rows, _, by rw [hσ]⟩⟩) hμ hb (spliced_size _ _ _ hsz)
        fun hstep => .inr ⟨b, base, _, e, hμ, setRow_heap _ _ _ _ _ _ hb, by rw [spliced_size _ _ _ hsz]; exact hsz0, by
            have hkc : Kids (w.setRow b (cs.toList.take (base + row * sz + off) ++ (a.eval x).cells.toList ++ cs.toList.drop (base + row * sz + off + (a.eval x).cells.toList.length)).toArray) cs base sz n rows (isFoc (some (row, cells))) fun k => k ∈ μ.k l :=
              hk.carry fun b' hb' => setRow_other _ _ _ _ fun eb => hkb (eb ▸ hb')
            obtain ⟨k0, G, k1, k2, k3⟩ := hkc
            refine ⟨fun i hi hn => k0 i hi fun ⟨c, hc⟩ => hn ⟨cs', by simp at hc ⊢; exact hc.1⟩, G, fun i j y hi hn hj => ?_, fun k => (k2 k).trans ⟨fun ⟨i, j, q1, q2, q3⟩ => ⟨i, j, q1, fun ⟨c, hc⟩ => q2 ⟨cells, by simp at hc ⊢; exact hc.1⟩, q3⟩, fun ⟨i, j, q1, q2, q3⟩ => ⟨i, j, q1, fun ⟨c, hc⟩ => q2 ⟨cs', by simp at hc ⊢; exact hc.1⟩, q3⟩⟩,
              fun i j i' j' k q1 q2 q3 q4 q5 q6 q7 q8 => k3 i j i' j' k q1 (fun ⟨c, hc⟩ => q2 ⟨cs', by simp at hc ⊢; exact hc.1⟩) q3 q4 (fun ⟨c, hc⟩ => q5 ⟨cs', by simp at hc ⊢; exact hc.1⟩) q6 q7 q8⟩
            have hn' : ¬ isFoc (some (row, cells)) i := fun ⟨c, hc⟩ => hn ⟨cs', by simp at hc ⊢; exact hc.1⟩
            have ek : i ≠ row := fun e => hn ⟨cs', by rw [e]⟩
            obtain ⟨u, hu, hcu⟩ := k1 i j y hi hn' hj
            have hj' : j < sz := by rw [← k0 i hi hn']; exact (List.getElem?_eq_some_iff.1 hj).1
            refine ⟨u, ?_, hcu⟩
            rw [spliced_get _ _ _ _ hsz, hxs.length]
            rcases Nat.lt_or_gt_of_ne ek with hlt | hgt
            · have : (i + 1) * sz ≤ row * sz := Nat.mul_le_mul_right _ hlt
              rw [Nat.add_mul] at this
              rw [if_pos (by omega)]; exact hu
            · have : (row + 1) * sz ≤ i * sz := Nat.mul_le_mul_right _ hgt
              rw [Nat.add_mul] at this
              rw [if_neg (by omega), if_neg (by omega)]; exact hu, hkb, hknd, fun i' cells' hf => by
          simp at hf; obtain ⟨rfl, rfl⟩ := hf
          refine ⟨hrow, by rw [p1, hcl], fun j y hj => ?_⟩
          have hp := p3 j y hj
          have hj' : j < sz := by rw [← hcl, ← p1]; exact (List.getElem?_eq_some_iff.1 hj).1
          have hgl := spliced_get cs (a.eval x).cells.toList (base + row * sz + off) (base + row * sz + j) hsz
          have hxl := hxs.length
          by_cases c1 : j < off
          · rw [if_pos c1] at hp
            obtain ⟨u, hu, hcu⟩ := hcs j y hp
            exact ⟨u, by rw [hgl, if_pos (by omega)]; exact hu, hcu.step hstep⟩
          · by_cases c2 : j < off + xs.length
            · rw [if_neg c1, if_pos c2] at hp
              obtain ⟨u, hu, hcu⟩ := hxs.get hp
              refine ⟨u, ?_, hcu.step hstep⟩
              rw [hgl, if_neg (by omega), if_pos (by omega), show base + row * sz + j - (base + row * sz + off) = j - off by omega]
              exact hu
            · rw [if_neg c1, if_neg c2] at hp
              obtain ⟨u, hu, hcu⟩ := hcs j y hp
              exact ⟨u, by rw [hgl, if_neg (by omega), if_neg (by omega)]; exact hu, hcu.step hstep⟩⟩
      refine sound_mem (x := .c .junk) R' hd (.inr ⟨?_, rfl⟩) rfl trivial hK
      simp [execOp, ho, he, Instr.storeAt, Instr.sureAddr, hst]
    · exact h.elim
  | _ => exact h.elim
end
end Go.Rk
/- Operations, more: addresses, arithmetic, aggregates. -/
namespace Go.Rk
set_option linter.unusedSimpArgs false
set_option linter.unusedVariables false
section
variable {P : Program} {T : TypeId → Option TI} {EX : FuncId → List Nat × Bool} {M : Ms}
variable {w0 : World} {S : Sets} {nt : Nat} {slots : List (Nat × AV)} {σ : Objs} {a : Act} {w : World} {μ : Place}
variable {o : Oper} {K : AV → List (Nat × Nat × HO) → Prop} {next : Act → World → Prop} {Q : Exit → Act → World → Prop}

theorem sound_nilCheck (R : RelM w0 S nt (lookS slots) σ a w μ) (hd : ∀ d, o.dst = some d → d < nt) {x : Operand} (ho : o.op = .nilCheck x)
    (h : (semOp real T EX o true (rho slots)).run σ (OpOut.run M σ K)) : Sound P w0 S nt slots σ a w o K := by
  simp only [semOp, ho, G.run_bind] at h
  obtain ⟨c, hc, h⟩ := cellv_run h (rho_rep R x)
  cases c with
  | d x' =>
    cases x' with
    | p cells =>
      generalize he : a.eval x = pv at hc
      have hc' := hc
      cases hc with
      | p _ b off cs e fr u hN hb hu hdd => exact sound_val R hd (v := .pointer (some ⟨b, off, none⟩)) (by simp [execOp, ho, he]) (x := .c (.d (.p cells))) hc' h
    | _ => exact h.elim
  | bp l ver off =>
    simp only [G.run] at h
    split at h
    · rename_i ver' cells hσ
      obtain ⟨hv, h⟩ := h
      have hv : ver = ver' := hv
      subst hv
      obtain ⟨b, hμ, he⟩ := hc.2.2 cells hσ
      exact sound_val R hd (v := .pointer (some ⟨b, off, none⟩)) (by simp [execOp, ho, he]) (x := .c (.bp l ver off)) (he ▸ hc) h
    · exact h.elim
  | op l ver row off =>
    simp only [G.run] at h
    split at h
    · rename_i ver' sz n rows hσ
      obtain ⟨hv, h⟩ := h
      have hv : ver = ver' := hv
      subst hv
      obtain ⟨_, b, base, hμ, he⟩ := hc.2.2 sz n rows hσ
      exact sound_val R hd (v := .pointer (some ⟨b, base + row * sz + off, none⟩)) (by simp [execOp, ho, he]) (x := .c (.op l ver row off)) (he ▸ hc) h
    · exact h.elim
  | nop l ver row off =>
    simp only [G.run] at h
    split at h
    · rename_i ver' sz n rows foc hσ
      obtain ⟨hv, h⟩ := h
      have hv : ver = ver' := hv
      subst hv
      obtain ⟨_, b, base, hμ, he⟩ := hc.2.2 sz n rows foc hσ
      exact sound_val R hd (v := .pointer (some ⟨b, base + row * sz + off, none⟩)) (by simp [execOp, ho, he]) (x := .c (.nop l ver row off)) (he ▸ hc) h
    · exact h.elim
  | _ => exact h.elim

theorem sound_unOp (R : RelM w0 S nt (lookS slots) σ a w μ) (hd : ∀ d, o.dst = some d → d < nt) {u : UnOp} {t : TypeId} {x : Operand} (ho : o.op = .unOp u t x)
    (h : (semOp real T EX o true (rho slots)).run σ (OpOut.run M σ K)) : Sound P w0 S nt slots σ a w o K := by
  cases u with
  | neg =>
    simp only [semOp, ho, G.run_bind] at h
    obtain ⟨k, n, he, h⟩ := intv_run h (rho_rep R x)
    exact sound_val R hd (v := .int k (k.wrap (0 - n))) (by simp [execOp, ho, he, Op.unary, Op.intArith]) (x := .c (.d (.v (.int k (k.wrap (0 - n)))))) (DRep.v _ rfl) h
  | not =>
    simp only [semOp, ho, G.run_bind] at h
    obtain ⟨b, he, h⟩ := boolv_run h (fun _ => rho_rep R x)
    have he := he rfl
    exact sound_val R hd (v := .bool (!b)) (by simp [execOp, ho, he, Op.unary]) (x := .c (.d (.v (.bool (!b))))) (DRep.v _ rfl) h
  | _ => simp only [semOp, ho] at h; exact h.elim

theorem sound_convert (hT : TTok P T) (R : RelM w0 S nt (lookS slots) σ a w μ) (hd : ∀ d, o.dst = some d → d < nt) {s t : TypeId} {x : Operand} (ho : o.op = .convert s t x)
    (h : (semOp real T EX o true (rho slots)).run σ (OpOut.run M σ K)) : Sound P w0 S nt slots σ a w o K := by
  simp only [semOp, ho, G.run_bind] at h
  obtain ⟨j, hj, h⟩ := tiv_run h
  obtain ⟨i, hi, h⟩ := tiv_run h
  split at h
  · rename_i k hdst
    rw [G.run_bind] at h
    obtain ⟨q, n, he, h⟩ := intv_run h (rho_rep R x)
    have h1 : P.underlying t = some (.int k) := by rw [hT.desc t i hi, hdst]
    have h0 := hT.desc s j hj
    exact sound_val R hd (v := .int k (k.wrap n)) (by simp [execOp, ho, he, convert, underlying, h1, h0, Conv.intToInt]) (x := .c (.d (.v (.int k (k.wrap n))))) (DRep.v _ rfl) h
  · exact h.elim

theorem sound_fieldAddr (hT : TTok P T) (R : RelM w0 S nt (lookS slots) σ a w μ) (hd : ∀ d, o.dst = some d → d < nt) {t : TypeId} {p : Operand} {f : Nat} (ho : o.op = .fieldAddr t p f)
    (h : (semOp real T EX o true (rho slots)).run σ (OpOut.run M σ K)) : Sound P w0 S nt slots σ a w o K := by
  simp only [semOp, ho, G.run_bind] at h
  obtain ⟨it, fs, fx, i, hit, hdesc, hf, hi, hz, h⟩ := fieldv_run h
  have hu : P.underlying t = some (.struct fs) := by rw [hT.desc t it hit, hdesc]
  obtain ⟨c, hc, h⟩ := cellv_run h (rho_rep R p)
  have hrun : ∀ b off, a.eval p = .pointer (some ⟨b, off, none⟩) → (execOp a.eval o).run P w = .ok (.value (.pointer (some ⟨b, off + fx.offset, none⟩))) w := by
    intro b off he
    simp [execOp, ho, he, Instr.fieldAt, underlying, hu, hf, Instr.sureAddr, fieldPlace, sizeOf_run hT hi, hz, add_off]
  cases c with
  | d x' =>
    cases x' with
    | p cells =>
      generalize he : a.eval p = pv at hc
      cases hc with
      | p _ b off cs e fr u hN hb hu' hdd =>
        refine sound_val R hd (hrun b off he) (x := .c (.d (.p (dropN fx.offset cells)))) ?_ h
        refine DRep.p _ b (off + fx.offset) cs e fr (fun j => u (fx.offset + j)) hN hb (fun j x hj => ?_) fun j x hj => ?_
        · rw [dropN_get] at hj; rw [Nat.add_assoc]; exact hu' _ x hj
        · rw [dropN_get] at hj; exact hdd _ x hj
    | _ => exact h.elim
  | bp l ver off =>
    simp only [G.run] at h
    split at h
    · rename_i ver' cells hσ
      obtain ⟨hv, h⟩ := h
      have hv : ver = ver' := hv
      subst hv
      obtain ⟨h1, h2, h3⟩ := hc
      obtain ⟨b, hμ, he⟩ := h3 cells hσ
      exact sound_val R hd (hrun b off he) (x := .c (.bp l ver (off + fx.offset))) ⟨rfl, h2, fun cells' hσ' => ⟨b, hμ, rfl⟩⟩ h
    · exact h.elim
  | op l ver row off =>
    simp only [G.run] at h
    split at h
    · rename_i ver' sz n rows hσ
      obtain ⟨hv, h⟩ := h
      have hv : ver = ver' := hv
      subst hv
      obtain ⟨h1, h2, h3⟩ := hc
      obtain ⟨hrow, b, base, hμ, he⟩ := h3 sz n rows hσ
      refine sound_val R hd (hrun b _ he) (x := .c (.op l ver row (off + fx.offset))) ⟨rfl, h2, fun sz' n' rw' hσ' => ?_⟩ h
      rw [hσ] at hσ'; simp at hσ'; obtain ⟨rfl, rfl, rfl⟩ := hσ'
      exact ⟨hrow, b, base, hμ, by rw [Nat.add_assoc]⟩
    · exact h.elim
  | nop l ver row off =>
    simp only [G.run] at h
    split at h
    · rename_i ver' sz n rows foc hσ
      obtain ⟨hv, h⟩ := h
      have hv : ver = ver' := hv
      subst hv
      obtain ⟨h1, h2, h3⟩ := hc
      obtain ⟨hrow, b, base, hμ, he⟩ := h3 sz n rows foc hσ
      refine sound_val R hd (hrun b _ he) (x := .c (.nop l ver row (off + fx.offset))) ⟨rfl, h2, fun sz' n' rw' foc' hσ' => ?_⟩ h
      rw [hσ] at hσ'; simp at hσ'; obtain ⟨rfl, rfl, rfl, rfl⟩ := hσ'
      exact ⟨hrow, b, base, hμ, by rw [Nat.add_assoc]⟩
    · exact h.elim
  | _ => exact h.elim

theorem sound_extract (R : RelM w0 S nt (lookS slots) σ a w μ) (hd : ∀ d, o.dst = some d → d < nt) {x : Operand} {i : Nat} (ho : o.op = .extract x i)
    (h : (semOp real T EX o true (rho slots)).run σ (OpOut.run M σ K)) : Sound P w0 S nt slots σ a w o K := by
  simp only [semOp, ho, G.run_bind] at h
  obtain ⟨y, hy, h⟩ := opv_run h (rho_rep R x)
  cases y with
  | tup xs =>
    rw [G.run_bind] at h
    obtain ⟨z, hz, h⟩ := optv_run h
    obtain ⟨cs, he, hcs⟩ := hy
    have : ∀ {xs : List TV} {vs : List Value} {i : Nat} {z : TV}, TsRep σ μ w (Nof S σ μ w) xs vs → xs[i]? = some z → ∃ v, vs[i]? = some v ∧ TRep σ μ w (Nof S σ μ w) z v := by
      intro xs
      induction xs with
      | nil => intro vs i z _ e; simp at e
      | cons x r ih =>
        intro vs i z h e
        cases vs with
        | nil => exact h.elim
        | cons v s =>
          cases i with
          | zero => simp at e; subst e; exact ⟨v, rfl, h.1⟩
          | succ i => simp at e; obtain ⟨v', h1, h2⟩ := ih h.2 e; exact ⟨v', by simpa using h1, h2⟩
    obtain ⟨v, hv, ht⟩ := this hcs hz
    refine sound_val R hd (v := v) (by simp at hv; simp [execOp, ho, he, Instr.extract, hv]) (x := z.av) ?_ h
    cases z with
    | c x => exact ht
    | agg xs => exact ht
  | _ => exact h.elim

theorem sound_field (hT : TTok P T) (R : RelM w0 S nt (lookS slots) σ a w μ) (hd : ∀ d, o.dst = some d → d < nt) {t : TypeId} {x : Operand} {f : Nat} (ho : o.op = .field t x f)
    (h : (semOp real T EX o true (rho slots)).run σ (OpOut.run M σ K)) : Sound P w0 S nt slots σ a w o K := by
  simp only [semOp, ho, G.run_bind] at h
  obtain ⟨it, fs, fx, i, hit, hdesc, hf, hi, hz, h⟩ := fieldv_run h
  have hu : P.underlying t = some (.struct fs) := by rw [hT.desc t it hit, hdesc]
  obtain ⟨y, hy, h⟩ := opv_run h (rho_rep R x)
  cases y with
  | agg xs =>
    rw [G.run_bind] at h
    obtain ⟨ys, hys, h⟩ := optv_run h
    rw [G.run_bind] at h
    obtain ⟨cs, he, hcs⟩ := hy
    obtain ⟨hl, hg⟩ := takeN_spec hys
    have hl : ys.length = i.size := hl
    have hget : ∀ (j : Nat) z, ys[j]? = some z → ∃ u, cs[fx.offset + j]? = some u ∧ CRep σ μ w (Nof S σ μ w) z u := fun j z hj => by
      have := hg j z hj
      rw [dropN_get] at this
      obtain ⟨u, hu, hc⟩ := hcs.get this
      exact ⟨u, by simpa using hu, hc⟩
    have hlen : ∀ j, j < ys.length → fx.offset + j < cs.size := fun j hj => by
      obtain ⟨u, hu, _⟩ := hget j ys[j] (List.getElem?_eq_getElem hj)
      exact (Array.getElem?_eq_some_iff.1 hu).1
    unfold mkAV at h
    cases hag : isAggT i.desc with
    | true =>
      simp only [hag, if_true] at h
      have hsz : fx.offset + i.size ≤ cs.size := by
        have := hlen (i.size - 1) (by rw [hl]; omega)
        omega
      refine sound_val R hd (v := .agg (cs.extract fx.offset (fx.offset + i.size))) ?_ (x := .agg ys) ⟨_, rfl, ?_⟩ h
      · simp [execOp, ho, he, Instr.field, underlying, hu, hf, asAgg, part, isAgg_run hT hi, hag, sizeOf_run hT hi]
      · refine CsRep.of_get (by simp [hl]; omega) fun j z hj => ?_
        obtain ⟨u, hu', hc⟩ := hget j z hj
        have hj' : j < ys.length := (List.getElem?_eq_some_iff.1 hj).1
        refine ⟨u, ?_, hc⟩
        rw [Array.getElem?_toList, Array.getElem?_extract, if_pos (by omega)]
        exact hu'
    | false =>
      simp only [hag] at h
      match ys, h with
      | [z], h =>
        obtain ⟨u, hu', hc⟩ := hget 0 z rfl
        refine sound_val R hd (v := u) ?_ (x := .c z) hc h
        have hu'' : cs[fx.offset]? = some u := by simpa using hu'
        simp [execOp, ho, he, Instr.field, underlying, hu, hf, asAgg, part, isAgg_run hT hi, hag, hu'']
  | _ => exact h.elim

theorem sound_indexAddr (hT : TTok P T) (R : RelM w0 S nt (lookS slots) σ a w μ) (hd : ∀ d, o.dst = some d → d < nt) {t : TypeId} {x ix : Operand} (ho : o.op = .indexAddr t x ix)
    (h : (semOp real T EX o true (rho slots)).run σ (OpOut.run M σ K)) : Sound P w0 S nt slots σ a w o K := by
  simp only [semOp, ho, G.run_bind] at h
  obtain ⟨it, e, i, hit, hdesc, hi, h⟩ := elemv_run h
  have hu : P.underlying t = some (.slice e) := by rw [hT.desc t it hit, hdesc]
  obtain ⟨c, hc, h⟩ := cellv_run h (rho_rep R x)
  obtain ⟨k, n, hn, h⟩ := intv_run h (rho_rep R ix)
  have hrun : ∀ b off len cap, a.eval x = .slice (some ⟨b, off, none⟩) len cap → 0 ≤ n → n < len →
      (execOp a.eval o).run P w = .ok (.value (.pointer (some ⟨b, off + n.toNat * i.size, none⟩))) w := by
    intro b off len cap he h0 h1
    simp [execOp, ho, he, hn, Instr.indexAt, underlying, hu, asIntOf, sizeOf_run hT hi, h0, h1, add_off]
  cases c with
  | d x' =>
    cases x' with
    | sl sz m row =>
      simp only at h
      cases hsz : nbeq sz i.size with
      | false => rw [hsz] at h; exact h.elim
      | true =>
        rw [hsz] at h
        obtain ⟨hb, h⟩ := h
        have hsz := eq_of_nbeq hsz
        obtain ⟨h0, h1⟩ := hb rfl
        generalize he : a.eval x = pv at hc
        cases hc with
        | nil => omega
        | empty => omega
        | sl _ _ _ b off cap cs e' fr u hN hb' hcap hsz' hr hu' hdd =>
          refine sound_val R hd (hrun b off m cap he h0 h1) (x := .c (.d (.p (row n.toNat)))) ?_ h
          have hlt : n.toNat < m := by omega
          refine DRep.p _ b _ cs e' fr (fun j => u n.toNat j) hN hb' (fun j z hj => ?_) fun j z hj => hdd _ _ z hlt hj
          rw [← hsz]; exact hu' _ _ z hlt hj
    | _ => exact h.elim
  | own l off len ver =>
    simp only [G.run] at h
    split at h
    · rename_i ver' sz m rows hσ
      cases hsz : nbeq sz i.size with
      | false => rw [hsz] at h; exact h.elim
      | true =>
        rw [hsz] at h
        obtain ⟨hv, hb, h⟩ := h
        have hv : ver = ver' := hv
        subst hv
        have hsz := eq_of_nbeq hsz
        obtain ⟨h0, h1⟩ := hb rfl
        obtain ⟨_, h2, h3⟩ := hc
        obtain ⟨h4, h5⟩ := h3 sz m rows hσ
        rcases h5 with ⟨_, h5, _⟩ | ⟨b, base, o', cap, cs, e', hμ, he, hcap, ho', _⟩
        · omega
        · have hlt : n.toNat < len := by omega
          have ho'' := ho' (.inl (by omega))
          refine sound_val R hd (hrun b o' len cap he h0 h1) (x := .c (.op l ver (off + n.toNat) 0)) ⟨rfl, h2, fun sz' n' rw' hσ' => ?_⟩ h
          rw [hσ] at hσ'; simp at hσ'; obtain ⟨rfl, rfl, rfl⟩ := hσ'
          exact ⟨by omega, b, base, hμ, by rw [ho'', ← hsz, Nat.add_mul, Nat.add_zero, Nat.add_assoc]⟩
    · exact h.elim
  | nown l len ver =>
    simp only [G.run] at h
    split at h
    · rename_i ver' sz m rows foc hσ
      cases hsz : nbeq sz i.size with
      | false => rw [hsz] at h; exact h.elim
      | true =>
        rw [hsz] at h
        obtain ⟨hv, hb, h⟩ := h
        have hv : ver = ver' := hv
        subst hv
        have hsz := eq_of_nbeq hsz
        obtain ⟨h0, h1⟩ := hb rfl
        obtain ⟨_, h2, h3⟩ := hc
        obtain ⟨h4, h5⟩ := h3 sz m rows foc hσ
        rcases h5 with ⟨_, h5, _⟩ | ⟨b, base, cap, cs, e', hμ, he, hcap, _⟩
        · omega
        · refine sound_val R hd (hrun b base len cap he h0 h1) (x := .c (.nop l ver n.toNat 0)) ⟨rfl, h2, fun sz' n' rw' foc' hσ' => ?_⟩ h
          rw [hσ] at hσ'; simp at hσ'; obtain ⟨rfl, rfl, rfl, rfl⟩ := hσ'
          exact ⟨by omega, b, base, hμ, by rw [← hsz, Nat.add_zero]⟩
    · exact h.elim
  | _ => exact h.elim

theorem sound_makeFunc (R : RelM w0 S nt (lookS slots) σ a w μ) (hd : ∀ d, o.dst = some d → d < nt) {fn : Fn} {first caps : Array Operand} (ho : o.op = .makeFunc fn first caps)
    (h : (semOp real T EX o true (rho slots)).run σ (OpOut.run M σ K)) : Sound P w0 S nt slots σ a w o K := by
  cases fn with
  | func f =>
    simp only [semOp, ho] at h
    split at h
    · rename_i hf
      rw [G.run_bind] at h
      have hcap : ∀ (l : List Operand) (Q : List (Nat × Nat) → Prop), (capvs real true (rho slots) l).run σ Q → ∃ cs, Q cs ∧ cs.length = l.length ∧
          ∀ (j : Nat) l' ver, cs[j]? = some (l', ver) → ver ≤ (σ l').1 ∧ ∀ cells, σ l' = (ver, .box cells) → ∃ b, μ l' = some (b, 0) ∧ (l.map a.eval)[j]? = some (Value.pointer (some ⟨b, 0, none⟩)) := by
        intro l
        induction l with
        | nil => intro Q h; exact ⟨[], h, rfl, fun j l' ver hj => by simp at hj⟩
        | cons x r ih =>
          intro Q h
          simp only [capvs, G.run_bind] at h
          obtain ⟨c, hc, h⟩ := cellv_run h (rho_rep R x)
          split at h
          · rename_i l1 ver1
            rw [G.run_bind] at h
            obtain ⟨cs, hq, hl, hcs⟩ := ih _ h
            refine ⟨_, hq, by simp [hl], fun j l' ver hj => ?_⟩
            cases j with
            | zero =>
              simp at hj; obtain ⟨rfl, rfl⟩ := hj
              refine ⟨hc.2.1, fun cells hσ => ?_⟩
              obtain ⟨b, hμ, he⟩ := hc.2.2 cells hσ
              exact ⟨b, hμ, by simp [he]⟩
            | succ j =>
              simp at hj
              simpa using hcs j l' ver hj
          · exact h.elim
      obtain ⟨cs, hq, hl, hcs⟩ := hcap _ _ h
      have hf' : first = #[] := by simpa using hf
      refine sound_val R hd (v := .func (.func f) #[] (caps.map a.eval)) (by simp [execOp, ho, Instr.makeFunc, hf']) ?_ hq
      cases cs with
      | nil =>
        have hc0 : caps = #[] := Array.eq_empty_of_size_eq_zero (by simpa using hl.symm)
        subst hc0
        exact DRep.fn f [] _ (fun _ => undef) (by simp) (fun j x h => by simp at h) (fun j x h => by simp at h)
      | cons c r =>
        refine ⟨caps.map a.eval, rfl, by simpa using hl.symm, fun j l' ver hj => ?_⟩
        obtain ⟨h1, h2⟩ := hcs j l' ver hj
        refine ⟨h1, fun cells hσ => ?_⟩
        obtain ⟨b, hμ, he⟩ := h2 cells hσ
        exact ⟨b, hμ, by simpa using he⟩
    · exact h.elim
  | _ => simp only [semOp, ho] at h; exact h.elim
end
end Go.Rk
