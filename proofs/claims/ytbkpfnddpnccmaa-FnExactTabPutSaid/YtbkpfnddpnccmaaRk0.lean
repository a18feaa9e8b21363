/- The abstract machine's words: data values, what a temporary holds, what an own block holds, and what one operation does to these. -/
import Derived.Orders
import Derived.Laws.Sem
namespace Go.Rk

/-- What is read and never written while it is held: a cell's value; a slice ('n' rows of 'sz' cells); what a pointer leads to; a function with what it has caught. -/
inductive DV where
  | v (x : Value)
  | sl (sz n : Nat) (row : Nat → List DV)
  | p (cells : List DV)
  | fn (f : FuncId) (caps : List DV)

abbrev nilS : Value := .slice none 0 0

/-- One cell's or temporary's: 'own': a part of an own row; 'bp': into an own box; 'op': into an own row's element; 'zc': a slice with no room. -/
inductive CV where
  | junk
  | d (x : DV)
  | own (l : Nat) (off len ver : Nat)
  | bp (l : Nat) (ver off : Nat)
  | op (l : Nat) (ver row off : Nat)
  | clo (f : FuncId) (caps : List (Nat × Nat))
  | zc

inductive TV where
  | c (x : CV)
  | agg (xs : List CV)

inductive AV where
  | c (x : CV)
  | agg (xs : List CV)
  | tup (xs : List TV)
  | gd (t : Bool) (x : AV)
def TV.av : TV → AV
  | .c x => .c x
  | .agg xs => .agg xs

inductive HO where
  | dead
  | box (cells : List CV)
  | arr (sz n : Nat) (row : Nat → List DV)

structure St where
  slots : List (Nat × AV)
  objs : List (Nat × Nat × HO)

def lookS : List (Nat × AV) → Nat → AV
  | [], _ => .c .junk
  | (j, v) :: r, k => bif Nat.beq j k then v else lookS r k
def lookO : List (Nat × Nat × HO) → Nat → Nat × HO
  | [], _ => (0, .dead)
  | (j, v) :: r, k => bif Nat.beq j k then v else lookO r k
def St.s (σ : St) (k : Nat) : AV := lookS σ.slots k
def St.o (σ : St) (l : Nat) : Nat × HO := lookO σ.objs l
def St.put (σ : St) (dst : Option Nat) (x : AV) (us : List (Nat × Nat × HO)) : St :=
  { slots := match dst with | some k => (k, x) :: σ.slots | none => σ.slots, objs := us ++ σ.objs }

/-- A type, as the operations ask it: 'eqk': all cells are compared as they lie. -/
structure TI where
  desc : TypeDesc
  size : Nat
  bytes : Nat
  zero : List Value
  eqk : Bool

/-- One operation of a region, as its order is asked: its own temporary, those behind which it comes, the temporaries and own things it looks at, and those it turns. -/
structure Rec where
  dst : Option Nat
  pre : List Nat
  sl : List Nat
  lk : List Nat
  us : List Nat
def memN : List Nat → Nat → Bool
  | [], _ => false
  | j :: r, k => bif Nat.beq j k then true else memN r k
def apartN : List Nat → List Nat → Bool
  | [], _ => true
  | j :: r, l => bif memN l j then false else apartN r l
def offN (d : Option Nat) (l : List Nat) : Bool := match d with | some k => !memN l k | none => true
def offD (d e : Option Nat) : Bool := match d, e with | some k, some j => !Nat.beq k j | _, _ => true
def apartR (x y : Rec) : Bool := offN x.dst y.sl && (offN y.dst x.sl && (offD x.dst y.dst && (apartN x.us y.lk && (apartN y.us x.lk && apartN x.us y.us))))
def orAll (an : List Nat) : List Nat → Nat
  | [] => 0
  | p :: r => (an.getD p 0 ||| 1 <<< p) ||| orAll an r
def ancs : List Rec → List Nat → List Nat
  | [], an => an
  | r :: rs, an => ancs rs (an ++ [orAll an r.pre])
def preB : Nat → List Rec → Bool
  | _, [] => true
  | i, r :: rs => (r.pre.all fun p => Nat.blt p i) && preB (i + 1) rs
def pairsB : Nat → List Rec → List Nat → Bool
  | i, r :: rs, _ :: an => ((rs.zip an).all fun q => q.2.testBit i || apartR r q.1) && pairsB (i + 1) rs an
  | _, _, _ => true
/-- Two that no other orders do not touch each other's things. -/
def indep (rs : List Rec) : Bool := preB 0 rs && pairsB 0 rs (ancs rs [])

/-- What the walk does not look into: arithmetic, tests and rows. 'real' is what they are. -/
structure Ar where
  ar : BinOp → IntKind → Int → Int → Int
  cmp : BinOp → Int → Int → Bool
  band : Bool → Bool → Bool
  bnot : Bool → Bool
  bite : Bool → Bool → Bool → Bool
  beq : Bool → Bool → Bool
  wrap : IntKind → Int → Int
  mn : Int → Int → Int
  mx : Int → Int → Int
  nat : Int → Nat
  int : Nat → Int
  add : Nat → Nat → Nat
  dif : Int → Int → Nat
  inb : Bool → Int → Nat → Prop
  cut : Int → Int → Nat → Prop
  room : Nat → Nat → Prop
  same : Nat → Nat → Prop
  nz : Bool → Int → Prop
  imp : Bool → Bool → Prop
  made : Int → Int → Nat → Prop
  app : Nat → (Nat → List DV) → (Nat → List DV) → Nat → List DV
  sub : Nat → (Nat → List DV) → Nat → List DV
  upd : (Nat → List DV) → Nat → List DV → Nat → List DV
  rep : List DV → Nat → List DV
  flat : Nat → (Nat → List DV) → Prop
  ind : List Rec → Prop
  hold : (Unit → Prop) → Prop
  br : Bool → Prop → Prop → Prop
  sel : List Int → Nat → Int

def real : Ar where
  ar := fun op k a b => match op with
    | .add => k.wrap (a + b)
    | .sub => k.wrap (a - b)
    | .mul => k.wrap (a * b)
    | .xor => k.wrap (BitVec.ofInt k.bits a ^^^ BitVec.ofInt k.bits b).toNat
    | .quo => k.wrap (a.tdiv b)
    | .rem => a.tmod b
    | _ => 0
  cmp := fun op a b => match op with
    | .eql => a == b
    | .neq => a != b
    | .lss => decide (a < b)
    | .leq => decide (a ≤ b)
    | .gtr => decide (a > b)
    | .geq => decide (a ≥ b)
    | _ => false
  band := (· && ·)
  bnot := (! ·)
  bite := fun t x y => bif t then x else y
  beq := fun a b => a == b
  wrap := fun k n => k.wrap n
  mn := fun a b => if b < a then b else a
  mx := fun a b => if b > a then b else a
  nat := Int.toNat
  int := fun n => (n : Int)
  add := (· + ·)
  dif := fun b a => (b - a).toNat
  inb := fun g i n => g = true → 0 ≤ i ∧ i < n
  cut := fun a b n => 0 ≤ a ∧ a ≤ b ∧ b ≤ n
  room := fun n bytes => n * bytes ≤ 140737488355328 ∧ n ≤ 140737488355328
  same := fun a b => a = b
  nz := fun g n => g = true → n ≠ 0
  imp := fun g t => g = true → t = true
  made := fun n c bytes => 0 ≤ n ∧ n = c ∧ n * bytes ≤ 140737488355328 ∧ n ≤ 140737488355328
  app := fun n a b i => if i < n then a i else b (i - n)
  sub := fun n a i => a (n + i)
  upd := fun a j x i => if i = j then x else a i
  rep := fun x _ => x
  flat := fun n row => ∀ i, i < n → ∀ x, x ∈ row i → ∃ u, x = .v u
  ind := fun rs => indep rs = true
  hold := fun f => f ()
  br := fun t p q => (t = true → p) ∧ (t = false → q)
  sel := fun l i => l.getD i 0

inductive G (α : Type) : Type where
  | ret (a : α)
  | get (l : Nat) (k : Nat × HO → G α)
  | vc (p : Prop) (k : G α)
  | fail

namespace G
def bind {α β : Type} : G α → (α → G β) → G β
  | .ret a, f => f a
  | .get l k, f => .get l fun r => (k r).bind f
  | .vc p k, f => .vc p (k.bind f)
  | .fail, _ => .fail
instance : Monad G where
  pure := G.ret
  bind := G.bind
/-- What is to be shown: the conditions, and what is asked of the answer and of the own blocks that were looked at. -/
def wp {α : Type} : G α → (Nat → Nat × HO) → (α → List Nat → Prop) → Prop
  | .ret a, _, Q => Q a []
  | .get l k, σ, Q => (k (σ l)).wp σ fun a r => Q a (l :: r)
  | .vc p k, σ, Q => p ∧ k.wp σ Q
  | .fail, _, _ => False
/-- The same, the looks left out. -/
def run {α : Type} : G α → (Nat → Nat × HO) → (α → Prop) → Prop
  | .ret a, _, Q => Q a
  | .get l k, σ, Q => (k (σ l)).run σ Q
  | .vc p k, σ, Q => p ∧ k.run σ Q
  | .fail, _, _ => False
theorem run_bind {α β : Type} (m : G α) (f : α → G β) (σ : Nat → Nat × HO) (Q : β → Prop) : (m.bind f).run σ Q ↔ m.run σ fun a => (f a).run σ Q := by
  induction m with
  | ret a => exact Iff.rfl
  | get l k ih => exact ih _
  | vc p k ih => exact and_congr Iff.rfl ih
  | fail => exact Iff.rfl
theorem run_mono {α : Type} {m : G α} {σ : Nat → Nat × HO} {Q Q' : α → Prop} (hq : ∀ a, Q a → Q' a) (h : m.run σ Q) : m.run σ Q' := by
  induction m with
  | ret a => exact hq _ h
  | get l k ih => exact ih _ h
  | vc p k ih => exact ⟨h.1, ih h.2⟩
  | fail => exact h
/-- One answer, and the looks: whoever agrees on these has that answer. -/
theorem wp_det {α : Type} {m : G α} {σ : Nat → Nat × HO} {Q : α → List Nat → Prop} (h : m.wp σ Q) :
    ∃ a r, Q a r ∧ ∀ σ' : Nat → Nat × HO, (∀ l, l ∈ r → σ' l = σ l) → ∀ Q' : α → Prop, Q' a → m.run σ' Q' := by
  induction m generalizing Q with
  | ret a => exact ⟨a, [], h, fun _ _ _ q => q⟩
  | get l k ih =>
    obtain ⟨a, r, hq, hr⟩ := ih _ h
    refine ⟨a, l :: r, hq, fun σ' hl Q' q => ?_⟩
    show (k (σ' l)).run σ' Q'
    rw [hl l (by simp)]
    exact hr σ' (fun l' hl' => hl l' (by simp [hl'])) Q' q
  | vc p k ih =>
    obtain ⟨a, r, hq, hr⟩ := ih h.2
    exact ⟨a, r, hq, fun σ' hl Q' q => ⟨h.1, hr σ' hl Q' q⟩⟩
  | fail => exact h.elim
end G

def constAV (v : Value) : AV :=
  match v with
  | .agg cs => if cs.toList.all (·.oneCell') then .agg (cs.toList.map fun x => .d (.v x)) else .c .junk
  | .tuple _ => .c .junk
  | v => .c (.d (.v v))
def rho (σ : List (Nat × AV)) : Operand → AV
  | .tmp t => lookS σ t
  | .const v => constAV v
  | .global _ => .c .junk
  | .func f => .c (.d (.fn f []))

/-! What is handed over at a call. -/
inductive XC where
  | d (x : DV)
  | own (sz n : Nat) (row : Nat → List DV)
inductive XV where
  | d (x : DV)
  | own (sz n : Nat) (row : Nat → List DV)
  | box (cells : List XC)
inductive XT where
  | c (x : XV)
  | agg (xs : List XV)
inductive XA where
  | one (x : XT)
  | tup (xs : List XT)
/-- What a call hands back; and for each argument that was handed over to be written, what it holds behind the call. -/
structure Out where
  res : XA
  back : List (Option XV)

inductive OpOut where
  | val (x : AV) (us : List (Nat × Nat × HO))
  | call (f : FuncId) (args : List XT) (ret : Out → G (AV × List (Nat × Nat × HO)))

section
variable (A : Ar) (T : TypeId → Option TI) (EX : FuncId → List Nat × Bool)

/-- An operand, under a guard. -/
def opv (g : Bool) (x : AV) : G AV :=
  match x with
  | .gd t a => .vc (A.imp g t) (.ret a)
  | a => .ret a
def cellv (g : Bool) (x : AV) : G CV :=
  match x with
  | .gd t (.c a) => .vc (A.imp g t) (.ret a)
  | .c a => .ret a
  | _ => .fail
def intv (g : Bool) (x : AV) : G (IntKind × Int) :=
  match x with
  | .gd t (.c (.d (.v (.int k n)))) => .vc (A.imp g t) (.ret (k, n))
  | .c (.d (.v (.int k n))) => .ret (k, n)
  | _ => .fail
def boolv (g : Bool) (x : AV) : G Bool :=
  match x with
  | .gd t (.c (.d (.v (.bool b)))) => .vc (A.imp g t) (.ret b)
  | .c (.d (.v (.bool b))) => .ret b
  | _ => .fail
def tiv (t : TypeId) : G TI :=
  match T t with
  | some i => .ret i
  | none => .fail
def elemv (t : TypeId) : G TI :=
  match T t with
  | some ⟨.slice e, _, _, _, _⟩ => tiv T e
  | _ => .fail
def fieldv (t : TypeId) (f : Nat) : G (Nat × TI) :=
  match T t with
  | some ⟨.struct fs, _, _, _, _⟩ => match fs[f]? with
    | some x => match T x.type with
      | some i => bif Nat.beq i.size 0 then .fail else .ret (x.offset, i)
      | none => .fail
    | none => .fail
  | _ => .fail
def isAggT : TypeDesc → Bool
  | .struct _ | .array _ _ => true
  | _ => false

def AV.cells : AV → List CV
  | .c x => [x]
  | .agg xs => xs
  | _ => []
def cellsv (g : Bool) (x : AV) : G (List CV) :=
  match x with
  | .gd _ (.c .junk) => .fail
  | .gd t (.c a) => .vc (A.imp g t) (.ret [a])
  | .gd t (.agg a) => .vc (A.imp g t) (.ret a)
  | .c .junk => .fail
  | .c a => .ret [a]
  | .agg a => .ret a
  | _ => .fail
def noJunk : List CV → Bool
  | [] => true
  | .junk :: _ => false
  | _ :: r => noJunk r
def mkAV (agg : Bool) (cs : List CV) : G AV :=
  if agg then .ret (.agg cs) else match cs with
    | [x] => .ret (.c x)
    | _ => .fail
def takeN {α : Type} : Nat → List α → Option (List α)
  | 0, _ => some []
  | _ + 1, [] => none
  | n + 1, x :: r => (takeN n r).map (x :: ·)
def dropN {α : Type} : Nat → List α → List α
  | 0, l => l
  | _ + 1, [] => []
  | n + 1, _ :: r => dropN n r
/-- Cells from 'off' on turned into those. -/
def patch {α : Type} : Nat → List α → List α → Option (List α)
  | 0, [], l => some l
  | 0, x :: xs, _ :: r => (patch 0 xs r).map (x :: ·)
  | 0, _ :: _, [] => none
  | n + 1, xs, y :: r => (patch n xs r).map (y :: ·)
  | _ + 1, _, [] => none
def optv {α : Type} : Option α → G α
  | some a => .ret a
  | none => .fail
def toD : CV → Option DV
  | .d x => some x
  | _ => none
def toDs : List CV → Option (List DV)
  | [] => some []
  | x :: r => match toD x, toDs r with
    | some a, some b => some (a :: b)
    | _, _ => none

/-- A slice's rows, to be read. -/
def rowsv (e : TI) (x : CV) : G (Nat × (Nat → List DV)) :=
  match x with
  | .d (.sl sz n row) => bif Nat.beq sz e.size then .ret (n, row) else .fail
  | .d (.v (.slice none 0 0)) => .ret (0, A.rep (e.zero.map .v))
  | .zc => .ret (0, A.rep (e.zero.map .v))
  | .own l off len ver => .get l fun r => match r with
    | (ver', .arr sz _ row) => bif Nat.beq sz e.size then .vc (A.same ver ver') (.ret (len, A.sub off row)) else .fail
    | _ => .fail
  | _ => .fail
def lenv (x : CV) : G Nat :=
  match x with
  | .d (.sl _ n _) => .ret n
  | .d (.v (.slice none 0 0)) => .ret 0
  | .zc => .ret 0
  | .own l _ len ver => .get l fun r => match r with
    | (ver', .arr _ _ _) => .vc (A.same ver ver') (.ret len)
    | _ => .fail
  | _ => .fail

def newObj' (L : Nat) (x : HO) (k : Nat → AV) : G OpOut :=
  .get L fun r => .ret (.val (k (r.1 + 1)) [(L, r.1 + 1, x)])

def fillC (place : Nat → Option (Nat × Nat)) : List CV → List (Nat × List CV) → Option (List CV)
  | cells, [] => some cells
  | cells, (i, v) :: rest => match place i with
    | none => none
    | some (off, size) => if v.length = size then match patch off v cells with
        | some cs => fillC place cs rest
        | none => none
      else none
def partsv (g : Bool) (σ : Operand → AV) : List (Nat × Operand) → G (List (Nat × List CV))
  | [] => .ret []
  | (i, x) :: r => (cellsv A g (σ x)).bind fun a => (partsv g σ r).bind fun b => .ret ((i, a) :: b)
def sizesv (fs : List Field) : G (List (Nat × Nat)) :=
  match fs with
  | [] => .ret []
  | f :: r => (tiv T f.type).bind fun i => (sizesv r).bind fun b => .ret ((f.offset, i.size) :: b)

def capvs (g : Bool) (σ : Operand → AV) : List Operand → G (List (Nat × Nat))
  | [] => .ret []
  | x :: r => (cellv A g (σ x)).bind fun
    | .bp l ver 0 => (capvs g σ r).bind fun b => .ret ((l, ver) :: b)
    | _ => .fail
/-- So many rows out of cells, one behind the other; zeros behind them. -/
def rowsOf (z : List DV) (sz : Nat) : Nat → List CV → Option (Nat → List DV)
  | 0, _ => some (A.rep z)
  | n + 1, cs => match takeN sz cs with
    | none => none
    | some a => match toDs a, rowsOf z sz n (dropN sz cs) with
      | some x, some r => some (A.app 1 (A.rep x) r)
      | _, _ => none

def intsK (k : IntKind) : List CV → Option (List Int)
  | [] => some []
  | .d (.v (.int k' n)) :: r => if k' = k then (intsK k r).map (n :: ·) else none
  | _ => none
def headK : List CV → Option IntKind
  | .d (.v (.int k _)) :: _ :: _ :: _ => some k
  | _ => none
/-- Three or more numbers, one a row, can be read at any place. -/
def litRow (sz : Nat) (cs : List CV) (row : Nat → List DV) : Nat → List DV :=
  match headK cs with
  | some k => bif Nat.beq sz 1 then (match intsK k cs with
    | some l => fun i => [.v (.int k (A.sel l i))]
    | none => row) else row
  | none => row

def binSem (op : BinOp) (k : IntKind) (a b : Int) : Option Value :=
  match op with
  | .add | .sub | .mul | .xor => some (.int k (A.ar op k a b))
  | .eql | .neq | .lss | .leq | .gtr | .geq => some (.bool (A.cmp op a b))
  | _ => none
def divSem (op : BinOp) (k : IntKind) (a b : Int) : Option Value :=
  match op with
  | .quo | .rem => some (.int k (A.ar op k a b))
  | _ => none
/-- Cells of whole numbers, bools and strings, pair by pair. -/
def eqCells : List CV → List CV → Option Bool
  | [], [] => some true
  | .d (.v (.int k a)) :: r, .d (.v (.int k' b)) :: s => if k = k' then (eqCells r s).map (A.band (A.cmp .eql a b) ·) else none
  | .d (.v (.bool a)) :: r, .d (.v (.bool b)) :: s => (eqCells r s).map (A.band (A.beq a b) ·)
  | _, _ => none

/-- The cells are of the kinds that a type's zeros are. -/
def kindsB : List CV → List Value → Bool
  | [], [] => true
  | .d (.v (.int k _)) :: r, .int k' _ :: s => decide (k = k') && kindsB r s
  | .d (.v (.bool _)) :: r, .bool _ :: s => kindsB r s
  | _, _ => false

/-! ## Calls -/
/-- Labels with their versions: those whose things are handed over to be written, and those that are lent. -/
structure Lent where
  ex : List (Nat × Nat)
  bo : List (Nat × Nat)
def Lent.none : Lent := ⟨[], []⟩
def Lent.both (a b : Lent) : Lent := ⟨a.ex ++ b.ex, a.bo ++ b.bo⟩
/-- An own box's cells, as they are handed over. -/
def giveCells : List CV → G (List XC × List (Nat × Nat))
  | [] => .ret ([], [])
  | .d x :: r => (giveCells r).bind fun b => .ret (.d x :: b.1, b.2)
  | .own l off len ver :: r => .get l fun q => match q with
    | (ver', .arr sz n row) => .vc (A.same ver ver') (.vc (A.same off 0) (.vc (A.same len n) ((giveCells r).bind fun b => .ret (.own sz n row :: b.1, (l, ver) :: b.2))))
    | _ => .fail
  | _ :: _ => .fail
def readOwn (l off len ver : Nat) : G DV := .get l fun q => match q with
  | (ver', .arr sz _ row) => .vc (A.same ver ver') (.ret (.sl sz len (A.sub off row)))
  | _ => .fail
def readCell (x : CV) : G (DV × List (Nat × Nat)) :=
  match x with
  | .d x => .ret (x, [])
  | .own l off len ver => (readOwn A l off len ver).bind fun y => .ret (y, [(l, ver)])
  | _ => .fail
def readCells : List CV → G (List DV × List (Nat × Nat))
  | [] => .ret ([], [])
  | x :: r => (readCell A x).bind fun a => (readCells r).bind fun b => .ret (a.1 :: b.1, a.2 ++ b.2)
def boxD (l ver : Nat) : G (DV × List (Nat × Nat)) := .get l fun q => match q with
  | (ver', .box cells) => .vc (A.same ver ver') ((readCells A cells).bind fun cs => .ret (.p cs.1, (l, ver) :: cs.2))
  | _ => .fail
def capsD : List (Nat × Nat) → G (List DV × List (Nat × Nat))
  | [] => .ret ([], [])
  | (l, ver) :: r => (boxD A l ver).bind fun a => (capsD r).bind fun b => .ret (a.1 :: b.1, a.2 ++ b.2)
def givenCell (ex : Bool) (x : CV) : G (XV × Lent) :=
  match x with
  | .d x => .ret (.d x, .none)
  | .own l off len ver =>
    if ex then .get l fun q => match q with
      | (ver', .arr sz n row) => .vc (A.same ver ver') (.vc (A.same off 0) (.vc (A.same len n) (.ret (.own sz n row, ⟨[(l, ver)], []⟩))))
      | _ => .fail
    else (readOwn A l off len ver).bind fun x => .ret (.d x, ⟨[], [(l, ver)]⟩)
  | .bp l ver off =>
    if ex then .vc (A.same off 0) ((boxD A l ver).bind fun a => .ret (.d a.1, ⟨[], a.2⟩))
    else .get l fun q => match q with
      | (ver', .box cells) => .vc (A.same ver ver') (.vc (A.same off 0) ((giveCells A cells).bind fun cs => .ret (.box cs.1, ⟨(l, ver) :: cs.2, []⟩)))
      | _ => .fail
  | .clo f caps => (capsD A caps).bind fun cs => .ret (.d (.fn f cs.1), ⟨[], cs.2⟩)
  | _ => .fail
def givenCells (ex : Bool) : List CV → G (List XV × Lent)
  | [] => .ret ([], .none)
  | x :: r => (givenCell A ex x).bind fun a => (givenCells ex r).bind fun b => .ret (a.1 :: b.1, a.2.both b.2)
def givenArg (g ex : Bool) (x : AV) : G (XT × Lent) :=
  (opv A g x).bind fun
    | .c x => (givenCell A ex x).bind fun a => .ret (.c a.1, a.2)
    | .agg xs => (givenCells A ex xs).bind fun a => .ret (.agg a.1, a.2)
    | _ => .fail
def givenArgs (g : Bool) (ex : Nat → Bool) (σ : Operand → AV) : Nat → List Operand → G (List XT × Lent)
  | _, [] => .ret ([], .none)
  | i, x :: r => (givenArg A g (ex i) (σ x)).bind fun a => (givenArgs g ex σ (i + 1) r).bind fun b => .ret (a.1 :: b.1, a.2.both b.2)
def inLabs : List (Nat × Nat) → Nat → Bool
  | [], _ => false
  | (j, _) :: r, l => bif Nat.beq j l then true else inLabs r l
/-- No thing is handed over twice, nor lent as well. -/
def exOk : List (Nat × Nat) → List (Nat × Nat) → Bool
  | [], _ => true
  | (j, _) :: r, bo => bif inLabs r j then false else bif inLabs bo j then false else exOk r bo

/-! ### What comes back -/
def cellLab (l j : Nat) : Nat := (l + 1) * 100000 + j
/-- A handed thing's cells, from cell 'j' of box 'l' on, as an own box's. -/
def takenCells (l : Nat) : Nat → List XC → G (List CV × List (Nat × Nat × HO))
  | _, [] => .ret ([], [])
  | j, .d x :: r => (takenCells l (j + 1) r).bind fun b => .ret (.d x :: b.1, b.2)
  | j, .own sz n row :: r => .get (cellLab l j) fun q =>
    (takenCells l (j + 1) r).bind fun b => .ret (.own (cellLab l j) 0 n (q.1 + 1) :: b.1, (cellLab l j, q.1 + 1, .arr sz n row) :: b.2)
/-- One result at label 'L'. -/
def takenCell (L : Nat) (x : XV) : G (CV × List (Nat × Nat × HO)) :=
  match x with
  | .d x => .ret (.d x, [])
  | .own sz n row => .get L fun q => .ret (.own L 0 n (q.1 + 1), [(L, q.1 + 1, .arr sz n row)])
  | .box cells => .get L fun q => (takenCells L 0 cells).bind fun b => .ret (.bp L (q.1 + 1) 0, (L, q.1 + 1, .box b.1) :: b.2)
def takenList (L : Nat) : Nat → List XV → G (List CV × List (Nat × Nat × HO))
  | _, [] => .ret ([], [])
  | k, x :: r => (takenCell (L + k) x).bind fun a => (takenList L (k + 1) r).bind fun b => .ret (a.1 :: b.1, a.2 ++ b.2)
def taken1 (L k : Nat) (x : XT) : G (TV × Nat × List (Nat × Nat × HO)) :=
  match x with
  | .c x => (takenCell (L + k) x).bind fun a => .ret (.c a.1, k + 1, a.2)
  | .agg xs => (takenList L k xs).bind fun a => .ret (.agg a.1, k + xs.length, a.2)
def takenTup (L : Nat) : Nat → List XT → G (List TV × List (Nat × Nat × HO))
  | _, [] => .ret ([], [])
  | k, x :: r => (taken1 L k x).bind fun a => (takenTup L a.2.1 r).bind fun b => .ret (a.1 :: b.1, a.2.2 ++ b.2)
def taken (L : Nat) (x : XA) : G (AV × List (Nat × Nat × HO)) :=
  match x with
  | .tup xs => (takenTup L 0 xs).bind fun a => .ret (.tup a.1, a.2)
  | .one x => (taken1 L 0 x).bind fun a => .ret (a.1.av, a.2.2)
/-- What was handed over to be written is as the call left it. -/
def backArg (x : AV) (b : Option XV) : G (List (Nat × Nat × HO)) :=
  match x, b with
  | .c (.bp l ver off), some (.box cells) => .get l fun q => match q with
    | (ver', .box _) => .vc (A.same ver ver') (.vc (A.same off 0) ((takenCells l 0 cells).bind fun a => .ret ((l, ver, .box a.1) :: a.2)))
    | _ => .fail
  | .c (.own l off _ ver), some (.own sz n row) => .get l fun q => match q with
    | (ver', .arr sz' n' _) => bif Nat.beq sz sz' then .vc (A.same ver ver') (.vc (A.same off 0) (.vc (A.same n n') (.ret [(l, ver, .arr sz n row)]))) else .fail
    | _ => .fail
  | _, none => .ret []
  | _, _ => .fail
def backArgs (σ : Operand → AV) : List Operand → List (Option XV) → G (List (Nat × Nat × HO))
  | [], [] => .ret []
  | x :: r, b :: s => (backArg A (σ x) b).bind fun a => (backArgs σ r s).bind fun c => .ret (a ++ c)
  | _, _ => .fail
def hasLab : List (Nat × Nat × HO) → Nat → Bool
  | [], _ => false
  | (j, _) :: r, l => bif Nat.beq j l then true else hasLab r l
/-- What was handed over and has not come back is gone. -/
def killed (new : List (Nat × Nat × HO)) : List (Nat × Nat) → List (Nat × Nat × HO)
  | [] => []
  | (l, ver) :: r => bif hasLab new l then killed new r else (l, ver + 1, .dead) :: killed new r
def nodupL : List (Nat × Nat × HO) → Bool
  | [] => true
  | (j, _) :: r => bif hasLab r j then false else nodupL r
/-- No part that may lead to what was lent. -/
def plainC : XC → G Bool
  | .d (.v _) => .ret true
  | .own _ n row => .vc (A.flat n row) (.ret true)
  | _ => .fail
def plainCs : List XC → G Bool
  | [] => .ret true
  | x :: r => (plainC A x).bind fun _ => plainCs r
def plainV : XV → G Bool
  | .d (.v _) => .ret true
  | .own _ n row => .vc (A.flat n row) (.ret true)
  | .box cells => plainCs A cells
  | _ => .fail
def plainVs : List XV → G Bool
  | [] => .ret true
  | x :: r => (plainV A x).bind fun _ => plainVs r
def plainT : XT → G Bool
  | .c x => plainV A x
  | .agg xs => plainVs A xs
def plainTs : List XT → G Bool
  | [] => .ret true
  | x :: r => (plainT A x).bind fun _ => plainTs r
def plainA : XA → G Bool
  | .one x => plainT A x
  | .tup xs => plainTs A xs
def plainB : List (Option XV) → G Bool
  | [] => .ret true
  | none :: r => plainB r
  | some x :: r => (plainV A x).bind fun _ => plainB r

/-! ### The operations -/
/-- A slice of a slice: from 'a' on up to 'b'. -/
def sliceSem (e : TI) (x : CV) (a b : Int) : G CV :=
  match x with
  | .d (.sl sz n row) => bif Nat.beq sz e.size then .vc (A.cut a b n) (.ret (.d (.sl sz (A.dif b a) (A.sub (A.nat a) row)))) else .fail
  | .d (.v (.slice none 0 0)) => .vc (A.cut a b 0) (.ret (.d (.v nilS)))
  | .own l off len ver => .get l fun q => match q with
    | (ver', .arr sz _ _) => bif Nat.beq sz e.size then .vc (A.same ver ver') (.vc (A.cut a b len) (.ret (.own l (A.add off (A.nat a)) (A.dif b a) ver))) else .fail
    | _ => .fail
  | _ => .fail
def loSem (g : Bool) (σ : Operand → AV) : Option Operand → G Int
  | some a => (intv A g (σ a)).bind fun n => .ret n.2
  | none => .ret 0
def hiSem (g : Bool) (σ : Operand → AV) (s : CV) : Option Operand → G Int
  | some b => (intv A g (σ b)).bind fun n => .ret n.2
  | none => (lenv A s).bind fun n => .ret (A.int n)
def appendSem (L : Nat) (e : TI) (x : CV) (m : Nat) (new : Nat → List DV) : G OpOut :=
  match x with
  | .d (.v (.slice none 0 0)) => .vc (A.room m e.bytes) (newObj' L (.arr e.size m new) fun ver => .c (.own L 0 m ver))
  | .zc => .vc (A.room m e.bytes) (newObj' L (.arr e.size m new) fun ver => .c (.own L 0 m ver))
  | .own l off len ver => .get l fun q => match q with
    | (ver', .arr sz n row) => bif Nat.beq sz e.size then .vc (A.same ver ver') (.vc (A.same off 0) (.vc (A.same len n) (.vc (A.room (A.add n m) e.bytes)
        (.ret (.val (.c (.own l 0 (A.add n m) (ver + 1))) [(l, ver + 1, .arr sz (A.add n m) (A.app n row new))]))))) else .fail
    | _ => .fail
  | _ => .fail

def allNone : List (Option XV) → Bool
  | [] => true
  | none :: r => allNone r
  | some _ :: _ => false
def splitB : Nat → List (Option XV) → Option (List (Option XV))
  | 0, l => if allNone l then some [] else none
  | _ + 1, [] => none
  | n + 1, x :: r => (splitB n r).map (x :: ·)
def callRet (σ : Operand → AV) (L : Nat) (keeps : Bool) (args : List Operand) (le : Lent) (out : Out) : G (AV × List (Nat × Nat × HO)) :=
  (taken L out.res).bind fun r => (optv (splitB args.length out.back)).bind fun bs => (backArgs A σ args bs).bind fun us =>
    match le.bo, keeps with
    | [], _ => .ret (r.1, r.2 ++ us ++ killed (r.2 ++ us) le.ex)
    | _, true => .ret (r.1, r.2 ++ us ++ killed (r.2 ++ us) (le.ex ++ le.bo))
    | _, false => (plainA A out.res).bind fun _ => (plainB A out.back).bind fun _ => .ret (r.1, r.2 ++ us ++ killed (r.2 ++ us) le.ex)
def callSem (g : Bool) (σ : Operand → AV) (L : Nat) (f : FuncId) (args : List Operand) (caps : List DV) (bo : List (Nat × Nat)) : G OpOut :=
  (givenArgs A g (fun i => (EX f).1.contains i) σ 0 args).bind fun as =>
    bif exOk as.2.ex (as.2.bo ++ bo) then
      .ret (.call f (as.1 ++ caps.map fun x => .c (.d x)) (callRet A σ L (EX f).2 args ⟨as.2.ex, as.2.bo ++ bo⟩))
    else .fail

def semOp (o : Oper) (g : Bool) (σ : Operand → AV) : G OpOut :=
  let L := (o.dst.getD 0) * 64
  let val (x : AV) : G OpOut := .ret (.val x [])
  match o.op with
  | .move x | .assign x => (opv A g (σ x)).bind val
  | .pick c a b => (boolv A g (σ c)).bind fun t =>
      (boolv A (A.band g t) (σ a)).bind fun x => (boolv A (A.band g (A.bnot t)) (σ b)).bind fun y => val (.c (.d (.v (.bool (A.bite t x y)))))
  | .alloc t => (tiv T t).bind fun i => newObj' L (.box (i.zero.map fun x => .d (.v x))) fun ver => .c (.bp L ver 0)
  | .box _ x => (cellsv A g (σ x)).bind fun cs => newObj' L (.box cs) fun ver => .c (.bp L ver 0)
  | .build t parts => (tiv T t).bind fun i => match i.desc with
    | .struct fs => (sizesv T fs.toList).bind fun ps => (partsv A g σ parts.toList).bind fun vs =>
        (optv (fillC (fun k => ps[k]?) (i.zero.map fun x => .d (.v x)) vs)).bind fun cs => val (.agg cs)
    | _ => .fail
  | .buildSlice t len parts => (elemv T t).bind fun e => (partsv A g σ parts.toList).bind fun vs =>
      (optv (fillC (fun k => some (k * e.size, e.size)) ((List.replicate len (e.zero.map fun x => CV.d (.v x))).flatten) vs)).bind fun cs =>
        (optv (rowsOf A (e.zero.map .v) e.size len cs)).bind fun rows => bif Nat.ble (len * e.size) 16777216 then (newObj' L (.arr e.size len (litRow A e.size cs rows)) fun ver => .c (.own L 0 len ver)) else .fail
  | .load t p => (tiv T t).bind fun i => (cellv A g (σ p)).bind fun
    | .bp l ver off => .get l fun q => match q with
      | (ver', .box cells) => .vc (A.same ver ver') ((optv (takeN i.size (dropN off cells))).bind fun cs => (mkAV (isAggT i.desc) cs).bind val)
      | _ => .fail
    | .op l ver row off => .get l fun q => match q with
      | (ver', .arr _ _ rows) => .vc (A.same ver ver') ((optv (takeN i.size (dropN off (rows row)))).bind fun cs => (mkAV (isAggT i.desc) (cs.map .d)).bind val)
      | _ => .fail
    | .d (.p cells) => (optv (takeN i.size cells)).bind fun cs => (mkAV (isAggT i.desc) (cs.map .d)).bind val
    | _ => .fail
  | .store t p x => (tiv T t).bind fun i => (cellsv A g (σ x)).bind fun xs => bif Nat.beq xs.length i.size && noJunk xs then (cellv A g (σ p)).bind fun
    | .bp l ver off => .get l fun q => match q with
      | (ver', .box cells) => .vc (A.same ver ver') ((optv (patch off xs cells)).bind fun cs => .ret (.val (.c .junk) [(l, ver', .box cs)]))
      | _ => .fail
    | .op l ver row off => .get l fun q => match q with
      | (ver', .arr sz n rows) => .vc (A.same ver ver') ((optv (toDs xs)).bind fun ds => (optv (patch off ds (rows row))).bind fun cs =>
          .ret (.val (.c .junk) [(l, ver', .arr sz n (A.upd rows row cs))]))
      | _ => .fail
    | _ => .fail
    else .fail
  | .nilCheck x => (cellv A g (σ x)).bind fun
    | .bp l ver off => .get l fun q => match q with
      | (ver', .box _) => .vc (A.same ver ver') (val (.c (.bp l ver off)))
      | _ => .fail
    | .op l ver row off => .get l fun q => match q with
      | (ver', .arr _ _ _) => .vc (A.same ver ver') (val (.c (.op l ver row off)))
      | _ => .fail
    | .d (.p cells) => val (.c (.d (.p cells)))
    | _ => .fail
  | .binOp op t x y _ => (opv A g (σ x)).bind fun a => (opv A g (σ y)).bind fun b => match a, b with
    | .c (.d (.v (.int k m))), .c (.d (.v (.int k' n))) => if k = k' then match binSem A op k m n with
        | some v => val (.c (.d (.v v)))
        | none => match divSem A op k m n with
          | some v => .vc (A.nz g n) (val (.c (.d (.v v))))
          | none => .fail
        else .fail
    | .c (.d (.v (.bool m))), .c (.d (.v (.bool n))) => (tiv T t).bind fun i => match op, i.desc with
        | .eql, .bool => val (.c (.d (.v (.bool (A.beq m n)))))
        | .neq, .bool => val (.c (.d (.v (.bool (A.bnot (A.beq m n))))))
        | _, _ => .fail
    | .agg xs, .agg ys => (tiv T t).bind fun i => if i.eqk && kindsB xs i.zero then (optv (eqCells A xs ys)).bind fun r => match op with
        | .eql => val (.c (.d (.v (.bool r))))
        | .neq => val (.c (.d (.v (.bool (A.bnot r)))))
        | _ => .fail
        else .fail
    | _, _ => .fail
  | .unOp .neg _ x => (intv A g (σ x)).bind fun n => val (.c (.d (.v (.int n.1 (A.ar .sub n.1 0 n.2)))))
  | .unOp .not _ x => (boolv A g (σ x)).bind fun b => val (.c (.d (.v (.bool (A.bnot b)))))
  | .convert src dst x => (tiv T src).bind fun _ => (tiv T dst).bind fun i => match i.desc with
    | .int k => (intv A g (σ x)).bind fun n => val (.c (.d (.v (.int k (A.wrap k n.2)))))
    | _ => .fail
  | .makeFunc (.func f) first caps => if first.size = 0 then (capvs A g σ caps.toList).bind fun cs => val (.c (match cs with | [] => .d (.fn f []) | cs => .clo f cs)) else .fail
  | .makeSlice t len cap => (elemv T t).bind fun e => (intv A g (σ len)).bind fun n => (intv A g (σ cap)).bind fun c =>
      .vc (A.made n.2 c.2 e.bytes) (newObj' L (.arr e.size (A.nat n.2) (A.rep (e.zero.map .v))) fun ver => .c (.own L 0 (A.nat n.2) ver))
  | .slice t x lo hi mx => (elemv T t).bind fun e => match mx with
    | none => (cellv A g (σ x)).bind fun s => (loSem A g σ lo).bind fun a => (hiSem A g σ s hi).bind fun b =>
          (sliceSem A e s a b).bind fun y => val (.c y)
    | _ => .fail
  | .fieldAddr t p f => (fieldv T t f).bind fun o => (cellv A g (σ p)).bind fun
    | .bp l ver off => .get l fun q => match q with
      | (ver', .box _) => .vc (A.same ver ver') (val (.c (.bp l ver (off + o.1))))
      | _ => .fail
    | .op l ver row off => .get l fun q => match q with
      | (ver', .arr _ _ _) => .vc (A.same ver ver') (val (.c (.op l ver row (off + o.1))))
      | _ => .fail
    | .d (.p cells) => val (.c (.d (.p (dropN o.1 cells))))
    | _ => .fail
  | .field t x f => (fieldv T t f).bind fun o => (opv A g (σ x)).bind fun
    | .agg cs => (optv (takeN o.2.size (dropN o.1 cs))).bind fun cs => (mkAV (isAggT o.2.desc) cs).bind val
    | _ => .fail
  | .indexAddr t x i => (elemv T t).bind fun e => (cellv A g (σ x)).bind fun s => (intv A g (σ i)).bind fun n => match s with
    | .d (.sl sz m row) => bif Nat.beq sz e.size then .vc (A.inb g n.2 m) (val (.c (.d (.p (row (A.nat n.2)))))) else .fail
    | .own l off len ver => .get l fun q => match q with
      | (ver', .arr sz _ _) => bif Nat.beq sz e.size then .vc (A.same ver ver') (.vc (A.inb g n.2 len) (val (.c (.op l ver (A.add off (A.nat n.2)) 0)))) else .fail
      | _ => .fail
    | _ => .fail
  | .extract x i => (opv A g (σ x)).bind fun
    | .tup xs => (optv xs[i]?).bind fun y => val y.av
    | _ => .fail
  | .call ⟨.builtin .len, args, ts⟩ => match args.toList, ts[0]? with
    | [x], some t => (tiv T t).bind fun i => match i.desc with
      | .slice _ => (cellv A g (σ x)).bind fun s => (lenv A s).bind fun n => val (.c (.d (.v (.int .i64 (A.int n)))))
      | _ => .fail
    | _, _ => .fail
  | .call ⟨.builtin .append, args, ts⟩ => match args.toList, ts[0]?, ts[1]? with
    | [x, y], some t, some u => (tiv T u).bind fun iu => match iu.desc with
      | .slice _ => (elemv T t).bind fun e => (cellv A g (σ x)).bind fun a => (cellv A g (σ y)).bind fun b => (rowsv A e b).bind fun new => appendSem A L e a new.1 new.2
      | _ => .fail
    | _, _, _ => .fail
  | .call ⟨.builtin .min, args, _⟩ => match args.toList with
    | [x, y] => (intv A g (σ x)).bind fun a => (intv A g (σ y)).bind fun b => val (.c (.d (.v (.int a.1 (A.mn a.2 b.2)))))
    | _ => .fail
  | .call ⟨.builtin .max, args, _⟩ => match args.toList with
    | [x, y] => (intv A g (σ x)).bind fun a => (intv A g (σ y)).bind fun b => val (.c (.d (.v (.int a.1 (A.mx a.2 b.2)))))
    | _ => .fail
  | .call ⟨.value h, args, _⟩ => (cellv A g (σ h)).bind fun
    | .d (.fn f caps) => callSem A EX g σ L f args.toList caps []
    | .clo f caps => (capsD A caps).bind fun cs => callSem A EX g σ L f args.toList cs.1 cs.2
    | _ => .fail
  | _ => .fail
end
end Go.Rk
