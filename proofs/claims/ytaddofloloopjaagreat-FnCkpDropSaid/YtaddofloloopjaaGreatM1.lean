/- What each of this seat's functions answers, at all data, part 1: no condition. -/
import Derived.Orders
import Derived.Laws.Sem
import Derived.Laws.World
import Derived.Laws.CopyRow
import Derived.Laws.Append
import Derived.Laws.Tables
import Derived.Laws.Entries
namespace Go.Rk
set_option linter.unusedSimpArgs false
set_option linter.unusedVariables false
def nbeq (a b:Nat):Bool:=decide (a=b)
def nble (a b:Nat):Bool:=decide (a<=b)
def nblt (a b:Nat):Bool:=decide (a<b)
@[simp] theorem nbeq_refl (a:Nat):nbeq a a=true:=decide_eq_true rfl
theorem i3 {a b:Nat} (h:nbeq a b=true):a=b:=of_decide_eq_true h
@[simp] theorem nbeq_eq {a b:Nat}:(nbeq a b=true)=(a=b):=decide_eq_true_eq
@[simp] theorem nblt_eq {a b:Nat}:(nblt a b=true)=(a<b):=decide_eq_true_eq
@[simp] theorem nble_eq {a b:Nat}:(nble a b=true)=(a<=b):=decide_eq_true_eq
theorem b8 {a b:Nat} (h:nble a b=true):a<=b:=of_decide_eq_true h
inductive DV where
  | v (x:Value)
  | sl (sz n:Nat) (row:Nat->List DV)
  | p (cells:List DV)
  | fn (f:FuncId) (caps:List DV)
abbrev c9:Value:=.slice none 0 0
inductive CV where
  | junk
  | d (x:DV)
  | own (l:Nat) (off len ver:Nat)
  | bp (l:Nat) (ver off:Nat)
  | op (l:Nat) (ver row off:Nat)
  | nown (l:Nat) (len ver:Nat)
  | nop (l:Nat) (ver row off:Nat)
  | clo (f:FuncId) (caps:List (Nat × Nat))
  | zc
inductive TV where
  | c (x:CV)
  | agg (xs:List CV)
inductive AV where
  | c (x:CV)
  | agg (xs:List CV)
  | tup (xs:List TV)
  | gd (t:Bool) (x:AV)
def TV.av:TV->AV
  | .c x=>.c x
  | .agg xs=>.agg xs
inductive HO where
  | dead
  | box (cells:List CV)
  | arr (sz n:Nat) (row:Nat->List DV)
  /-- Rows that bear own slices in turn;one of them may lie open: its cells are named. -/
  | nest (sz n:Nat) (row:Nat->List DV) (foc:Option (Nat × List CV))
structure St where
  slots:List (Nat × AV)
  objs:List (Nat × Nat × HO)
def i5:List (Nat × AV)->Nat->AV
  | [],_=>.c .junk
  | (j,v)::r,k=>bif nbeq j k then v else i5 r k
def m4:List (Nat × Nat × HO)->Nat->Nat × HO
  | [],_=>(0,.dead)
  | (j,v)::r,k=>bif nbeq j k then v else m4 r k
def St.s (σ:St) (k:Nat):AV:=i5 σ.slots k
def St.o (σ:St) (l:Nat):Nat × HO:=m4 σ.objs l
def St.put (σ:St) (dst:Option Nat) (x:AV) (us:List (Nat × Nat × HO)):St:=
  { slots:=match dst with|some k=>(k,x) :: σ.slots|none => σ.slots,objs:=us ++ σ.objs }
structure TI where
  desc:TypeDesc
  size:Nat
  bytes:Nat
  zero:List Value
  eqk:Bool
structure Rec where
  dst:Option Nat
  pre:List Nat
  sl:List Nat
  lk:List Nat
  us:List Nat
def memN:List Nat->Nat->Bool
  | [],_=>false
  | j::r,k=>bif nbeq j k then true else memN r k
def apartN:List Nat->List Nat->Bool
  | [],_=>true
  | j::r,l=>bif memN l j then false else apartN r l
def offN (d:Option Nat) (l:List Nat):Bool:=match d with|some k => !memN l k|none=>true
def offD (d e:Option Nat):Bool:=match d,e with|some k,some j => !nbeq k j|_,_=>true
def apartR (x y:Rec):Bool:=offN x.dst y.sl&&(offN y.dst x.sl&&(offD x.dst y.dst&&(apartN x.us y.lk&&(apartN y.us x.lk&&apartN x.us y.us))))
def orAll (an:List Nat):List Nat->Nat
  | []=>0
  | p::r=>(an.getD p 0 ||| 1 <<< p) ||| orAll an r
def ancs:List Rec->List Nat->List Nat
  | [],an=>an
  | r::rs,an=>ancs rs (an ++ [orAll an r.pre])
def preB:Nat->List Rec->Bool
  | _,[]=>true
  | i,r::rs=>(r.pre.all λp=>nblt p i)&&preB (i+1) rs
def pairsB:Nat->List Rec->List Nat->Bool
  | i,r::rs,_::an=>((rs.zip an).all λq=>q.2.testBit i||apartR r q.1)&&pairsB (i+1) rs an
  | _,_,_=>true
def indep (rs:List Rec):Bool:=preB 0 rs&&pairsB 0 rs (ancs rs [])
structure Ar where
  ar:BinOp->IntKind->Int->Int->Int
  cmp:BinOp->Int->Int->Bool
  band:Bool->Bool->Bool
  bnot:Bool->Bool
  bite:Bool->Bool->Bool->Bool
  beq:Bool->Bool->Bool
  wrap:IntKind->Int->Int
  mn:Int->Int->Int
  mx:Int->Int->Int
  nat:Int->Nat
  int:Nat->Int
  add:Nat->Nat->Nat
  dif:Int->Int->Nat
  inb:Bool->Int->Nat->Prop
  cut:Int->Int->Nat->Prop
  room:Nat->Nat->Prop
  same:Nat->Nat->Prop
  nz:Bool->Int->Prop
  imp:Bool->Bool->Prop
  made:Int->Int->Nat->Prop
  app:Nat->(Nat->List DV)->(Nat->List DV)->Nat->List DV
  sub:Nat->(Nat->List DV)->Nat->List DV
  upd:(Nat->List DV)->Nat->List DV->Nat->List DV
  rep:List DV->Nat->List DV
  flat:Nat->(Nat->List DV)->Prop
  ind:List Rec->Prop
  hold:(Unit->Prop)->Prop
  br:Bool->Prop->Prop->Prop
  sel:List Int->Nat->Int
def real:Ar where
  ar:=λop k a b=>match op with
    | .add=>k.wrap (a+b)
    | .sub=>k.wrap (a-b)
    | .mul=>k.wrap (a*b)
    | .xor=>k.wrap (BitVec.ofInt k.bits a ^^^ BitVec.ofInt k.bits b).toNat
    | .and=>k.wrap (BitVec.ofInt k.bits a &&& BitVec.ofInt k.bits b).toNat
    | .quo=>k.wrap (a.tdiv b)
    | .rem=>a.tmod b
    | .shr=>a.fdiv (2 ^ min b.toNat k.bits)
    | _=>0
  cmp:=λop a b=>match op with
    | .eql=>a==b
    | .neq=>a != b
    | .lss=>decide (a<b)
    | .leq=>decide (a<=b)
    | .gtr=>decide (a>b)
    | .geq=>decide (a>=b)
    | _=>false
  band:=(· && ·)
  bnot:=(! ·)
  bite:=λt x y=>bif t then x else y
  beq:=λa b=>a==b
  wrap:=λk n=>k.wrap n
  mn:=λa b=>if b<a then b else a
  mx:=λa b=>if b>a then b else a
  nat:=Int.toNat
  int:=λn=>(n:Int)
  add:=(· + ·)
  dif:=λb a=>(b-a).toNat
  inb:=λg i n=>g=true->0<=i/\i<n
  cut:=λa b n=>0<=a/\a<=b/\b<=n
  room:=λn bytes=>n*bytes<=140737488355328/\n<=140737488355328
  same:=λa b=>a=b
  nz:=λg n=>g=true->n≠0
  imp:=λg t=>g=true->t=true
  made:=λn c bytes=>0<=n/\n=c/\n*bytes<=140737488355328/\n<=140737488355328
  app:=λn a b i=>if i<n then a i else b (i-n)
  sub:=λn a i=>a (n+i)
  upd:=λa j x i=>if i=j then x else a i
  rep:=λx _=>x
  flat:=λn row=>∀ i,i<n->∀ x,x∈row i->∃ u,x=.v u
  ind:=λrs=>indep rs=true
  hold:=λf=>f ()
  br:=λt p q=>(t=true->p)/\(t=false->q)
  sel:=λl i=>l.getD i 0
inductive G (α:Type):Type where
  | ret (a : α)
  | get (l:Nat) (k:Nat × HO->G α)
  | vc (p:Prop) (k:G α)
  | fail
namespace G
def bind {α β:Type}:G α->(α->G β)->G β
  | .ret a,f=>f a
  | .get l k,f=>.get l λr=>(k r).bind f
  | .vc p k,f=>.vc p (k.bind f)
  | .fail,_=>.fail
instance:Monad G where
  pure:=G.ret
  bind:=G.bind
def wp {α:Type}:G α->(Nat->Nat × HO)->(α->List Nat->Prop)->Prop
  | .ret a,_,Q=>Q a []
  | .get l k,σ,Q=>(k (σ l)).wp σ λa r=>Q a (l::r)
  | .vc p k,σ,Q=>p/\k.wp σ Q
  | .fail,_,_=>False
def run {α:Type}:G α->(Nat->Nat × HO)->(α->Prop)->Prop
  | .ret a,_,Q=>Q a
  | .get l k,σ,Q=>(k (σ l)).run σ Q
  | .vc p k,σ,Q=>p/\k.run σ Q
  | .fail,_,_=>False
theorem run_bind {α β:Type} (m:G α) (f : α->G β) (σ:Nat->Nat × HO) (Q : β->Prop):(m.bind f).run σ Q↔m.run σ λa=>(f a).run σ Q:=by
  induction m with
  | ret a=>exact Iff.rfl
  | get l k ih=>exact ih _
  | vc p k ih=>exact and_congr Iff.rfl ih
  | fail=>exact Iff.rfl
theorem wp_det {α:Type} {m:G α} {σ:Nat->Nat × HO} {Q : α->List Nat->Prop} (h:m.wp σ Q) :
    ∃ a r,Q a r/\∀ σ':Nat->Nat × HO,(∀ l,l∈r -> σ' l = σ l)->∀ Q' : α->Prop,Q' a->m.run σ' Q':=by
  induction m generalizing Q with
  | ret a=>exact ⟨a,[],h,λ_ _ _ q=>q⟩
  | get l k ih=>
    obtain ⟨a,r,hq,hr⟩:=ih _ h
    refine ⟨a,l::r,hq,λσ' hl Q' q => ?_⟩
    show (k (σ' l)).run σ' Q'
    rw [hl l (by simp)]
    exact hr σ' (λl' hl'=>hl l' (by simp [hl'])) Q' q
  | vc p k ih=>
    obtain ⟨a,r,hq,hr⟩:=ih h.2
    exact ⟨a,r,hq,λσ' hl Q' q=>⟨h.1,hr σ' hl Q' q⟩⟩
  | fail=>exact h.elim
end G
def constAV (v:Value):AV:=
  match v with
  | .agg cs=>if cs.toList.all (·.oneCell') then .agg (cs.toList.map λx=>.d (.v x)) else .c .junk
  | .tuple _=>.c .junk
  | v=>.c (.d (.v v))
def rho (σ:List (Nat × AV)):Operand->AV
  | .tmp t=>i5 σ t
  | .const v=>constAV v
  | .global _=>.c .junk
  | .func f=>.c (.d (.fn f []))
inductive XC where
  | d (x:DV)
  | own (sz n:Nat) (row:Nat->List DV)
inductive XV where
  | d (x:DV)
  | own (sz n:Nat) (row:Nat->List DV)
  | box (cells:List XC)
  | nown (sz n:Nat) (row:Nat->List DV)
inductive XT where
  | c (x:XV)
  | agg (xs:List XV)
inductive XA where
  | one (x:XT)
  | tup (xs:List XT)
structure Out where
  res:XA
  back:List (Option XV)
inductive OpOut where
  | val (x:AV) (us:List (Nat × Nat × HO))
  | call (f:FuncId) (args:List XT) (ret:Out->G (AV × List (Nat × Nat × HO)))
  | inl (f:FuncId) (avs:List AV)
structure Ms where
  m:FuncId->List XT->Out->Prop
  i:FuncId->List AV->List (Nat × Nat × HO)->AV->List (Nat × Nat × HO)->Prop
def baseOf (EX:FuncId->List Nat × Bool):Nat:=match (EX 1).1 with|b::_=>b | []=>0
section
variable (A:Ar) (T:TypeId->Option TI) (EX:FuncId->List Nat × Bool)
def opv (g:Bool) (x:AV):G AV:=
  match x with
  | .gd t a=>.vc (A.imp g t) (.ret a)
  | a=>.ret a
def cellv (g:Bool) (x:AV):G CV:=
  match x with
  | .gd t (.c a)=>.vc (A.imp g t) (.ret a)
  | .c a=>.ret a
  | _=>.fail
def intv (g:Bool) (x:AV):G (IntKind × Int):=
  match x with
  | .gd t (.c (.d (.v (.int k n))))=>.vc (A.imp g t) (.ret (k,n))
  | .c (.d (.v (.int k n)))=>.ret (k,n)
  | _=>.fail
def boolv (g:Bool) (x:AV):G Bool:=
  match x with
  | .gd t (.c (.d (.v (.bool b))))=>.vc (A.imp g t) (.ret b)
  | .c (.d (.v (.bool b)))=>.ret b
  | _=>.fail
def tiv (t:TypeId):G TI:=
  match T t with
  | some i=>.ret i
  | none=>.fail
def elemv (t:TypeId):G TI:=
  match T t with
  | some ⟨.slice e,_,_,_,_⟩=>tiv T e
  | _=>.fail
def fieldv (t:TypeId) (f:Nat):G (Nat × TI):=
  match T t with
  | some ⟨.struct fs,_,_,_,_⟩=>match fs[f]? with
    | some x=>match T x.type with
      | some i=>bif nbeq i.size 0 then .fail else .ret (x.offset,i)
      | none=>.fail
    | none=>.fail
  | _=>.fail
def isAggT:TypeDesc->Bool
  | .struct _ | .array _ _=>true
  | _=>false
def AV.cells:AV->List CV
  | .c x=>[x]
  | .agg xs=>xs
  | _=>[]
def cellsv (g:Bool) (x:AV):G (List CV):=
  match x with
  | .gd _ (.c .junk)=>.fail
  | .gd t (.c a)=>.vc (A.imp g t) (.ret [a])
  | .gd t (.agg a)=>.vc (A.imp g t) (.ret a)
  | .c .junk=>.fail
  | .c a=>.ret [a]
  | .agg a=>.ret a
  | _=>.fail
def noJunk:List CV->Bool
  | []=>true
  | .junk::_=>false
  | _::r=>noJunk r
def mkAV (agg:Bool) (cs:List CV):G AV:=
  if agg then .ret (.agg cs) else match cs with
    | [x]=>.ret (.c x)
    | _=>.fail
def takeN {α:Type}:Nat->List α->Option (List α)
  | 0,_=>some []
  | _+1,[]=>none
  | n+1,x::r=>(takeN n r).map (x :: ·)
def dropN {α:Type}:Nat->List α->List α
  | 0,l=>l
  | _+1,[]=>[]
  | n+1,_::r=>dropN n r
def patch {α:Type}:Nat->List α->List α->Option (List α)
  | 0,[],l=>some l
  | 0,x::xs,_::r=>(patch 0 xs r).map (x :: ·)
  | 0,_::_,[]=>none
  | n+1,xs,y::r=>(patch n xs r).map (y :: ·)
  | _+1,_,[]=>none
def optv {α:Type}:Option α->G α
  | some a=>.ret a
  | none=>.fail
def toD:CV->Option DV
  | .d x=>some x
  | _=>none
def toDs:List CV->Option (List DV)
  | []=>some []
  | x::r=>match toD x,toDs r with
    | some a,some b=>some (a::b)
    | _,_=>none
def rowsv (e:TI) (x:CV):G (Nat × (Nat->List DV)):=
  match x with
  | .d (.sl sz n row)=>bif nbeq sz e.size then .ret (n,row) else .fail
  | .d (.v (.slice _ 0 _))=>.ret (0,A.rep (e.zero.map .v))
  | .zc=>.ret (0,A.rep (e.zero.map .v))
  | .own l off len ver=>.get l λr=>match r with
    | (ver',.arr sz _ row)=>bif nbeq sz e.size then .vc (A.same ver ver') (.ret (len,A.sub off row)) else .fail
    | _=>.fail
  | _=>.fail
def lenv (x:CV):G Nat:=
  match x with
  | .d (.sl _ n _)=>.ret n
  | .d (.v (.slice _ 0 _))=>.ret 0
  | .zc=>.ret 0
  | .own l _ len ver=>.get l λr=>match r with
    | (ver',.arr _ _ _)=>.vc (A.same ver ver') (.ret len)
    | _=>.fail
  | .nown l len ver=>.get l λr=>match r with
    | (ver',.nest _ _ _ _)=>.vc (A.same ver ver') (.ret len)
    | _=>.fail
  | _=>.fail
def newObj' (L:Nat) (x:HO) (k:Nat->AV):G OpOut:=
  .get L λr=>.ret (.val (k (r.1+1)) [(L,r.1+1,x)])
def fillC (place:Nat->Option (Nat × Nat)):List CV->List (Nat × List CV)->Option (List CV)
  | cells,[]=>some cells
  | cells,(i,v)::rest=>match place i with
    | none=>none
    | some (off,size)=>if v.length=size then match patch off v cells with
        | some cs=>fillC place cs rest
        | none=>none
      else none
def partsv (g:Bool) (σ:Operand->AV):List (Nat × Operand)->G (List (Nat × List CV))
  | []=>.ret []
  | (i,x)::r=>(cellsv A g (σ x)).bind λa=>(partsv g σ r).bind λb=>.ret ((i,a)::b)
def sizesv (fs:List Field):G (List (Nat × Nat)):=
  match fs with
  | []=>.ret []
  | f::r=>(tiv T f.type).bind λi=>(sizesv r).bind λb=>.ret ((f.offset,i.size)::b)
def capvs (g:Bool) (σ:Operand->AV):List Operand->G (List (Nat × Nat))
  | []=>.ret []
  | x::r=>(cellv A g (σ x)).bind fun
    | .bp l ver 0=>(capvs g σ r).bind λb=>.ret ((l,ver)::b)
    | _=>.fail
def rowsOf (z:List DV) (sz:Nat):Nat->List CV->Option (Nat->List DV)
  | 0,_=>some (A.rep z)
  | n+1,cs=>match takeN sz cs with
    | none=>none
    | some a=>match toDs a,rowsOf z sz n (dropN sz cs) with
      | some x,some r=>some (A.app 1 (A.rep x) r)
      | _,_=>none
def intsK (k:IntKind):List CV->Option (List Int)
  | []=>some []
  | .d (.v (.int k' n))::r=>if k'=k then (intsK k r).map (n :: ·) else none
  | _=>none
def headK:List CV->Option IntKind
  | .d (.v (.int k _))::_=>some k
  | _=>none
def colN (sz j:Nat):Nat->List Int->List Int
  | 0,_=>[]
  | n+1,l=>match dropN j l with
    | x::_=>x::colN sz j n (dropN sz l)
    | []=>[]
def colsN (sz:Nat) (l:List Int):Nat->Nat->List (List Int)
  | 0,_=>[]
  | n+1,j=>colN sz j l.length l::colsN sz l n (j+1)
def litOk (two:Bool) (sz:Nat) (cs:List CV):Bool:=bif nbeq sz 1 then nble (bif two then 2 else 3) cs.length else (bif nbeq sz 0 then false else nble (3*sz) cs.length)
def litRow (two:Bool) (sz:Nat) (cs:List CV) (row:Nat->List DV):Nat->List DV:=
  bif litOk two sz cs then (match headK cs with
  | some k=>(match intsK k cs with
    | some l=>λi=>(colsN sz l sz 0).map λc=>.v (.int k (A.sel c i))
    | none=>row)
  | none=>row) else row
def binSem (op:BinOp) (k:IntKind) (a b:Int):Option Value:=
  match op with
  | .add | .sub | .mul | .xor | .and=>some (.int k (A.ar op k a b))
  | .eql | .neq | .lss | .leq | .gtr | .geq=>some (.bool (A.cmp op a b))
  | .shr=>match b with
    | .ofNat _=>some (.int k (A.ar op k a b))
    | .negSucc _=>none
  | _=>none
def divSem (op:BinOp) (k:IntKind) (a b:Int):Option Value:=
  match op with
  | .quo | .rem=>some (.int k (A.ar op k a b))
  | _=>none
def eqCells:List CV->List CV->Option Bool
  | [],[]=>some true
  | .d (.v (.int k a))::r,.d (.v (.int k' b))::s=>if k=k' then (eqCells r s).map (A.band (A.cmp .eql a b) ·) else none
  | .d (.v (.bool a))::r,.d (.v (.bool b))::s=>(eqCells r s).map (A.band (A.beq a b) ·)
  | _,_=>none
def kindsB:List CV->List Value->Bool
  | [],[]=>true
  | .d (.v (.int k _))::r,.int k' _::s=>decide (k=k')&&kindsB r s
  | .d (.v (.bool _))::r,.bool _::s=>kindsB r s
  | _,_=>false
structure Lent where
  ex:List (Nat × Nat)
  bo:List (Nat × Nat)
def Lent.none:Lent:=⟨[],[]⟩
def Lent.both (a b:Lent):Lent:=⟨a.ex++b.ex,a.bo++b.bo⟩
def giveCells:List CV->G (List XC × List (Nat × Nat))
  | []=>.ret ([],[])
  | .d x::r=>(giveCells r).bind λb=>.ret (.d x::b.1,b.2)
  | .own l off len ver::r=>.get l λq=>match q with
    | (ver',.arr sz _ row)=>.vc (A.same ver ver') (.vc (A.same off 0) ((giveCells r).bind λb=>.ret (.own sz len row::b.1,(l,ver)::b.2)))
    | _=>.fail
  | _::_=>.fail
def readOwn (l off len ver:Nat):G DV:=.get l λq=>match q with
  | (ver',.arr sz _ row)=>.vc (A.same ver ver') (.ret (.sl sz len (A.sub off row)))
  | _=>.fail
def readNest (l len ver:Nat):G DV:=.get l λq=>match q with
  | (ver',.nest sz _ row none)=>.vc (A.same ver ver') (.ret (.sl sz len row))
  | _=>.fail
def readCell (x:CV):G (DV × List (Nat × Nat)):=
  match x with
  | .d x=>.ret (x,[])
  | .own l off len ver=>(readOwn A l off len ver).bind λy=>.ret (y,[(l,ver)])
  | .nown l len ver=>(readNest A l len ver).bind λy=>.ret (y,[(l,ver)])
  | _=>.fail
def readCells:List CV->G (List DV × List (Nat × Nat))
  | []=>.ret ([],[])
  | x::r=>(readCell A x).bind λa=>(readCells r).bind λb=>.ret (a.1::b.1,a.2++b.2)
def boxD (l ver:Nat):G (DV × List (Nat × Nat)):=.get l λq=>match q with
  | (ver',.box cells)=>.vc (A.same ver ver') ((readCells A cells).bind λcs=>.ret (.p cs.1,(l,ver)::cs.2))
  | _=>.fail
def capsD:List (Nat × Nat)->G (List DV × List (Nat × Nat))
  | []=>.ret ([],[])
  | (l,ver)::r=>(boxD A l ver).bind λa=>(capsD r).bind λb=>.ret (a.1::b.1,a.2++b.2)
def givenCell (ex:Bool) (x:CV):G (XV × Lent):=
  match x with
  | .d x=>.ret (.d x,.none)
  | .own l off len ver=>
    if ex then .get l λq=>match q with
      | (ver',.arr sz _ row)=>.vc (A.same ver ver') (.vc (A.same off 0) (.ret (.own sz len row,⟨[(l,ver)],[]⟩)))
      | _=>.fail
    else (readOwn A l off len ver).bind λx=>.ret (.d x,⟨[],[(l,ver)]⟩)
  | .nown l len ver=>
    if ex then .get l λq=>match q with
      | (ver',.nest sz _ row none)=>.vc (A.same ver ver') (.ret (.nown sz len row,⟨[(l,ver)],[]⟩))
      | _=>.fail
    else (readNest A l len ver).bind λx=>.ret (.d x,⟨[],[(l,ver)]⟩)
  | .bp l ver off=>
    if ex then .vc (A.same off 0) ((boxD A l ver).bind λa=>.ret (.d a.1,⟨[],a.2⟩))
    else .get l λq=>match q with
      | (ver',.box cells)=>.vc (A.same ver ver') (.vc (A.same off 0) ((giveCells A cells).bind λcs=>.ret (.box cs.1,⟨(l,ver)::cs.2,[]⟩)))
      | _=>.fail
  | .clo f caps=>(capsD A caps).bind λcs=>.ret (.d (.fn f cs.1),⟨[],cs.2⟩)
  | _=>.fail
def givenCells (ex:Bool):List CV->G (List XV × Lent)
  | []=>.ret ([],.none)
  | x::r=>(givenCell A ex x).bind λa=>(givenCells ex r).bind λb=>.ret (a.1::b.1,a.2.both b.2)
def givenArg (g ex:Bool) (x:AV):G (XT × Lent):=
  (opv A g x).bind fun
    | .c x=>(givenCell A ex x).bind λa=>.ret (.c a.1,a.2)
    | .agg xs=>(givenCells A ex xs).bind λa=>.ret (.agg a.1,a.2)
    | _=>.fail
def givenArgs (g:Bool) (ex:Nat->Bool) (σ:Operand->AV):Nat->List Operand->G (List XT × Lent)
  | _,[]=>.ret ([],.none)
  | i,x::r=>(givenArg A g (ex i) (σ x)).bind λa=>(givenArgs g ex σ (i+1) r).bind λb=>.ret (a.1::b.1,a.2.both b.2)
def inLabs:List (Nat × Nat)->Nat->Bool
  | [],_=>false
  | (j,_)::r,l=>bif nbeq j l then true else inLabs r l
def exOk:List (Nat × Nat)->List (Nat × Nat)->Bool
  | [],_=>true
  | (j,_)::r,bo=>bif inLabs r j then false else bif inLabs bo j then false else exOk r bo
def cellLab (l j:Nat):Nat:=(l+1)*100000+j
def takenCells (l:Nat):Nat->List XC->G (List CV × List (Nat × Nat × HO))
  | _,[]=>.ret ([],[])
  | j,.d x::r=>(takenCells l (j+1) r).bind λb=>.ret (.d x::b.1,b.2)
  | j,.own sz n row::r=>.get (cellLab l j) λq=>
    (takenCells l (j+1) r).bind λb=>.ret (.own (cellLab l j) 0 n (q.1+1)::b.1,(cellLab l j,q.1+1,.arr sz n row)::b.2)
def takenCell (L:Nat) (x:XV):G (CV × List (Nat × Nat × HO)):=
  match x with
  | .d x=>.ret (.d x,[])
  | .own sz n row=>.get L λq=>.ret (.own L 0 n (q.1+1),[(L,q.1+1,.arr sz n row)])
  | .box cells=>.get L λq=>(takenCells L 0 cells).bind λb=>.ret (.bp L (q.1+1) 0,(L,q.1+1,.box b.1)::b.2)
  | .nown sz n row=>.get L λq=>.ret (.nown L n (q.1+1),[(L,q.1+1,.nest sz n row none)])
def takenList (L:Nat):Nat->List XV->G (List CV × List (Nat × Nat × HO))
  | _,[]=>.ret ([],[])
  | k,x::r=>(takenCell (L+k) x).bind λa=>(takenList L (k+1) r).bind λb=>.ret (a.1::b.1,a.2++b.2)
def taken1 (L k:Nat) (x:XT):G (TV × Nat × List (Nat × Nat × HO)):=
  match x with
  | .c x=>(takenCell (L+k) x).bind λa=>.ret (.c a.1,k+1,a.2)
  | .agg xs=>(takenList L k xs).bind λa=>.ret (.agg a.1,k+xs.length,a.2)
def takenTup (L:Nat):Nat->List XT->G (List TV × List (Nat × Nat × HO))
  | _,[]=>.ret ([],[])
  | k,x::r=>(taken1 L k x).bind λa=>(takenTup L a.2.1 r).bind λb=>.ret (a.1::b.1,a.2.2++b.2)
def taken (L:Nat) (x:XA):G (AV × List (Nat × Nat × HO)):=
  match x with
  | .tup xs=>(takenTup L 0 xs).bind λa=>.ret (.tup a.1,a.2)
  | .one x=>(taken1 L 0 x).bind λa=>.ret (a.1.av,a.2.2)
def backArg (x:AV) (b:Option XV):G (List (Nat × Nat × HO)):=
  match x,b with
  | .c (.bp l ver off),some (.box cells)=>.get l λq=>match q with
    | (ver',.box _)=>.vc (A.same ver ver') (.vc (A.same off 0) ((takenCells l 0 cells).bind λa=>.ret ((l,ver,.box a.1)::a.2)))
    | _=>.fail
  | .c (.own l off _ ver),some (.own sz n row)=>.get l λq=>match q with
    | (ver',.arr sz' n' _)=>bif nbeq sz sz' then .vc (A.same ver ver') (.vc (A.same off 0) (.vc (A.same n n') (.ret [(l,ver,.arr sz n row)]))) else .fail
    | _=>.fail
  | .c (.nown l _ ver),some (.nown sz n row)=>.get l λq=>match q with
    | (ver',.nest sz' n' _ none)=>bif nbeq sz sz' then .vc (A.same ver ver') (.vc (A.same n n') (.ret [(l,ver,.nest sz n row none)])) else .fail
    | _=>.fail
  | _,none=>.ret []
  | _,_=>.fail
def backArgG (g:Bool) (x:AV) (b:Option XV):G (List (Nat × Nat × HO)):=
  match x,b with
  | .gd t (.c y),some b=>.vc (A.imp g t) (backArg A (.c y) (some b))
  | x,b=>backArg A x b
def backArgs (g:Bool) (σ:Operand->AV):List Operand->List (Option XV)->G (List (Nat × Nat × HO))
  | [],[]=>.ret []
  | x::r,b::s=>(backArgG A g (σ x) b).bind λa=>(backArgs g σ r s).bind λc=>.ret (a++c)
  | _,_=>.fail
def l4:List (Nat × Nat × HO)->Nat->Bool
  | [],_=>false
  | (j,_)::r,l=>bif nbeq j l then true else l4 r l
def killed (new:List (Nat × Nat × HO)):List (Nat × Nat)->List (Nat × Nat × HO)
  | []=>[]
  | (l,ver)::r=>bif l4 new l then killed new r else (l,ver+1,.dead)::killed new r
def u9:List (Nat × Nat × HO)->Bool
  | []=>true
  | (j,_)::r=>bif l4 r j then false else u9 r
def plainC:XC->G Bool
  | .d (.v _)=>.ret true
  | .own _ n row=>.vc (A.flat n row) (.ret true)
  | _=>.fail
def plainCs:List XC->G Bool
  | []=>.ret true
  | x::r=>(plainC A x).bind λ_=>plainCs r
def plainV:XV->G Bool
  | .d (.v _)=>.ret true
  | .own _ n row=>.vc (A.flat n row) (.ret true)
  | .box cells=>plainCs A cells
  | .nown _ _ _=>.ret true
  | _=>.fail
def plainVs:List XV->G Bool
  | []=>.ret true
  | x::r=>(plainV A x).bind λ_=>plainVs r
def plainT:XT->G Bool
  | .c x=>plainV A x
  | .agg xs=>plainVs A xs
def plainTs:List XT->G Bool
  | []=>.ret true
  | x::r=>(plainT A x).bind λ_=>plainTs r
def plainA:XA->G Bool
  | .one x=>plainT A x
  | .tup xs=>plainTs A xs
def plainB:List (Option XV)->G Bool
  | []=>.ret true
  | none::r=>plainB r
  | some x::r=>(plainV A x).bind λ_=>plainB r
def sliceSem (e:TI) (x:CV) (a b:Int):G CV:=
  match x with
  | .d (.sl sz n row)=>bif nbeq sz e.size then .vc (A.cut a b n) (.ret (.d (.sl sz (A.dif b a) (A.sub (A.nat a) row)))) else .fail
  | .d (.v (.slice none 0 0))=>.vc (A.cut a b 0) (.ret (.d (.v c9)))
  | .own l off len ver=>.get l λq=>match q with
    | (ver',.arr sz _ _)=>bif nbeq sz e.size then .vc (A.same ver ver') (.vc (A.cut a b len) (.ret (.own l (A.add off (A.nat a)) (A.dif b a) ver))) else .fail
    | _=>.fail
  | _=>.fail
def loSem (g:Bool) (σ:Operand->AV):Option Operand->G Int
  | some a=>(intv A g (σ a)).bind λn=>.ret n.2
  | none=>.ret 0
def hiSem (g:Bool) (σ:Operand->AV) (s:CV):Option Operand->G Int
  | some b=>(intv A g (σ b)).bind λn=>.ret n.2
  | none=>(lenv A s).bind λn=>.ret (A.int n)
def appendSem (L:Nat) (e:TI) (x:CV) (m:Nat) (new:Nat->List DV):G OpOut:=
  match x with
  | .d (.v (.slice none 0 0))=>.vc (A.room m e.bytes) (newObj' L (.arr e.size m new) λver=>.c (.own L 0 m ver))
  | .zc=>.vc (A.room m e.bytes) (newObj' L (.arr e.size m new) λver=>.c (.own L 0 m ver))
  | .own l off len ver=>.get l λq=>match q with
    | (ver',.arr sz n row)=>bif nbeq sz e.size then .vc (A.same ver ver') (.vc (A.same off 0) (.vc (A.same len n) (.vc (A.room (A.add n m) e.bytes)
        (.ret (.val (.c (.own l 0 (A.add n m) (ver+1))) [(l,ver+1,.arr sz (A.add n m) (A.app n row new))]))))) else .fail
    | _=>.fail
  | _=>.fail
def nestApp (L:Nat) (e:TI) (x:CV) (l2 ver2:Nat):G OpOut:=
  .get l2 λq=>match q with
  | (v2,.nest sz2 n2 _ (some (_,cells)))=>bif nbeq sz2 e.size&&(nbeq n2 1&&noJunk cells) then .vc (A.same ver2 v2) (match x with
    | .d (.v (.slice none 0 0))=>.vc (A.room 1 e.bytes) (.get L λr=>.ret (.val (.c (.nown L 1 (r.1+1))) [(L,r.1+1,.nest sz2 1 (A.rep []) (some (0,cells))),(l2,v2+1,.dead)]))
    | .zc=>.vc (A.room 1 e.bytes) (.get L λr=>.ret (.val (.c (.nown L 1 (r.1+1))) [(L,r.1+1,.nest sz2 1 (A.rep []) (some (0,cells))),(l2,v2+1,.dead)]))
    | .nown l len ver=>.get l λq=>match q with
      | (ver',.nest sz n row none)=>bif nbeq sz e.size then .vc (A.same ver ver') (.vc (A.same len n) (.vc (A.room (A.add n 1) e.bytes)
          (.ret (.val (.c (.nown l (A.add n 1) (ver+1))) [(l,ver+1,.nest sz (A.add n 1) row (some (n,cells))),(l2,v2+1,.dead)])))) else .fail
      | _=>.fail
    | _=>.fail) else .fail
  | _=>.fail
def copySem (e:TI) (x:CV) (m:Nat) (new:Nat->List DV):G OpOut:=
  match x with
  | .own l off len ver=>.get l λq=>match q with
    | (ver',.arr sz n row)=>bif nbeq sz e.size then .vc (A.same ver ver') (.ret (.val (.c (.d (.v (.int .i64 (A.mn (A.int len) (A.int m))))))
        [(l,ver',.arr sz n (A.app off row (A.app (A.nat (A.mn (A.int len) (A.int m))) new (A.sub (A.add off (A.nat (A.mn (A.int len) (A.int m)))) row))))])) else .fail
    | _=>.fail
  | _=>.fail
def allNone:List (Option XV)->Bool
  | []=>true
  | none::r=>allNone r
  | some _::_=>false
def splitB:Nat->List (Option XV)->Option (List (Option XV))
  | 0,l=>if allNone l then some [] else none
  | _+1,[]=>none
  | n+1,x::r=>(splitB n r).map (x :: ·)
def callRet (g:Bool) (σ:Operand->AV) (L:Nat) (keeps:Bool) (args:List Operand) (le:Lent) (out:Out):G (AV × List (Nat × Nat × HO)):=
  (taken L out.res).bind λr=>(optv (splitB args.length out.back)).bind λbs=>(backArgs A g σ args bs).bind λus=>
    match le.bo,keeps with
    | [],_=>.ret (r.1,r.2++us++killed (r.2++us) le.ex)
    | _,true=>.ret (r.1,r.2++us++killed (r.2++us) (le.ex++le.bo))
    | _,false=>(plainA A out.res).bind λ_=>(plainB A out.back).bind λ_=>.ret (r.1,r.2++us++killed (r.2++us) le.ex)
def callSem (g:Bool) (σ:Operand->AV) (L:Nat) (f:FuncId) (args:List Operand) (caps:List DV) (bo:List (Nat × Nat)):G OpOut:=
  (givenArgs A g (λi=>(EX f).1.contains i) σ 0 args).bind λas=>
    bif exOk as.2.ex (as.2.bo++bo) then
      .ret (.call f (as.1++caps.map λx=>.c (.d x)) (callRet A g σ L (EX f).2 args ⟨as.2.ex,as.2.bo++bo⟩))
    else .fail
def opvs (g:Bool) (σ:Operand->AV):List Operand->G (List AV)
  | []=>.ret []
  | x::r=>(opv A g (σ x)).bind λa=>(opvs g σ r).bind λb=>.ret (a::b)
def inlSem (g:Bool) (σ:Operand->AV) (f:FuncId) (args:List Operand) (caps:List DV):G OpOut:=
  match caps with
  | []=>(opvs A g σ args).bind λas=>.ret (.inl f as)
  | _=>.fail
def t6 (o:Oper) (g:Bool) (σ:Operand->AV):G OpOut:=
  let L:=(o.dst.getD 0)*64+baseOf EX
  let val (x:AV):G OpOut:=.ret (.val x [])
  match o.op with
  | .move x | .assign x=>(opv A g (σ x)).bind val
  | .pick c a b=>(boolv A g (σ c)).bind λt=>
      (boolv A (A.band g t) (σ a)).bind λx=>(boolv A (A.band g (A.bnot t)) (σ b)).bind λy=>val (.c (.d (.v (.bool (A.bite t x y)))))
  | .alloc t=>(tiv T t).bind λi=>newObj' L (.box (i.zero.map λx=>.d (.v x))) λver=>.c (.bp L ver 0)
  | .box _ x=>(cellsv A g (σ x)).bind λcs=>newObj' L (.box cs) λver=>.c (.bp L ver 0)
  | .build t parts=>(tiv T t).bind λi=>match i.desc with
    | .struct fs=>(sizesv T fs.toList).bind λps=>(partsv A g σ parts.toList).bind λvs=>
        (optv (fillC (λk=>ps[k]?) (i.zero.map λx=>.d (.v x)) vs)).bind λcs=>val (.agg cs)
    | _=>.fail
  | .buildSlice t len parts=>(elemv T t).bind λe=>(partsv A g σ parts.toList).bind λvs=>
      (optv (fillC (λk=>some (k*e.size,e.size)) ((List.replicate len (e.zero.map λx=>CV.d (.v x))).flatten) vs)).bind λcs=>
        match rowsOf A (e.zero.map .v) e.size len cs with
        | none=>bif nbeq len 1&&(noJunk cs&&nble e.size 16777216) then newObj' L (.nest e.size 1 (A.rep []) (some (0,cs))) λver=>.c (.nown L 1 ver) else .fail
        | some rows=>bif nble (len*e.size) 16777216 then (newObj' L (.arr e.size len (litRow A (EX 0).2 e.size cs rows)) λver=>.c (.own L 0 len ver)) else .fail
  | .load t p=>(tiv T t).bind λi=>(cellv A g (σ p)).bind fun
    | .bp l ver off=>.get l λq=>match q with
      | (ver',.box cells)=>.vc (A.same ver ver') ((optv (takeN i.size (dropN off cells))).bind λcs=>(mkAV (isAggT i.desc) cs).bind val)
      | _=>.fail
    | .op l ver row off=>.get l λq=>match q with
      | (ver',.arr _ _ rows)=>.vc (A.same ver ver') ((optv (takeN i.size (dropN off (rows row)))).bind λcs=>(mkAV (isAggT i.desc) (cs.map .d)).bind val)
      | _=>.fail
    | .nop l ver row off=>.get l λq=>match q with
      | (ver',.nest _ _ _ (some (r,cells)))=>.vc (A.same ver ver') (.vc (A.same row r) ((optv (takeN i.size (dropN off cells))).bind λcs=>(mkAV (isAggT i.desc) cs).bind val))
      | _=>.fail
    | .d (.p cells)=>(optv (takeN i.size cells)).bind λcs=>(mkAV (isAggT i.desc) (cs.map .d)).bind val
    | _=>.fail
  | .store t p x=>(tiv T t).bind λi=>(cellsv A g (σ x)).bind λxs=>bif nbeq xs.length i.size&&noJunk xs then (cellv A g (σ p)).bind fun
    | .bp l ver off=>.get l λq=>match q with
      | (ver',.box cells)=>.vc (A.same ver ver') ((optv (patch off xs cells)).bind λcs=>.ret (.val (.c .junk) [(l,ver',.box cs)]))
      | _=>.fail
    | .op l ver row off=>.get l λq=>match q with
      | (ver',.arr sz n rows)=>.vc (A.same ver ver') ((optv (toDs xs)).bind λds=>(optv (patch off ds (rows row))).bind λcs=>
          .ret (.val (.c .junk) [(l,ver',.arr sz n (A.upd rows row cs))]))
      | _=>.fail
    | .nop l ver row off=>.get l λq=>match q with
      | (ver',.nest sz n rows (some (r,cells)))=>.vc (A.same ver ver') (.vc (A.same row r) ((optv (patch off xs cells)).bind λcs=>.ret (.val (.c .junk) [(l,ver',.nest sz n rows (some (r,cs)))])))
      | _=>.fail
    | _=>.fail
    else .fail
  | .nilCheck x=>(cellv A g (σ x)).bind fun
    | .bp l ver off=>.get l λq=>match q with
      | (ver',.box _)=>.vc (A.same ver ver') (val (.c (.bp l ver off)))
      | _=>.fail
    | .op l ver row off=>.get l λq=>match q with
      | (ver',.arr _ _ _)=>.vc (A.same ver ver') (val (.c (.op l ver row off)))
      | _=>.fail
    | .nop l ver row off=>.get l λq=>match q with
      | (ver',.nest _ _ _ _)=>.vc (A.same ver ver') (val (.c (.nop l ver row off)))
      | _=>.fail
    | .d (.p cells)=>val (.c (.d (.p cells)))
    | _=>.fail
  | .binOp op t x y _=>(opv A g (σ x)).bind λa=>(opv A g (σ y)).bind λb=>match a,b with
    | .c (.d (.v (.int k m))),.c (.d (.v (.int k' n)))=>if k=k' then match binSem A op k m n with
        | some v=>val (.c (.d (.v v)))
        | none=>match divSem A op k m n with
          | some v=>.vc (A.nz g n) (val (.c (.d (.v v))))
          | none=>.fail
        else .fail
    | .c (.d (.v (.bool m))),.c (.d (.v (.bool n)))=>(tiv T t).bind λi=>match op,i.desc with
        | .eql,.bool=>val (.c (.d (.v (.bool (A.beq m n)))))
        | .neq,.bool=>val (.c (.d (.v (.bool (A.bnot (A.beq m n))))))
        | _,_=>.fail
    | .agg xs,.agg ys=>(tiv T t).bind λi=>if i.eqk&&kindsB xs i.zero then (optv (eqCells A xs ys)).bind λr=>match op with
        | .eql=>val (.c (.d (.v (.bool r))))
        | .neq=>val (.c (.d (.v (.bool (A.bnot r)))))
        | _=>.fail
        else .fail
    | .c (.d (.v (.slice ad 0 _))),.c (.d (.v (.slice none 0 0)))=>(tiv T t).bind λi=>match op,i.desc with
        | .eql,.slice _=>val (.c (.d (.v (.bool ad.isNone))))
        | _,_=>.fail
    | .c (.d (.sl _ n _)),.c (.d (.v (.slice none 0 0)))=>(tiv T t).bind λi=>match op,i.desc with
        | .eql,.slice _=>.vc (A.inb true 0 n) (val (.c (.d (.v (.bool false)))))
        | _,_=>.fail
    | _,_=>.fail
  | .unOp .neg _ x=>(intv A g (σ x)).bind λn=>val (.c (.d (.v (.int n.1 (A.ar .sub n.1 0 n.2)))))
  | .unOp .not _ x=>(boolv A g (σ x)).bind λb=>val (.c (.d (.v (.bool (A.bnot b)))))
  | .convert src dst x=>(tiv T src).bind λ_=>(tiv T dst).bind λi=>match i.desc with
    | .int k=>(intv A g (σ x)).bind λn=>val (.c (.d (.v (.int k (A.wrap k n.2)))))
    | _=>.fail
  | .makeFunc (.func f) first caps=>if first.size=0 then (capvs A g σ caps.toList).bind λcs=>val (.c (match cs with | []=>.d (.fn f [])|cs=>.clo f cs)) else .fail
  | .makeSlice t len cap=>(elemv T t).bind λe=>(intv A g (σ len)).bind λn=>(intv A g (σ cap)).bind λc=>
      .vc (A.made n.2 c.2 e.bytes) (bif (EX 9998).1.contains (o.dst.getD 0) then val (.c (.d (.sl e.size (A.nat n.2) (A.rep (e.zero.map .v))))) else newObj' L (.arr e.size (A.nat n.2) (A.rep (e.zero.map .v))) λver=>.c (.own L 0 (A.nat n.2) ver))
  | .slice t x lo hi mx=>(elemv T t).bind λe=>match mx with
    | none=>(cellv A g (σ x)).bind λs=>(loSem A g σ lo).bind λa=>(hiSem A g σ s hi).bind λb=>
          (sliceSem A e s a b).bind λy=>val (.c y)
    | _=>.fail
  | .fieldAddr t p f=>(fieldv T t f).bind λo=>(cellv A g (σ p)).bind fun
    | .bp l ver off=>.get l λq=>match q with
      | (ver',.box _)=>.vc (A.same ver ver') (val (.c (.bp l ver (off+o.1))))
      | _=>.fail
    | .op l ver row off=>.get l λq=>match q with
      | (ver',.arr _ _ _)=>.vc (A.same ver ver') (val (.c (.op l ver row (off+o.1))))
      | _=>.fail
    | .nop l ver row off=>.get l λq=>match q with
      | (ver',.nest _ _ _ _)=>.vc (A.same ver ver') (val (.c (.nop l ver row (off+o.1))))
      | _=>.fail
    | .d (.p cells)=>val (.c (.d (.p (dropN o.1 cells))))
    | _=>.fail
  | .field t x f=>(fieldv T t f).bind λo=>(opv A g (σ x)).bind fun
    | .agg cs=>(optv (takeN o.2.size (dropN o.1 cs))).bind λcs=>(mkAV (isAggT o.2.desc) cs).bind val
    | _=>.fail
  | .indexAddr t x i=>(elemv T t).bind λe=>(cellv A g (σ x)).bind λs=>(intv A g (σ i)).bind λn=>match s with
    | .d (.sl sz m row)=>bif nbeq sz e.size then .vc (A.inb g n.2 m) (val (.c (.d (.p (row (A.nat n.2)))))) else .fail
    | .own l off len ver=>.get l λq=>match q with
      | (ver',.arr sz _ _)=>bif nbeq sz e.size then .vc (A.same ver ver') (.vc (A.inb g n.2 len) (val (.c (.op l ver (A.add off (A.nat n.2)) 0)))) else .fail
      | _=>.fail
    | .nown l len ver=>.get l λq=>match q with
      | (ver',.nest sz _ _ _)=>bif nbeq sz e.size then .vc (A.same ver ver') (.vc (A.inb g n.2 len) (val (.c (.nop l ver (A.nat n.2) 0)))) else .fail
      | _=>.fail
    | _=>.fail
  | .extract x i=>(opv A g (σ x)).bind fun
    | .tup xs=>(optv xs[i]?).bind λy=>val y.av
    | _=>.fail
  | .call ⟨.builtin .len,args,ts⟩=>match args.toList,ts[0]? with
    | [x],some t=>(tiv T t).bind λi=>match i.desc with
      | .slice _=>(cellv A g (σ x)).bind λs=>(lenv A s).bind λn=>val (.c (.d (.v (.int .i64 (A.int n)))))
      | _=>.fail
    | _,_=>.fail
  | .call ⟨.builtin .append,args,ts⟩=>match args.toList,ts[0]?,ts[1]? with
    | [x,y],some t,some u=>(tiv T u).bind λiu=>match iu.desc with
      | .slice _=>(elemv T t).bind λe=>(cellv A g (σ x)).bind λa=>(cellv A g (σ y)).bind λb=>match b with
        | .nown l2 _ ver2=>nestApp A L e a l2 ver2
        | b=>(rowsv A e b).bind λnew=>appendSem A L e a new.1 new.2
      | _=>.fail
    | _,_,_=>.fail
  | .call ⟨.builtin .copy,args,ts⟩=>match args.toList,ts[0]?,ts[1]? with
    | [x,y],some t,some u=>(tiv T u).bind λiu=>match iu.desc with
      | .slice _=>(elemv T t).bind λe=>(cellv A g (σ x)).bind λa=>(cellv A g (σ y)).bind λb=>(rowsv A e b).bind λnew=>copySem A e a new.1 new.2
      | _=>.fail
    | _,_,_=>.fail
  | .call ⟨.builtin .clear,args,ts⟩=>match args.toList,ts[0]? with
    | [x],some t=>(elemv T t).bind λe=>(cellv A g (σ x)).bind λs=>match s with
      | .own l off len ver=>.get l λq=>match q with
        | (ver',.arr sz n row)=>bif nbeq sz e.size then .vc (A.same ver ver') (.ret (.val (.c .junk) [(l,ver',.arr sz n (A.app off row (A.app len (A.rep (e.zero.map .v)) (A.sub (A.add off len) row))))])) else .fail
        | _=>.fail
      | _=>.fail
    | _,_=>.fail
  | .call ⟨.builtin .min,args,_⟩=>match args.toList with
    | [x,y]=>(intv A g (σ x)).bind λa=>(intv A g (σ y)).bind λb=>val (.c (.d (.v (.int a.1 (A.mn a.2 b.2)))))
    | _=>.fail
  | .call ⟨.builtin .max,args,_⟩=>match args.toList with
    | [x,y]=>(intv A g (σ x)).bind λa=>(intv A g (σ y)).bind λb=>val (.c (.d (.v (.int a.1 (A.mx a.2 b.2)))))
    | _=>.fail
  | .call ⟨.value h,args,_⟩=>(cellv A g (σ h)).bind fun
    | .d (.fn f caps)=>bif (EX f).1.contains 99 then inlSem A g σ f args.toList caps else callSem A EX g σ L f args.toList caps []
    | .clo f caps=>(capsD A caps).bind λcs=>callSem A EX g σ L f args.toList cs.1 cs.2
    | _=>.fail
  | _=>.fail
end
end Go.Rk
namespace Go.Rk
set_option linter.unusedSimpArgs false
set_option linter.unusedVariables false
inductive DRep (w:World) (N:Nat->Prop):DV->Value->Prop
  | v (x:Value) (h:x.oneCell'=true):DRep w N (.v x) x
  | nil (sz:Nat) (row:Nat->List DV):DRep w N (.sl sz 0 row) (.slice none 0 0)
  | empty (sz:Nat) (row:Nat->List DV) (ad:Addr):DRep w N (.sl sz 0 row) (.slice (some ad) 0 0)
  | sl (sz n:Nat) (row:Nat->List DV) (b off cap:Nat) (cs:Array Value) (e:TypeId) (fr:Nat × Nat) (u:Nat->Nat->Value)
      (hN:N b) (hb:w.heap[b]? = some (.cells cs e fr)) (hc:n<=cap) (hs:off+cap*sz<=cs.size)
      (hr:∀ i,i<n->(row i).length=sz)
      (hu:∀ i j x,i<n->(row i)[j]? = some x->cs[off+i*sz+j]? = some (u i j))
      (hd:∀ i j x,i<n->(row i)[j]? = some x->DRep w N x (u i j)) :
      DRep w N (.sl sz n row) (.slice (some ⟨b,off,none⟩) n cap)
  | p (cells:List DV) (b off:Nat) (cs:Array Value) (e:TypeId) (fr:Nat × Nat) (u:Nat->Value)
      (hN:N b) (hb:w.heap[b]? = some (.cells cs e fr))
      (hu:∀ j x,cells[j]? = some x->cs[off+j]? = some (u j))
      (hd:∀ j x,cells[j]? = some x->DRep w N x (u j)) :
      DRep w N (.p cells) (.pointer (some ⟨b,off,none⟩))
  | fn (f:FuncId) (caps:List DV) (cs:Array Value) (u:Nat->Value) (hn:cs.size=caps.length)
      (hu:∀ j x,caps[j]? = some x->cs[j]? = some (u j))
      (hd:∀ j x,caps[j]? = some x->DRep w N x (u j)) :
      DRep w N (.fn f caps) (.func (.func f) #[] cs)
theorem DRep.carry {w w':World} {N N':Nat->Prop} (h:∀ b,N b->w'.heap[b]? = w.heap[b]? /\ N' b) {x:DV} {v:Value} (hx:DRep w N x v):DRep w' N' x v:=by
  induction hx with
  | v x h'=>exact .v x h'
  | nil sz row=>exact .nil sz row
  | empty sz row ad=>exact .empty sz row ad
  | sl sz n row b off cap cs e fr u hN hb hc hs hr hu hd ih=>exact .sl sz n row b off cap cs e fr u (h b hN).2 (by rw [(h b hN).1];exact hb) hc hs hr hu ih
  | p cells b off cs e fr u hN hb hu hd ih=>exact .p cells b off cs e fr u (h b hN).2 (by rw [(h b hN).1];exact hb) hu ih
  | fn f caps cs u hn hu hd ih=>exact .fn f caps cs u hn hu ih
inductive NRep (w:World):DV->Value->(Nat->Prop)->Prop
  | v (x:Value) (F:Nat->Prop) (h:x.oneCell'=true) (hF:∀ k,¬ F k):NRep w (.v x) x F
  | nil (sz:Nat) (row:Nat->List DV) (a:Option Addr) (F:Nat->Prop) (hF:∀ k,¬ F k):NRep w (.sl sz 0 row) (.slice a 0 0) F
  | sl (sz n:Nat) (row:Nat->List DV) (b base cap:Nat) (cs:Array Value) (e:TypeId) (u:Nat->Nat->Value) (G:Nat->Nat->Nat->Prop) (F:Nat->Prop)
      (hb:w.heap[b]? = some (.cells cs e (0,0))) (hc:n<=cap) (hp:0<cap) (hs:base+cap*sz<=cs.size)
      (hr:∀ i,i<n->(row i).length=sz)
      (hu:∀ i j x,i<n->(row i)[j]? = some x->cs[base+i*sz+j]? = some (u i j))
      (hd:∀ i j x,i<n->(row i)[j]? = some x->NRep w x (u i j) (G i j))
      (hF:∀ k,F k↔k=b\/∃ i j,i<n/\j<sz/\G i j k)
      (hG:∀ i j i' j' k,i<n->j<sz->i'<n->j'<sz->G i j k->G i' j' k->i=i'/\j=j')
      (hGb:∀ i j,i<n->j<sz->¬ G i j b) :
      NRep w (.sl sz n row) (.slice (some ⟨b,base,none⟩) n cap) F
theorem NRep.carry {w w':World} {x:DV} {v:Value} {F:Nat->Prop} (hx:NRep w x v F):(∀ b,F b->w'.heap[b]? = w.heap[b]?)->NRep w' x v F:=by
  induction hx with
  | v x F h hF=>intro _;exact .v x F h hF
  | nil sz row a F hF=>intro _;exact .nil sz row a F hF
  | sl sz n row b base cap cs e u G F hb hc hp hs hr hu hd hF hG hGb ih=>
    intro h
    refine .sl sz n row b base cap cs e u G F (by rw [h b ((hF b).2 (.inl rfl))];exact hb) hc hp hs hr hu (λi j x hi hj=>ih i j x hi hj λk hk=>h k ((hF k).2 (.inr ⟨i,j,hi,?_,hk⟩))) hF hG hGb
    rw [<- hr i hi];exact (List.getElem?_eq_some_iff.1 hj).1
theorem NRep.eqv {w:World} {x:DV} {v:Value} {F F':Nat->Prop} (hx:NRep w x v F) (h:∀ k,F' k↔F k):NRep w x v F':=by
  have:F'=F:=funext λk=>propext (h k)
  rw [this];exact hx
theorem NRep.data {w:World} {N:Nat->Prop} {x:DV} {v:Value} {F:Nat->Prop} (hx:NRep w x v F):(∀ b,F b->N b)->DRep w N x v:=by
  induction hx with
  | v x F h hF=>intro _;exact .v x h
  | nil sz row a F hF=>
    intro _
    cases a with
    | none=>exact .nil sz row
    | some a=>exact .empty sz row a
  | sl sz n row b base cap cs e u G F hb hc hp hs hr hu hd hF hG hGb ih=>
    intro h
    refine .sl sz n row b base cap cs e (0,0) u (h b ((hF b).2 (.inl rfl))) hb hc hs hr hu (λi j x hi hj=>ih i j x hi hj λk hk=>h k ((hF k).2 (.inr ⟨i,j,hi,?_,hk⟩)))
    rw [<- hr i hi];exact (List.getElem?_eq_some_iff.1 hj).1
theorem NRep.one {w:World} {x:DV} {v:Value} {F:Nat->Prop} (hx:NRep w x v F):v.oneCell'=true:=by cases hx<;>first|assumption|rfl
abbrev p9:=Nat->Nat × HO
structure Place where
  m:Nat->Option (Nat × Nat)
  k:Nat->List Nat
instance:CoeFun Place (λ_=>Nat->Option (Nat × Nat)):=⟨Place.m⟩
def Has (μ:Place) (l b:Nat):Prop:=(∃ base,μ l=some (b,base))\/b ∈ μ.k l
def isNest:HO->Bool
  | .nest _ _ _ _=>true
  | _=>false
def m5 (σ:p9) (l:Nat):Prop:=(σ l).2 ≠ .dead
structure Sets where
  own:Nat->Prop
  lent:Nat->Prop
  gh:List (AV × Value)
  free:Bool
  kp:List (Nat × Nat × Option (Nat × Nat))
instance:CoeFun Sets (λ_=>Nat->Prop):=⟨Sets.own⟩
def Nof (S:Sets) (σ:p9) (μ:Place) (w:World) (b:Nat):Prop:=b<w.heap.size/\S.lent b/\∀ l,m5 σ l->¬ Has μ l b
def CRep (σ:p9) (μ:Place) (w:World) (N:Nat->Prop):CV->Value->Prop
  | .junk,_=>True
  | .d x,v=>DRep w N x v
  | .zc,v=>∃ a,v=.slice a 0 0
  | .own l off len ver,v=>v.oneCell'=true/\ver<=(σ l).1/\∀ sz n row,σ l=(ver,.arr sz n row)->off+len<=n /\
      ((μ l=none/\len=0/\∃ a,v=.slice a 0 0) \/
        ∃ b base o cap cs e,μ l=some (b,base)/\v=.slice (some ⟨b,o,none⟩) len cap/\len<=cap/\(0<len\/off=0->o=base+off*sz) /\
          w.heap[b]? = some (.cells cs e (0,0))/\o+cap*sz<=cs.size/\(off=0->0<cap))
  | .bp l ver off,v=>v.oneCell'=true/\ver<=(σ l).1/\∀ cells,σ l=(ver,.box cells)->∃ b,μ l=some (b,0)/\v=.pointer (some ⟨b,off,none⟩)
  | .op l ver row off,v=>v.oneCell'=true/\ver<=(σ l).1/\∀ sz n rw,σ l=(ver,.arr sz n rw)->row<n/\∃ b base,μ l=some (b,base)/\v=.pointer (some ⟨b,base+row*sz+off,none⟩)
  | .nown l len ver,v=>v.oneCell'=true/\ver<=(σ l).1/\∀ sz n row foc,σ l=(ver,.nest sz n row foc)->len=n /\
      ((μ l=none/\len=0/\∃ a,v=.slice a 0 0) \/
        ∃ b base cap cs e,μ l=some (b,base)/\v=.slice (some ⟨b,base,none⟩) len cap/\len<=cap/\0<cap/\w.heap[b]? = some (.cells cs e (0,0))/\base+cap*sz<=cs.size)
  | .nop l ver row off,v=>v.oneCell'=true/\ver<=(σ l).1/\∀ sz n rw foc,σ l=(ver,.nest sz n rw foc)->row<n/\∃ b base,μ l=some (b,base)/\v=.pointer (some ⟨b,base+row*sz+off,none⟩)
  | .clo f caps,v=>∃ cs:Array Value,v=.func (.func f) #[] cs/\cs.size=caps.length /\
      ∀ (j l ver:Nat),caps[j]? = some (l,ver)->ver<=(σ l).1/\∀ cells,σ l=(ver,.box cells)->∃ b,μ l=some (b,0)/\cs[j]? = some (Value.pointer (some ⟨b,0,none⟩))
def CsRep (σ:p9) (μ:Place) (w:World) (N:Nat->Prop):List CV->List Value->Prop
  | [],[]=>True
  | x::r,v::s=>CRep σ μ w N x v/\CsRep σ μ w N r s
  | _,_=>False
def TRep (σ:p9) (μ:Place) (w:World) (N:Nat->Prop):TV->Value->Prop
  | .c x,v=>CRep σ μ w N x v
  | .agg xs,v=>∃ cs:Array Value,v=.agg cs/\CsRep σ μ w N xs cs.toList
def TsRep (σ:p9) (μ:Place) (w:World) (N:Nat->Prop):List TV->List Value->Prop
  | [],[]=>True
  | x::r,v::s=>TRep σ μ w N x v/\TsRep σ μ w N r s
  | _,_=>False
def ARep (σ:p9) (μ:Place) (w:World) (N:Nat->Prop):AV->Value->Prop
  | .c x,v=>CRep σ μ w N x v
  | .agg xs,v=>∃ cs:Array Value,v=.agg cs/\CsRep σ μ w N xs cs.toList
  | .tup xs,v=>∃ cs:Array Value,v=.tuple cs/\TsRep σ μ w N xs cs.toList
  | .gd t x,v=>(t=true->ARep σ μ w N x v)/\(t=false->v=undef)
def Kids (w:World) (cs:Array Value) (base sz n:Nat) (row:Nat->List DV) (skip:Nat->Prop) (F:Nat->Prop):Prop:=
  (∀ i,i<n->¬ skip i->(row i).length=sz)/\∃ G:Nat->Nat->Nat->Prop,
    (∀ i j x,i<n->¬ skip i->(row i)[j]? = some x->∃ u,cs[base+i*sz+j]? = some u/\NRep w x u (G i j)) /\
    (∀ k,F k ↔ ∃ i j,i<n/\¬ skip i/\j<sz/\G i j k) /\
    ∀ i j i' j' k,i<n->¬ skip i->j<sz->i'<n->¬ skip i'->j'<sz->G i j k->G i' j' k->i=i'/\j=j'
def isFoc (foc:Option (Nat × List CV)) (i:Nat):Prop:=∃ c,foc=some (i,c)
def FocRep (σ:p9) (μ:Place) (w:World) (N:Nat->Prop) (cs:Array Value) (base sz n:Nat) (foc:Option (Nat × List CV)):Prop:=
  ∀ i cells,foc=some (i,cells)->i<n/\cells.length=sz/\∀ (j:Nat) x,cells[j]? = some x->∃ u,cs[base+i*sz+j]? = some u/\CRep σ μ w N x u
theorem Kids.carry {w w':World} {cs:Array Value} {base sz n:Nat} {row:Nat->List DV} {skip F:Nat->Prop} (h:∀ b,F b->w'.heap[b]? = w.heap[b]?) (hk:Kids w cs base sz n row skip F):Kids w' cs base sz n row skip F:=by
  obtain ⟨h0,G,h1,h2,h3⟩:=hk
  refine ⟨h0,G,λi j x hi hn hj => ?_,h2,h3⟩
  obtain ⟨u,hu,hd⟩:=h1 i j x hi hn hj
  exact ⟨u,hu,hd.carry λb hb=>h b ((h2 b).2 ⟨i,j,hi,hn,by rw [<- h0 i hi hn];exact (List.getElem?_eq_some_iff.1 hj).1,hb⟩)⟩
def ObjRep (σ:p9) (μ:Place) (w:World) (N:Nat->Prop) (l:Nat):HO->Prop
  | .dead=>True
  | .box cells=>∃ b cs e,μ l=some (b,0)/\w.heap[b]? = some (.cells cs e (0,0))/\CsRep σ μ w N cells cs.toList
  | .arr sz n row=>(∀ i,i<n->(row i).length=sz)/\((μ l=none/\n=0) \/
      ∃ b base cs e,μ l=some (b,base)/\w.heap[b]? = some (.cells cs e (0,0))/\base+n*sz<=cs.size /\
        ∀ i j x,i<n->(row i)[j]? = some x->∃ u,cs[base+i*sz+j]? = some u/\DRep w N x u)
  | .nest sz n row foc=>(μ l=none/\n=0/\foc=none /\ μ.k l=[]) \/
      ∃ b base cs e,μ l=some (b,base)/\w.heap[b]? = some (.cells cs e (0,0))/\base+n*sz<=cs.size/\Kids w cs base sz n row (isFoc foc) (λk=>k ∈ μ.k l)/\b ∉ μ.k l/\(μ.k l).Nodup/\FocRep σ μ w N cs base sz n foc
def Keeps (σ σ':p9) (μ μ':Place) (w w':World) (l:Nat):Prop:=
  (σ l).1<(σ' l).1\/((σ l).1=(σ' l).1 /\ μ' l = μ l /\
    (∀ cells,(σ' l).2=.box cells->∃ cells',(σ l).2=.box cells') /\
    (∀ sz n row,(σ' l).2=.arr sz n row->∃ n' row',(σ l).2=.arr sz n' row'/\n'<=n) /\
    (∀ sz n row foc,(σ' l).2=.nest sz n row foc->∃ row' foc',(σ l).2=.nest sz n row' foc') /\
    (∀ b base cs e,μ l=some (b,base)->(σ' l).2 ≠ .dead->w.heap[b]? = some (.cells cs e (0,0))->∃ cs',w'.heap[b]? = some (.cells cs' e (0,0))/\cs'.size=cs.size))
structure Step (S:Sets) (σ σ':p9) (μ μ':Place) (w w':World):Prop where
  size:w.heap.size<=w'.heap.size
  old:∀ b,Nof S σ μ w b->w'.heap[b]? = w.heap[b]? /\ Nof S σ' μ' w' b
  lab:∀ l,Keeps σ σ' μ μ' w w' l
section
variable {S:Sets} {σ σ':p9} {μ μ':Place} {w w':World}
theorem CRep.step (h:Step S σ σ' μ μ' w w') {x:CV} {v:Value} (hx:CRep σ μ w (Nof S σ μ w) x v):CRep σ' μ' w' (Nof S σ' μ' w') x v:=by
  cases x with
  | junk=>trivial
  | d x=>exact DRep.carry h.old hx
  | zc=>exact hx
  | own l off len ver=>
    obtain ⟨h1c,hv,hx⟩:=hx
    rcases h.lab l with hl|⟨hl,hm,_,ha,_,hk⟩
    · exact ⟨h1c,by omega,λsz n row e=>by rw [e] at hl;simp at hl;omega⟩
    · refine ⟨h1c,by omega,λsz n row e => ?_⟩
      obtain ⟨n',row',e',hn⟩:=ha sz n row (by rw [e])
      have es : σ l=(ver,.arr sz n' row'):=by
        have:(σ l).1=ver:=by rw [hl,e]
        rw [<- this,<- e']
      obtain ⟨h1,h2⟩:=hx sz n' row' es
      refine ⟨by omega,?_⟩
      rcases h2 with ⟨h2,h3⟩|⟨b,base,o,cap,cs,e1,h2,h3,h4,h5,h6,h7,h7'⟩
      · exact .inl ⟨by rw [hm];exact h2,h3⟩
      · obtain ⟨cs',h8,h9⟩:=hk b base cs e1 h2 (by rw [e];exact HO.noConfusion) h6
        exact .inr ⟨b,base,o,cap,cs',e1,by rw [hm];exact h2,h3,h4,h5,h8,by omega,h7'⟩
  | bp l ver off=>
    obtain ⟨h1c,hv,hx⟩:=hx
    rcases h.lab l with hl|⟨hl,hm,hb,_,_⟩
    · exact ⟨h1c,by omega,λcells e=>by rw [e] at hl;simp at hl;omega⟩
    · refine ⟨h1c,by omega,λcells e => ?_⟩
      obtain ⟨cells',e'⟩:=hb cells (by rw [e])
      have es : σ l=(ver,.box cells'):=by
        have:(σ l).1=ver:=by rw [hl,e]
        rw [<- this,<- e']
      obtain ⟨b,h1,h2⟩:=hx cells' es
      exact ⟨b,by rw [hm];exact h1,h2⟩
  | op l ver row off=>
    obtain ⟨h1c,hv,hx⟩:=hx
    rcases h.lab l with hl|⟨hl,hm,_,ha,_⟩
    · exact ⟨h1c,by omega,λsz n rw' e=>by rw [e] at hl;simp at hl;omega⟩
    · refine ⟨h1c,by omega,λsz n rw' e => ?_⟩
      obtain ⟨n',row',e',hn⟩:=ha sz n rw' (by rw [e])
      have es : σ l=(ver,.arr sz n' row'):=by
        have:(σ l).1=ver:=by rw [hl,e]
        rw [<- this,<- e']
      obtain ⟨h1,b,base,h2,h3⟩:=hx sz n' row' es
      exact ⟨by omega,b,base,by rw [hm];exact h2,h3⟩
  | nown l len ver=>
    obtain ⟨h1c,hv,hx⟩:=hx
    rcases h.lab l with hl|⟨hl,hm,_,_,ha,hk⟩
    · exact ⟨h1c,by omega,λsz n row foc e=>by rw [e] at hl;simp at hl;omega⟩
    · refine ⟨h1c,by omega,λsz n row foc e => ?_⟩
      obtain ⟨row',foc',e'⟩:=ha sz n row foc (by rw [e])
      have es : σ l=(ver,.nest sz n row' foc'):=by
        have:(σ l).1=ver:=by rw [hl,e]
        rw [<- this,<- e']
      obtain ⟨h1,h2⟩:=hx sz n row' foc' es
      refine ⟨h1,?_⟩
      rcases h2 with ⟨h2,h3⟩|⟨b,base,cap,cs,e1,h2,h3,h4,h5,h6,h7⟩
      · exact .inl ⟨by rw [hm];exact h2,h3⟩
      · obtain ⟨cs',h8,h9⟩:=hk b base cs e1 h2 (by rw [e];exact HO.noConfusion) h6
        exact .inr ⟨b,base,cap,cs',e1,by rw [hm];exact h2,h3,h4,h5,h8,by omega⟩
  | nop l ver row off=>
    obtain ⟨h1c,hv,hx⟩:=hx
    rcases h.lab l with hl|⟨hl,hm,_,_,ha,_⟩
    · exact ⟨h1c,by omega,λsz n rw' foc e=>by rw [e] at hl;simp at hl;omega⟩
    · refine ⟨h1c,by omega,λsz n rw' foc e => ?_⟩
      obtain ⟨row',foc',e'⟩:=ha sz n rw' foc (by rw [e])
      have es : σ l=(ver,.nest sz n row' foc'):=by
        have:(σ l).1=ver:=by rw [hl,e]
        rw [<- this,<- e']
      obtain ⟨h1,b,base,h2,h3⟩:=hx sz n row' foc' es
      exact ⟨h1,b,base,by rw [hm];exact h2,h3⟩
  | clo f caps=>
    obtain ⟨cs,h1,h2,h3⟩:=hx
    refine ⟨cs,h1,h2,λj l ver hj => ?_⟩
    obtain ⟨hv,hx⟩:=h3 j l ver hj
    rcases h.lab l with hl|⟨hl,hm,hb,_,_⟩
    · exact ⟨by omega,λcells e=>by rw [e] at hl;simp at hl;omega⟩
    · refine ⟨by omega,λcells e => ?_⟩
      obtain ⟨cells',e'⟩:=hb cells (by rw [e])
      have es : σ l=(ver,.box cells'):=by
        have:(σ l).1=ver:=by rw [hl,e]
        rw [<- this,<- e']
      obtain ⟨b,h1,h2⟩:=hx cells' es
      exact ⟨b,by rw [hm];exact h1,h2⟩
theorem CsRep.step (h:Step S σ σ' μ μ' w w'):∀ {xs:List CV} {vs:List Value},CsRep σ μ w (Nof S σ μ w) xs vs->CsRep σ' μ' w' (Nof S σ' μ' w') xs vs
  | [],[],_=>trivial
  | _::_,_::_,hx=>⟨hx.1.step h,CsRep.step h hx.2⟩
  | [],_::_,hx=>hx.elim
  | _::_,[],hx=>hx.elim
theorem TRep.step (h:Step S σ σ' μ μ' w w') {x:TV} {v:Value} (hx:TRep σ μ w (Nof S σ μ w) x v):TRep σ' μ' w' (Nof S σ' μ' w') x v:=by
  cases x with
  | c x=>exact CRep.step h hx
  | agg xs=>obtain ⟨cs,h1,h2⟩:=hx;exact ⟨cs,h1,h2.step h⟩
theorem TsRep.step (h:Step S σ σ' μ μ' w w'):∀ {xs:List TV} {vs:List Value},TsRep σ μ w (Nof S σ μ w) xs vs->TsRep σ' μ' w' (Nof S σ' μ' w') xs vs
  | [],[],_=>trivial
  | _::_,_::_,hx=>⟨hx.1.step h,TsRep.step h hx.2⟩
  | [],_::_,hx=>hx.elim
  | _::_,[],hx=>hx.elim
theorem ARep.step (h:Step S σ σ' μ μ' w w'):∀ {x:AV} {v:Value},ARep σ μ w (Nof S σ μ w) x v->ARep σ' μ' w' (Nof S σ' μ' w') x v
  | .c _,_,hx=>CRep.step h hx
  | .agg _,_,⟨cs,h1,h2⟩=>⟨cs,h1,h2.step h⟩
  | .tup _,_,⟨cs,h1,h2⟩=>⟨cs,h1,h2.step h⟩
  | .gd _ x,_,hx=>⟨λht=>ARep.step h (x:=x) (hx.1 ht),hx.2⟩
theorem ObjRep.step (h:Step S σ σ' μ μ' w w') {l:Nat} {o:HO} (hm : μ' l = μ l) (hmk : μ'.k l = μ.k l) (hH:∀ b,Has μ l b->w'.heap[b]? = w.heap[b]?)
    (ho:ObjRep σ μ w (Nof S σ μ w) l o):ObjRep σ' μ' w' (Nof S σ' μ' w') l o:=by
  have hb:∀ b base,μ l=some (b,base)->w'.heap[b]? = w.heap[b]? := λb base e=>hH b (.inl ⟨base,e⟩)
  cases o with
  | dead=>trivial
  | nest sz n row foc=>
    rcases ho with ⟨h1,h2,h3,h4⟩|⟨b,base,cs,e,h1,h2,h3,h4,h5,h6,h7⟩
    · exact .inl ⟨by rw [hm];exact h1,h2,h3,by rw [hmk];exact h4⟩
    · refine .inr ⟨b,base,cs,e,by rw [hm];exact h1,by rw [hb b base h1];exact h2,h3,?_,by rw [hmk];exact h5,by rw [hmk];exact h6,λi cells hf => ?_⟩
      · rw [hmk];exact h4.carry λb hb=>hH b (.inr hb)
      · obtain ⟨q1,q2,q3⟩:=h7 i cells hf
        refine ⟨q1,q2,λj x hj => ?_⟩
        obtain ⟨u,hu,hc⟩:=q3 j x hj
        exact ⟨u,hu,hc.step h⟩
  | box cells=>
    obtain ⟨b,cs,e,h1,h2,h3⟩:=ho
    exact ⟨b,cs,e,by rw [hm];exact h1,by rw [hb b 0 h1];exact h2,h3.step h⟩
  | arr sz n row=>
    refine ⟨ho.1,?_⟩
    rcases ho.2 with ⟨h1,h2⟩|⟨b,base,cs,e,h1,h2,h3,h4⟩
    · exact .inl ⟨by rw [hm];exact h1,h2⟩
    · refine .inr ⟨b,base,cs,e,by rw [hm];exact h1,by rw [hb b base h1];exact h2,h3,λi j x hi hj => ?_⟩
      obtain ⟨u,hu,hd⟩:=h4 i j x hi hj
      exact ⟨u,hu,DRep.carry h.old hd⟩
end
def labC:CV->Bool
  | .own l _ _ _=>nblt l 64
  | .bp l _ _=>nblt l 64
  | .nown l _ _=>nblt l 64
  | .junk | .d _ | .zc=>true
  | _=>false
def labA:AV->Bool
  | .c x=>labC x
  | .agg xs=>xs.all labC
  | _=>false
structure RelM (w0:World) (S:Sets) (nt:Nat) (sl:Nat->AV) (σ:p9) (a:Act) (w:World) (μ:Place):Prop where
  size:a.tmps.size=nt
  defs:a.defers=[]
  env:w.os=w0.os/\w.output=w0.output/\w.tape=w0.tape
  grow:w0.heap.size<=w.heap.size
  reach:∀ b,w0.heap.size<=b\/S b->S.lent b
  frame:∀ b,b<w0.heap.size->¬ S b->w.heap[b]? = w0.heap[b]?
  shape:∀ (b:Nat) cs e fr,w0.heap[b]? = some (Obj.cells cs e fr)->∃ cs',w.heap[b]? = some (Obj.cells cs' e fr)/\cs'.size=cs.size
  ownH:∀ l b,m5 σ l->Has μ l b->b<w.heap.size/\(w0.heap.size<=b\/S b)
  injH:∀ l l' b,m5 σ l->m5 σ l'->Has μ l b->Has μ l' b->l=l'
  kz:∀ l,m5 σ l->isNest (σ l).2=false -> μ.k l=[]
  ghost:∀ p,p∈S.gh->ARep σ μ w (Nof S σ μ w) p.1 p.2
  ghl:∀ p,p∈S.gh->labA p.1=true
  keep:S.free=true->∀ p,p∈S.kp->p.2.1<=(σ p.1).1/\((σ p.1).1=p.2.1->m5 σ p.1 -> μ p.1=p.2.2)
  objs:∀ l,ObjRep σ μ w (Nof S σ μ w) l (σ l).2
  slots:∀ k,ARep σ μ w (Nof S σ μ w) (sl k) (a.tmps.getD k undef)
theorem RelM.own {w0:World} {S:Sets} {nt:Nat} {sl:Nat->AV} {σ:p9} {a:Act} {w:World} {μ:Place} (R:RelM w0 S nt sl σ a w μ) (l b base:Nat) (hl:m5 σ l) (hm : μ l=some (b,base)):b<w.heap.size/\(w0.heap.size<=b\/S b):=R.ownH l b hl (.inl ⟨base,hm⟩)
theorem RelM.inj {w0:World} {S:Sets} {nt:Nat} {sl:Nat->AV} {σ:p9} {a:Act} {w:World} {μ:Place} (R:RelM w0 S nt sl σ a w μ) (l l' b base base':Nat) (hl:m5 σ l) (hl':m5 σ l') (hm : μ l=some (b,base)) (hm' : μ l'=some (b,base')):l=l':=R.injH l l' b hl hl' (.inl ⟨base,hm⟩) (.inl ⟨base',hm'⟩)
def Rel (w0:World) (S:Sets) (nt:Nat) (sl:Nat->AV) (σ:p9) (a:Act) (w:World):Prop:=∃ μ,RelM w0 S nt sl σ a w μ
theorem CRep.one {σ:p9} {μ:Place} {w:World} {N:Nat->Prop} {x:CV} {v:Value} (hj:x ≠ .junk) (hx:CRep σ μ w N x v):v.oneCell'=true:=by
  cases x with
  | junk=>exact (hj rfl).elim
  | d x=>cases hx<;>first|assumption|rfl
  | zc=>obtain ⟨a,rfl⟩:=hx;rfl
  | own l off len ver=>exact hx.1
  | bp l ver off=>exact hx.1
  | op l ver row off=>exact hx.1
  | nown l len ver=>exact hx.1
  | nop l ver row off=>exact hx.1
  | clo f caps=>obtain ⟨cs,rfl,_⟩:=hx;rfl
def updO (σ:p9) (l:Nat) (x:Nat × HO):p9:=λk=>if k=l then x else σ k
def updP (μ:Place) (l:Nat) (x:Option (Nat × Nat)):Place:=⟨λk=>if k=l then x else μ k,λk=>if k=l then [] else μ.k k⟩
def putS (sl:Nat->AV) (dst:Option Nat) (x:AV):Nat->AV:=λk=>if dst=some k then x else sl k
@[simp] theorem updO_same (σ:p9) (l:Nat) (x:Nat × HO):updO σ l x l=x:=by simp [updO]
theorem s7 (σ:p9) {l k:Nat} (x:Nat × HO) (h:k≠l):updO σ l x k = σ k:=by simp [updO,h]
@[simp] theorem updP_same (μ:Place) (l:Nat) (x:Option (Nat × Nat)):updP μ l x l=x:=by simp [updP]
theorem updP_ne (μ:Place) {l k:Nat} (x:Option (Nat × Nat)) (h:k≠l):updP μ l x k = μ k:=by simp [updP,h]
@[simp] theorem updP_k_same (μ:Place) (l:Nat) (x:Option (Nat × Nat)):(updP μ l x).k l=[]:=by simp [updP]
theorem updP_k_ne (μ:Place) {l k:Nat} (x:Option (Nat × Nat)) (h:k≠l):(updP μ l x).k k = μ.k k:=by simp [updP,h]
theorem has_updP_same {μ:Place} {l b:Nat} {x:Option (Nat × Nat)}:Has (updP μ l x) l b ↔ ∃ base,x=some (b,base):=by
  unfold Has;rw [updP_same,updP_k_same];simp
theorem has_updP_ne {μ:Place} {l k b:Nat} {x:Option (Nat × Nat)} (h:k≠l):Has (updP μ l x) k b↔Has μ k b:=by
  unfold Has;rw [updP_ne _ _ h,updP_k_ne _ _ h]
def updK (μ:Place) (l:Nat) (x:Option (Nat × Nat)) (ks:List Nat):Place:=⟨λk=>if k=l then x else μ k,λk=>if k=l then ks else μ.k k⟩
@[simp] theorem updK_same (μ:Place) (l:Nat) (x:Option (Nat × Nat)) (ks:List Nat):updK μ l x ks l=x:=by simp [updK]
theorem updK_ne (μ:Place) {l k:Nat} (x:Option (Nat × Nat)) (ks:List Nat) (h:k≠l):updK μ l x ks k = μ k:=by simp [updK,h]
@[simp] theorem updK_k_same (μ:Place) (l:Nat) (x:Option (Nat × Nat)) (ks:List Nat):(updK μ l x ks).k l=ks:=by simp [updK]
theorem updK_k_ne (μ:Place) {l k:Nat} (x:Option (Nat × Nat)) (ks:List Nat) (h:k≠l):(updK μ l x ks).k k = μ.k k:=by simp [updK,h]
theorem has_updK_same {μ:Place} {l b:Nat} {x:Option (Nat × Nat)} {ks:List Nat}:Has (updK μ l x ks) l b↔(∃ base,x=some (b,base))\/b∈ks:=by
  unfold Has;rw [updK_same,updK_k_same]
theorem has_updK_ne {μ:Place} {l k b:Nat} {x:Option (Nat × Nat)} {ks:List Nat} (h:k≠l):Has (updK μ l x ks) k b↔Has μ k b:=by
  unfold Has;rw [updK_ne _ _ _ h,updK_k_ne _ _ _ h]
theorem live_updO_ne {σ:p9} {l k:Nat} {x:Nat × HO} (h:k≠l):m5 (updO σ l x) k↔m5 σ k:=by simp [m5,s7 _ _ h]
section
variable {w0:World} {S:Sets} {nt:Nat} {sl:Nat->AV} {σ:p9} {a:Act} {w:World} {μ:Place}
theorem getD_put {a:Act} {dst:Option Nat} {v:Value} {k:Nat} (h:∀ d,dst=some d->d<a.tmps.size) :
    (a.put dst v).tmps.getD k undef=if dst=some k then v else a.tmps.getD k undef:=by
  cases dst with
  | none=>simp [Act.put]
  | some d=>
    have hd:=h d rfl
    simp only [Act.put,Array.getD_eq_getD_getElem?,Array.getElem?_setIfInBounds,Option.some.injEq]
    by_cases e:d=k
    · subst e;simp [hd]
    · simp [e]
theorem RelM.put (R:RelM w0 S nt sl σ a w μ) {dst:Option Nat} (hd:∀ d,dst=some d->d<nt) {x:AV} {v:Value} (hx:ARep σ μ w (Nof S σ μ w) x v) :
    RelM w0 S nt (putS sl dst x) σ (a.put dst v) w μ:=by
  refine ⟨?_,?_,R.env,R.grow,R.reach,R.frame,R.shape,R.ownH,R.injH,R.kz,R.ghost,R.ghl,R.keep,R.objs,λk => ?_⟩
  · rw [<- R.size];cases dst<;>simp [Act.put]
  · rw [<- R.defs];cases dst<;>simp [Act.put]
  · rw [getD_put (λd e=>by rw [R.size];exact hd d e)]
    unfold putS
    split
    · exact hx
    · exact R.slots k
theorem RelM.carry (R:RelM w0 S nt sl σ a w μ) {σ':p9} {μ':Place} {w':World} (h:Step S σ σ' μ μ' w w')
    (env:w'.os=w.os/\w'.output=w.output/\w'.tape=w.tape)
    (frame:∀ b,b<w0.heap.size->¬ S b->w'.heap[b]? = w.heap[b]?)
    (shape:∀ (b:Nat) cs e fr,w.heap[b]? = some (Obj.cells cs e fr)->∃ cs',w'.heap[b]? = some (Obj.cells cs' e fr)/\cs'.size=cs.size)
    (own:∀ l b,m5 σ' l->Has μ' l b->b<w'.heap.size/\(w0.heap.size<=b\/S b))
    (inj:∀ l l' b,m5 σ' l->m5 σ' l'->Has μ' l b->Has μ' l' b->l=l')
    (kz:∀ l,m5 σ' l->isNest (σ' l).2=false -> μ'.k l=[])
    (objs:∀ l,(σ' l = σ l /\ μ' l = μ l /\ μ'.k l = μ.k l/\∀ b,m5 σ l->Has μ l b->w'.heap[b]? = w.heap[b]?)\/ObjRep σ' μ' w' (Nof S σ' μ' w') l (σ' l).2) :
    RelM w0 S nt sl σ' a w' μ':=by
  refine ⟨R.size,R.defs,?_,Nat.le_trans R.grow h.size,R.reach,λb hb hs=>(frame b hb hs).trans (R.frame b hb hs),λb cs e fr hb => ?_,own,inj,kz,λp hp=>(R.ghost p hp).step h,R.ghl,λhf p hp => ?_,λl => ?_,λk=>(R.slots k).step h⟩
  · obtain ⟨e1,e2,e3⟩:=env
    obtain ⟨f1,f2,f3⟩:=R.env
    exact ⟨e1.trans f1,e2.trans f2,e3.trans f3⟩
  · obtain ⟨cs1,h1,h2⟩:=R.shape b cs e fr hb
    obtain ⟨cs2,h3,h4⟩:=shape b cs1 e fr h1
    exact ⟨cs2,h3,h4.trans h2⟩
  · obtain ⟨k1,k2⟩:=R.keep hf p hp
    rcases h.lab p.1 with hl|⟨hl,hm,hb,ha,hn,_⟩
    · exact ⟨by omega,λe=>by omega⟩
    · refine ⟨by omega,λe hlv => ?_⟩
      rw [hm]
      refine k2 (by omega) ?_
      unfold m5 at hlv ⊢
      cases ho:(σ' p.1).2 with
      | dead=>exact absurd ho hlv
      | box cells=>obtain ⟨c,hc⟩:=hb cells ho;rw [hc];exact HO.noConfusion
      | arr sz n row=>obtain ⟨n',row',hc,_⟩:=ha sz n row ho;rw [hc];exact HO.noConfusion
      | nest sz n row foc=>obtain ⟨row',foc',hc⟩:=hn sz n row foc ho;rw [hc];exact HO.noConfusion
  · rcases objs l with ⟨h1,h2,h2k,h3⟩|h1
    · rw [h1]
      by_cases hl:m5 σ l
      · exact (R.objs l).step h h2 h2k (λb=>h3 b hl)
      · have:(σ l).2=.dead:=by simpa [m5] using hl
        rw [this];trivial
    · exact h1
theorem heap_alloc_lt (w:World) (o:Obj) {b:Nat} (h:b<w.heap.size):(w.alloc o).heap[b]? = w.heap[b]? := by
  show (w.heap.push o)[b]? = _
  rw [Array.getElem?_push,if_neg (by omega)]
theorem v8 (w:World) (o:Obj):(w.alloc o).heap[w.heap.size]? = some o:=by
  show (w.heap.push o)[w.heap.size]? = _
  simp
theorem size_alloc' (w:World) (o:Obj):(w.alloc o).heap.size=w.heap.size+1:=by simp
theorem Nof_alloc {o:Obj} {L:Nat} {x:Nat × HO} {base:Nat} {ks:List Nat} (hks:∀ b,b∈ks->m5 σ L/\b ∈ μ.k L) {b:Nat} (h:Nof S σ μ w b):Nof S (updO σ L x) (updK μ L (some (w.heap.size,base)) ks) (w.alloc o) b:=by
  refine ⟨by rw [size_alloc'];have:=h.1;omega,h.2.1,λl hl hh => ?_⟩
  by_cases e:l=L
  · subst e
    rcases has_updK_same.1 hh with ⟨base',h1⟩|h1
    · simp at h1;have:=h.1;omega
    · exact h.2.2 l (hks b h1).1 (.inr (hks b h1).2)
  · exact h.2.2 l ((live_updO_ne e).1 hl) ((has_updK_ne e).1 hh)
def Content (σ:p9) (μ:Place) (w:World) (N:Nat->Prop) (base:Nat) (cs:Array Value):HO->Prop
  | .dead | .nest _ _ _ _=>False
  | .box cells=>base=0/\CsRep σ μ w N cells cs.toList
  | .arr sz n row=>(∀ i,i<n->(row i).length=sz)/\base+n*sz<=cs.size /\
      ∀ i j x,i<n->(row i)[j]? = some x->∃ u,cs[base+i*sz+j]? = some u/\DRep w N x u
theorem Content.obj {σ':p9} {μ':Place} {w':World} (h:Step S σ σ' μ μ' w w') {base b L:Nat} {cs:Array Value} {e:TypeId} {o:HO} (hm : μ' L=some (b,base))
    (hb:w'.heap[b]? = some (.cells cs e (0,0))) (hc:Content σ μ w (Nof S σ μ w) base cs o):ObjRep σ' μ' w' (Nof S σ' μ' w') L o:=by
  cases o with
  | dead=>trivial
  | nest _ _ _ _=>exact hc.elim
  | box cells=>obtain ⟨rfl,hc⟩:=hc;exact ⟨b,cs,e,hm,hb,hc.step h⟩
  | arr sz n row=>
    obtain ⟨h1,h2,h3⟩:=hc
    refine ⟨h1,.inr ⟨b,base,cs,e,hm,hb,h2,λi j x hi hj => ?_⟩⟩
    obtain ⟨u,hu,hd⟩:=h3 i j x hi hj
    exact ⟨u,hu,DRep.carry h.old hd⟩
theorem RelM.allocK (R:RelM w0 S nt sl σ a w μ) (L:Nat) (ver:Nat) (hv:(σ L).1<ver) (o:HO) (cs:Array Value) (e:TypeId) (ks:List Nat) (hks:∀ b,b∈ks->m5 σ L/\b ∈ μ.k L) (hnn:isNest o=false->ks=[])
    (hc:Step S σ (updO σ L (ver,o)) μ (updK μ L (some (w.heap.size,0)) ks) w (w.alloc (.cells cs e)) ->
      ObjRep (updO σ L (ver,o)) (updK μ L (some (w.heap.size,0)) ks) (w.alloc (.cells cs e)) (Nof S (updO σ L (ver,o)) (updK μ L (some (w.heap.size,0)) ks) (w.alloc (.cells cs e))) L o) :
    Step S σ (updO σ L (ver,o)) μ (updK μ L (some (w.heap.size,0)) ks) w (w.alloc (.cells cs e)) /\
    RelM w0 S nt sl (updO σ L (ver,o)) a (w.alloc (.cells cs e)) (updK μ L (some (w.heap.size,0)) ks):=by
  have hst:Step S σ (updO σ L (ver,o)) μ (updK μ L (some (w.heap.size,0)) ks) w (w.alloc (.cells cs e)):=by
    refine ⟨by rw [size_alloc'];omega,λb hb=>⟨heap_alloc_lt _ _ hb.1,Nof_alloc hks hb⟩,λl => ?_⟩
    by_cases el:l=L
    · subst el;left;simpa using hv
    · right
      rw [s7 _ _ el,updK_ne _ _ _ el]
      refine ⟨rfl,rfl,λc hc=>⟨c,hc⟩,λsz n row hr=>⟨n,row,hr,Nat.le_refl _⟩,λsz n row foc hr=>⟨row,foc,hr⟩,λb base cs' e' hm _ hb=>⟨cs',?_,rfl⟩⟩
      rw [heap_alloc_lt _ _ (Array.getElem?_eq_some_iff.1 hb).1];exact hb
  have hold:∀ b,b∈ks->b<w.heap.size/\(w0.heap.size<=b\/S b):=λb hb=>R.ownH L b (hks b hb).1 (.inr (hks b hb).2)
  refine ⟨hst,R.carry hst ⟨rfl,rfl,rfl⟩ (λb hb _=>heap_alloc_lt _ _ (Nat.lt_of_lt_of_le hb R.grow)) (λb cs e fr hb=>⟨cs,by rw [heap_alloc_lt _ _ (Array.getElem?_eq_some_iff.1 hb).1];exact hb,rfl⟩) (λl b hl hm => ?_) (λl l' b hl hl' hm hm' => ?_) (λl hl hn => ?_) (λl => ?_)⟩
  · by_cases el:l=L
    · subst el
      rcases has_updK_same.1 hm with ⟨base,hm⟩|hm
      · simp at hm;obtain ⟨rfl,rfl⟩:=hm
        exact ⟨by rw [size_alloc'];omega,.inl R.grow⟩
      · have:=hold b hm;exact ⟨by rw [size_alloc'];omega,this.2⟩
    · have:=R.ownH l b ((live_updO_ne el).1 hl) ((has_updK_ne el).1 hm)
      exact ⟨by rw [size_alloc'];omega,this.2⟩
  · have key:∀ l',l'≠L->m5 (updO σ L (ver,o)) l'->Has (updK μ L (some (w.heap.size,0)) ks) l' b->Has (updK μ L (some (w.heap.size,0)) ks) L b->False:=λl' el' hl' hm' hm=>by
      have h1:=(has_updK_ne el').1 hm'
      have h2:=(live_updO_ne el').1 hl'
      rcases has_updK_same.1 hm with ⟨base,hm⟩|hm
      · simp at hm
        have:=R.ownH l' b h2 h1
        omega
      · exact el' (R.injH l' L b h2 (hks b hm).1 h1 (.inr (hks b hm).2))
    by_cases el:l=L<;>by_cases el':l'=L
    · rw [el,el']
    · subst el;exact (key l' el' hl' hm' hm).elim
    · subst el';exact (key l el hl hm hm').elim
    · exact R.injH l l' b ((live_updO_ne el).1 hl) ((live_updO_ne el').1 hl') ((has_updK_ne el).1 hm) ((has_updK_ne el').1 hm')
  · by_cases el:l=L
    · subst el;rw [updO_same] at hn;rw [updK_k_same];exact hnn hn
    · rw [s7 _ _ el] at hn;rw [updK_k_ne _ _ _ el];exact R.kz l ((live_updO_ne el).1 hl) hn
  · by_cases el:l=L
    · subst el;right
      rw [updO_same]
      exact hc hst
    · left
      refine ⟨s7 _ _ el,updK_ne _ _ _ el,updK_k_ne _ _ _ el,λb hl hm=>heap_alloc_lt _ _ (R.ownH l b hl hm).1⟩
theorem RelM.allocC (R:RelM w0 S nt sl σ a w μ) (L:Nat) (ver:Nat) (hv:(σ L).1<ver) (o:HO) (cs:Array Value) (e:TypeId)
    (hc:Step S σ (updO σ L (ver,o)) μ (updP μ L (some (w.heap.size,0))) w (w.alloc (.cells cs e)) ->
      ObjRep (updO σ L (ver,o)) (updP μ L (some (w.heap.size,0))) (w.alloc (.cells cs e)) (Nof S (updO σ L (ver,o)) (updP μ L (some (w.heap.size,0))) (w.alloc (.cells cs e))) L o) :
    Step S σ (updO σ L (ver,o)) μ (updP μ L (some (w.heap.size,0))) w (w.alloc (.cells cs e)) /\
    RelM w0 S nt sl (updO σ L (ver,o)) a (w.alloc (.cells cs e)) (updP μ L (some (w.heap.size,0))):=
  R.allocK L ver hv o cs e [] (λb hb=>by simp at hb) (λ_=>rfl) hc
theorem RelM.alloc (R:RelM w0 S nt sl σ a w μ) (L:Nat) (ver:Nat) (hv:(σ L).1<ver) (o:HO) (cs:Array Value) (e:TypeId) (hc:Content σ μ w (Nof S σ μ w) 0 cs o) :
    Step S σ (updO σ L (ver,o)) μ (updP μ L (some (w.heap.size,0))) w (w.alloc (.cells cs e)) /\
    RelM w0 S nt sl (updO σ L (ver,o)) a (w.alloc (.cells cs e)) (updP μ L (some (w.heap.size,0))):=
  R.allocC L ver hv o cs e λhst=>hc.obj hst (by simp) (v8 _ _)
theorem RelM.garb (R:RelM w0 S nt sl σ a w μ) (o:Obj):RelM w0 S nt sl σ a (w.alloc o) μ:=by
  have hst:Step S σ σ μ μ w (w.alloc o):=by
    refine ⟨by rw [size_alloc'];omega,λb hb=>⟨heap_alloc_lt _ _ hb.1,by rw [size_alloc'];have:=hb.1;omega,hb.2⟩,λl=>.inr ⟨rfl,rfl,λc hc=>⟨c,hc⟩,λsz n row hr=>⟨n,row,hr,Nat.le_refl _⟩,λsz n row foc hr=>⟨row,foc,hr⟩,λb base cs e _ _ hb=>⟨cs,?_,rfl⟩⟩⟩
    rw [heap_alloc_lt _ _ (Array.getElem?_eq_some_iff.1 hb).1];exact hb
  exact R.carry hst ⟨rfl,rfl,rfl⟩ (λb hb _=>heap_alloc_lt _ _ (Nat.lt_of_lt_of_le hb R.grow)) (λb cs e fr hb=>⟨cs,by rw [heap_alloc_lt _ _ (Array.getElem?_eq_some_iff.1 hb).1];exact hb,rfl⟩)
    (λl b hl hm=>by have:=R.ownH l b hl hm;exact ⟨by rw [size_alloc'];omega,this.2⟩) R.injH R.kz (λl=>.inl ⟨rfl,rfl,rfl,λb hl hm=>heap_alloc_lt _ _ (R.ownH l b hl hm).1⟩)
theorem RelM.bare (R:RelM w0 S nt sl σ a w μ) (L:Nat) (ver:Nat) (hv:(σ L).1<ver) (o:HO) (ho:o=.dead\/(∃ sz row,o=.arr sz 0 row)\/∃ sz row,o=.nest sz 0 row none) :
    Step S σ (updO σ L (ver,o)) μ (updP μ L none) w w/\RelM w0 S nt sl (updO σ L (ver,o)) a w (updP μ L none):=by
  have hst:Step S σ (updO σ L (ver,o)) μ (updP μ L none) w w:=by
    refine ⟨Nat.le_refl _,λb hb=>⟨rfl,hb.1,hb.2.1,λl hl hh => ?_⟩,λl => ?_⟩
    · by_cases el:l=L
      · subst el;obtain ⟨base,hm⟩:=has_updP_same.1 hh;simp at hm
      · exact hb.2.2 l ((live_updO_ne el).1 hl) ((has_updP_ne el).1 hh)
    · by_cases el:l=L
      · subst el;left;simpa using hv
      · right
        rw [s7 _ _ el,updP_ne _ _ el]
        exact ⟨rfl,rfl,λc hc=>⟨c,hc⟩,λsz n row hr=>⟨n,row,hr,Nat.le_refl _⟩,λsz n row foc hr=>⟨row,foc,hr⟩,λb base cs' e' hm _ hb=>⟨cs',hb,rfl⟩⟩
  refine ⟨hst,R.carry hst ⟨rfl,rfl,rfl⟩ (λ_ _ _=>rfl) (λb cs e fr hb=>⟨cs,hb,rfl⟩) (λl b hl hm => ?_) (λl l' b hl hl' hm hm' => ?_) (λl hl hn => ?_) (λl => ?_)⟩
  · by_cases el:l=L
    · subst el;obtain ⟨base,hm⟩:=has_updP_same.1 hm;simp at hm
    · exact R.ownH l b ((live_updO_ne el).1 hl) ((has_updP_ne el).1 hm)
  · by_cases el:l=L
    · subst el;obtain ⟨base,hm⟩:=has_updP_same.1 hm;simp at hm
    · by_cases el':l'=L
      · subst el';obtain ⟨base,hm'⟩:=has_updP_same.1 hm';simp at hm'
      · exact R.injH l l' b ((live_updO_ne el).1 hl) ((live_updO_ne el').1 hl') ((has_updP_ne el).1 hm) ((has_updP_ne el').1 hm')
  · by_cases el:l=L
    · subst el;simp
    · rw [s7 _ _ el] at hn;rw [updP_k_ne _ _ el];exact R.kz l ((live_updO_ne el).1 hl) hn
  · by_cases el:l=L
    · subst el;right
      simp only [updO_same]
      rcases ho with rfl|⟨sz,row,rfl⟩|⟨sz,row,rfl⟩
      · trivial
      · exact ⟨λi hi=>by omega,.inl ⟨by simp,rfl⟩⟩
      · exact .inl ⟨by simp,rfl,rfl,by simp⟩
    · left
      exact ⟨s7 _ _ el,updP_ne _ _ el,updP_k_ne _ _ el,λb hl hm=>rfl⟩
theorem RelM.writeC (R:RelM w0 S nt sl σ a w μ) (L ver:Nat) (o:HO) (hl:m5 σ L) (ho:o ≠ .dead) (hnn:isNest o=false->isNest (σ L).2=false)
    (hv:(σ L).1<ver\/((σ L).1=ver/\(∀ cells,o=.box cells->∃ cells',(σ L).2=.box cells')/\(∀ sz n row,o=.arr sz n row->∃ n' row',(σ L).2=.arr sz n' row'/\n'<=n) /\
      ∀ sz n row foc,o=.nest sz n row foc->∃ row' foc',(σ L).2=.nest sz n row' foc'))
    {b base:Nat} (hm : μ L=some (b,base)) {cs cs':Array Value} {e:TypeId} (hb:w.heap[b]? = some (.cells cs e (0,0))) (hsz:cs'.size=cs.size)
    (hc:Step S σ (updO σ L (ver,o)) μ μ w (w.setRow b cs')->ObjRep (updO σ L (ver,o)) μ (w.setRow b cs') (Nof S (updO σ L (ver,o)) μ (w.setRow b cs')) L o) :
    Step S σ (updO σ L (ver,o)) μ μ w (w.setRow b cs')/\RelM w0 S nt sl (updO σ L (ver,o)) a (w.setRow b cs') μ:=by
  have hlive:∀ l,m5 (updO σ L (ver,o)) l↔m5 σ l:=λl=>by
    by_cases el:l=L
    · subst el;simp [m5,ho];exact hl
    · simp [m5,s7 _ _ el]
  have hst:Step S σ (updO σ L (ver,o)) μ μ w (w.setRow b cs'):=by
    refine ⟨by simp,λk hk=>⟨setRow_other _ _ _ _ λek=>hk.2.2 L hl (.inl ⟨base,ek▸hm⟩),by simpa using hk.1,hk.2.1,λl h=>hk.2.2 l ((hlive l).1 h)⟩,λl => ?_⟩
    by_cases el:l=L
    · subst el
      rcases hv with hv|⟨hv,h1,h2,h3⟩
      · left;simpa using hv
      · right
        simp only [updO_same]
        refine ⟨hv,trivial,h1,h2,h3,λb' base' cs1 e1 hm1 _ hb1 => ?_⟩
        rw [hm] at hm1;obtain ⟨rfl,rfl⟩:=Prod.mk.inj (Option.some.inj hm1)
        rw [hb] at hb1;simp at hb1;obtain ⟨rfl,rfl⟩:=hb1
        exact ⟨cs',setRow_heap _ _ _ _ _ _ hb,hsz⟩
    · right
      rw [s7 _ _ el]
      refine ⟨rfl,rfl,λc hc=>⟨c,hc⟩,λsz n row hr=>⟨n,row,hr,Nat.le_refl _⟩,λsz n row foc hr=>⟨row,foc,hr⟩,λb' base' cs1 e1 hm1 hlv hb1=>⟨cs1,?_,rfl⟩⟩
      rw [setRow_other _ _ _ _ λek=>el (R.inj l L b' base' base hlv hl hm1 (by rw [ek];exact hm))]
      exact hb1
  refine ⟨hst,R.carry hst ⟨rfl,rfl,rfl⟩ (λk hk hs=>setRow_other _ _ _ _ λek => ?_) (λk cs1 e1 fr hk => ?_) (λl b' h hm' => ?_) (λl l' b' h h' h1 h2=>R.injH l l' b' ((hlive l).1 h) ((hlive l').1 h') h1 h2) (λl h hn => ?_) (λl => ?_)⟩
  · rcases (R.own L b base hl hm).2 with h|h
    · omega
    · exact hs (ek▸h)
  · by_cases ek:k=b
    · subst ek
      rw [hb] at hk;simp at hk;obtain ⟨rfl,rfl,rfl⟩:=hk
      exact ⟨cs',setRow_heap _ _ _ _ _ _ hb,hsz⟩
    · exact ⟨cs1,by rw [setRow_other _ _ _ _ ek];exact hk,rfl⟩
  · have:=R.ownH l b' ((hlive l).1 h) hm'
    exact ⟨by simpa using this.1,this.2⟩
  · by_cases el:l=L
    · subst el;rw [updO_same] at hn;exact R.kz l hl (hnn hn)
    · rw [s7 _ _ el] at hn;exact R.kz l ((hlive l).1 h) hn
  · by_cases el:l=L
    · subst el;right
      rw [updO_same]
      exact hc hst
    · left
      refine ⟨s7 _ _ el,rfl,rfl,λb' h hm'=>setRow_other _ _ _ _ λek=>el (R.injH l L b' h hl hm' (by rw [ek];exact .inl ⟨base,hm⟩))⟩
theorem RelM.write (R:RelM w0 S nt sl σ a w μ) (L ver:Nat) (o:HO) (hl:m5 σ L) (ho:o ≠ .dead)
    (hv:((σ L).1<ver/\isNest (σ L).2=false)\/((σ L).1=ver/\(∀ cells,o=.box cells->∃ cells',(σ L).2=.box cells')/\∀ sz n row,o=.arr sz n row->∃ n' row',(σ L).2=.arr sz n' row'/\n'<=n))
    {b base:Nat} (hm : μ L=some (b,base)) {cs cs':Array Value} {e:TypeId} (hb:w.heap[b]? = some (.cells cs e (0,0))) (hsz:cs'.size=cs.size)
    (hc:Content σ μ w (Nof S σ μ w) base cs' o) :
    Step S σ (updO σ L (ver,o)) μ μ w (w.setRow b cs')/\RelM w0 S nt sl (updO σ L (ver,o)) a (w.setRow b cs') μ:=by
  refine R.writeC L ver o hl ho (λ_ => ?_) ?_ hm hb hsz λhst=>hc.obj hst hm (setRow_heap _ _ _ _ _ _ hb)
  · rcases hv with hv|⟨_,h1,h2⟩
    · exact hv.2
    · cases o with
      | dead=>exact (ho rfl).elim
      | box c=>obtain ⟨c',h⟩:=h1 c rfl;rw [h];rfl
      | arr sz n row=>obtain ⟨n',r',h,_⟩:=h2 sz n row rfl;rw [h];rfl
      | nest _ _ _ _=>exact hc.elim
  · rcases hv with hv|⟨h0,h1,h2⟩
    · exact .inl hv.1
    · refine .inr ⟨h0,h1,h2,λsz n row foc e => ?_⟩
      subst e;exact hc.elim
theorem DRep.same_heap {w w':World} (h:w'.heap=w.heap) {N:Nat->Prop} {x:DV} {v:Value} (hx:DRep w N x v):DRep w' N x v:=hx.carry λb hb=>⟨by rw [h],hb⟩
theorem Step.drew {S:Sets} {σ:p9} {w:World} {μ:Place}:Step S σ σ μ μ w w.drew:=⟨Nat.le_refl _,λb hb=>⟨rfl,hb⟩,λl=>.inr ⟨rfl,rfl,λc hc=>⟨c,hc⟩,λsz n row hr=>⟨n,row,hr,Nat.le_refl _⟩,λsz n row foc hr=>⟨row,foc,hr⟩,λb base cs e _ _ hb=>⟨cs,hb,rfl⟩⟩⟩
theorem RelM.drew (R:RelM w0 S nt sl σ a w μ):RelM w0 S nt sl σ a w.drew μ:=by
  have hst:Step S σ σ μ μ w w.drew:=.drew
  exact R.carry hst ⟨rfl,rfl,rfl⟩ (λ_ _ _=>rfl) (λb cs e fr hb=>⟨cs,hb,rfl⟩) R.ownH R.injH R.kz (λl=>.inl ⟨rfl,rfl,rfl,λ_ _ _=>rfl⟩)
end
structure TTok (P:Program) (T:TypeId->Option TI):Prop where
  desc:∀ t i,T t=some i->P.underlying t=some i.desc
  info:∀ t i,T t=some i->∃ inf z,P.info? t=some inf/\inf.size=i.size/\inf.bytes=i.bytes/\inf.zero=some z/\z.cells.toList=i.zero/\i.zero.length=i.size/\∀ x∈i.zero,x.oneCell'=true
  eq:∀ t i,T t=some i->i.eqk=true->∀ (xs ys:List CV) (r:Bool),kindsB xs i.zero=true->eqCells real xs ys=some r->∀ (us vs:Array Value),us.toList.length=xs.length->vs.toList.length=ys.length ->
    (∀ (j:Nat) x,xs[j]? = some (CV.d (.v x))->us[j]? = some x)->(∀ (j:Nat) y,ys[j]? = some (CV.d (.v y))->vs[j]? = some y) ->
    ∀ w,(eqGuard .eql t (.tmp 0) (.tmp 0) (.agg us) (.agg vs)).run P w=.ok () w/\(eqGuard .neq t (.tmp 0) (.tmp 0) (.agg us) (.agg vs)).run P w=.ok () w/\(Op.equal t (.agg us) (.agg vs)).run P w=.ok r w
section
variable {P:Program} {T:TypeId->Option TI} {w0:World} {S:Sets} {nt:Nat} {slots:List (Nat × AV)} {σ:p9} {a:Act} {w:World} {μ:Place} {N:Nat->Prop}
theorem tiv_run {t:TypeId} {Q:TI->Prop} (h:(tiv T t).run σ Q):∃ i,T t=some i/\Q i:=by
  unfold tiv at h
  cases e:T t with
  | none=>simp [e,G.run] at h
  | some i=>simp only [e,G.run] at h;exact ⟨i,rfl,h⟩
theorem elemv_run {t:TypeId} {Q:TI->Prop} (h:(elemv T t).run σ Q):∃ it e i,T t=some it/\it.desc=.slice e/\T e=some i/\Q i:=by
  unfold elemv at h
  split at h
  · rename_i e s b z q ht
    obtain ⟨i,hi,hq⟩:=tiv_run h
    exact ⟨_,e,i,ht,rfl,hi,hq⟩
  · exact h.elim
theorem fieldv_run {t:TypeId} {f:Nat} {Q:Nat × TI->Prop} (h:(fieldv T t f).run σ Q) :
    ∃ it fs x i,T t=some it/\it.desc=.struct fs/\fs[f]? = some x/\T x.type=some i/\i.size≠0/\Q (x.offset,i):=by
  unfold fieldv at h
  split at h
  · rename_i fs s b z q ht
    split at h
    · rename_i x hx
      split at h
      · rename_i i hi
        cases hz:nbeq i.size 0 with
        | true=>simp [hz,G.run] at h
        | false=>simp only [hz,cond_false,G.run] at h;exact ⟨_,fs,x,i,ht,rfl,hx,hi,λe=>by simp [e] at hz,h⟩
      · exact h.elim
    · exact h.elim
  · exact h.elim
theorem opv_run {x:AV} {v:Value} {Q:AV->Prop} (h:(opv real true x).run σ Q) (hx:ARep σ μ w N x v):∃ y,ARep σ μ w N y v/\Q y:=by
  cases x with
  | gd t y=>exact ⟨y,hx.1 (h.1 rfl),h.2⟩
  | _=>exact ⟨_,hx,h⟩
theorem cellv_run {x:AV} {v:Value} {Q:CV->Prop} (h:(cellv real true x).run σ Q) (hx:ARep σ μ w N x v):∃ y,CRep σ μ w N y v/\Q y:=by
  cases x with
  | gd t y=>cases y with
    | c y=>exact ⟨y,hx.1 (h.1 rfl),h.2⟩
    | _=>exact h.elim
  | c y=>exact ⟨y,hx,h⟩
  | _=>exact h.elim
theorem intv_run {x:AV} {v:Value} {Q:IntKind × Int->Prop} (h:(intv real true x).run σ Q) (hx:ARep σ μ w N x v):∃ k n,v=.int k n/\Q (k,n):=by
  unfold intv at h
  split at h
  · have:=hx.1 (h.1 rfl);cases this;exact ⟨_,_,rfl,h.2⟩
  · cases hx;exact ⟨_,_,rfl,h⟩
  · exact h.elim
theorem boolv_run {g:Bool} {x:AV} {v:Value} {Q:Bool->Prop} (h:(boolv real g x).run σ Q) (hx:g=true->ARep σ μ w N x v):∃ b,(g=true->v=.bool b)/\Q b:=by
  unfold boolv at h
  split at h
  · refine ⟨_,λhg => ?_,h.2⟩;have:=(hx hg).1 (h.1 hg);cases this;rfl
  · refine ⟨_,λhg => ?_,h⟩;have:=hx hg;cases this;rfl
  · exact h.elim
theorem noAgg {v:Value} (h:v.oneCell'=true):v.cells = #[v]:=by cases v<;>first|rfl|simp [Value.oneCell'] at h
theorem csRep_consts:∀ {l:List Value},(∀ x∈l,x.oneCell'=true)->CsRep σ μ w N (l.map λx=>CV.d (.v x)) l
  | [],_=>trivial
  | x::r,h=>⟨DRep.v x (h x (by simp)),csRep_consts λy hy=>h y (by simp [hy])⟩
theorem constAV_rep (v:Value):ARep σ μ w N (constAV v) v:=by
  cases v with
  | agg cs=>
    show ARep σ μ w N (if cs.toList.all (·.oneCell')=true then AV.agg (cs.toList.map λx=>CV.d (.v x)) else .c .junk) (.agg cs)
    by_cases h:cs.toList.all (·.oneCell')=true
    · rw [if_pos h];exact ⟨cs,rfl,csRep_consts (List.all_eq_true.1 h)⟩
    · rw [if_neg h];trivial
  | tuple vs=>trivial
  | _=>exact DRep.v _ rfl
theorem p8 (R:RelM w0 S nt (i5 slots) σ a w μ) (x:Operand):ARep σ μ w (Nof S σ μ w) (rho slots x) (a.eval x):=by
  cases x with
  | tmp t=>exact R.slots t
  | const v=>exact constAV_rep v
  | global g=>trivial
  | func f=>exact DRep.fn f [] #[] (λ_=>undef) rfl (λj x h=>by simp at h) (λj x h=>by simp at h)
theorem CsRep.length:∀ {xs:List CV} {vs:List Value},CsRep σ μ w N xs vs->vs.length=xs.length
  | [],[],_=>rfl
  | _::_,_::_,h=>by simp [h.2.length]
  | [],_::_,h=>h.elim
  | _::_,[],h=>h.elim
theorem CsRep.get:∀ {xs:List CV} {vs:List Value} {j:Nat} {x:CV},CsRep σ μ w N xs vs->xs[j]? = some x->∃ u,vs[j]? = some u/\CRep σ μ w N x u
  | _::_,v::_,0,x,h,e=>by simp at e;subst e;exact ⟨v,rfl,h.1⟩
  | _::_,_::_,j+1,x,h,e=>by simp at e;simpa using h.2.get e
  | [],[],_,_,_,e=>by simp at e
  | [],_::_,_,_,h,_=>h.elim
  | _::_,[],_,_,h,_=>h.elim
theorem CsRep.of_get:∀ {xs:List CV} {vs:List Value},vs.length=xs.length->(∀ (j:Nat) x,xs[j]? = some x->∃ u,vs[j]? = some u/\CRep σ μ w N x u)->CsRep σ μ w N xs vs
  | [],[],_,_=>trivial
  | x::r,v::s,hl,h=>by
    refine ⟨?_,CsRep.of_get (by simpa using hl) λj y hj => ?_⟩
    · obtain ⟨u,hu,hc⟩:=h 0 x rfl;simp at hu;subst hu;exact hc
    · obtain ⟨u,hu,hc⟩:=h (j+1) y (by simpa using hj);exact ⟨u,by simpa using hu,hc⟩
  | [],_::_,hl,_=>by simp at hl
  | _::_,[],hl,_=>by simp at hl
theorem takeN_spec {α:Type}:∀ {n:Nat} {l r:List α},takeN n l=some r->r.length=n/\∀ (j:Nat) x,r[j]? = some x->l[j]? = some x
  | 0,l,r,h=>by simp [takeN] at h;subst h;simp
  | n+1,[],r,h=>by simp [takeN] at h
  | n+1,y::l,r,h=>by
    simp only [takeN,Option.map_eq_some_iff] at h
    obtain ⟨r',h',rfl⟩:=h
    obtain ⟨h1,h2⟩:=takeN_spec h'
    refine ⟨by simp [h1],λj x hj => ?_⟩
    cases j with
    | zero=>simpa using hj
    | succ j=>simp at hj ⊢;exact h2 j x hj
theorem dropN_get {α:Type}:∀ (n:Nat) (l:List α) (j:Nat),(dropN n l)[j]? = l[n+j]?
  | 0,l,j=>by simp [dropN]
  | n+1,[],j=>by simp [dropN]
  | n+1,_::r,j=>by
    rw [show n+1+j=(n+j)+1 by omega]
    simpa [dropN] using dropN_get n r j
theorem patch_spec {α:Type}:∀ {off:Nat} {xs l r:List α},patch off xs l=some r->r.length=l.length/\off+xs.length<=l.length /\
    ∀ (j:Nat) x,r[j]? = some x->(if j<off then l[j]? = some x else if j<off+xs.length then xs[j-off]? = some x else l[j]? = some x)
  | 0,[],l,r,h=>by simp [patch] at h;subst h;simp
  | 0,x::xs,y::l,r,h=>by
    simp only [patch,Option.map_eq_some_iff] at h
    obtain ⟨r',h',rfl⟩:=h
    obtain ⟨h1,h2,h3⟩:=patch_spec h'
    refine ⟨by simp [h1],by simp at h2 ⊢;omega,λj z hj => ?_⟩
    cases j with
    | zero=>simpa using hj
    | succ j=>
      simp at hj
      have:=h3 j z hj
      simp at this ⊢
      exact this
  | 0,_::_,[],r,h=>by simp [patch] at h
  | n+1,xs,y::l,r,h=>by
    simp only [patch,Option.map_eq_some_iff] at h
    obtain ⟨r',h',rfl⟩:=h
    obtain ⟨h1,h2,h3⟩:=patch_spec h'
    refine ⟨by simp [h1],by simp at h2 ⊢;omega,λj z hj => ?_⟩
    cases j with
    | zero=>simpa using hj
    | succ j=>
      simp at hj
      have:=h3 j z hj
      rw [show j+1-(n+1)=j-n by omega]
      by_cases c1:j<n
      · simp [c1] at this ⊢;exact this
      · by_cases c2:j<n+xs.length
        · rw [if_neg c1,if_pos c2] at this
          rw [if_neg (by omega),if_pos (by omega)];exact this
        · rw [if_neg c1,if_neg c2] at this
          rw [if_neg (by omega),if_neg (by omega)];simpa using this
  | n+1,xs,[],r,h=>by cases xs<;>simp [patch] at h
theorem toDs_spec:∀ {xs:List CV} {ds:List DV},toDs xs=some ds->xs=ds.map .d
  | [],ds,h=>by simp [toDs] at h;subst h;rfl
  | x::r,ds,h=>by
    simp only [toDs] at h
    split at h
    · rename_i a b ha hb
      simp at h;subst h
      have:=toDs_spec hb
      cases x<;>simp [toD] at ha
      subst ha;simp [this]
    · simp at h
end
def putO (σ:p9):List (Nat × Nat × HO)->p9
  | [] => σ
  | (j,x)::r=>updO (putO σ r) j x
theorem lookO_put (objs:List (Nat × Nat × HO)):∀ us:List (Nat × Nat × HO),m4 (us++objs)=putO (m4 objs) us
  | []=>rfl
  | (j,x)::r=>by
    funext l
    show (bif nbeq j l then x else m4 (r++objs) l)=_
    rw [lookO_put objs r]
    simp only [putO,updO]
    by_cases e:l=j
    · subst e;simp
    · have:nbeq j l=false:=by cases h':nbeq j l with|false=>rfl|true=>exact absurd (i3 h').symm e
      simp [this,e]
theorem lookS_put (slots:List (Nat × AV)) (dst:Option Nat) (x:AV):i5 (match dst with|some k=>(k,x)::slots|none=>slots)=putS (i5 slots) dst x:=by
  funext k
  cases dst with
  | none=>simp [putS]
  | some d=>
    simp only [putS,Option.some.injEq]
    show (bif nbeq d k then x else i5 slots k)=_
    by_cases e:d=k
    · subst e;simp
    · have:nbeq d k=false:=by cases h':nbeq d k with|false=>rfl|true=>exact absurd (i3 h') e
      simp [this,e]
def okTn (o n:Nat × HO):Prop:=o.1<n.1\/(o.1=n.1/\match o.2,n.2 with
  | _,.dead=>True
  | .box _,.box _=>True
  | .arr sz m _,.arr sz' m' _=>sz=sz'/\m=m'
  | .nest sz m _ _,.nest sz' m' _ _=>sz=sz'/\m=m'
  | _,_=>False)
def okTs (σ:p9) (kn:List (Nat × Nat × HO)):List (Nat × Nat × HO)->Prop
  | []=>True
  | (l,x)::r=>okTn (σ l) x/\(l4 kn l=true\/(σ l).1<x.1)/\okTs σ kn r
def agrees (σ:p9):List (Nat × Nat × HO)->Prop
  | []=>True
  | (l,x)::r => σ l=x/\agrees σ r
def inC (kn:List (Nat × Nat × HO)):CV->Bool
  | .junk | .d _ | .zc=>true
  | .own l _ _ _=>l4 kn l
  | .bp l _ _=>l4 kn l
  | .op l _ _ _=>l4 kn l
  | .nown l _ _=>l4 kn l
  | .nop l _ _ _=>l4 kn l
  | .clo _ caps=>caps.all λp=>l4 kn p.1
def inA (kn:List (Nat × Nat × HO)):AV->Bool
  | .c x=>inC kn x
  | .agg xs=>xs.all (inC kn)
  | _=>false
def inR (kn:List (Nat × Nat × HO)):AV->Bool
  | .tup []=>true
  | x=>inA kn x
def inH (kn:List (Nat × Nat × HO)):HO->Bool
  | .box cells=>cells.all (inC kn)
  | .nest _ _ _ (some (_,cells))=>cells.all (inC kn)
  | _=>true
def okI (σ:p9) (avs:List AV) (kn:List (Nat × Nat × HO)) (x:AV) (us:List (Nat × Nat × HO)):Prop:=
  u9 kn=true/\u9 us=true/\agrees σ kn/\(kn.all λp=>l4 us p.1)=true/\okTs σ kn us/\avs.all (inA kn)=true/\(kn.all λp=>inH kn p.2.2)=true/\inR us x=true/\(us.all λp=>inH us p.2.2)=true
def OpOut.run (M:Ms) (σ:p9) (K:AV->List (Nat × Nat × HO)->Prop):OpOut->Prop
  | .val x us=>K x us
  | .call f args ret=>∃ out,M.m f args out/\(ret out).run σ λr=>K r.1 r.2
  | .inl f avs=>∃ x kn us,M.i f avs kn x us/\okI σ avs kn x us/\K x us
section
variable {P:Program} {T:TypeId->Option TI} {EX:FuncId->List Nat × Bool} {M:Ms}
variable {w0:World} {S:Sets} {nt:Nat} {slots:List (Nat × AV)} {σ:p9} {a:Act} {w:World} {μ:Place}
variable {o:Oper} {K:AV->List (Nat × Nat × HO)->Prop} {next:Act->World->Prop} {Q:Exit->Act->World->Prop}
def Cont (w0:World) (S:Sets) (nt:Nat) (slots:List (Nat × AV)) (σ:p9) (o:Oper) (K:AV->List (Nat × Nat × HO)->Prop) (a':Act) (w':World):Prop:=
  ∃ x us,K x us/\∃ μ',RelM w0 S nt (putS (i5 slots) o.dst x) (putO σ us) a' w' μ'
def Sound (P:Program) (w0:World) (S:Sets) (nt:Nat) (slots:List (Nat × AV)) (σ:p9) (a:Act) (w:World) (o:Oper) (K:AV->List (Nat × Nat × HO)->Prop):Prop:=
  ∀ (next:Act->World->Prop) (Q:Exit->Act->World->Prop),(∀ a' w',Cont w0 S nt slots σ o K a' w'->next a' w')->o.wp P a w next Q
theorem p0 (R:RelM w0 S nt (i5 slots) σ a w μ) (hd:∀ d,o.dst=some d->d<nt) {x:AV} {v:Value} (hr:(execOp a.eval o).run P w=.ok (.value v) w)
    (hx:ARep σ μ w (Nof S σ μ w) x v) (hk:K x []):Sound P w0 S nt slots σ a w o K:=by
  intro next Q hn
  unfold Oper.wp
  rw [hr]
  exact hn _ _ ⟨x,[],hk,μ,R.put hd hx⟩
theorem v5 {σ':p9} {μ':Place} {w':World} (R:RelM w0 S nt (i5 slots) σ' a w' μ') (hd:∀ d,o.dst=some d->d<nt) {x:AV} {v:Value} {us:List (Nat × Nat × HO)}
    (hr:(execOp a.eval o).run P w=.ok (.value v) w'\/((execOp a.eval o).run P w=.ok .skip w'/\v=undef)) (hs:putO σ us = σ')
    (hx:ARep σ' μ' w' (Nof S σ' μ' w') x v) (hk:K x us):Sound P w0 S nt slots σ a w o K:=by
  intro next Q hn
  unfold Oper.wp
  rcases hr with hr|⟨hr,rfl⟩<;>rw [hr]<;>exact hn _ _ ⟨x,us,hk,μ',by rw [hs];exact R.put hd hx⟩
theorem cellsv_run {x:AV} {v:Value} {N:Nat->Prop} {Q:List CV->Prop} (h:(cellsv real true x).run σ Q) (hx:ARep σ μ w N x v):∃ cs,CsRep σ μ w N cs v.cells.toList/\Q cs:=by
  unfold cellsv at h
  split at h
  · exact h.elim
  · rename_i t c hc
    have hv:CRep σ μ w N c v:=hx.1 (h.1 rfl)
    exact ⟨[c],by rw [noAgg (hv.one hc)];exact ⟨hv,trivial⟩,h.2⟩
  · obtain ⟨cs,rfl,hcs⟩:=hx.1 (h.1 rfl)
    exact ⟨_,hcs,h.2⟩
  · exact h.elim
  · rename_i c hc
    have hv:CRep σ μ w N c v:=hx
    exact ⟨[c],by rw [noAgg (hv.one hc)];exact ⟨hv,trivial⟩,h⟩
  · obtain ⟨cs,rfl,hcs⟩:=hx
    exact ⟨_,hcs,h⟩
  · exact h.elim
theorem optv_run {α:Type} {x:Option α} {Q : α->Prop} (h:(optv x).run σ Q):∃ y,x=some y/\Q y:=by
  cases x with
  | none=>exact h.elim
  | some y=>exact ⟨y,rfl,h⟩
theorem sound_move (R:RelM w0 S nt (i5 slots) σ a w μ) (hd:∀ d,o.dst=some d->d<nt) {x:Operand} (ho:o.op=.move x\/o.op=.assign x)
    (h:(t6 real T EX o true (rho slots)).run σ (OpOut.run M σ K)):Sound P w0 S nt slots σ a w o K:=by
  have h':((opv real true (rho slots x)).bind λy=>G.ret (OpOut.val y [])).run σ (OpOut.run M σ K):=by rcases ho with ho|ho<;>simpa [t6,ho] using h
  rw [G.run_bind] at h'
  obtain ⟨y,hy,hk⟩:=opv_run h' (p8 R x)
  refine p0 R hd (v:=a.eval x) ?_ hy hk
  rcases ho with ho|ho<;>simp [execOp,ho]
theorem sound_pick (R:RelM w0 S nt (i5 slots) σ a w μ) (hd:∀ d,o.dst=some d->d<nt) {c x y:Operand} (ho:o.op=.pick c x y)
    (h:(t6 real T EX o true (rho slots)).run σ (OpOut.run M σ K)):Sound P w0 S nt slots σ a w o K:=by
  simp only [t6,ho,G.run_bind] at h
  obtain ⟨t,ht,h⟩:=boolv_run h (λ_=>p8 R c)
  obtain ⟨p,hp,h⟩:=boolv_run h (λ_=>p8 R x)
  obtain ⟨q,hq,hk⟩:=boolv_run h (λ_=>p8 R y)
  have ht':=ht rfl
  refine p0 R hd (v:=.bool (bif t then p else q)) ?_ (x:=.c (.d (.v (.bool (bif t then p else q))))) (DRep.v _ rfl) hk
  cases t with
  | true=>have:=hp rfl;simp [execOp,ho,ht',asBool,this]
  | false=>have:=hq rfl;simp [execOp,ho,ht',asBool,this]
theorem zeroValue_run (hT:TTok P T) {t:TypeId} {i:TI} (h:T t=some i):∃ z:Value,(∀ w,(zeroValue t).run P w=.ok z w)/\z.cells.toList=i.zero:=by
  obtain ⟨inf,z,h1,h2,h3,h4,h5,_⟩:=hT.info t i h
  exact ⟨z,λw=>by simp [zeroValue,typeInfo,h1,h4],h5⟩
theorem zero_csRep (hT:TTok P T) {t:TypeId} {i:TI} {N:Nat->Prop} (h:T t=some i):CsRep σ μ w N (i.zero.map λx=>CV.d (.v x)) i.zero:=by
  obtain ⟨inf,z,_,_,_,_,_,_,h6⟩:=hT.info t i h
  exact csRep_consts h6
theorem sizeOf_run (hT:TTok P T) {t:TypeId} {i:TI} (h:T t=some i) (w:World):(sizeOf t).run P w=.ok i.size w:=by
  obtain ⟨inf,z,h1,h2,_⟩:=hT.info t i h
  simp [sizeOf,typeInfo,h1,h2]
theorem isAgg_run (hT:TTok P T) {t:TypeId} {i:TI} (h:T t=some i) (w:World):(isAgg t).run P w=.ok (isAggT i.desc) w:=by
  have:=hT.desc t i h
  cases hd:i.desc<;>rw [hd] at this<;>simp [isAgg,underlying,this,isAggT]
theorem sound_alloc (hT:TTok P T) (R:RelM w0 S nt (i5 slots) σ a w μ) (hd:∀ d,o.dst=some d->d<nt) {t:TypeId} (ho:o.op=.alloc t)
    (h:(t6 real T EX o true (rho slots)).run σ (OpOut.run M σ K)):Sound P w0 S nt slots σ a w o K:=by
  simp only [t6,ho,G.run_bind] at h
  obtain ⟨i,hi,h⟩:=tiv_run h
  obtain ⟨z,hz,hzc⟩:=zeroValue_run hT hi
  have hk:K (.c (.bp (o.dst.getD 0*64+baseOf EX) ((σ (o.dst.getD 0*64+baseOf EX)).1+1) 0)) [((o.dst.getD 0*64+baseOf EX),(σ (o.dst.getD 0*64+baseOf EX)).1+1,.box (i.zero.map λx=>.d (.v x)))]:=h
  generalize (o.dst.getD 0*64+baseOf EX)=L at *
  obtain ⟨st,R'⟩:=R.alloc L ((σ L).1+1) (by omega) (.box (i.zero.map λx=>.d (.v x))) z.cells t ⟨rfl,by rw [hzc];exact zero_csRep hT hi⟩
  refine v5 R' hd (v:=.pointer (some ⟨w.heap.size,0,none⟩)) (.inl ?_) rfl ?_ hk
  · simp [execOp,ho,Instr.alloc,hz,newVar,newRow]
  · exact ⟨rfl,by simp,λcells e=>⟨w.heap.size,by simp,rfl⟩⟩
theorem sound_box (R:RelM w0 S nt (i5 slots) σ a w μ) (hd:∀ d,o.dst=some d->d<nt) {t:TypeId} {x:Operand} (ho:o.op=.box t x)
    (h:(t6 real T EX o true (rho slots)).run σ (OpOut.run M σ K)):Sound P w0 S nt slots σ a w o K:=by
  simp only [t6,ho,G.run_bind] at h
  obtain ⟨cs,hc,h⟩:=cellsv_run h (p8 R x)
  have hk:K (.c (.bp (o.dst.getD 0*64+baseOf EX) ((σ (o.dst.getD 0*64+baseOf EX)).1+1) 0)) [((o.dst.getD 0*64+baseOf EX),(σ (o.dst.getD 0*64+baseOf EX)).1+1,.box cs)]:=h
  generalize (o.dst.getD 0*64+baseOf EX)=L at *
  obtain ⟨st,R'⟩:=R.alloc L ((σ L).1+1) (by omega) (.box cs) (a.eval x).cells t ⟨rfl,hc⟩
  refine v5 R' hd (v:=.pointer (some ⟨w.heap.size,0,none⟩)) (.inl ?_) rfl ?_ hk
  · simp [execOp,ho,Instr.box,newVar,newRow]
  · exact ⟨rfl,by simp,λcells e=>⟨w.heap.size,by simp,rfl⟩⟩
end
end Go.Rk
