/- What each of this seat's functions answers, at all data, part 9: no condition. -/
import Derived.Test.YtaddofloloopjaaGreatM5
import Derived.Test.YtaddofloloopjaaGreatM6
import Derived.Test.YtaddofloloopjaaGreatM7
import Derived.Test.YtaddofloloopjaaGreatM8
namespace Go.Rk
set_option linter.unusedSimpArgs false
set_option linter.unusedVariables false
open Go.Proofs
set_option maxRecDepth 100000
set_option maxHeartbeats 1000000
theorem c_SnapCopied (x:SnapT) (hb:bdSnap x):d7 Tryz.prog 65 [xd (d9 x)] ⟨.one (.agg [.d (eI x.op.mark),.own 13 x.op.rows.n λi=>i6 (x.op.rows.g i),.own 1 x.marks.n λi=>[eI (x.marks.g i)]]),[none]⟩:=by
  refine d5 (H:=[]) (EX:=EXA) l6 e8 Tryz.func65 rfl (by kernel_rfl) (by decide) ?_
  generalize hA:real=A
  generalize hM:d4 Tryz.prog=M
  cbv
  repeat' first|apply And.intro|exact True.intro|with_reducible rfl|exact b7 hA rfl|apply c8 hA<;>intro _|exact c6 hA id | (subst hA;exact λh=>h) | (refine c5 hA ?_;decide +kernel) | (refine i9 hA hM _ (c_copied x.op.mark x.op.rows.n (Nat.le_trans hb.1 (by decide)) x.op.rows.g) rfl ?_;cbv) | (refine i9 hA hM _ (c_Cloneint x.marks.n (Nat.le_trans hb.2 (by decide)) x.marks.g) rfl ?_;cbv)|fail
def st_snaps (n:Nat) (rd:Nat->SnapT) (i:Nat):St:=⟨[(8,.c (.d (eI i))),(7,.c (.d (eI n))),(6,.c (.d (.sl 3 n λi=>d9 (rd i)))),(3,.c (.nown 1024 i 1))],[(1024,1,.nest 3 i (λj=>d9 (rd j)) none)]⟩
theorem c_snaps (n:Nat) (hn:n<=1048576) (rd:Nat->SnapT) (hb:∀ i,i<n->bdSnap (rd i)):d7 Tryz.prog 45 [.c (.d (.sl 3 n λi=>d9 (rd i)))] ⟨.one (.c (.nown 3 n λi=>d9 (rd i))),[none]⟩:=by
  have hn2:n<=maxLen:=Nat.le_trans hn (by decide)
  refine d5 (H:=[]) (EX:=EXA) l6 e8 Tryz.func45 rfl (by kernel_rfl) (by decide) ?_
  generalize hA:real=A
  generalize hM:d4 Tryz.prog=M
  cbv
  repeat' first|apply And.intro|exact True.intro|with_reducible rfl|exact b7 hA rfl|apply c8 hA<;>intro _|exact c6 hA id | (subst hA;exact λh=>h) | (refine c5 hA ?_;decide +kernel)|fail
  refine i7 hA (α := { i:Nat // i<=n }) (λx=>st_snaps n rd x.1) (λx=>n-x.1) ⟨0,Nat.zero_le _⟩ ?_ ?_
  · refine cov_promN 3 1024 1 3 (λj=>d9 (rd j)) rfl rfl (c7 ?_ ?_ ?_)
    iterate 3 focus (subst hA;repeat' first|exact True.intro|exact rfl|apply And.intro | (intro _ _;rfl) | (intro _ _ _;rfl)|exact .inr (b8 rfl)|exact .inl rfl)
  rintro ⟨i,hi⟩
  have hi:i<=n:=hi
  cbv
  repeat' first|apply And.intro|exact True.intro|with_reducible rfl|exact b7 hA rfl|apply c8 hA<;>intro _|exact c6 hA id | (subst hA;exact λh=>h) | (refine c5 hA ?_;decide +kernel) | (refine f7 hA hM _ (c_SnapCopied (rd (A.nat (Int.ofNat i))) (hb _ (by rename_i hlt;subst hA;simp only [real,decide_eq_true_eq,Int.ofNat_eq_natCast,Int.toNat_natCast] at *;omega))) ?_;cbv) | (refine d8 hA λ_ => ?_;subst hA;simp only [real,decide_eq_true_eq,Int.ofNat_eq_natCast] at *;omega)|exact f6 hA (by omega) (by decide)|exact w9 hA (by omega) (by decide) | (refine f6 hA ?_ (by decide);rename_i hlt;subst hA;simp only [real,decide_eq_true_eq,Int.ofNat_eq_natCast] at hlt;omega) | (refine b7 hA ?_;subst hA;rfl)|fail
  · rename_i hlt
    have hlt':i<n:=by subst hA;simp only [real,decide_eq_true_eq,Int.ofNat_eq_natCast] at hlt;omega
    refine ⟨⟨i+1,hlt'⟩,by simp only;omega,cov_close 1024 (λj=>d9 (rd j)) (d9 (rd i)) [(14*64+1,1),(14*64+2,1)] rfl ?_ rfl rfl (λk _ _=>rfl) (c7 ?_ ?_ ?_)⟩
    · subst hA;exact (close_v (close_own rfl (λ_ _=>rfl) (flatR λ_=>flat_Row _) (close_own rfl (λ_ _=>rfl) (flatR λ_=>flat_int _) close_end)))
    iterate 3 focus (subst hA;repeat' first|exact True.intro|exact rfl|exact congrArg (λx=>DV.v (.int .i64 x)) (o0 hlt' hn2)|apply And.intro | (intro _ _;rfl) | (intro _ _ _;rfl)|exact .inr (b8 rfl)|exact .inl rfl)
  · rename_i hge
    have hin:i=n:=by
      subst hA
      have:¬ ((i:Int)<(n:Int)):=of_decide_eq_false hge
      omega
    subst hin
    rfl
theorem c_CkpCopied (x:CkpT) (hb:bdCkp x):d7 Tryz.prog 20 [xd (eCkp x)] ⟨.one (.agg [.d (eI x.n),.d (eB x.opn),.own 1 x.src.n λi=>[eI (x.src.g i)],.own 1 x.tsk.n λi=>[eB (x.tsk.g i)],.nown 3 x.snaps.n λi=>d9 (x.snaps.g i),.d (eI x.safe.n),.own 1 x.safe.at_.n λi=>[eI (x.safe.at_.g i)],.nown 3 x.safe.snaps.n λi=>d9 (x.safe.snaps.g i)]),[none]⟩:=by
  refine d5 (H:=[]) (EX:=EXA) l6 e8 Tryz.func20 rfl (by kernel_rfl) (by decide) ?_
  generalize hA:real=A
  generalize hM:d4 Tryz.prog=M
  cbv
  repeat' first|apply And.intro|exact True.intro|with_reducible rfl|exact b7 hA rfl|apply c8 hA<;>intro _|exact c6 hA id | (subst hA;exact λh=>h) | (refine c5 hA ?_;decide +kernel) | (refine i9 hA hM _ (c_Cloneint x.src.n (Nat.le_trans hb.1 (by decide)) x.src.g) rfl ?_;cbv) | (refine i9 hA hM _ (c_Clonebool x.tsk.n (Nat.le_trans hb.2.1 (by decide)) x.tsk.g) rfl ?_;cbv) | (refine i9 hA hM _ (c_snaps x.snaps.n hb.2.2.1 x.snaps.g hb.2.2.2.1) rfl ?_;cbv) | (refine i9 hA hM _ (c_Cloneint x.safe.at_.n (Nat.le_trans hb.2.2.2.2.1 (by decide)) x.safe.at_.g) rfl ?_;cbv) | (refine i9 hA hM _ (c_snaps x.safe.snaps.n hb.2.2.2.2.2.1 x.safe.snaps.g hb.2.2.2.2.2.2) rfl ?_;cbv)|fail
end Go.Rk
namespace Go.Rk
set_option linter.unusedSimpArgs false
set_option linter.unusedVariables false
abbrev eint (x:Int):List DV:=[eI x]
def mkint (k:Int):Int:=k
def mkbool (k:Int):Bool:=k.tmod 3==0
def lenSnap (x:SnapT):Int:=1+13*(x.op.rows.n:Int)+(x.marks.n:Int)
def mkSnap (p:Int) (x:SnapT):SnapT:=⟨⟨p,⟨x.op.rows.n,λi=>mkRow (p+1+13*(i:Int)),x.op.rows.hn⟩⟩,⟨x.marks.n,λi=>p+1+13*(x.op.rows.n:Int)+(i:Int),x.marks.hn⟩⟩
def lenTskIn (x:TskInT):Int:=5*(x.queue.n:Int)+2
def mkTskIn (p:Int) (x:TskInT):TskInT:=⟨⟨x.queue.n,λi=>mkItm (p+5*(i:Int)),x.queue.hn⟩,p+5*(x.queue.n:Int),mkbool (p+5*(x.queue.n:Int)+1)⟩
structure CkpM (s:Int) (x:CkpT) where
  f1:Nat->Int
  f2:Nat->Bool
  f3:Nat->SnapT
  f4:Nat->Int
  f5:Nat->SnapT
  p3:Nat->Int
  p5:Nat->Int
  k1:Int
  k2:Int
  k3:Int
  k4:Int
  k5:Int
  h1:∀ i,f1 i=mkint (s+1*(i:Int))
  hk1:k1=s+1*(x.src.n:Int)
  h2:∀ i,f2 i=mkbool (k1+1*(i:Int))
  hk2:k2=k1+1*(x.tsk.n:Int)
  q0:p3 0=k2
  q1:∀ i,i<x.snaps.n->p3 (i+1)=p3 i+lenSnap (x.snaps.g i)
  q2:∀ i,i<=x.snaps.n->0<=p3 i/\p3 i<=50000000
  hk3:k3=p3 x.snaps.n
  h3:∀ i,f3 i=mkSnap (p3 i) (x.snaps.g i)
  h4:∀ i,f4 i=mkint (k3+1*(i:Int))
  hk4:k4=k3+1*(x.safe.at_.n:Int)
  r0:p5 0=k4
  r1:∀ i,i<x.safe.snaps.n->p5 (i+1)=p5 i+lenSnap (x.safe.snaps.g i)
  r2:∀ i,i<=x.safe.snaps.n->0<=p5 i/\p5 i<=50000000
  hk5:k5=p5 x.safe.snaps.n
  h5:∀ i,f5 i=mkSnap (p5 i) (x.safe.snaps.g i)
  b0:0<=s/\s<=50000000
  b1:0<=k1/\k1<=50000000
  b2:0<=k2/\k2<=50000000
  b3:0<=k3/\k3<=50000000
  b4:0<=k4/\k4<=50000000
  b5:0<=k5/\k5<=50000000
def CkpM.out {s:Int} {x:CkpT} (M:CkpM s x):CkpT:=⟨x.n,x.opn,⟨x.src.n,M.f1,x.src.hn⟩,⟨x.tsk.n,M.f2,x.tsk.hn⟩,⟨x.snaps.n,M.f3,x.snaps.hn⟩,⟨x.safe.n,⟨x.safe.at_.n,M.f4,x.safe.at_.hn⟩,⟨x.safe.snaps.n,M.f5,x.safe.snaps.hn⟩⟩⟩
def zSlI:Sl Int:=⟨0,λ_=>0,Nat.zero_le _⟩
def zSlB:Sl Bool:=⟨0,λ_=>false,Nat.zero_le _⟩
def zRw:RowT:=⟨0,⟨0,0⟩,⟨0,0,0,0⟩,⟨0,0,0,0⟩,0,false⟩
def zSlR:Sl RowT:=⟨0,λ_=>zRw,Nat.zero_le _⟩
def zSnp:SnapT:=⟨⟨0,zSlR⟩,zSlI⟩
def zSlS:Sl SnapT:=⟨0,λ_=>zSnp,Nat.zero_le _⟩
def zCkp:CkpT:=⟨0,false,zSlI,zSlB,zSlS,⟨0,zSlI,zSlS⟩⟩
theorem jobS {j:JobT} (h:t9 j):1<=j.srcs.toNat/\j.srcs.toNat<=3/\(j.srcs.toNat:Int)=j.srcs:=by unfold t9 at h;omega
theorem jobT {j:JobT} (h:t9 j):1<=j.tsks.toNat/\j.tsks.toNat<=2/\(j.tsks.toNat:Int)=j.tsks:=by unfold t9 at h;omega
theorem t8 {n:Nat} (h:n<=3):n<=maxLen:=Nat.le_trans h (by decide)
def idleP (j:JobT) (h:t9 j) (x:CkpT):CkpT:=
  ⟨x.n,false,⟨j.srcs.toNat,λ_ => -1,t8 (jobS h).2.1⟩,⟨j.tsks.toNat,λ_=>false,t8 (Nat.le_trans (jobT h).2.1 (by decide))⟩,⟨j.tsks.toNat,λ_=>zSnp,t8 (Nat.le_trans (jobT h).2.1 (by decide))⟩,x.safe⟩
def asks (x:CkpT):CkpT:=bif (!x.opn&&decide (x.n<900)) then ⟨x.n+1,true,x.src,x.tsk,x.snaps,x.safe⟩ else x
theorem ckpJob {j:JobT} {x:CkpT} (h:CkpOkP j x):t9 j:=h.1
open Classical in
noncomputable def askP (j:JobT) (x:CkpT):CkpT:=if CkpOkP j x then asks x else zCkp
open Classical in
noncomputable def dropP (j:JobT) (x:CkpT):CkpT:=if h:CkpOkP j x then idleP j (ckpJob h) x else zCkp
open Classical in
noncomputable def saveP (j:JobT) (x:CkpT):CkpT × Bool:=
  if h:CkpOkP j x then (if ReadyP x then (idleP j (ckpJob h) ⟨x.n,x.opn,x.src,x.tsk,x.snaps,⟨x.n,x.src,x.snaps⟩⟩,true) else (x,false)) else (zCkp,false)
theorem asks_if (x:CkpT):asks x=⟨if x.opn=false/\x.n<900 then x.n+1 else x.n,if x.opn=false/\x.n<900 then true else x.opn,x.src,x.tsk,x.snaps,x.safe⟩:=by
  unfold asks
  by_cases h:x.opn=false/\x.n<900
  · rw [if_pos h,if_pos h,h.1,decide_eq_true h.2];rfl
  · rw [if_neg h,if_neg h]
    by_cases c:x.opn=false
    · have:¬ x.n<900:=λhh=>h ⟨c,hh⟩
      rw [decide_eq_false this,Bool.and_false];rfl
    · have:x.opn=true:=by cases e:x.opn;exact absurd e c;rfl
      obtain ⟨n,o,a,b,d,e⟩:=x
      have this:o=true:=this
      subst this;rfl
theorem ckpOk_n {j:JobT} {x:CkpT} (h:CkpOkP j x):0<=x.n:=by
  have h1:0<=x.safe.n:=by
    have:=h.2.1
    unfold SafeOkP at this
    omega
  have:=h.2.2.1.1
  omega
def nSnp (a:Nat) (ha:a<=3):SnapT:=⟨⟨0,zSlR⟩,⟨a,λ_=>0,t8 ha⟩⟩
def newC (a b:Nat) (ha:a<=3) (hb:b<=2):CkpT:=
  ⟨0,false,⟨a,λ_ => -1,t8 ha⟩,⟨b,λ_=>false,t8 (Nat.le_trans hb (by decide))⟩,⟨b,λ_=>zSnp,t8 (Nat.le_trans hb (by decide))⟩,⟨0,⟨a,λ_=>0,t8 ha⟩,⟨b,λ_=>nSnp a ha,t8 (Nat.le_trans hb (by decide))⟩⟩⟩
open Classical in
noncomputable def newP (j:JobT):CkpT:=if h:t9 j then newC j.srcs.toNat j.tsks.toNat (jobS h).2.1 (jobT h).2.1 else zCkp
end Go.Rk
namespace Go.Rk
set_option linter.unusedSimpArgs false
set_option linter.unusedVariables false
open Go.Proofs
set_option maxRecDepth 100000
set_option maxHeartbeats 2000000
def EXAsk:FuncId->List Nat × Bool:=λf=>bif nbeq f 1 then ([9801],false) else  ([],false)
theorem k_ask (x:CkpT) (n:Int) (o:Bool) (h0:0<=n) (n':Int) (o':Bool) (hn:n'=if o=false/\n<900 then n+1 else n) (ho:o'=if o=false/\n<900 then true else o) :
    MeetsO Tryz.prog 21 [.c (.bp 320 1 0)] [(320,1,.box [.d (eI n),.d (eB o),.own 770 0 x.src.n 1,.own 771 0 x.tsk.n 1,.nown 772 x.snaps.n 1,.d (eI x.safe.n),.own 774 0 x.safe.at_.n 1,.nown 775 x.safe.snaps.n 1]),(770,1,.arr 1 x.src.n λi=>[eI (x.src.g i)]),(771,1,.arr 1 x.tsk.n λi=>[eB (x.tsk.g i)]),(772,1,.nest 3 x.snaps.n (λi=>d9 (x.snaps.g i)) none),(774,1,.arr 1 x.safe.at_.n λi=>[eI (x.safe.at_.g i)]),(775,1,.nest 3 x.safe.snaps.n (λi=>d9 (x.safe.snaps.g i)) none)] (.tup []) [(320,1,.box [.d (eI n'),.d (eB o'),.own 770 0 x.src.n 1,.own 771 0 x.tsk.n 1,.nown 772 x.snaps.n 1,.d (eI x.safe.n),.own 774 0 x.safe.at_.n 1,.nown 775 x.safe.snaps.n 1]),(770,1,.arr 1 x.src.n λi=>[eI (x.src.g i)]),(771,1,.arr 1 x.tsk.n λi=>[eB (x.tsk.g i)]),(772,1,.nest 3 x.snaps.n (λi=>d9 (x.snaps.g i)) none),(774,1,.arr 1 x.safe.at_.n λi=>[eI (x.safe.at_.g i)]),(775,1,.nest 3 x.safe.snaps.n (λi=>d9 (x.safe.snaps.g i)) none)]:=by
  refine inl_of (EX:=EXAsk) l6 e8 Tryz.func21 rfl (by kernel_rfl) (by decide) (by kernel_rfl) rfl rfl ?_
  generalize hA:real=A
  generalize hM:d4 Tryz.prog=M9
  cbv
  repeat' first|apply And.intro|exact True.intro|with_reducible rfl|exact b7 hA rfl|apply c8 hA<;>intro _|exact c6 hA id | (subst hA;exact λh=>h) | (refine c5 hA ?_;decide +kernel) | (intro _ _;rfl)|fail
  all_goals
    rename_i hc
    subst hA
  all_goals first
    | (have hc:(bif !o then decide (n<900) else false)=true:=hc
       obtain ⟨e1,e2⟩:o=false/\n<900:=by cases o<;>simp at hc ⊢;exact hc
       rw [if_pos ⟨e1,e2⟩] at hn ho
       subst hn ho
       refine congrArg (λz=>CV.d (DV.v (Value.int IntKind.i64 z))::_) (?_:IntKind.i64.wrap (n+1)=n+1)
       exact IntWalk.i64_in _ (by omega))
    | (have hc:(bif !o then decide (n<900) else false)=false:=hc
       have e:¬ (o=false/\n<900):=by rintro ⟨e1,e2⟩;subst e1;simp at hc;omega
       rw [if_neg e] at hn ho
       subst hn ho
       rfl)
def EXCCkpAsk:FuncId->List Nat × Bool:=λf=>bif nbeq f 21 then ([99],false) else ([],false)
theorem c_CkpAsk (j:JobT) (x:CkpT) (hb:bdCkp x) (y:CkpT) (hy:y=askP j x):d7 Tryz.prog 6 [xd (u7 j),xd (eCkp x)] ⟨.one (.agg [.d (eI y.n),.d (eB y.opn),.own 1 y.src.n λi=>[eI (y.src.g i)],.own 1 y.tsk.n λi=>[eB (y.tsk.g i)],.nown 3 y.snaps.n λi=>d9 (y.snaps.g i),.d (eI y.safe.n),.own 1 y.safe.at_.n λi=>[eI (y.safe.at_.g i)],.nown 3 y.safe.snaps.n λi=>d9 (y.safe.snaps.g i)]),[none,none]⟩:=by
  obtain ⟨t,ht,hm⟩:=c_CkpOk j x
  have hcp:=c_CkpCopied x hb
  cases t with
  | false=>
    have hno:¬ CkpOkP j x:=λh=>by have:=ht.2 h;cases this
    obtain rfl:y=zCkp:=by rw [hy];unfold askP;rw [if_neg hno]
    refine meets_wk (r:=.one (.agg [.d (eI 0),.d (eB false),.d (.v c9),.d (.v c9),.d (.v c9),.d (eI 0),.d (.v c9),.d (.v c9)])) ?_ (by repeat' first|exact True.intro|exact rfl|exact DLe.rfl|exact NLe.rfl|exact nle_nil _ _|apply And.intro | (intro _ _;exact LsLe.rfl) | (intro _ _;exact NsLe.rfl)|exact (flatR λ_=>flatL ⟨⟨_,rfl⟩,⟨_,rfl⟩,⟨_,rfl⟩,trivial⟩)|exact (flatR λ_=>⟨⟨_,rfl⟩,⟨_,rfl⟩,⟨_,rfl⟩,trivial⟩) | (intro _ _;exact ⟨NLe.rfl,nle_nil _ _,nle_nil _ _,trivial⟩))
    refine d5 (H:=[]) (EX:=EXCCkpAsk) l6 e8 Tryz.func6 rfl (by kernel_rfl) (by decide) ?_
    generalize hA:real=A
    generalize hM:d4 Tryz.prog=M
    cbv
    repeat' first|exact absurd (show false=true by subst hA;assumption) (by decide)|exact absurd (show true=false by subst hA;assumption) (by decide)|apply And.intro|exact True.intro|with_reducible rfl|exact b7 hA rfl|apply c8 hA<;>intro _|exact c6 hA id | (subst hA;exact λh=>h) | (refine c5 hA ?_;decide +kernel) | (refine f7 hA hM _ hm ?_;cbv)|fail
  | true=>
    have hok:CkpOkP j x:=ht.1 rfl
    have h0:0<=x.n:=ckpOk_n hok
    obtain ⟨n',hn⟩:∃ n':Int,n'=if x.opn=false/\x.n<900 then x.n+1 else x.n:=⟨_,rfl⟩
    obtain ⟨o',ho⟩:∃ o':Bool,o'=if x.opn=false/\x.n<900 then true else x.opn:=⟨_,rfl⟩
    obtain rfl:y=⟨n',o',x.src,x.tsk,x.snaps,x.safe⟩:=by
      rw [hy];unfold askP;rw [if_pos hok,hn,ho];exact asks_if x
    refine d5 (H:=[]) (EX:=EXCCkpAsk) l6 e8 Tryz.func6 rfl (by kernel_rfl) (by decide) ?_
    generalize hA:real=A
    generalize hM:d4 Tryz.prog=M
    cbv
    repeat' first|exact absurd (show false=true by subst hA;assumption) (by decide)|exact absurd (show true=false by subst hA;assumption) (by decide)|apply And.intro|exact True.intro|with_reducible rfl|exact b7 hA rfl|apply c8 hA<;>intro _|exact c6 hA id | (subst hA;exact λh=>h) | (refine c5 hA ?_;decide +kernel) | (refine f7 hA hM _ hm ?_;cbv) | (refine f7 hA hM _ hcp ?_;cbv) | (refine inl_call hA _ _ _ ⟨λ_=>(by rw [<- hM];exact (k_ask x x.n x.opn h0 n' o' hn ho)),(by cbv;repeat' first|apply And.intro|exact True.intro|rfl|exact .inr trivial|exact .inl trivial),?_⟩;cbv)|fail
theorem c_sSnap (x:SnapT) (hb:bdSnap x):d7 Tryz.prog 66 [xd (d9 x)] ⟨.one (.agg [.d (eI x.op.mark),.own 13 x.op.rows.n λi=>i6 (x.op.rows.g i),.own 1 x.marks.n λi=>[eI (x.marks.g i)]]),[none]⟩:=by
  have hb1:x.op.rows.n<=1048576:=hb.1
  have hb2:x.marks.n<=1048576:=hb.2
  refine d5 (H:=[]) (EX:=EXA) l6 e8 Tryz.func66 rfl (by kernel_rfl) (by decide) ?_
  generalize hA:real=A
  generalize hM:d4 Tryz.prog=M
  cbv
  repeat' first|apply And.intro|exact True.intro|with_reducible rfl|exact b7 hA rfl|apply c8 hA<;>intro _|exact c6 hA id | (subst hA;exact λh=>h) | (refine c5 hA ?_;decide +kernel) | (refine i9 hA hM _ (c_sCopy x.op.mark x.op.rows.n (Nat.le_trans hb.1 (by decide)) x.op.rows.g) rfl ?_;cbv)|exact room_z hA (Nat.le_trans hb2 (by decide)) (by decide)|exact f6 hA (Nat.le_trans hb2 (by decide)) (by decide)|exact w9 hA (Nat.le_trans hb2 (by decide)) (by decide)|fail
  all_goals (subst hA
             have e0:∀ k,real.add 0 k=k:=λk=>Nat.zero_add k
             have ea:∀ (z row:Nat->List DV),real.app 0 z row=row:=λz row=>funext λi=>by
               show (if i<0 then z i else row (i-0))=row i
               rw [if_neg (Nat.not_lt_zero i)];rfl
             simp only [e0,ea]
             first|done|rfl)
def st_sSnaps (n:Nat) (rd:Nat->SnapT) (i:Nat):St:=⟨[(4,.c (.d (eI i))),(0,.c (.d (.sl 3 n λi=>d9 (rd i)))),(3,.c (.nown 8000 i 1))],[(8000,1,.nest 3 i (λj=>d9 (rd j)) none)]⟩
theorem c_sSnaps (n:Nat) (hn:n<=1048576) (rd:Nat->SnapT) (hb:∀ i,i<n->bdSnap (rd i)):d7 Tryz.prog 46 [.c (.d (.sl 3 n λi=>d9 (rd i)))] ⟨.one (.c (.nown 3 n λi=>d9 (rd i))),[none]⟩:=by
  have hn2:n<=maxLen:=Nat.le_trans hn (by decide)
  refine d5 (H:=[]) (EX:=EXA) l6 e8 Tryz.func46 rfl (by kernel_rfl) (by decide) ?_
  generalize hA:real=A
  generalize hM:d4 Tryz.prog=M
  cbv
  repeat' first|apply And.intro|exact True.intro|with_reducible rfl|exact b7 hA rfl|apply c8 hA<;>intro _|exact c6 hA id | (subst hA;exact λh=>h) | (refine c5 hA ?_;decide +kernel)|fail
  refine i7 hA (α := { i:Nat // i<=n }) (λx=>st_sSnaps n rd x.1) (λx=>n-x.1) ⟨0,Nat.zero_le _⟩ ?_ ?_
  · refine cov_nestOf 3 320 8000 1 (λj=>d9 (rd j)) rfl rfl rfl rfl (by subst hA;intro i hi;exact absurd hi (Nat.not_lt_zero i)) (λi hi=>absurd hi (Nat.not_lt_zero i)) (c7 ?_ ?_ ?_)
    iterate 3 focus (subst hA;repeat' first|exact True.intro|exact rfl |  apply And.intro | (intro _ _;rfl) | (intro _ _ _;rfl)|exact .inr (b8 rfl)|exact .inl rfl|exact .inr (Nat.le_refl _))
  rintro ⟨i,hi⟩
  have hi:i<=n:=hi
  cbv
  repeat' first|apply And.intro|exact True.intro|with_reducible rfl|exact b7 hA rfl|apply c8 hA<;>intro _|exact c6 hA id | (subst hA;exact λh=>h) | (refine c5 hA ?_;decide +kernel) | (refine f7 hA hM _ (c_sSnap (rd (A.nat (Int.ofNat i))) (hb _ (by rename_i hlt;subst hA;simp only [real,decide_eq_true_eq,Int.ofNat_eq_natCast,Int.toNat_natCast] at *;omega))) ?_;cbv) | (refine d8 hA λ_ => ?_;subst hA;simp only [real,decide_eq_true_eq,Int.ofNat_eq_natCast] at *;omega)|exact f6 hA (by omega) (by decide)|exact w9 hA (by omega) (by decide) | (refine f6 hA ?_ (by decide);rename_i hlt;subst hA;simp only [real,decide_eq_true_eq,Int.ofNat_eq_natCast] at hlt;omega) | (refine b7 hA ?_;subst hA;rfl)|fail
  · rename_i hlt
    have hlt':i<n:=by subst hA;simp only [real,decide_eq_true_eq,Int.ofNat_eq_natCast] at hlt;omega
    refine ⟨⟨i+1,hlt'⟩,by simp only;omega,cov_close 8000 (λj=>d9 (rd j)) (d9 (rd i)) [(17*64+1,1),(17*64+2,1)] rfl ?_ rfl rfl (λk _ _=>rfl) (c7 ?_ ?_ ?_)⟩
    · subst hA;exact (close_v (close_own rfl (λ_ _=>rfl) (flatR λ_=>flat_Row _) (close_own rfl (λ_ _=>rfl) (flatR λ_=>flat_int _) close_end)))
    iterate 3 focus (subst hA;repeat' first|exact True.intro|exact rfl|exact congrArg (λx=>DV.v (.int .i64 x)) (o0 hlt' hn2) |  apply And.intro | (intro _ _;rfl) | (intro _ _ _;rfl)|exact .inr (b8 rfl)|exact .inl rfl|exact .inr (Nat.le_refl _))
  · rename_i hge
    have hin:i=n:=by
      subst hA
      have:¬ ((i:Int)<(n:Int)):=of_decide_eq_false hge
      omega
    subst hin
    rfl
theorem c_sCkp (x:CkpT) (hb:bdCkp x):d7 Tryz.prog 22 [xd (eCkp x)] ⟨.one (xd (eCkp x)),[none]⟩:=by
  have b1:x.src.n<=1048576:=hb.1
  have b2:x.tsk.n<=1048576:=hb.2.1
  have b3:x.safe.at_.n<=1048576:=hb.2.2.2.2.1
  have c1:=c_sSnaps x.snaps.n hb.2.2.1 x.snaps.g hb.2.2.2.1
  have c2:=c_sSnaps x.safe.snaps.n hb.2.2.2.2.2.1 x.safe.snaps.g hb.2.2.2.2.2.2
  refine meets_frz (r:=.one (.agg [.d (eI x.n),.d (eB x.opn),.own 1 x.src.n λi=>[eI (x.src.g i)],.own 1 x.tsk.n λi=>[eB (x.tsk.g i)],.nown 3 x.snaps.n λi=>d9 (x.snaps.g i),.d (eI x.safe.n),.own 1 x.safe.at_.n λi=>[eI (x.safe.at_.g i)],.nown 3 x.safe.snaps.n λi=>d9 (x.safe.snaps.g i)])) ?_ rfl
  refine d5 (H:=[]) (EX:=EXA) l6 e8 Tryz.func22 rfl (by kernel_rfl) (by decide) ?_
  generalize hA:real=A
  generalize hM:d4 Tryz.prog=M
  cbv
  repeat' first|apply And.intro|exact True.intro|with_reducible rfl|exact b7 hA rfl|apply c8 hA<;>intro _|exact c6 hA id | (subst hA;exact λh=>h) | (refine c5 hA ?_;decide +kernel) | (refine f7 hA hM _ c1 ?_;cbv) | (refine f7 hA hM _ c2 ?_;cbv)|exact room_z hA (Nat.le_trans b1 (by decide)) (by decide)|exact f6 hA (Nat.le_trans b1 (by decide)) (by decide)|exact w9 hA (Nat.le_trans b1 (by decide)) (by decide)|exact room_z hA (Nat.le_trans b2 (by decide)) (by decide)|exact f6 hA (Nat.le_trans b2 (by decide)) (by decide)|exact w9 hA (Nat.le_trans b2 (by decide)) (by decide)|exact room_z hA (Nat.le_trans b3 (by decide)) (by decide)|exact f6 hA (Nat.le_trans b3 (by decide)) (by decide)|exact w9 hA (Nat.le_trans b3 (by decide)) (by decide)|fail
  all_goals (subst hA
             have e0:∀ k,real.add 0 k=k:=λk=>Nat.zero_add k
             have ea:∀ (z row:Nat->List DV),real.app 0 z row=row:=λz row=>funext λi=>by
               show (if i<0 then z i else row (i-0))=row i
               rw [if_neg (Nat.not_lt_zero i)];rfl
             simp only [e0,ea]
             first|done|rfl)
def st_nb1 (a b:Nat) (r2 r3 r4 r5 r6 r7 r8 r9:DV) (i:Nat):St:=⟨[(8,.c (.d (eI i))),(1,.c (.bp 64 1 0)),(5,.c (.own 640 0 i 1)),(6,.c (.own 704 0 0 1)),(7,.c (.own 768 0 0 1))],[(64,1,.box [.d (eI (a:Int)),.d (eI (b:Int)),.d r2,.d r3,.d r4,.d r5,.d r6,.d r7,.d r8,.d r9]),(640,1,.arr 1 i λ_=>[eI (-1)]),(704,1,.arr 1 0 λ_=>[eB false]),(768,1,.arr 3 0 λ_=>[eI 0,.v c9,.v c9])]⟩
def st_nb2 (a b:Nat) (r2 r3 r4 r5 r6 r7 r8 r9:DV) (i:Nat):St:=⟨[(9,.c (.d (eI i))),(1,.c (.bp 64 1 0)),(5,.c (.own 640 0 a 1)),(6,.c (.own 704 0 i 1)),(7,.c (.own 768 0 i 1))],[(64,1,.box [.d (eI (a:Int)),.d (eI (b:Int)),.d r2,.d r3,.d r4,.d r5,.d r6,.d r7,.d r8,.d r9]),(640,1,.arr 1 a λ_=>[eI (-1)]),(704,1,.arr 1 i λ_=>[eB false]),(768,1,.arr 3 i λ_=>[eI 0,.v c9,.v c9])]⟩
theorem c_nobody (a b:Nat) (ha3:a<=3) (hb2:b<=2) (r2 r3 r4 r5 r6 r7 r8 r9:DV):d7 Tryz.prog 59 [xd [eI (a:Int),eI (b:Int),r2,r3,r4,r5,r6,r7,r8,r9]] ⟨.tup [.c (.d (.sl 1 a λ_=>[eI (-1)])),.c (.d (.sl 1 b λ_=>[eB false])),.c (.d (.sl 3 b λ_=>d9 zSnp))],[none]⟩:=by
  refine meets_wk (r:=.tup [.c (.d (.sl 1 a λ_=>[eI (-1)])),.c (.d (.sl 1 b λ_=>[eB false])),.c (.d (.sl 3 b λ_=>[eI 0,.v c9,.v c9]))]) ?_ (by repeat' first|exact True.intro|exact rfl|exact DLe.rfl|exact f8 _ _|apply And.intro | (intro _ _;exact LsLe.rfl) | (refine dle_sl λ_ _ => ?_;exact ⟨DLe.rfl,f8 _ _,f8 _ _,trivial⟩))
  refine meets_frz (r:=.tup [.c (.own 1 a λ_=>[eI (-1)]),.c (.own 1 b λ_=>[eB false]),.c (.own 3 b λ_=>[eI 0,.v c9,.v c9])]) ?_ rfl
  refine d5 (H:=[]) (EX:=EXA) l6 e8 Tryz.func59 rfl (by kernel_rfl) (by decide) ?_
  generalize hA:real=A
  generalize hM:d4 Tryz.prog=M
  cbv
  repeat' first|apply And.intro|exact True.intro|with_reducible rfl|exact b7 hA rfl|apply c8 hA<;>intro _|exact c6 hA id | (subst hA;exact λh=>h) | (refine c5 hA ?_;decide +kernel)|fail
  refine i7 hA (α := { i:Nat // i<=a }) (λx=>st_nb1 a b r2 r3 r4 r5 r6 r7 r8 r9 x.1) (λx=>a-x.1) ⟨0,Nat.zero_le _⟩ ?_ ?_
  · refine c7 ?_ ?_ ?_
    iterate 3 focus (subst hA;repeat' first|exact True.intro|exact rfl|apply And.intro | (intro q hq;exact absurd hq (Nat.not_lt_zero q)) | (intro _ _;rfl)|exact .inr (b8 rfl)|exact .inl rfl)
  rintro ⟨i,hi⟩
  have hi:i<=a:=hi
  have hn3:a<=3:=by omega
  cbv
  repeat' first|apply And.intro|exact True.intro|with_reducible rfl|exact b7 hA rfl|apply c8 hA<;>intro _|exact c6 hA id | (subst hA;exact λh=>h) | (refine c5 hA ?_;decide +kernel)|exact f6 hA (by omega) (by decide)|exact w9 hA (by omega) (by decide) | (refine b7 hA ?_;subst hA;rfl)|fail
  · rename_i hlt
    have hlt':i<a:=by subst hA;have h:((i:Int)<(a:Int)):=of_decide_eq_true hlt;omega
    have hn2:a<=maxLen:=Nat.le_trans hn3 (by decide)
    refine ⟨⟨i+1,hlt'⟩,by simp only;omega,c7 ?_ ?_ ?_⟩
    iterate 3 focus (subst hA;repeat' first|exact True.intro|exact rfl|exact congrArg (λx=>DV.v (.int .i64 x)) (o0 hlt' hn2)|apply And.intro | (intro q hq;have hq:q<i+1:=hq;exact (t7 rfl i (λ_=>[eI (-1)]) [eI (-1)] _ q hq).trans (ite_self _)) | (intro _ _;rfl)|exact .inr (b8 rfl)|exact .inl rfl)
  · rename_i hge
    have hin:i=a:=by
      subst hA
      have:¬ ((i:Int)<(a:Int)):=of_decide_eq_false hge
      omega
    subst hin
    refine i7 hA (α := { i2:Nat // i2<=b }) (λx=>st_nb2 i b r2 r3 r4 r5 r6 r7 r8 r9 x.1) (λx=>b-x.1) ⟨0,Nat.zero_le _⟩ ?_ ?_
    · refine c7 ?_ ?_ ?_
      iterate 3 focus (subst hA;repeat' first|exact True.intro|exact rfl|apply And.intro | (intro q hq;exact absurd hq (Nat.not_lt_zero q)) | (intro _ _;rfl)|exact .inr (b8 rfl)|exact .inl rfl)
    rintro ⟨i2,hi⟩
    have hi:i2<=b:=hi
    have hn3:b<=3:=by omega
    cbv
    repeat' first|apply And.intro|exact True.intro|with_reducible rfl|exact b7 hA rfl|apply c8 hA<;>intro _|exact c6 hA id | (subst hA;exact λh=>h) | (refine c5 hA ?_;decide +kernel)|exact f6 hA (by omega) (by decide)|exact w9 hA (by omega) (by decide) | (refine b7 hA ?_;subst hA;rfl)|fail
    · rename_i hlt
      have hlt':i2<b:=by subst hA;have h:((i2:Int)<(b:Int)):=of_decide_eq_true hlt;omega
      have hn2:b<=maxLen:=Nat.le_trans hn3 (by decide)
      refine ⟨⟨i2+1,hlt'⟩,by simp only;omega,c7 ?_ ?_ ?_⟩
      iterate 3 focus (subst hA;repeat' first|exact True.intro|exact rfl|exact congrArg (λx=>DV.v (.int .i64 x)) (o0 hlt' hn2)|apply And.intro | (intro q hq;have hq:q<i2+1:=hq;exact (t7 rfl i2 (λ_=>[eB false]) [eB false] _ q hq).trans (ite_self _)) | (intro q hq;have hq:q<i2+1:=hq;exact (t7 rfl i2 (λ_=>[eI 0,.v c9,.v c9]) [eI 0,.v c9,.v c9] _ q hq).trans (ite_self _)) | (intro _ _;rfl)|exact .inr (b8 rfl)|exact .inl rfl)
    · rename_i hge
      have hin:i2=b:=by
        subst hA
        have:¬ ((i2:Int)<(b:Int)):=of_decide_eq_false hge
        omega
      subst hin
      repeat' first|apply And.intro|exact True.intro|with_reducible rfl|exact b7 hA rfl|apply c8 hA<;>intro _|exact c6 hA id | (subst hA;exact λh=>h) | (refine c5 hA ?_;decide +kernel) | (subst hA;rfl)|fail
theorem c_l9Drop (a b:Nat) (ha3:a<=3) (hb2:b<=2) (r2 r3 r4 r5 r6 r7 r8 r9:DV) (x:CkpT):d7 Tryz.prog 36 [xd [eI (a:Int),eI (b:Int),r2,r3,r4,r5,r6,r7,r8,r9],xd (eCkp x)] ⟨.one (xd (eCkp ⟨x.n,false,⟨a,λ_ => -1,t8 ha3⟩,⟨b,λ_=>false,t8 (Nat.le_trans hb2 (by decide))⟩,⟨b,λ_=>zSnp,t8 (Nat.le_trans hb2 (by decide))⟩,x.safe⟩)),[none,none]⟩:=by
  refine d5 (H:=[]) (EX:=EXA) l6 e8 Tryz.func36 rfl (by kernel_rfl) (by decide) ?_
  generalize hA:real=A
  generalize hM:d4 Tryz.prog=M
  cbv
  repeat' first|apply And.intro|exact True.intro|with_reducible rfl|exact b7 hA rfl|apply c8 hA<;>intro _|exact c6 hA id | (subst hA;exact λh=>h) | (refine c5 hA ?_;decide +kernel) | (refine f7 hA hM _ (c_nobody a b ha3 hb2 r2 r3 r4 r5 r6 r7 r8 r9) ?_;cbv)|fail
def EXSCkpAsk:FuncId->List Nat × Bool:=λf =>  ([],false)
def EXSCkpSave:FuncId->List Nat × Bool:=λf=>bif nbeq f 36 then ([],true) else ([],false)
theorem c_sCkpAsk (j:JobT) (x:CkpT) (hb:bdCkp x) (y:CkpT) (hy:y=askP j x):d7 Tryz.prog 8 [xd (u7 j),xd (eCkp x)] ⟨.one (xd (eCkp y)),[none,none]⟩:=by
  obtain ⟨t,ht,hm⟩:=c_sCkpOk j x hb
  have hcp:=c_sCkp x hb
  cases t with
  | false=>
    have hno:¬ CkpOkP j x:=λh=>by have:=ht.2 h;cases this
    obtain rfl:y=zCkp:=by rw [hy];unfold askP;rw [if_neg hno]
    refine meets_wk (r:=.one (.agg [.d (eI 0),.d (eB false),.d (.v c9),.d (.v c9),.d (.v c9),.d (eI 0),.d (.v c9),.d (.v c9)])) ?_ (by repeat' first|exact True.intro|exact rfl|exact DLe.rfl|exact f8 _ _|apply And.intro | (intro _ _;exact LsLe.rfl) | (refine dle_sl λ_ _ => ?_;exact ⟨DLe.rfl,f8 _ _,f8 _ _,trivial⟩))
    refine d5 (H:=[]) (EX:=EXSCkpAsk) l6 e8 Tryz.func8 rfl (by kernel_rfl) (by decide) ?_
    generalize hA:real=A
    generalize hM:d4 Tryz.prog=M
    cbv
    repeat' first|exact absurd (show false=true by subst hA;assumption) (by decide)|exact absurd (show true=false by subst hA;assumption) (by decide)|apply And.intro|exact True.intro|with_reducible rfl|exact b7 hA rfl|apply c8 hA<;>intro _|exact c6 hA id | (subst hA;exact λh=>h) | (refine c5 hA ?_;decide +kernel) | (refine f7 hA hM _ hm ?_;cbv)|fail
  | true=>
    have hok:CkpOkP j x:=ht.1 rfl
    have h0:0<=x.n:=ckpOk_n hok
    obtain ⟨n',hn⟩:∃ n':Int,n'=if x.opn=false/\x.n<900 then x.n+1 else x.n:=⟨_,rfl⟩
    obtain ⟨o',ho⟩:∃ o':Bool,o'=if x.opn=false/\x.n<900 then true else x.opn:=⟨_,rfl⟩
    obtain rfl:y=⟨n',o',x.src,x.tsk,x.snaps,x.safe⟩:=by
      rw [hy];unfold askP;rw [if_pos hok,hn,ho];exact asks_if x
    refine d5 (H:=[]) (EX:=EXSCkpAsk) l6 e8 Tryz.func8 rfl (by kernel_rfl) (by decide) ?_
    generalize hA:real=A
    generalize hM:d4 Tryz.prog=M
    cbv
    repeat' first|exact absurd (show false=true by subst hA;assumption) (by decide)|exact absurd (show true=false by subst hA;assumption) (by decide)|apply And.intro|exact True.intro|with_reducible rfl|exact b7 hA rfl|apply c8 hA<;>intro _|exact c6 hA id | (subst hA;exact λh=>h) | (refine c5 hA ?_;decide +kernel) | (refine f7 hA hM _ hm ?_;cbv) | (refine f7 hA hM _ hcp ?_;cbv)|fail
    all_goals
      rename_i hc
      subst hA
    all_goals first
      | (have hc:(bif !x.opn then decide (x.n<900) else false)=true:=hc
         obtain ⟨e1,e2⟩:x.opn=false/\x.n<900:=by
           cases e:x.opn with
           | false=>rw [e] at hc;exact ⟨rfl,of_decide_eq_true hc⟩
           | true=>rw [e] at hc;cases hc
         rw [if_pos ⟨e1,e2⟩] at hn ho
         subst hn ho
         have e:IntKind.i64.wrap (x.n+1)=x.n+1:=IntWalk.i64_in _ (by omega)
         exact congrArg (λz=>XA.one (.agg (.d (DV.v (Value.int IntKind.i64 z))::_))) e)
      | (have hc:(bif !x.opn then decide (x.n<900) else false)=false:=hc
         have e:¬ (x.opn=false/\x.n<900):=by
           rintro ⟨e1,e2⟩
           rw [e1,decide_eq_true e2] at hc
           cases hc
         rw [if_neg e] at hn ho
         subst hn ho
         rfl)
theorem c_sCkpSave (j:JobT) (x:CkpT) (hb:bdCkp x) (y:CkpT × Bool) (hy:y=saveP j x):d7 Tryz.prog 116 [xd (u7 j),xd (eCkp x)] ⟨.tup [xd (eCkp y.1),.c (.d (eB y.2))],[none,none]⟩:=by
  obtain ⟨t,ht,hm⟩:=c_sCkpOk j x hb
  have hcp:=c_sCkp x hb
  cases t with
  | false=>
    have hno:¬ CkpOkP j x:=λh=>by have:=ht.2 h;cases this
    obtain rfl:y=(zCkp,false):=by rw [hy];unfold saveP;rw [dif_neg hno]
    refine meets_wk (r:=.tup [.agg [.d (eI 0),.d (eB false),.d (.v c9),.d (.v c9),.d (.v c9),.d (eI 0),.d (.v c9),.d (.v c9)],.c (.d (eB false))]) ?_ (by repeat' first|exact True.intro|exact rfl|exact DLe.rfl|exact f8 _ _|apply And.intro | (intro _ _;exact LsLe.rfl) | (refine dle_sl λ_ _ => ?_;exact ⟨DLe.rfl,f8 _ _,f8 _ _,trivial⟩))
    refine d5 (H:=[]) (EX:=EXSCkpSave) l6 e8 Tryz.func116 rfl (by kernel_rfl) (by decide) ?_
    generalize hA:real=A
    generalize hM:d4 Tryz.prog=M
    cbv
    repeat' first|exact absurd (show false=true by subst hA;assumption) (by decide)|exact absurd (show true=false by subst hA;assumption) (by decide)|apply And.intro|exact True.intro|with_reducible rfl|exact b7 hA rfl|apply c8 hA<;>intro _|exact c6 hA id | (subst hA;exact λh=>h) | (refine c5 hA ?_;decide +kernel) | (refine f7 hA hM _ hm ?_;cbv)|fail
  | true=>
    have hok:CkpOkP j x:=ht.1 rfl
    have hrl:=c_l9Ready x (λi hi=>(hok.2.2.2.2.2.2.2.1 i hi).1.1)
    obtain ⟨u,hu,hmr⟩:=hrl
    have hcs:=c_sSnaps x.snaps.n hb.2.2.1 x.snaps.g hb.2.2.2.1
    have b1:x.src.n<=1048576:=hb.1
    have ea:=jobS (ckpJob hok)
    have eb:=jobT (ckpJob hok)
    obtain ⟨a,ha⟩:∃ a:Nat,a=j.srcs.toNat:=⟨_,rfl⟩
    obtain ⟨b,hbb⟩:∃ b:Nat,b=j.tsks.toNat:=⟨_,rfl⟩
    obtain ⟨ha1,ha3,ja⟩:1<=a/\a<=3/\(a:Int)=j.srcs:=by rw [ha];exact ea
    obtain ⟨hb1,hb2,jb⟩:1<=b/\b<=2/\(b:Int)=j.tsks:=by rw [hbb];exact eb
    cases u with
    | true=>
      have hr:ReadyP x:=hu.1 rfl
      obtain rfl:y=(⟨x.n,false,⟨a,λ_ => -1,t8 ha3⟩,⟨b,λ_=>false,t8 (Nat.le_trans hb2 (by decide))⟩,⟨b,λ_=>zSnp,t8 (Nat.le_trans hb2 (by decide))⟩,⟨x.n,x.src,x.snaps⟩⟩,true):=by
        rw [hy];unfold saveP;rw [dif_pos hok,if_pos hr];unfold idleP;subst ha hbb;rfl
      obtain ⟨j0,j1,j2,j3,j4,j5,j6,j7,j8,j9⟩:=j
      obtain rfl:(a:Int)=j0:=ja
      obtain rfl:(b:Int)=j1:=jb
      refine d5 (H:=[]) (EX:=EXSCkpSave) l6 e8 Tryz.func116 rfl (by kernel_rfl) (by decide) ?_
      generalize hA:real=A
      generalize hM:d4 Tryz.prog=M
      cbv
      repeat' first|exact absurd (show false=true by subst hA;assumption) (by decide)|exact absurd (show true=false by subst hA;assumption) (by decide)|apply And.intro|exact True.intro|with_reducible rfl|exact b7 hA rfl|apply c8 hA<;>intro _|exact c6 hA id | (subst hA;exact λh=>h) | (refine c5 hA ?_;decide +kernel) | (refine f7 hA hM _ hm ?_;cbv) | (refine f7 hA hM _ hcp ?_;cbv) | (refine f7 hA hM _ hmr ?_;cbv) | (refine f7 hA hM _ hcs ?_;cbv) | (refine i9 hA hM _ (c_l9Drop a b ha3 hb2 (eI j2) (eI j3) (eI j4) (eI j5) (eI j6) (eB j7) (eI j8) (eI j9) ⟨x.n,x.opn,x.src,x.tsk,x.snaps,⟨x.n,x.src,x.snaps⟩⟩) (by subst hA;have e0:∀ k,real.add 0 k=k:=λk=>Nat.zero_add k;have ea:∀ (z row:Nat->List DV),real.app 0 z row=row:=λz row=>funext λi=>(by show (if i<0 then z i else row (i-0))=row i;rw [if_neg (Nat.not_lt_zero i)];rfl);simp only [e0,ea,p6];first|done|rfl) ?_;cbv)|exact room_z hA (Nat.le_trans b1 (by decide)) (by decide)|exact f6 hA (Nat.le_trans b1 (by decide)) (by decide)|exact w9 hA (Nat.le_trans b1 (by decide)) (by decide)|fail
    | false=>
      have hr:¬ ReadyP x:=λh=>by have:=hu.2 h;cases this
      obtain rfl:y=(x,false):=by
        rw [hy];unfold saveP;rw [dif_pos hok,if_neg hr]
      refine d5 (H:=[]) (EX:=EXSCkpSave) l6 e8 Tryz.func116 rfl (by kernel_rfl) (by decide) ?_
      generalize hA:real=A
      generalize hM:d4 Tryz.prog=M
      cbv
      repeat' first|exact absurd (show false=true by subst hA;assumption) (by decide)|exact absurd (show true=false by subst hA;assumption) (by decide)|apply And.intro|exact True.intro|with_reducible rfl|exact b7 hA rfl|apply c8 hA<;>intro _|exact c6 hA id | (subst hA;exact λh=>h) | (refine c5 hA ?_;decide +kernel) | (refine f7 hA hM _ hm ?_;cbv) | (refine f7 hA hM _ hcp ?_;cbv) | (refine f7 hA hM _ hmr ?_;cbv)|fail
set_option maxHeartbeats 1000000
def st_frInts (n:Nat) (g:Nat->Int) (i:Nat):St:=⟨[(5,.c (.d (eI i))),(0,.c (.d (.sl 1 n λi=>eint (g i)))),(1,.c (.d (.sl 1 n λi=>eint (g i))))],[]⟩
theorem c_frInts (n:Nat) (hn:n<=maxLen) (g:Nat->Int):d7 Tryz.prog 17 [.c (.d (.sl 1 n λi=>eint (g i))),.c (.d (.sl 1 n λi=>eint (g i)))] ⟨.one (.c (.d (eB true))),[none,none]⟩:=by
  refine d5 (H:=[]) (EX:=EXA) l6 e8 Tryz.func17 rfl (by kernel_rfl) (by decide) ?_
  generalize hA:real=A
  generalize hM:d4 Tryz.prog=M
  cbv
  repeat' first | (refine br_f hA ?_ ?_;focus (subst hA;simp [real];done))|apply And.intro|exact True.intro|with_reducible rfl|exact b7 hA rfl|apply c8 hA<;>intro _|exact c6 hA id | (subst hA;exact λh=>h) | (refine c5 hA ?_;decide +kernel)|fail
  refine i7 hA (α := { i:Nat // i<=n }) (λx=>st_frInts n g x.1) (λx=>n-x.1) ⟨0,Nat.zero_le _⟩ ?_ ?_
  · refine c7 ?_ ?_ ?_
    · cbv;try (subst hA;repeat' first|apply And.intro|exact True.intro|rfl)
    · cbv;try (subst hA;repeat' first|apply And.intro|exact True.intro|rfl)
    · cbv
  rintro ⟨i,hi⟩
  cbv
  repeat' first | (refine br_f hA ?_ ?_;focus (subst hA;simp [real];done))|apply And.intro|exact True.intro|with_reducible rfl|exact b7 hA rfl|apply c8 hA<;>intro _|exact c6 hA id | (subst hA;exact λh=>h) | (refine c5 hA ?_;decide +kernel) | (refine d8 hA λ_ => ?_;subst hA;simp only [real,Bool.and_eq_true,Bool.not_eq_true',Bool.not_eq_false',decide_eq_true_eq,Int.ofNat_eq_natCast,IntKind.wrap_i64] at *;omega)|fail
  rename_i hlt
  have hlt':i<n:=by subst hA;simp only [real,decide_eq_true_eq,Int.ofNat_eq_natCast] at hlt;omega
  refine ⟨⟨i+1,by omega⟩,by simp only;omega,c7 ?_ ?_ ?_⟩
  · cbv
    subst hA
    repeat' first|apply And.intro|exact True.intro|exact congrArg (λx=>DV.v (.int .i64 x)) (o0 hlt' hn)|rfl | (intro k hk;exact t7 rfl _ _ _ _ k hk)
  · cbv;try (subst hA;repeat' first|apply And.intro|exact True.intro|rfl)
  · cbv
def st_frOp (mk:Int) (n:Nat) (g:Nat->RowT) (i:Nat):St:=⟨[(5,.c (.d (eI i))),(3,.c (.bp 192 1 0)),(2,.c (.bp 128 1 0))],[(192,1,.box [.d (eI mk),.d (.sl 13 n λi=>i6 (g i))]),(128,1,.box [.d (eI mk),.d (.sl 13 n λi=>i6 (g i))])]⟩
theorem c_frOp (mk:Int) (n:Nat) (hn:n<=maxLen) (g:Nat->RowT):d7 Tryz.prog 28 [.agg [.d (eI mk),.d (.sl 13 n λi=>i6 (g i))],.agg [.d (eI mk),.d (.sl 13 n λi=>i6 (g i))]] ⟨.one (.c (.d (eB true))),[none,none]⟩:=by
  refine d5 (H:=[]) (EX:=EXA) l6 e8 Tryz.func28 rfl (by kernel_rfl) (by decide) ?_
  generalize hA:real=A
  generalize hM:d4 Tryz.prog=M
  cbv
  repeat' first | (refine br_f hA ?_ ?_;focus (subst hA;simp [real];done))|apply And.intro|exact True.intro|with_reducible rfl|exact b7 hA rfl|apply c8 hA<;>intro _|exact c6 hA id | (subst hA;exact λh=>h) | (refine c5 hA ?_;decide +kernel)|fail
  refine i7 hA (α := { i:Nat // i<=n }) (λx=>st_frOp mk n g x.1) (λx=>n-x.1) ⟨0,Nat.zero_le _⟩ ?_ ?_
  · refine c7 ?_ ?_ ?_
    · cbv;try (subst hA;repeat' first|apply And.intro|exact True.intro|rfl)
    · cbv;try (subst hA;repeat' first|apply And.intro|exact True.intro|rfl)
    · cbv
  rintro ⟨i,hi⟩
  cbv
  repeat' first | (refine br_f hA ?_ ?_;focus (subst hA;simp [real];done))|apply And.intro|exact True.intro|with_reducible rfl|exact b7 hA rfl|apply c8 hA<;>intro _|exact c6 hA id | (subst hA;exact λh=>h) | (refine c5 hA ?_;decide +kernel) | (refine d8 hA λ_ => ?_;subst hA;simp only [real,Bool.and_eq_true,Bool.not_eq_true',Bool.not_eq_false',decide_eq_true_eq,Int.ofNat_eq_natCast,IntKind.wrap_i64] at *;omega)|fail
  rename_i hlt
  have hlt':i<n:=by subst hA;simp only [real,decide_eq_true_eq,Int.ofNat_eq_natCast] at hlt;omega
  refine ⟨⟨i+1,by omega⟩,by simp only;omega,c7 ?_ ?_ ?_⟩
  · cbv
    subst hA
    repeat' first|apply And.intro|exact True.intro|exact congrArg (λx=>DV.v (.int .i64 x)) (o0 hlt' hn)|rfl | (intro k hk;exact t7 rfl _ _ _ _ k hk)
  · cbv;try (subst hA;repeat' first|apply And.intro|exact True.intro|rfl)
  · cbv;try (subst hA;repeat' first|apply And.intro|exact True.intro|rfl|exact .inr trivial|exact .inl trivial)
theorem c_frOk:d7 Tryz.prog 10 [] ⟨.one (.c (.d (eB true))),[]⟩:=by
  have h:d7 Tryz.prog 27 [.agg [.d (eI 0),.d (eI 1)]] ⟨.one (.c (.d (eB true))),[none]⟩:=by
    obtain ⟨b,hb,h⟩:=c_WinOk 0 1
    have e:b=true:=by rw [hb];decide
    rw [e] at h;exact h
  refine d5 (H:=[]) (EX:=EXA) l6 e8 Tryz.func10 rfl (by kernel_rfl) (by decide) ?_
  generalize hA:real=A
  generalize hM:d4 Tryz.prog=M
  cbv
  repeat' first|apply And.intro|exact True.intro|with_reducible rfl|exact b7 hA rfl|apply c8 hA<;>intro _|exact c6 hA id | (subst hA;exact λh=>h) | (refine c5 hA ?_;decide +kernel) | (refine f7 hA hM _ h ?_;cbv)|fail
def st_frSnaps (n:Nat) (g:Nat->SnapT) (i:Nat):St:=⟨[(5,.c (.d (eI i))),(0,.c (.d (.sl 3 n λi=>d9 (g i)))),(1,.c (.d (.sl 3 n λi=>d9 (g i))))],[]⟩
theorem c_frSnaps (n:Nat) (hn:n<=maxLen) (g:Nat->SnapT):d7 Tryz.prog 11 [.c (.d (.sl 3 n λi=>d9 (g i))),.c (.d (.sl 3 n λi=>d9 (g i)))] ⟨.one (.c (.d (eB true))),[none,none]⟩:=by
  refine d5 (H:=[]) (EX:=EXA) l6 e8 Tryz.func11 rfl (by kernel_rfl) (by decide) ?_
  generalize hA:real=A
  generalize hM:d4 Tryz.prog=M
  cbv
  repeat' first | (refine br_f hA ?_ ?_;focus (subst hA;simp [real];done))|apply And.intro|exact True.intro|with_reducible rfl|exact b7 hA rfl|apply c8 hA<;>intro _|exact c6 hA id | (subst hA;exact λh=>h) | (refine c5 hA ?_;decide +kernel)|fail
  refine i7 hA (α := { i:Nat // i<=n }) (λx=>st_frSnaps n g x.1) (λx=>n-x.1) ⟨0,Nat.zero_le _⟩ ?_ ?_
  · refine c7 ?_ ?_ ?_
    iterate 3 focus (subst hA;repeat' first|exact True.intro|exact rfl |  apply And.intro | (intro _ _;rfl) | (intro _ _ _;rfl)|exact .inr (b8 rfl)|exact .inl rfl|exact .inr (Nat.le_refl _))
  rintro ⟨i,hi⟩
  have hi:i<=n:=hi
  cbv
  repeat' first|apply And.intro|exact True.intro|with_reducible rfl|exact b7 hA rfl|apply c8 hA<;>intro _|exact c6 hA id | (subst hA;exact λh=>h) | (refine c5 hA ?_;decide +kernel) | (refine d8 hA λ_ => ?_;subst hA;simp only [real,decide_eq_true_eq,Int.ofNat_eq_natCast] at *;omega) | (refine i9 hA hM _ (c_frOp (g i).op.mark (g i).op.rows.n (g i).op.rows.hn (g i).op.rows.g) (by subst hA;rfl) ?_;cbv) | (refine i9 hA hM _ (c_frInts (g i).marks.n (g i).marks.hn (g i).marks.g) (by subst hA;rfl) ?_;cbv) | (exfalso;rename_i h;subst hA;simp [real] at h;done)|fail
  · rename_i hlt _
    have hlt':i<n:=by subst hA;have h:((i:Int)<(n:Int)):=of_decide_eq_true hlt;omega
    refine ⟨⟨i+1,hlt'⟩,by simp only;omega,c7 ?_ ?_ ?_⟩
    iterate 3 focus (subst hA;repeat' first|exact True.intro|exact rfl|exact congrArg (λx=>DV.v (.int .i64 x)) (o0 hlt' hn) |  apply And.intro | (intro _ _;rfl) | (intro _ _ _;rfl)|exact .inr (b8 rfl)|exact .inl rfl|exact .inr (Nat.le_refl _))
def st_frCkp (x:CkpT) (i:Nat):St:=⟨[(5,.c (.d (eI i))),(3,.c (.bp 192 1 0)),(2,.c (.bp 128 1 0))],[(192,1,.box [.d (eI x.n),.d (eB x.opn),.d (.sl 1 x.src.n λi=>[eI (x.src.g i)]),.d (.sl 1 x.tsk.n λi=>[eB (x.tsk.g i)]),.d (.sl 3 x.snaps.n λi=>d9 (x.snaps.g i)),.d (eI x.safe.n),.d (.sl 1 x.safe.at_.n λi=>[eI (x.safe.at_.g i)]),.d (.sl 3 x.safe.snaps.n λi=>d9 (x.safe.snaps.g i))]),(128,1,.box [.d (eI x.n),.d (eB x.opn),.d (.sl 1 x.src.n λi=>[eI (x.src.g i)]),.d (.sl 1 x.tsk.n λi=>[eB (x.tsk.g i)]),.d (.sl 3 x.snaps.n λi=>d9 (x.snaps.g i)),.d (eI x.safe.n),.d (.sl 1 x.safe.at_.n λi=>[eI (x.safe.at_.g i)]),.d (.sl 3 x.safe.snaps.n λi=>d9 (x.safe.snaps.g i))])]⟩
theorem c_frCkp (x:CkpT):d7 Tryz.prog 7 [xd (eCkp x),xd (eCkp x)] ⟨.one (.c (.d (eB true))),[none,none]⟩:=by
  have hn:x.tsk.n<=maxLen:=x.tsk.hn
  refine d5 (H:=[]) (EX:=EXA) l6 e8 Tryz.func7 rfl (by kernel_rfl) (by decide) ?_
  generalize hA:real=A
  generalize hM:d4 Tryz.prog=M
  cbv
  repeat' first|apply And.intro|exact True.intro|with_reducible rfl|exact b7 hA rfl|apply c8 hA<;>intro _|exact c6 hA id | (subst hA;exact λh=>h) | (refine c5 hA ?_;decide +kernel) | (refine i9 hA hM _ (c_frInts x.src.n x.src.hn x.src.g) (by subst hA;rfl) ?_;cbv) | (refine i9 hA hM _ (c_frInts x.safe.at_.n x.safe.at_.hn x.safe.at_.g) (by subst hA;rfl) ?_;cbv) | (refine i9 hA hM _ (c_frSnaps x.snaps.n x.snaps.hn x.snaps.g) (by subst hA;rfl) ?_;cbv) | (refine i9 hA hM _ (c_frSnaps x.safe.snaps.n x.safe.snaps.hn x.safe.snaps.g) (by subst hA;rfl) ?_;cbv) | (exfalso;rename_i h;subst hA;simp [real] at h;done)|fail
  refine i7 hA (α := { i:Nat // i<=x.tsk.n }) (λy=>st_frCkp x y.1) (λy=>x.tsk.n-y.1) ⟨0,Nat.zero_le _⟩ ?_ ?_
  · refine c7 ?_ ?_ ?_
    iterate 3 focus (subst hA;repeat' first|exact True.intro|exact rfl |  apply And.intro | (intro _ _;rfl) | (intro _ _ _;rfl)|exact .inr (b8 rfl)|exact .inl rfl|exact .inr (Nat.le_refl _))
  rintro ⟨i,hi⟩
  have hi:i<=x.tsk.n:=hi
  cbv
  repeat' first|apply And.intro|exact True.intro|with_reducible rfl|exact b7 hA rfl|apply c8 hA<;>intro _|exact c6 hA id | (subst hA;exact λh=>h) | (refine c5 hA ?_;decide +kernel) | (refine d8 hA λ_ => ?_;subst hA;simp only [real,decide_eq_true_eq,Int.ofNat_eq_natCast] at *;exact ⟨by omega,by omega⟩) | (refine d8 hA λ_=>⟨Int.natCast_nonneg _,?_⟩;subst hA;exact of_decide_eq_true (by assumption)) | (exfalso;rename_i h;subst hA;simp [real] at h;done)|fail
  · rename_i hlt _
    have hlt':i<x.tsk.n:=by subst hA;have h:((i:Int)<(x.tsk.n:Int)):=of_decide_eq_true hlt;omega
    refine ⟨⟨i+1,hlt'⟩,by simp only;omega,c7 ?_ ?_ ?_⟩
    iterate 3 focus (subst hA;repeat' first|exact True.intro|exact rfl|exact congrArg (λx=>DV.v (.int .i64 x)) (o0 hlt' hn) |  apply And.intro | (intro _ _;rfl) | (intro _ _ _;rfl)|exact .inr (b8 rfl)|exact .inl rfl|exact .inr (Nat.le_refl _))
end Go.Rk
namespace Go.Rk
set_option linter.unusedSimpArgs false
set_option linter.unusedVariables false
def mkB (g:Nat->ItmT):Nat->Int
  | 0=>0
  | i+1=>if (g i).kind=2 then (g i).t else mkB g i
def LogAt (g:Nat->ItmT) (i:Nat):Prop:=ItmOkP (g i)/\(g i).kind≠3/\((g i).kind=2->mkB g i<(g i).t)
def EndP (x:ItmT):Prop:=x.kind=2/\x.t=1000/\x.key=0/\x.v=0/\x.n=0
def LogOkP (s:Sl ItmT):Prop:=(1<=s.n/\s.n<=40)/\(∀ i,i<s.n->LogAt s.g i)/\EndP (s.g (s.n-1))
def lastR (m:Int) (g:Nat->TxnT) (i:Nat):Int:=if i=0 then m else (g (i-1)).n
def RdI (m:Int) (g:Nat->TxnT) (i:Nat):Prop:=TxnOkP (g i)/\lastR m g i<(g i).n
def w6 (s:SinkT):Prop:=s.ready.n<=12/\(0<=s.n/\s.n<=900)/\ToldP 1500 s.panes s.lates/\∀ i,i<s.ready.n->RdI s.n s.ready.g i
theorem rd_low {m:Int} {g:Nat->TxnT} {n:Nat} (h:∀ k,k<n->RdI m g k):∀ i,i<n->m<(g i).n
  | 0,hi=>by have:=(h 0 hi).2;simpa [lastR] using this
  | i+1,hi=>by
    have h1:=(h (i+1) hi).2
    have h2:=rd_low h i (by omega)
    have e:lastR m g (i+1)=(g i).n:=by simp [lastR]
    rw [e] at h1
    omega
theorem rd_iff {m:Int} {g:Nat->TxnT} {i:Nat} (h:∀ k,k<i->RdI m g k):RdI m g i↔TxnOkP (g i)/\m<(g i).n/\(0<i->(g (i-1)).n<(g i).n):=by
  unfold RdI lastR
  by_cases hi:i=0
  · subst hi;simp
  · rw [if_neg hi]
    have:=rd_low h (i-1) (by omega)
    constructor
    · rintro ⟨h1,h2⟩;exact ⟨h1,by omega,λ_=>h2⟩
    · rintro ⟨h1,_,h3⟩;exact ⟨h1,h3 (by omega)⟩
def SrcAt (f:FloT) (i:Nat):Prop:=LogOkP (f.logs.g i)/\(0<=(f.srcs.g i).at_/\(f.srcs.g i).at_<=((f.logs.g i).n:Int))/\f.ckp.safe.at_.g i<=((f.logs.g i).n:Int)/\(0<=(f.srcs.g i).wall/\(f.srcs.g i).wall<=f.ckp.n)
def TskAt (f:FloT) (i:Nat):Prop:=s9 f.job (f.tasks.g i)/\(f.tasks.g i).wall<=f.ckp.n
def FloOkP (f:FloT):Prop:=CkpOkP f.job f.ckp/\(f.logs.n:Int)=f.job.srcs/\(f.srcs.n:Int)=f.job.srcs/\(f.tasks.n:Int)=f.job.tsks/\(f.sinks.n:Int)=f.job.tsks /\
  (∀ i,i<f.logs.n->SrcAt f i)/\(∀ i,i<f.tasks.n->TskAt f i)/\∀ i,i<f.sinks.n->w6 (f.sinks.g i)
end Go.Rk
namespace Go.Rk
set_option linter.unusedSimpArgs false
set_option linter.unusedVariables false
open Go.Proofs
theorem c_sItmOkP (x:ItmT):∃ b,(b=true↔ItmOkP x)/\d7 Tryz.prog 121 [xd (n9 x)] ⟨.one (.c (.d (eB b))),[none]⟩:=by
  obtain ⟨b,hb,hm⟩:=c_sItmOk x.kind x.t x.key x.v x.n
  exact ⟨b,by rw [hb,decide_eq_true_eq];exact Iff.rfl,hm⟩
open Classical in
set_option maxRecDepth 100000 in
theorem c_sPanOk (p:PaneT):∃ b,(b=true↔PaneOkP p)/\d7 Tryz.prog 127 [xd (m6 p)] ⟨.one (.c (.d (eB b))),[none]⟩:=by
  obtain ⟨b,hb⟩:∃ b,b=decide (PaneOkP p):=⟨_,rfl⟩
  refine ⟨b,by rw [hb,decide_eq_true_eq],?_⟩
  refine d5 (H:=[]) (EX:=EXA) l6 e8 Tryz.func127 rfl (by kernel_rfl) (by decide) ?_
  generalize hA:real=A
  generalize hM:d4 Tryz.prog=M
  cbv
  repeat' first|apply And.intro|exact True.intro|with_reducible rfl|exact b7 hA rfl|apply c8 hA<;>intro _|exact c6 hA id | (subst hA;exact λh=>h) | (refine c5 hA ?_;decide +kernel) | (refine d6 hA hM (c_l1In _ _ _) (λ_ _ => ?_);cbv) | (refine d6 hA hM (c_sWinOk _ _) (λ_ _ => ?_);cbv) | (refine d6 hA hM (c_sAggOk _ _ _ _) (λ_ _ => ?_);cbv)|fail
  all_goals obtain ⟨key,⟨s,e⟩,no,kind,⟨n,sum,least,most⟩⟩:=p
  all_goals subst hA
  all_goals refine congrArg (λb=>XA.one (.c (.d (eB b)))) (Bool.eq_iff_iff.2 ?_)
  all_goals subst_vars
  all_goals simp only [real,u5,v4,v7,w4,beqB,decide_eq_true_eq,decide_eq_false_iff_not,beqI,bneI,v6,w3,ne_eq,Bool.and_eq_true,Bool.or_eq_true,Bool.not_eq_true',Bool.not_eq_false',Bool.and_eq_false_iff,Bool.or_eq_false_iff,Bool.false_eq_true,and_false,false_and,or_false,false_or,and_true,true_and,not_true_eq_false,not_false_eq_true,true_iff,false_iff,IntKind.wrap_i64,PaneOkP,WinOkP,AggOkP] at *
  all_goals omega
open Classical in
set_option maxRecDepth 100000 in
theorem c_sLatOk (l:LatT):∃ b,(b=true↔LatOkP l)/\d7 Tryz.prog 128 [xd (eLat l)] ⟨.one (.c (.d (eB b))),[none]⟩:=by
  obtain ⟨b,hb⟩:∃ b,b=decide (LatOkP l):=⟨_,rfl⟩
  refine ⟨b,by rw [hb,decide_eq_true_eq],?_⟩
  refine d5 (H:=[]) (EX:=EXA) l6 e8 Tryz.func128 rfl (by kernel_rfl) (by decide) ?_
  generalize hA:real=A
  generalize hM:d4 Tryz.prog=M
  cbv
  repeat' first|apply And.intro|exact True.intro|with_reducible rfl|exact b7 hA rfl|apply c8 hA<;>intro _|exact c6 hA id | (subst hA;exact λh=>h) | (refine c5 hA ?_;decide +kernel) | (refine d6 hA hM (c_sItmOk _ _ _ _ _) (λ_ _ => ?_);cbv) | (refine d6 hA hM (c_sWinOk _ _) (λ_ _ => ?_);cbv) | (refine d6 hA hM (c_l1In _ _ _) (λ_ _ => ?_);cbv)|fail
  all_goals obtain ⟨⟨kind,t,key,v,n⟩,⟨s,e⟩⟩:=l
  all_goals subst hA
  all_goals refine congrArg (λb=>XA.one (.c (.d (eB b)))) (Bool.eq_iff_iff.2 ?_)
  all_goals subst_vars
  all_goals simp only [real,u5,v4,v7,w4,beqB,decide_eq_true_eq,decide_eq_false_iff_not,beqI,bneI,v6,w3,ne_eq,Bool.and_eq_true,Bool.or_eq_true,Bool.not_eq_true',Bool.not_eq_false',Bool.and_eq_false_iff,Bool.or_eq_false_iff,Bool.false_eq_true,and_false,false_and,or_false,false_or,and_true,true_and,not_true_eq_false,not_false_eq_true,true_iff,false_iff,IntKind.wrap_i64,LatOkP,ItmOkP,WinOkP,AggOkP] at *
  all_goals omega
def st_sTskHeld (n:Nat) (g:Nat->TskInT) (hn:n<=maxLen) (op:OpStT) (wall:Int) (pend:TxnT) (i c:Nat):St:=⟨[(4,.c (.d (eI i))),(3,.c (.d (eI c))),(1,.c (.bp 64 1 0))],[(64,1,.box ((v9 ⟨⟨n,g,hn⟩,op,wall,pend⟩).map .d))]⟩
set_option maxRecDepth 100000 in
theorem c_sTskHeld (t:TskT):∃ x:Int,x=((cntB (λi=>(t.ins.g i).held) t.ins.n:Nat):Int)/\d7 Tryz.prog 125 [xd (v9 t)] ⟨.one (.c (.d (eI x))),[none]⟩:=by
  obtain ⟨x,hx⟩:∃ x:Int,x=((cntB (λi=>(t.ins.g i).held) t.ins.n:Nat):Int):=⟨_,rfl⟩
  refine ⟨x,hx,?_⟩
  obtain ⟨⟨n,g,hn⟩,op,wall,pend⟩:=t
  have hx:x=((cntB (λi=>(g i).held) n:Nat):Int):=hx
  refine d5 (H:=[]) (EX:=EXA) l6 e8 Tryz.func125 rfl (by kernel_rfl) (by decide) ?_
  generalize hA:real=A
  generalize hM:d4 Tryz.prog=M
  cbv
  repeat' first|apply And.intro|exact True.intro|with_reducible rfl|exact b7 hA rfl|apply c8 hA<;>intro _|exact c6 hA id | (subst hA;exact λh=>h) | (refine c5 hA ?_;decide +kernel)|fail
  refine i7 hA (α := { q:Nat × Nat // q.1<=n/\q.2=cntB (λi=>(g i).held) q.1 }) (λy=>st_sTskHeld n g hn op wall pend y.1.1 y.1.2) (λy=>n-y.1.1) ⟨(0,0),Nat.zero_le _,rfl⟩ ?_ ?_
  · refine c7 ?_ ?_ ?_
    · cbv;try (subst hA;repeat' first|apply And.intro|exact True.intro|rfl)
    · cbv;try (subst hA;repeat' first|apply And.intro|exact True.intro|rfl)
    · cbv
  rintro ⟨⟨i,c⟩,hi,hc⟩
  have hc:c=cntB (λi=>(g i).held) i:=hc
  have hi:i<=n:=hi
  have hcl:c<=i:=by rw [hc];exact cntB_le _ _
  cbv
  repeat' first|apply And.intro|exact True.intro|with_reducible rfl|exact b7 hA rfl|apply c8 hA<;>intro _|exact c6 hA id | (subst hA;exact λh=>h) | (refine c5 hA ?_;decide +kernel) | (refine d8 hA λ_ => ?_;subst hA;simp only [real,Bool.and_eq_true,Bool.not_eq_true',Bool.not_eq_false',decide_eq_true_eq,Int.ofNat_eq_natCast,IntKind.wrap_i64] at *;omega)|fail
  · rename_i hlt hh
    have hlt':i<n:=by subst hA;simp only [real,decide_eq_true_eq,Int.ofNat_eq_natCast] at hlt;omega
    have hh:(g i).held=true:=by subst hA;exact hh
    refine ⟨⟨(i+1,c+1),by simp only;omega,by simp only;unfold cntB;rw [if_pos hh,<- hc]⟩,by simp only;omega,c7 ?_ ?_ ?_⟩
    · cbv
      subst hA
      repeat' first|apply And.intro|exact True.intro|exact congrArg (λx=>DV.v (.int .i64 x)) (o0 hlt' hn)|exact congrArg (λx=>DV.v (.int .i64 x)) (o0 (show c<n by omega) hn)|rfl | (intro k hk;exact t7 rfl _ _ _ _ k hk)
    · cbv;try (subst hA;repeat' first|apply And.intro|exact True.intro|rfl)
    · cbv
  · rename_i hlt hh
    have hlt':i<n:=by subst hA;simp only [real,decide_eq_true_eq,Int.ofNat_eq_natCast] at hlt;omega
    have hh:(g i).held=false:=by subst hA;exact hh
    refine ⟨⟨(i+1,c),by simp only;omega,by simp only;unfold cntB;rw [if_neg (by rw [hh];simp),<- hc];rfl⟩,by simp only;omega,c7 ?_ ?_ ?_⟩
    · cbv
      subst hA
      repeat' first|apply And.intro|exact True.intro|exact congrArg (λx=>DV.v (.int .i64 x)) (o0 hlt' hn)|exact congrArg (λx=>DV.v (.int .i64 x)) (o0 (show c<n by omega) hn)|rfl | (intro k hk;exact t7 rfl _ _ _ _ k hk)
    · cbv;try (subst hA;repeat' first|apply And.intro|exact True.intro|rfl)
    · cbv
  · rename_i hge
    have:i=n:=by
      subst hA
      simp only [real,decide_eq_false_iff_not,Int.ofNat_eq_natCast] at hge
      omega
    subst this
    exact congrArg (λx=>XA.one (.c (.d (eI x)))) (by rw [hx,<- hc];rfl)
def st_sLow (n:Nat) (g:Nat->TskInT) (hn:n<=maxLen) (op:OpStT) (wall:Int) (pend:TxnT) (i:Nat) (v:Int):St:=⟨[(4,.c (.d (eI i))),(3,.c (.d (eI v))),(1,.c (.bp 64 1 0))],[(64,1,.box ((v9 ⟨⟨n,g,hn⟩,op,wall,pend⟩).map .d))]⟩
set_option maxRecDepth 100000 in
theorem c_sTskLow (t:TskT) (x:Int) (hx:LowP 1000 t.ins.n (λi=>(t.ins.g i).mark) x):d7 Tryz.prog 126 [xd (v9 t)] ⟨.one (.c (.d (eI x))),[none]⟩:=by
  obtain ⟨⟨n,g,hn⟩,op,wall,pend⟩:=t
  have hx:LowP 1000 n (λi=>(g i).mark) x:=hx
  refine d5 (H:=[]) (EX:=EXA) l6 e8 Tryz.func126 rfl (by kernel_rfl) (by decide) ?_
  generalize hA:real=A
  generalize hM:d4 Tryz.prog=M
  cbv
  repeat' first|apply And.intro|exact True.intro|with_reducible rfl|exact b7 hA rfl|apply c8 hA<;>intro _|exact c6 hA id | (subst hA;exact λh=>h) | (refine c5 hA ?_;decide +kernel)|fail
  refine i7 hA (α := { q:Nat × Int // q.1<=n/\LowP 1000 q.1 (λi=>(g i).mark) q.2 }) (λy=>st_sLow n g hn op wall pend y.1.1 y.1.2) (λy=>n-y.1.1) ⟨(0,1000),Nat.zero_le _,Int.le_refl _,λi h=>absurd h (Nat.not_lt_zero i),.inl rfl⟩ ?_ ?_
  · refine c7 ?_ ?_ ?_
    · cbv;try (subst hA;repeat' first|apply And.intro|exact True.intro|rfl)
    · cbv;try (subst hA;repeat' first|apply And.intro|exact True.intro|rfl)
    · cbv
  rintro ⟨⟨i,v⟩,hi,hc⟩
  have hc:LowP 1000 i (λi=>(g i).mark) v:=hc
  have hi:i<=n:=hi
  have hs:=lowP_step hc
  cbv
  repeat' first|apply And.intro|exact True.intro|with_reducible rfl|exact b7 hA rfl|apply c8 hA<;>intro _|exact c6 hA id | (subst hA;exact λh=>h) | (refine c5 hA ?_;decide +kernel) | (refine d8 hA λ_ => ?_;subst hA;simp only [real,Bool.and_eq_true,Bool.not_eq_true',Bool.not_eq_false',decide_eq_true_eq,Int.ofNat_eq_natCast,IntKind.wrap_i64] at *;omega)|fail
  · rename_i hlt hh
    have hlt':i<n:=by subst hA;simp only [real,decide_eq_true_eq,Int.ofNat_eq_natCast] at hlt;omega
    have hh :  (g i).mark<v:=by subst hA;exact of_decide_eq_true hh
    rw [if_pos hh] at hs
    refine ⟨⟨(i+1,(g i).mark),by simp only;omega,hs⟩,by simp only;omega,c7 ?_ ?_ ?_⟩
    · cbv
      subst hA
      repeat' first|apply And.intro|exact True.intro|exact congrArg (λx=>DV.v (.int .i64 x)) (o0 hlt' hn)|rfl | (intro k hk;exact t7 rfl _ _ _ _ k hk)
    · cbv;try (subst hA;repeat' first|apply And.intro|exact True.intro|rfl)
    · cbv
  · rename_i hlt hh
    have hlt':i<n:=by subst hA;simp only [real,decide_eq_true_eq,Int.ofNat_eq_natCast] at hlt;omega
    have hh:¬ (g i).mark<v:=by subst hA;exact of_decide_eq_false hh
    rw [if_neg hh] at hs
    refine ⟨⟨(i+1,v),by simp only;omega,hs⟩,by simp only;omega,c7 ?_ ?_ ?_⟩
    · cbv
      subst hA
      repeat' first|apply And.intro|exact True.intro|exact congrArg (λx=>DV.v (.int .i64 x)) (o0 hlt' hn)|rfl | (intro k hk;exact t7 rfl _ _ _ _ k hk)
    · cbv;try (subst hA;repeat' first|apply And.intro|exact True.intro|rfl)
    · cbv
  · rename_i hge
    have:i=n:=by
      subst hA
      simp only [real,decide_eq_false_iff_not,Int.ofNat_eq_natCast] at hge
      omega
    subst this
    exact congrArg (λx=>XA.one (.c (.d (eI x)))) (lowP_one hc hx)
def st_l8In (j:JobT) (n:Nat) (g:Nat->ItmT) (mark:Int) (held:Bool) (i:Nat):St:=⟨[(5,.c (.d (eI i))),(2,.c (.bp 128 1 0)),(3,.c (.bp 192 1 0))],[(128,1,.box ((u7 j).map .d)),(192,1,.box ([.sl 5 n λi=>n9 (g i),eI mark,eB held].map .d))]⟩
open Classical in
set_option maxRecDepth 100000 in
theorem c_l8In (j:JobT) (c:TskInT):∃ b,(b=true↔InOkP j c)/\d7 Tryz.prog 124 [xd (u7 j),xd (l8 c)] ⟨.one (.c (.d (eB b))),[none,none]⟩:=by
  obtain ⟨b,hb⟩:∃ b:Bool,(b=true↔InOkP j c):=⟨decide (InOkP j c),by rw [decide_eq_true_eq]⟩
  refine ⟨b,hb,?_⟩
  obtain ⟨⟨n,g,hn⟩,mark,held⟩:=c
  show d7 _ _ [xd (u7 j),xd [.sl 5 n λi=>n9 (g i),eI mark,eB held]] _
  refine d5 (H:=[]) (EX:=EXA) l6 e8 Tryz.func124 rfl (by kernel_rfl) (by decide) ?_
  generalize hA:real=A
  generalize hM:d4 Tryz.prog=M
  cbv
  repeat' first|apply And.intro|exact True.intro|with_reducible rfl|exact b7 hA rfl|apply c8 hA<;>intro _|exact c6 hA id | (subst hA;exact λh=>h) | (refine c5 hA ?_;decide +kernel) | (refine d6 hA hM (c_l1In _ _ _) (λ_ _ => ?_);cbv)|fail
  · rename_i hbad
    subst hA;subst_vars
    refine congrArg (λb=>XA.one (.c (.d (eB b)))) ?_
    simp only [real,u5,v4,v7,w4,beqB,decide_eq_true_eq,decide_eq_false_iff_not,beqI,bneI,v6,w3,ne_eq,Bool.and_eq_true,Bool.or_eq_true,Bool.not_eq_true',Bool.not_eq_false',Bool.and_eq_false_iff,Bool.or_eq_false_iff,Bool.false_eq_true,and_false,false_and,or_false,false_or,and_true,true_and,not_true_eq_false,not_false_eq_true,true_iff,false_iff,Int.ofNat_eq_natCast,Int.toNat_natCast] at hbad
    have hbad:(n:Int)>j.room\/¬ (0<=mark/\mark<=1000):=hbad
    cases b with
    | false=>rfl
    | true=>
      exfalso
      have h:=hb.1 rfl
      obtain ⟨h1,h2,h3⟩:=h
      simp only at h1 h2
      omega
  rename_i hgood
  have hpre:(n:Int)<=j.room/\(0<=mark/\mark<=1000):=by
    subst hA;subst_vars
    simp only [real,u5,v4,v7,w4,beqB,decide_eq_true_eq,decide_eq_false_iff_not,beqI,bneI,v6,w3,ne_eq,Bool.and_eq_true,Bool.or_eq_true,Bool.not_eq_true',Bool.not_eq_false',Bool.and_eq_false_iff,Bool.or_eq_false_iff,Bool.false_eq_true,and_false,false_and,or_false,false_or,and_true,true_and,not_true_eq_false,not_false_eq_true,true_iff,false_iff,Int.ofNat_eq_natCast,Int.toNat_natCast] at hgood
    have hgood:¬ (n:Int)>j.room/\(0<=mark/\mark<=1000):=hgood
    omega
  clear hgood
  refine i7 hA (α := { i:Nat // i<=n/\∀ k,k<i->ItmOkP (g k) }) (λx=>st_l8In j n g mark held x.1) (λx=>n-x.1) ⟨0,Nat.zero_le _,λk h=>absurd h (Nat.not_lt_zero k)⟩ ?_ ?_
  · refine c7 ?_ ?_ ?_
    · cbv;try (subst hA;repeat' first|apply And.intro|exact True.intro|rfl)
    · cbv;try (subst hA;repeat' first|apply And.intro|exact True.intro|rfl)
    · cbv
  rintro ⟨i,hi,hk⟩
  cbv
  repeat' first|apply And.intro|exact True.intro|with_reducible rfl|exact b7 hA rfl|apply c8 hA<;>intro _|exact c6 hA id | (subst hA;exact λh=>h) | (refine c5 hA ?_;decide +kernel) | (refine d6 hA hM (c_sItmOkP _) (λ_ _ => ?_);cbv) | (refine d8 hA λ_ => ?_;subst hA;simp only [real,Bool.and_eq_true,Bool.not_eq_true',Bool.not_eq_false',decide_eq_true_eq,Int.ofNat_eq_natCast,IntKind.wrap_i64] at *;omega)|fail
  · rename_i hlt bq hbq hc
    have hlt':i<n:=by subst hA;simp only [real,decide_eq_true_eq,Int.ofNat_eq_natCast] at hlt;omega
    have hq:¬ (ItmOkP (g i)):=by
      subst hA
      simp only [real,Bool.not_eq_true'] at hc
      intro h
      have:=hbq.2 h
      rw [hc] at this
      cases this
    refine congrArg (λb=>XA.one (.c (.d (eB b)))) ?_
    cases b with
    | false=>rfl
    | true=>
      exfalso
      exact hq ((hb.1 rfl).2.2 i hlt')
  · rename_i hlt bq hbq hc
    have hlt':i<n:=by subst hA;simp only [real,decide_eq_true_eq,Int.ofNat_eq_natCast] at hlt;omega
    have hq:ItmOkP (g i):=by
      subst hA
      simp only [real,Bool.not_eq_false'] at hc
      exact hbq.1 hc
    refine ⟨⟨i+1,by omega,λk hk' => ?_⟩,by simp only;omega,c7 ?_ ?_ ?_⟩
    · by_cases e:k=i
      · rw [e];exact hq
      · exact hk k (by omega)
    · cbv
      subst hA
      repeat' first|apply And.intro|exact True.intro|exact congrArg (λx=>DV.v (.int .i64 x)) (o0 hlt' hn)|rfl | (intro k hk;exact t7 rfl _ _ _ _ k hk)
    · cbv;try (subst hA;repeat' first|apply And.intro|exact True.intro|rfl)
    · cbv
  rename_i hge
  have hall:∀ k,k<n->ItmOkP (g k):=λk hk'=>hk k (by subst hA;simp only [real,decide_eq_false_iff_not,Int.ofNat_eq_natCast] at hge;omega)
  clear hk hi hge
  exact congrArg (λb=>XA.one (.c (.d (eB b)))) (hb.2 ⟨hpre.1,hpre.2,hall⟩).symm
def st_l8T0 (m:Int) (n:Nat) (g:Nat->PaneT) (n2:Nat) (g2:Nat->LatT) (i:Nat):St:=⟨[(3,.c (.d (eI i))),(1,.c (.bp 64 1 0))],[(64,1,.box ([eI m,.sl 9 n λi=>m6 (g i),.sl 7 n2 λi=>eLat (g2 i)].map .d))]⟩
def st_l8T1 (m:Int) (n:Nat) (g:Nat->PaneT) (n2:Nat) (g2:Nat->LatT) (i:Nat):St:=⟨[(4,.c (.d (eI i))),(1,.c (.bp 64 1 0))],[(64,1,.box ([eI m,.sl 9 n λi=>m6 (g i),.sl 7 n2 λi=>eLat (g2 i)].map .d))]⟩
open Classical in
set_option maxRecDepth 100000 in
theorem c_l8Txn (x:TxnT):∃ b,(b=true↔TxnOkP x)/\d7 Tryz.prog 123 [xd (eTxn x)] ⟨.one (.c (.d (eB b))),[none]⟩:=by
  obtain ⟨b,hb⟩:∃ b:Bool,(b=true↔TxnOkP x):=⟨decide (TxnOkP x),by rw [decide_eq_true_eq]⟩
  refine ⟨b,hb,?_⟩
  obtain ⟨m,⟨n,g,hn⟩,⟨n2,g2,hn2⟩⟩:=x
  show d7 _ _ [xd [eI m,.sl 9 n λi=>m6 (g i),.sl 7 n2 λi=>eLat (g2 i)]] _
  refine d5 (H:=[]) (EX:=EXA) l6 e8 Tryz.func123 rfl (by kernel_rfl) (by decide) ?_
  generalize hA:real=A
  generalize hM:d4 Tryz.prog=M
  cbv
  repeat' first|apply And.intro|exact True.intro|with_reducible rfl|exact b7 hA rfl|apply c8 hA<;>intro _|exact c6 hA id | (subst hA;exact λh=>h) | (refine c5 hA ?_;decide +kernel) | (refine d6 hA hM (c_l1In _ _ _) (λ_ _ => ?_);cbv)|fail
  · rename_i hbad
    subst hA;subst_vars
    refine congrArg (λb=>XA.one (.c (.d (eB b)))) ?_
    simp only [real,u5,v4,v7,w4,beqB,decide_eq_true_eq,decide_eq_false_iff_not,beqI,bneI,v6,w3,ne_eq,Bool.and_eq_true,Bool.or_eq_true,Bool.not_eq_true',Bool.not_eq_false',Bool.and_eq_false_iff,Bool.or_eq_false_iff,Bool.false_eq_true,and_false,false_and,or_false,false_or,and_true,true_and,not_true_eq_false,not_false_eq_true,true_iff,false_iff,Int.ofNat_eq_natCast,Int.toNat_natCast] at hbad
    have hbad:(¬ (0<=m/\m<=900)\/(n:Int)>1500)\/(n2:Int)>1500:=hbad
    cases b with
    | false=>rfl
    | true=>
      exfalso
      have h:=hb.1 rfl
      obtain ⟨h1,h2,h3,h4⟩:=h
      simp only at h1 h2 h3
      omega
  rename_i hgood
  have hpre:(0<=m/\m<=900)/\(n:Int)<=1500/\(n2:Int)<=1500:=by
    subst hA;subst_vars
    simp only [real,u5,v4,v7,w4,beqB,decide_eq_true_eq,decide_eq_false_iff_not,beqI,bneI,v6,w3,ne_eq,Bool.and_eq_true,Bool.or_eq_true,Bool.not_eq_true',Bool.not_eq_false',Bool.and_eq_false_iff,Bool.or_eq_false_iff,Bool.false_eq_true,and_false,false_and,or_false,false_or,and_true,true_and,not_true_eq_false,not_false_eq_true,true_iff,false_iff,Int.ofNat_eq_natCast,Int.toNat_natCast] at hgood
    omega
  clear hgood
  refine i7 hA (α := { i:Nat // i<=n/\∀ k,k<i->PaneOkP (g k) }) (λx=>st_l8T0 m n g n2 g2 x.1) (λx=>n-x.1) ⟨0,Nat.zero_le _,λk h=>absurd h (Nat.not_lt_zero k)⟩ ?_ ?_
  · refine c7 ?_ ?_ ?_
    · cbv;try (subst hA;repeat' first|apply And.intro|exact True.intro|rfl)
    · cbv;try (subst hA;repeat' first|apply And.intro|exact True.intro|rfl)
    · cbv
  rintro ⟨i,hi,hk⟩
  cbv
  repeat' first|apply And.intro|exact True.intro|with_reducible rfl|exact b7 hA rfl|apply c8 hA<;>intro _|exact c6 hA id | (subst hA;exact λh=>h) | (refine c5 hA ?_;decide +kernel) | (refine d6 hA hM (c_sPanOk _) (λ_ _ => ?_);cbv) | (refine d8 hA λ_ => ?_;subst hA;simp only [real,Bool.and_eq_true,Bool.not_eq_true',Bool.not_eq_false',decide_eq_true_eq,Int.ofNat_eq_natCast,IntKind.wrap_i64] at *;omega)|fail
  · rename_i hlt bq hbq hc
    have hlt':i<n:=by subst hA;simp only [real,decide_eq_true_eq,Int.ofNat_eq_natCast] at hlt;omega
    have hq:¬ (PaneOkP (g i)):=by
      subst hA
      simp only [real,Bool.not_eq_true'] at hc
      intro h
      have:=hbq.2 h
      rw [hc] at this
      cases this
    refine congrArg (λb=>XA.one (.c (.d (eB b)))) ?_
    cases b with
    | false=>rfl
    | true=>
      exfalso
      exact hq ((hb.1 rfl).2.2.2.1 i hlt')
  · rename_i hlt bq hbq hc
    have hlt':i<n:=by subst hA;simp only [real,decide_eq_true_eq,Int.ofNat_eq_natCast] at hlt;omega
    have hq:PaneOkP (g i):=by
      subst hA
      simp only [real,Bool.not_eq_false'] at hc
      exact hbq.1 hc
    refine ⟨⟨i+1,by omega,λk hk' => ?_⟩,by simp only;omega,c7 ?_ ?_ ?_⟩
    · by_cases e:k=i
      · rw [e];exact hq
      · exact hk k (by omega)
    · cbv
      subst hA
      repeat' first|apply And.intro|exact True.intro|exact congrArg (λx=>DV.v (.int .i64 x)) (o0 hlt' hn)|rfl | (intro k hk;exact t7 rfl _ _ _ _ k hk)
    · cbv;try (subst hA;repeat' first|apply And.intro|exact True.intro|rfl)
    · cbv
  rename_i hge
  have hall:∀ k,k<n->PaneOkP (g k):=λk hk'=>hk k (by subst hA;simp only [real,decide_eq_false_iff_not,Int.ofNat_eq_natCast] at hge;omega)
  clear hk hi hge
  have hall1:=hall
  clear hall
  refine i7 hA (α := { i:Nat // i<=n2/\∀ k,k<i->LatOkP (g2 k) }) (λx=>st_l8T1 m n g n2 g2 x.1) (λx=>n2-x.1) ⟨0,Nat.zero_le _,λk h=>absurd h (Nat.not_lt_zero k)⟩ ?_ ?_
  · refine c7 ?_ ?_ ?_
    · cbv;try (subst hA;repeat' first|apply And.intro|exact True.intro|rfl)
    · cbv;try (subst hA;repeat' first|apply And.intro|exact True.intro|rfl)
    · cbv
  rintro ⟨i,hi,hk⟩
  cbv
  repeat' first|apply And.intro|exact True.intro|with_reducible rfl|exact b7 hA rfl|apply c8 hA<;>intro _|exact c6 hA id | (subst hA;exact λh=>h) | (refine c5 hA ?_;decide +kernel) | (refine d6 hA hM (c_sLatOk _) (λ_ _ => ?_);cbv) | (refine d8 hA λ_ => ?_;subst hA;simp only [real,Bool.and_eq_true,Bool.not_eq_true',Bool.not_eq_false',decide_eq_true_eq,Int.ofNat_eq_natCast,IntKind.wrap_i64] at *;omega)|fail
  · rename_i hlt bq hbq hc
    have hlt':i<n2:=by subst hA;simp only [real,decide_eq_true_eq,Int.ofNat_eq_natCast] at hlt;omega
    have hq:¬ (LatOkP (g2 i)):=by
      subst hA
      simp only [real,Bool.not_eq_true'] at hc
      intro h
      have:=hbq.2 h
      rw [hc] at this
      cases this
    refine congrArg (λb=>XA.one (.c (.d (eB b)))) ?_
    cases b with
    | false=>rfl
    | true=>
      exfalso
      exact hq ((hb.1 rfl).2.2.2.2 i hlt')
  · rename_i hlt bq hbq hc
    have hlt':i<n2:=by subst hA;simp only [real,decide_eq_true_eq,Int.ofNat_eq_natCast] at hlt;omega
    have hq:LatOkP (g2 i):=by
      subst hA
      simp only [real,Bool.not_eq_false'] at hc
      exact hbq.1 hc
    refine ⟨⟨i+1,by omega,λk hk' => ?_⟩,by simp only;omega,c7 ?_ ?_ ?_⟩
    · by_cases e:k=i
      · rw [e];exact hq
      · exact hk k (by omega)
    · cbv
      subst hA
      repeat' first|apply And.intro|exact True.intro|exact congrArg (λx=>DV.v (.int .i64 x)) (o0 hlt' hn2)|rfl | (intro k hk;exact t7 rfl _ _ _ _ k hk)
    · cbv;try (subst hA;repeat' first|apply And.intro|exact True.intro|rfl)
    · cbv
  rename_i hge
  have hall:∀ k,k<n2->LatOkP (g2 k):=λk hk'=>hk k (by subst hA;simp only [real,decide_eq_false_iff_not,Int.ofNat_eq_natCast] at hge;omega)
  clear hk hi hge
  exact congrArg (λb=>XA.one (.c (.d (eB b)))) (hb.2 ⟨hpre.1,hpre.2.1,hpre.2.2,hall1,hall⟩).symm
def st_sTskOk (j:JobT) (n:Nat) (g:Nat->TskInT) (hn:n<=maxLen) (op:OpStT) (wall:Int) (pend:TxnT) (i:Nat):St:=⟨[(5,.c (.d (eI i))),(2,.c (.bp 128 1 0)),(3,.c (.bp 192 1 0))],[(128,1,.box ((u7 j).map .d)),(192,1,.box ((v9 ⟨⟨n,g,hn⟩,op,wall,pend⟩).map .d))]⟩
open Classical in
set_option maxRecDepth 100000 in
theorem c_sTskOk (j:JobT) (t:TskT):∃ b,(b=true↔s9 j t)/\d7 Tryz.prog 112 [xd (u7 j),xd (v9 t)] ⟨.one (.c (.d (eB b))),[none,none]⟩:=by
  obtain ⟨b,hb⟩:∃ b:Bool,(b=true↔s9 j t):=⟨decide (s9 j t),by rw [decide_eq_true_eq]⟩
  refine ⟨b,hb,?_⟩
  obtain ⟨x,hx⟩:=lowP_ex 1000 t.ins.n (λi=>(t.ins.g i).mark)
  have hlow:=c_sTskLow t x hx
  obtain ⟨c,hc,hheld⟩:=c_sTskHeld t
  obtain ⟨⟨n,g,hn⟩,op,wall,pend⟩:=t
  have hx:LowP 1000 n (λi=>(g i).mark) x:=hx
  have hc:c=((cntB (λi=>(g i).held) n:Nat):Int):=hc
  refine d5 (H:=[]) (EX:=EXA) l6 e8 Tryz.func112 rfl (by kernel_rfl) (by decide) ?_
  generalize hA:real=A
  generalize hM:d4 Tryz.prog=M
  cbv
  repeat' first|apply And.intro|exact True.intro|with_reducible rfl|exact b7 hA rfl|apply c8 hA<;>intro _|exact c6 hA id | (subst hA;exact λh=>h) | (refine c5 hA ?_;decide +kernel) | (refine d6 hA hM (c_l1In _ _ _) (λ_ _ => ?_);cbv) | (refine d6 hA hM (c_l8Txn pend) (λ_ _ => ?_);cbv) | (refine d6 hA hM (c_sOpOk j op) (λ_ _ => ?_);cbv)|fail
  · rename_i b1 hb1 b2 hb2 b3 hb3 hbad
    subst hA;subst hb2
    refine congrArg (λb=>XA.one (.c (.d (eB b)))) ?_
    simp only [real,u5,v4,v7,w4,beqB,decide_eq_true_eq,decide_eq_false_iff_not,beqI,bneI,v6,w3,ne_eq,Classical.not_not,Bool.and_eq_true,Bool.or_eq_true,Bool.not_eq_true',Bool.not_eq_false',Bool.and_eq_false_iff,Bool.or_eq_false_iff,Bool.false_eq_true,and_false,false_and,or_false,false_or,and_true,true_and,not_true_eq_false,not_false_eq_true,true_iff,false_iff,Int.ofNat_eq_natCast,Int.toNat_natCast] at hbad
    have hbad:(((b1=false\/¬ (n:Int)=j.srcs)\/¬ (0<=wall/\wall<=900))\/b3=false)\/¬ pend.n=0:=hbad
    cases b with
    | false=>rfl
    | true=>
      exfalso
      obtain ⟨h1,h2,h3,h4,h5,_⟩:=hb.1 rfl
      rw [hb1.2 h1,hb3.2 h4] at hbad
      simp only at h2 h3 h5
      simp only [reduceCtorEq,false_or,or_false] at hbad
      omega
  rename_i b1 hb1 b2 hb2 b3 hb3 hgood
  have hpre:OpOkP j op/\(n:Int)=j.srcs/\(0<=wall/\wall<=900)/\TxnOkP pend/\pend.n=0:=by
    subst hA;subst hb2
    simp only [real,u5,v4,v7,w4,beqB,decide_eq_true_eq,decide_eq_false_iff_not,beqI,bneI,v6,w3,ne_eq,Classical.not_not,Bool.and_eq_true,Bool.or_eq_true,Bool.not_eq_true',Bool.not_eq_false',Bool.and_eq_false_iff,Bool.or_eq_false_iff,Bool.false_eq_true,and_false,false_and,or_false,false_or,and_true,true_and,not_true_eq_false,not_false_eq_true,true_iff,false_iff,Int.ofNat_eq_natCast,Int.toNat_natCast] at hgood
    have hgood:(((b1=true/\(n:Int)=j.srcs)/\(0<=wall/\wall<=900))/\b3=true)/\pend.n=0:=hgood
    exact ⟨hb1.1 hgood.1.1.1.1,hgood.1.1.1.2,hgood.1.1.2,hb3.1 hgood.1.2,hgood.2⟩
  clear hgood
  refine i7 hA (α := { i:Nat // i<=n/\∀ k,k<i->InOkP j (g k) }) (λx=>st_sTskOk j n g hn op wall pend x.1) (λx=>n-x.1) ⟨0,Nat.zero_le _,λk h=>absurd h (Nat.not_lt_zero k)⟩ ?_ ?_
  · refine c7 ?_ ?_ ?_
    · cbv;try (subst hA;repeat' first|apply And.intro|exact True.intro|rfl)
    · cbv;try (subst hA;repeat' first|apply And.intro|exact True.intro|rfl)
    · cbv
  rintro ⟨i,hi,hk⟩
  cbv
  repeat' first|apply And.intro|exact True.intro|with_reducible rfl|exact b7 hA rfl|apply c8 hA<;>intro _|exact c6 hA id | (subst hA;exact λh=>h) | (refine c5 hA ?_;decide +kernel) | (refine d6 hA hM (c_l8In j (g (A.nat (Int.ofNat i)))) (λ_ _ => ?_);cbv) | (refine d8 hA λ_ => ?_;subst hA;simp only [real,Bool.and_eq_true,Bool.not_eq_true',Bool.not_eq_false',decide_eq_true_eq,Int.ofNat_eq_natCast,IntKind.wrap_i64] at *;omega)|fail
  · rename_i hlt bq hbq hc
    have hlt':i<n:=by subst hA;simp only [real,decide_eq_true_eq,Int.ofNat_eq_natCast] at hlt;omega
    have hq:¬ (InOkP j (g i)):=by
      subst hA
      simp only [real,Bool.not_eq_true'] at hc
      intro h
      have:=hbq.2 h
      rw [hc] at this
      cases this
    refine congrArg (λb=>XA.one (.c (.d (eB b)))) ?_
    cases b with
    | false=>rfl
    | true=>
      exfalso
      exact hq ((hb.1 rfl).2.2.2.2.2.1 i hlt')
  · rename_i hlt bq hbq hc
    have hlt':i<n:=by subst hA;simp only [real,decide_eq_true_eq,Int.ofNat_eq_natCast] at hlt;omega
    have hq:InOkP j (g i):=by
      subst hA
      simp only [real,Bool.not_eq_false'] at hc
      exact hbq.1 hc
    refine ⟨⟨i+1,by omega,λk hk' => ?_⟩,by simp only;omega,c7 ?_ ?_ ?_⟩
    · by_cases e:k=i
      · rw [e];exact hq
      · exact hk k (by omega)
    · cbv
      subst hA
      repeat' first|apply And.intro|exact True.intro|exact congrArg (λx=>DV.v (.int .i64 x)) (o0 hlt' hn)|rfl | (intro k hk;exact t7 rfl _ _ _ _ k hk)
    · cbv;try (subst hA;repeat' first|apply And.intro|exact True.intro|rfl)
    · cbv
  rename_i hge
  have hall:∀ k,k<n->InOkP j (g k):=λk hk'=>hk k (by subst hA;simp only [real,decide_eq_false_iff_not,Int.ofNat_eq_natCast] at hge;omega)
  clear hk hi hge
  repeat' first|apply And.intro|exact True.intro|with_reducible rfl|exact b7 hA rfl|apply c8 hA<;>intro _|exact c6 hA id | (subst hA;exact λh=>h) | (refine c5 hA ?_;decide +kernel) | (refine f7 hA hM _ hheld ?_;cbv) | (refine f7 hA hM _ hlow ?_;cbv)|fail
  refine congrArg (λb=>XA.one (.c (.d (eB b)))) (Bool.eq_iff_iff.2 ?_)
  rw [hb]
  subst hA
  simp only [real,u5,v4,v7,w4,beqB,decide_eq_true_eq,decide_eq_false_iff_not,beqI,bneI,v6,w3,ne_eq,Bool.and_eq_true,Bool.or_eq_true,Bool.not_eq_true',Bool.not_eq_false',Bool.and_eq_false_iff,Bool.or_eq_false_iff,Bool.false_eq_true,and_false,false_and,or_false,false_or,and_true,true_and,not_true_eq_false,not_false_eq_true,true_iff,false_iff,Int.ofNat_eq_natCast,Int.toNat_natCast]
  constructor
  · rintro ⟨h1,h2⟩
    have h1:c<(n:Int):=h1
    have h2:op.mark=x:=h2
    exact ⟨hpre.1,hpre.2.1,hpre.2.2.1,hpre.2.2.2.1,hpre.2.2.2.2,hall,(show cntB (λi=>(g i).held) n<n by have h9:=h1;rw [hc] at h9;exact Int.ofNat_lt.1 h9),(show LowP 1000 n (λi=>(g i).mark) op.mark by rw [h2];exact hx)⟩
  · intro h
    have h1:cntB (λi=>(g i).held) n<n:=h.2.2.2.2.2.2.1
    exact ⟨(show c<(n:Int) by rw [hc];exact Int.ofNat_lt.2 h1),lowP_one h.2.2.2.2.2.2.2 hx⟩
def st_slog (n:Nat) (g:Nat->ItmT) (i:Nat) (v:Int):St:=⟨[(4,.c (.d (eI i))),(3,.c (.d (eI v))),(0,.c (.d (.sl 5 n λi=>n9 (g i))))],[]⟩
open Classical in
set_option maxRecDepth 100000 in
theorem c_sLogOk (s:Sl ItmT):∃ b,(b=true↔LogOkP s)/\d7 Tryz.prog 106 [.c (.d (.sl 5 s.n λi=>n9 (s.g i)))] ⟨.one (.c (.d (eB b))),[none]⟩:=by
  obtain ⟨b,hb⟩:∃ b:Bool,(b=true↔LogOkP s):=⟨decide (LogOkP s),by rw [decide_eq_true_eq]⟩
  refine ⟨b,hb,?_⟩
  obtain ⟨n,g,hn⟩:=s
  have hm:maxLen=9223372036854775807:=by decide
  have hn':=hn
  rw [hm] at hn'
  have ew:1<=n->(IntKind.i64.wrap ((n:Int)-1)).toNat=n-1/\IntKind.i64.wrap ((n:Int)-1)=n-1:=λh=>by
    rw [IntWalk.i64_in _ (by omega)];omega
  show d7 _ _ [.c (.d (.sl 5 n λi=>n9 (g i)))] _
  refine d5 (H:=[]) (EX:=EXA) l6 e8 Tryz.func106 rfl (by kernel_rfl) (by decide) ?_
  generalize hA:real=A
  generalize hM:d4 Tryz.prog=M
  cbv
  repeat' first|apply And.intro|exact True.intro|with_reducible rfl|exact b7 hA rfl|apply c8 hA<;>intro _|exact c6 hA id | (subst hA;exact λh=>h) | (refine c5 hA ?_;decide +kernel) | (refine d6 hA hM (c_l1In _ _ _) (λ_ _ => ?_);cbv)|fail
  · rename_i b1 hb1
    refine d8 hA λhg => ?_
    subst hA;subst hb1
    have h2:1<=(n:Int)/\(n:Int)<=40:=by
      have hg:(!(!decide (1<=(n:Int)/\(n:Int)<=40)))=true:=hg
      rw [Bool.not_not] at hg
      exact of_decide_eq_true hg
    have h3:1<=n:=by omega
    have q:0<=IntKind.i64.wrap ((n:Int)-1)/\IntKind.i64.wrap ((n:Int)-1)<(n:Int):=by
      have e:=(ew h3).2
      refine ⟨?_,?_⟩
      · rw [e];exact Int.sub_nonneg.2 (Int.ofNat_le.2 h3)
      · rw [e];exact Int.sub_lt_self _ (by decide)
    exact q
  · rename_i b1 hb1 hbad
    subst hA;subst hb1
    refine congrArg (λb=>XA.one (.c (.d (eB b)))) ?_
    cases b with
    | false=>rfl
    | true=>
      exfalso
      have h:=hb.1 rfl
      obtain ⟨h1,_,h2⟩:=h
      have h1:1<=n/\n<=40:=h1
      have h2:EndP (g (n-1)):=h2
      unfold EndP at h2
      rw [<- (ew h1.1).1] at h2
      simp only [real,u5,v4,v7,w4,beqB,decide_eq_true_eq,decide_eq_false_iff_not,beqI,bneI,v6,w3,ne_eq,Classical.not_not,Bool.and_eq_true,Bool.or_eq_true,Bool.not_eq_true',Bool.not_eq_false',Bool.and_eq_false_iff,Bool.or_eq_false_iff,Bool.false_eq_true,and_false,false_and,or_false,false_or,and_true,true_and,not_true_eq_false,not_false_eq_true,true_iff,false_iff,Int.ofNat_eq_natCast,Int.toNat_natCast] at hbad
      rcases hbad with h3|h3
      · have h3:¬ (1<=(n:Int)/\(n:Int)<=40):=by first|exact h3|exact of_decide_eq_false h3
        exact h3 ⟨by omega,by omega⟩
      · rcases h3 with h3|h3|h3|h3|h3
        · exact h3 h2.1
        · exact h3 h2.2.1
        · exact h3 h2.2.2.1
        · exact h3 h2.2.2.2.1
        · first|exact h3 h2.2.2.2.2 | (rcases h3 with h3|h3;exact h3 h2.2.2.2.2;cases h3)
  rename_i b1 hb1 hgood
  have hpre:(1<=n/\n<=40)/\EndP (g (n-1)):=by
    subst hA;subst hb1
    simp only [real,u5,v4,v7,w4,beqB,decide_eq_true_eq,decide_eq_false_iff_not,beqI,bneI,v6,w3,ne_eq,Classical.not_not,Bool.and_eq_true,Bool.or_eq_true,Bool.not_eq_true',Bool.not_eq_false',Bool.and_eq_false_iff,Bool.or_eq_false_iff,Bool.false_eq_true,and_false,false_and,or_false,false_or,and_true,true_and,not_true_eq_false,not_false_eq_true,true_iff,false_iff,Int.ofNat_eq_natCast,Int.toNat_natCast] at hgood
    have h1:1<=(n:Int)/\(n:Int)<=40:=by first|exact hgood.1|exact of_decide_eq_true hgood.1
    refine ⟨by omega,?_⟩
    rw [<- (ew (by omega)).1]
    obtain ⟨q1,q2,q3,q4,q5⟩:=hgood.2
    exact ⟨q1,q2,q3,q4,by first|exact q5|exact q5.1⟩
  clear hgood
  refine i7 hA (α := { q:Nat × Int // q.1<=n/\(∀ k,k<q.1->LogAt g k)/\q.2=mkB g q.1 }) (λy=>st_slog n g y.1.1 y.1.2) (λy=>n-y.1.1) ⟨(0,0),Nat.zero_le _,λk h=>absurd h (Nat.not_lt_zero k),rfl⟩ ?_ ?_
  · refine c7 ?_ ?_ ?_
    · cbv;try (subst hA;repeat' first|apply And.intro|exact True.intro|rfl)
    · cbv;try (subst hA;repeat' first|apply And.intro|exact True.intro|rfl)
    · cbv
  rintro ⟨⟨i,v⟩,hi,hk,hv⟩
  have hi:i<=n:=hi
  have hk:∀ k,k<i->LogAt g k:=hk
  have hv:v=mkB g i:=hv
  cbv
  repeat' first|apply And.intro|exact True.intro|with_reducible rfl|exact b7 hA rfl|apply c8 hA<;>intro _|exact c6 hA id | (subst hA;exact λh=>h) | (refine c5 hA ?_;decide +kernel) | (refine d6 hA hM (c_sItmOkP (g (A.nat (Int.ofNat i)))) (λ_ _ => ?_);cbv) | (refine d8 hA λ_ => ?_;subst hA;simp only [real,Bool.and_eq_true,Bool.not_eq_true',Bool.not_eq_false',decide_eq_true_eq,Int.ofNat_eq_natCast,IntKind.wrap_i64] at *;omega)|fail
  · rename_i hlt b1 hb1 hc
    have hlt':i<n:=by subst hA;simp only [real,decide_eq_true_eq,Int.ofNat_eq_natCast] at hlt;omega
    have hb1:b1=true↔ItmOkP (g i):=by subst hA;exact hb1
    have hq:¬ LogAt g i:=by
      subst hA
      simp only [real,u5,v4,v7,w4,beqB,decide_eq_true_eq,decide_eq_false_iff_not,beqI,bneI,v6,w3,ne_eq,Classical.not_not,Bool.and_eq_true,Bool.or_eq_true,Bool.not_eq_true',Bool.not_eq_false',Bool.and_eq_false_iff,Bool.or_eq_false_iff,Bool.false_eq_true,and_false,false_and,or_false,false_or,and_true,true_and,not_true_eq_false,not_false_eq_true,true_iff,false_iff,Int.ofNat_eq_natCast,Int.toNat_natCast] at hc
      have hc:b1=false\/(g i).kind=3:=hc
      intro h
      rcases hc with h1|h1
      · have:=hb1.2 h.1
        rw [h1] at this;cases this
      · exact h.2.1 h1
    refine congrArg (λb=>XA.one (.c (.d (eB b)))) ?_
    cases b with
    | false=>rfl
    | true=>
      exfalso
      exact hq ((hb.1 rfl).2.1 i hlt')
  · rename_i hlt b1 hb1 hc hmk ht
    have hlt':i<n:=by subst hA;simp only [real,decide_eq_true_eq,Int.ofNat_eq_natCast] at hlt;omega
    have hb1:b1=true↔ItmOkP (g i):=by subst hA;exact hb1
    have hq:¬ LogAt g i:=by
      subst hA
      have h1:(g i).kind=2:=by have h:((g i).kind==2)=true:=hmk;simpa using h
      have h2:(g i).t<=v:=of_decide_eq_true ht
      intro h
      have:=h.2.2 h1
      omega
    refine congrArg (λb=>XA.one (.c (.d (eB b)))) ?_
    cases b with
    | false=>rfl
    | true=>
      exfalso
      exact hq ((hb.1 rfl).2.1 i hlt')
  · rename_i hlt b1 hb1 hc hmk ht
    have hlt':i<n:=by subst hA;simp only [real,decide_eq_true_eq,Int.ofNat_eq_natCast] at hlt;omega
    have hb1:b1=true↔ItmOkP (g i):=by subst hA;exact hb1
    have h1:(g i).kind=2:=by subst hA;have h:((g i).kind==2)=true:=hmk;simpa using h
    have hq:LogAt g i:=by
      subst hA
      simp only [real,u5,v4,v7,w4,beqB,decide_eq_true_eq,decide_eq_false_iff_not,beqI,bneI,v6,w3,ne_eq,Classical.not_not,Bool.and_eq_true,Bool.or_eq_true,Bool.not_eq_true',Bool.not_eq_false',Bool.and_eq_false_iff,Bool.or_eq_false_iff,Bool.false_eq_true,and_false,false_and,or_false,false_or,and_true,true_and,not_true_eq_false,not_false_eq_true,true_iff,false_iff,Int.ofNat_eq_natCast,Int.toNat_natCast] at hc
      have hc:b1=true/\¬ (g i).kind=3:=hc
      have h2:¬ (g i).t<=v:=of_decide_eq_false ht
      exact ⟨hb1.1 hc.1,hc.2,λ_=>by omega⟩
    refine ⟨⟨(i+1,(g i).t),by simp only;omega,λk hk' => ?_,?_⟩,by simp only;omega,c7 ?_ ?_ ?_⟩
    · by_cases e:k=i
      · rw [e];exact hq
      · exact hk k (by simp only at hk';omega)
    · simp only
      unfold mkB
      rw [if_pos h1]
    · cbv
      subst hA
      repeat' first|apply And.intro|exact True.intro|exact congrArg (λx=>DV.v (.int .i64 x)) (o0 hlt' hn)|rfl | (intro k hk;exact t7 rfl _ _ _ _ k hk)
    · cbv;try (subst hA;repeat' first|apply And.intro|exact True.intro|rfl)
    · cbv
  · rename_i hlt b1 hb1 hc hmk
    have hlt':i<n:=by subst hA;simp only [real,decide_eq_true_eq,Int.ofNat_eq_natCast] at hlt;omega
    have hb1:b1=true↔ItmOkP (g i):=by subst hA;exact hb1
    have h1:¬ (g i).kind=2:=by subst hA;have h:((g i).kind==2)=false:=hmk;simpa using h
    have hq:LogAt g i:=by
      subst hA
      simp only [real,u5,v4,v7,w4,beqB,decide_eq_true_eq,decide_eq_false_iff_not,beqI,bneI,v6,w3,ne_eq,Classical.not_not,Bool.and_eq_true,Bool.or_eq_true,Bool.not_eq_true',Bool.not_eq_false',Bool.and_eq_false_iff,Bool.or_eq_false_iff,Bool.false_eq_true,and_false,false_and,or_false,false_or,and_true,true_and,not_true_eq_false,not_false_eq_true,true_iff,false_iff,Int.ofNat_eq_natCast,Int.toNat_natCast] at hc
      have hc:b1=true/\¬ (g i).kind=3:=hc
      exact ⟨hb1.1 hc.1,hc.2,λh=>absurd h h1⟩
    refine ⟨⟨(i+1,v),by simp only;omega,λk hk' => ?_,?_⟩,by simp only;omega,c7 ?_ ?_ ?_⟩
    · by_cases e:k=i
      · rw [e];exact hq
      · exact hk k (by simp only at hk';omega)
    · simp only
      unfold mkB
      rw [if_neg h1];exact hv
    · cbv
      subst hA
      repeat' first|apply And.intro|exact True.intro|exact congrArg (λx=>DV.v (.int .i64 x)) (o0 hlt' hn)|rfl | (intro k hk;exact t7 rfl _ _ _ _ k hk)
    · cbv;try (subst hA;repeat' first|apply And.intro|exact True.intro|rfl)
    · cbv
  rename_i hge
  have hin:i=n:=by
    subst hA
    simp only [real,decide_eq_false_iff_not,Int.ofNat_eq_natCast] at hge
    omega
  subst hin
  exact congrArg (λb=>XA.one (.c (.d (eB b)))) (hb.2 ⟨hpre.1,hk,hpre.2⟩).symm
def st_ssk0 (m:Int) (n:Nat) (g:Nat->TxnT) (hn:n<=maxLen) (n2:Nat) (g2:Nat->PaneT) (hn2:n2<=maxLen) (n3:Nat) (g3:Nat->LatT) (hn3:n3<=maxLen) (i:Nat):St:=⟨[(3,.c (.d (eI i))),(1,.c (.bp 64 1 0))],[(64,1,.box ((s0 ⟨⟨n,g,hn⟩,m,⟨n2,g2,hn2⟩,⟨n3,g3,hn3⟩⟩).map .d))]⟩
def st_ssk1 (m:Int) (n:Nat) (g:Nat->TxnT) (hn:n<=maxLen) (n2:Nat) (g2:Nat->PaneT) (hn2:n2<=maxLen) (n3:Nat) (g3:Nat->LatT) (hn3:n3<=maxLen) (i:Nat):St:=⟨[(4,.c (.d (eI i))),(1,.c (.bp 64 1 0))],[(64,1,.box ((s0 ⟨⟨n,g,hn⟩,m,⟨n2,g2,hn2⟩,⟨n3,g3,hn3⟩⟩).map .d))]⟩
def st_ssk2 (m:Int) (n:Nat) (g:Nat->TxnT) (hn:n<=maxLen) (n2:Nat) (g2:Nat->PaneT) (hn2:n2<=maxLen) (n3:Nat) (g3:Nat->LatT) (hn3:n3<=maxLen) (i:Nat):St:=⟨[(5,.c (.d (eI i))),(1,.c (.bp 64 1 0))],[(64,1,.box ((s0 ⟨⟨n,g,hn⟩,m,⟨n2,g2,hn2⟩,⟨n3,g3,hn3⟩⟩).map .d))]⟩
open Classical in
set_option maxRecDepth 100000 in
theorem c_sSinkOk (s:SinkT):∃ b,(b=true↔w6 s)/\d7 Tryz.prog 113 [xd (s0 s)] ⟨.one (.c (.d (eB b))),[none]⟩:=by
  obtain ⟨b,hb⟩:∃ b:Bool,(b=true↔w6 s):=⟨decide (w6 s),by rw [decide_eq_true_eq]⟩
  refine ⟨b,hb,?_⟩
  obtain ⟨⟨n,g,hn⟩,m,⟨n2,g2,hn2⟩,⟨n3,g3,hn3⟩⟩:=s
  refine d5 (H:=[]) (EX:=EXA) l6 e8 Tryz.func113 rfl (by kernel_rfl) (by decide) ?_
  generalize hA:real=A
  generalize hM:d4 Tryz.prog=M
  cbv
  repeat' first|apply And.intro|exact True.intro|with_reducible rfl|exact b7 hA rfl|apply c8 hA<;>intro _|exact c6 hA id | (subst hA;exact λh=>h) | (refine c5 hA ?_;decide +kernel) | (refine d6 hA hM (c_l1In _ _ _) (λ_ _ => ?_);cbv)|fail
  · rename_i b1 hb1 hbad
    subst hA;subst hb1
    refine congrArg (λb=>XA.one (.c (.d (eB b)))) ?_
    cases b with
    | false=>rfl
    | true=>
      exfalso
      have h:=hb.1 rfl
      simp only [real,u5,v4,v7,w4,beqB,decide_eq_true_eq,decide_eq_false_iff_not,beqI,bneI,v6,w3,ne_eq,Classical.not_not,Bool.and_eq_true,Bool.or_eq_true,Bool.not_eq_true',Bool.not_eq_false',Bool.and_eq_false_iff,Bool.or_eq_false_iff,Bool.false_eq_true,and_false,false_and,or_false,false_or,and_true,true_and,not_true_eq_false,not_false_eq_true,true_iff,false_iff,Int.ofNat_eq_natCast,Int.toNat_natCast] at hbad
      have hbad:(((n:Int)>12\/¬ (0<=m/\m<=900))\/(n2:Int)>1500)\/(n3:Int)>1500:=hbad
      have h1:n<=12:=h.1
      have h2:0<=m/\m<=900:=h.2.1
      have h3:(n2:Int)<=1500:=h.2.2.1.1
      have h4:(n3:Int)<=1500:=h.2.2.1.2.1
      omega
  rename_i b1 hb1 hgood
  have hpre:n<=12/\(0<=m/\m<=900)/\(n2:Int)<=1500/\(n3:Int)<=1500:=by
    subst hA;subst hb1
    simp only [real,u5,v4,v7,w4,beqB,decide_eq_true_eq,decide_eq_false_iff_not,beqI,bneI,v6,w3,ne_eq,Classical.not_not,Bool.and_eq_true,Bool.or_eq_true,Bool.not_eq_true',Bool.not_eq_false',Bool.and_eq_false_iff,Bool.or_eq_false_iff,Bool.false_eq_true,and_false,false_and,or_false,false_or,and_true,true_and,not_true_eq_false,not_false_eq_true,true_iff,false_iff,Int.ofNat_eq_natCast,Int.toNat_natCast] at hgood
    have hgood:((¬ (n:Int)>12/\(0<=m/\m<=900))/\¬ (n2:Int)>1500)/\¬ (n3:Int)>1500:=hgood
    omega
  clear hgood
  refine i7 hA (α := { i:Nat // i<=n/\∀ k,k<i->RdI m g k }) (λx=>st_ssk0 m n g hn n2 g2 hn2 n3 g3 hn3 x.1) (λx=>n-x.1) ⟨0,Nat.zero_le _,λk h=>absurd h (Nat.not_lt_zero k)⟩ ?_ ?_
  · refine c7 ?_ ?_ ?_
    · cbv;try (subst hA;repeat' first|apply And.intro|exact True.intro|rfl)
    · cbv;try (subst hA;repeat' first|apply And.intro|exact True.intro|rfl)
    · cbv
  rintro ⟨i,hi,hk⟩
  cbv
  repeat' first|apply And.intro|exact True.intro|with_reducible rfl|exact b7 hA rfl|apply c8 hA<;>intro _|exact c6 hA id | (subst hA;exact λh=>h) | (refine c5 hA ?_;decide +kernel) | (refine d6 hA hM (c_l8Txn (g (A.nat (Int.ofNat i)))) (λ_ _ => ?_);cbv) | (refine d8 hA λhg => ?_;subst hA;simp only [real,decide_eq_true_eq,Int.ofNat_eq_natCast,IntKind.wrap_i64,u5,v7,Bool.and_eq_true,Bool.not_eq_true'] at *;omega) | (refine d8 hA λ_ => ?_;subst hA;simp only [real,Bool.and_eq_true,Bool.not_eq_true',Bool.not_eq_false',decide_eq_true_eq,Int.ofNat_eq_natCast,IntKind.wrap_i64] at *;omega)|fail
  · rename_i hlt b1 hb1 hc
    have hlt':i<n:=by subst hA;simp only [real,decide_eq_true_eq,Int.ofNat_eq_natCast] at hlt;omega
    have hq:¬ (RdI m g i):=by
      subst hA
      have hb1:b1=true↔TxnOkP (g i):=hb1
      rw [rd_iff hk]
      have hp:0<i->(IntKind.i64.wrap ((i:Int)-1)).toNat=i-1:=λh=>down64 h (Nat.le_trans hi hn)
      simp only [real,u5,v4,v7,w4,beqB,decide_eq_true_eq,decide_eq_false_iff_not,beqI,bneI,v6,w3,ne_eq,Classical.not_not,Bool.and_eq_true,Bool.or_eq_true,Bool.not_eq_true',Bool.not_eq_false',Bool.and_eq_false_iff,Bool.or_eq_false_iff,Bool.false_eq_true,and_false,false_and,or_false,false_or,and_true,true_and,not_true_eq_false,not_false_eq_true,true_iff,false_iff,Int.ofNat_eq_natCast,Int.toNat_natCast] at hc
      have hc:(b1=false\/(g i).n<=m)\/((i:Int)>0/\(g (IntKind.i64.wrap ((i:Int)-1)).toNat).n>=(g i).n):=hc
      rintro ⟨h1,h2,h3⟩
      rcases hc with (hc|hc)|hc
      · have:=hb1.2 h1
        rw [hc] at this;cases this
      · omega
      · have h4:0<i:=by omega
        rw [hp h4] at hc
        have:=h3 h4
        omega
    refine congrArg (λb=>XA.one (.c (.d (eB b)))) ?_
    cases b with
    | false=>rfl
    | true=>
      exfalso
      exact hq ((hb.1 rfl).2.2.2 i hlt')
  · rename_i hlt b1 hb1 hc
    have hlt':i<n:=by subst hA;simp only [real,decide_eq_true_eq,Int.ofNat_eq_natCast] at hlt;omega
    have hq:RdI m g i:=by
      subst hA
      have hb1:b1=true↔TxnOkP (g i):=hb1
      rw [rd_iff hk]
      have hp:0<i->(IntKind.i64.wrap ((i:Int)-1)).toNat=i-1:=λh=>down64 h (Nat.le_trans hi hn)
      simp only [real,u5,v4,v7,w4,beqB,decide_eq_true_eq,decide_eq_false_iff_not,beqI,bneI,v6,w3,ne_eq,Classical.not_not,Bool.and_eq_true,Bool.or_eq_true,Bool.not_eq_true',Bool.not_eq_false',Bool.and_eq_false_iff,Bool.or_eq_false_iff,Bool.false_eq_true,and_false,false_and,or_false,false_or,and_true,true_and,not_true_eq_false,not_false_eq_true,true_iff,false_iff,Int.ofNat_eq_natCast,Int.toNat_natCast] at hc
      have hc:(b1=true/\¬ (g i).n<=m)/\(¬ (i:Int)>0\/¬ (g (IntKind.i64.wrap ((i:Int)-1)).toNat).n>=(g i).n):=hc
      refine ⟨hb1.1 hc.1.1,by omega,λh => ?_⟩
      rw [hp h] at hc
      omega
    refine ⟨⟨i+1,by omega,λk hk' => ?_⟩,by simp only;omega,c7 ?_ ?_ ?_⟩
    · by_cases e:k=i
      · rw [e];exact hq
      · exact hk k (by omega)
    · cbv
      subst hA
      repeat' first|apply And.intro|exact True.intro|exact congrArg (λx=>DV.v (.int .i64 x)) (o0 hlt' hn)|rfl | (intro k hk;exact t7 rfl _ _ _ _ k hk)
    · cbv;try (subst hA;repeat' first|apply And.intro|exact True.intro|rfl)
    · cbv
  rename_i hge
  have hall:∀ k,k<n->RdI m g k:=λk hk'=>hk k (by subst hA;simp only [real,decide_eq_false_iff_not,Int.ofNat_eq_natCast] at hge;omega)
  clear hk hi hge
  have hall1:=hall
  clear hall
  refine i7 hA (α := { i:Nat // i<=n2/\∀ k,k<i->PaneOkP (g2 k) }) (λx=>st_ssk1 m n g hn n2 g2 hn2 n3 g3 hn3 x.1) (λx=>n2-x.1) ⟨0,Nat.zero_le _,λk h=>absurd h (Nat.not_lt_zero k)⟩ ?_ ?_
  · refine c7 ?_ ?_ ?_
    · cbv;try (subst hA;repeat' first|apply And.intro|exact True.intro|rfl)
    · cbv;try (subst hA;repeat' first|apply And.intro|exact True.intro|rfl)
    · cbv
  rintro ⟨i,hi,hk⟩
  cbv
  repeat' first|apply And.intro|exact True.intro|with_reducible rfl|exact b7 hA rfl|apply c8 hA<;>intro _|exact c6 hA id | (subst hA;exact λh=>h) | (refine c5 hA ?_;decide +kernel) | (refine d6 hA hM (c_sPanOk _) (λ_ _ => ?_);cbv) | (refine d8 hA λ_ => ?_;subst hA;simp only [real,Bool.and_eq_true,Bool.not_eq_true',Bool.not_eq_false',decide_eq_true_eq,Int.ofNat_eq_natCast,IntKind.wrap_i64] at *;omega)|fail
  · rename_i hlt bq hbq hc
    have hlt':i<n2:=by subst hA;simp only [real,decide_eq_true_eq,Int.ofNat_eq_natCast] at hlt;omega
    have hq:¬ (PaneOkP (g2 i)):=by
      subst hA
      simp only [real,Bool.not_eq_true'] at hc
      intro h
      have:=hbq.2 h
      rw [hc] at this
      cases this
    refine congrArg (λb=>XA.one (.c (.d (eB b)))) ?_
    cases b with
    | false=>rfl
    | true=>
      exfalso
      exact hq ((hb.1 rfl).2.2.1.2.2.1 i hlt')
  · rename_i hlt bq hbq hc
    have hlt':i<n2:=by subst hA;simp only [real,decide_eq_true_eq,Int.ofNat_eq_natCast] at hlt;omega
    have hq:PaneOkP (g2 i):=by
      subst hA
      simp only [real,Bool.not_eq_false'] at hc
      exact hbq.1 hc
    refine ⟨⟨i+1,by omega,λk hk' => ?_⟩,by simp only;omega,c7 ?_ ?_ ?_⟩
    · by_cases e:k=i
      · rw [e];exact hq
      · exact hk k (by omega)
    · cbv
      subst hA
      repeat' first|apply And.intro|exact True.intro|exact congrArg (λx=>DV.v (.int .i64 x)) (o0 hlt' hn2)|rfl | (intro k hk;exact t7 rfl _ _ _ _ k hk)
    · cbv;try (subst hA;repeat' first|apply And.intro|exact True.intro|rfl)
    · cbv
  rename_i hge
  have hall:∀ k,k<n2->PaneOkP (g2 k):=λk hk'=>hk k (by subst hA;simp only [real,decide_eq_false_iff_not,Int.ofNat_eq_natCast] at hge;omega)
  clear hk hi hge
  have hall2:=hall
  clear hall
  refine i7 hA (α := { i:Nat // i<=n3/\∀ k,k<i->LatOkP (g3 k) }) (λx=>st_ssk2 m n g hn n2 g2 hn2 n3 g3 hn3 x.1) (λx=>n3-x.1) ⟨0,Nat.zero_le _,λk h=>absurd h (Nat.not_lt_zero k)⟩ ?_ ?_
  · refine c7 ?_ ?_ ?_
    · cbv;try (subst hA;repeat' first|apply And.intro|exact True.intro|rfl)
    · cbv;try (subst hA;repeat' first|apply And.intro|exact True.intro|rfl)
    · cbv
  rintro ⟨i,hi,hk⟩
  cbv
  repeat' first|apply And.intro|exact True.intro|with_reducible rfl|exact b7 hA rfl|apply c8 hA<;>intro _|exact c6 hA id | (subst hA;exact λh=>h) | (refine c5 hA ?_;decide +kernel) | (refine d6 hA hM (c_sLatOk _) (λ_ _ => ?_);cbv) | (refine d8 hA λ_ => ?_;subst hA;simp only [real,Bool.and_eq_true,Bool.not_eq_true',Bool.not_eq_false',decide_eq_true_eq,Int.ofNat_eq_natCast,IntKind.wrap_i64] at *;omega)|fail
  · rename_i hlt bq hbq hc
    have hlt':i<n3:=by subst hA;simp only [real,decide_eq_true_eq,Int.ofNat_eq_natCast] at hlt;omega
    have hq:¬ (LatOkP (g3 i)):=by
      subst hA
      simp only [real,Bool.not_eq_true'] at hc
      intro h
      have:=hbq.2 h
      rw [hc] at this
      cases this
    refine congrArg (λb=>XA.one (.c (.d (eB b)))) ?_
    cases b with
    | false=>rfl
    | true=>
      exfalso
      exact hq ((hb.1 rfl).2.2.1.2.2.2 i hlt')
  · rename_i hlt bq hbq hc
    have hlt':i<n3:=by subst hA;simp only [real,decide_eq_true_eq,Int.ofNat_eq_natCast] at hlt;omega
    have hq:LatOkP (g3 i):=by
      subst hA
      simp only [real,Bool.not_eq_false'] at hc
      exact hbq.1 hc
    refine ⟨⟨i+1,by omega,λk hk' => ?_⟩,by simp only;omega,c7 ?_ ?_ ?_⟩
    · by_cases e:k=i
      · rw [e];exact hq
      · exact hk k (by omega)
    · cbv
      subst hA
      repeat' first|apply And.intro|exact True.intro|exact congrArg (λx=>DV.v (.int .i64 x)) (o0 hlt' hn3)|rfl | (intro k hk;exact t7 rfl _ _ _ _ k hk)
    · cbv;try (subst hA;repeat' first|apply And.intro|exact True.intro|rfl)
    · cbv
  rename_i hge
  have hall:∀ k,k<n3->LatOkP (g3 k):=λk hk'=>hk k (by subst hA;simp only [real,decide_eq_false_iff_not,Int.ofNat_eq_natCast] at hge;omega)
  clear hk hi hge
  exact congrArg (λb=>XA.one (.c (.d (eB b)))) (hb.2 ⟨hpre.1,hpre.2.1,⟨hpre.2.2.1,hpre.2.2.2,hall2,hall⟩,hall1⟩).symm
def st_sfl0 (job:JobT) (n1:Nat) (g1:Nat->Sl ItmT) (hn1:n1<=maxLen) (n2:Nat) (g2:Nat->SrcT) (hn2:n2<=maxLen) (n3:Nat) (g3:Nat->TskT) (hn3:n3<=maxLen) (ckp:CkpT) (n4:Nat) (g4:Nat->SinkT) (hn4:n4<=maxLen) (i:Nat):St:=⟨[(4,.c (.d (eI i))),(1,.c (.bp 64 1 0)),(3,.c (.bp 192 1 0))],[(64,1,.box ((eFlo ⟨job,⟨n1,g1,hn1⟩,⟨n2,g2,hn2⟩,⟨n3,g3,hn3⟩,⟨n4,g4,hn4⟩,ckp⟩).map .d)),(192,1,.box ((u7 job).map .d))]⟩
def st_sfl1 (job:JobT) (n1:Nat) (g1:Nat->Sl ItmT) (hn1:n1<=maxLen) (n2:Nat) (g2:Nat->SrcT) (hn2:n2<=maxLen) (n3:Nat) (g3:Nat->TskT) (hn3:n3<=maxLen) (ckp:CkpT) (n4:Nat) (g4:Nat->SinkT) (hn4:n4<=maxLen) (i:Nat):St:=⟨[(5,.c (.d (eI i))),(1,.c (.bp 64 1 0)),(3,.c (.bp 192 1 0))],[(64,1,.box ((eFlo ⟨job,⟨n1,g1,hn1⟩,⟨n2,g2,hn2⟩,⟨n3,g3,hn3⟩,⟨n4,g4,hn4⟩,ckp⟩).map .d)),(192,1,.box ((u7 job).map .d))]⟩
open Classical in
set_option maxRecDepth 100000 in
theorem c_sFloOk (f:FloT) (hbd:bdFlo f):∃ b,(b=true↔FloOkP f)/\d7 Tryz.prog 102 [xd (eFlo f)] ⟨.one (.c (.d (eB b))),[none]⟩:=by
  obtain ⟨b,hb⟩:∃ b:Bool,(b=true↔FloOkP f):=⟨decide (FloOkP f),by rw [decide_eq_true_eq]⟩
  refine ⟨b,hb,?_⟩
  obtain ⟨job,⟨n1,g1,hn1⟩,⟨n2,g2,hn2⟩,⟨n3,g3,hn3⟩,⟨n4,g4,hn4⟩,ckp⟩:=f
  have hbt:∀ i,i<n3->bdTsk (g3 i):=hbd.2.2.2.2.1
  have hbc:bdCkp ckp:=hbd.2.2.2.2.2.2.2
  refine d5 (H:=[]) (EX:=EXA) l6 e8 Tryz.func102 rfl (by kernel_rfl) (by decide) ?_
  generalize hA:real=A
  generalize hM:d4 Tryz.prog=M
  cbv
  repeat' first|apply And.intro|exact True.intro|with_reducible rfl|exact b7 hA rfl|apply c8 hA<;>intro _|exact c6 hA id | (subst hA;exact λh=>h) | (refine c5 hA ?_;decide +kernel) | (refine d6 hA hM (c_sCkpOk job ckp hbc) (λ_ _ => ?_);cbv)|fail
  · rename_i b1 hb1 hbad
    subst hA
    refine congrArg (λb=>XA.one (.c (.d (eB b)))) ?_
    cases b with
    | false=>rfl
    | true=>
      exfalso
      have h:=hb.1 rfl
      simp only [real,u5,v4,v7,w4,beqB,decide_eq_true_eq,decide_eq_false_iff_not,beqI,bneI,v6,w3,ne_eq,Classical.not_not,Bool.and_eq_true,Bool.or_eq_true,Bool.not_eq_true',Bool.not_eq_false',Bool.and_eq_false_iff,Bool.or_eq_false_iff,Bool.false_eq_true,and_false,false_and,or_false,false_or,and_true,true_and,not_true_eq_false,not_false_eq_true,true_iff,false_iff,Int.ofNat_eq_natCast,Int.toNat_natCast] at hbad
      have hbad:(((b1=false\/¬ (n1:Int)=job.srcs)\/¬ (n2:Int)=job.srcs)\/¬ (n3:Int)=job.tsks)\/¬ (n4:Int)=job.tsks:=hbad
      rcases hbad with (((h1|h1)|h1)|h1)|h1
      · have:=hb1.2 h.1
        rw [h1] at this;cases this
      · exact h1 h.2.1
      · exact h1 h.2.2.1
      · exact h1 h.2.2.2.1
      · exact h1 h.2.2.2.2.1
  rename_i b1 hb1 hgood
  have hpre:CkpOkP job ckp/\(n1:Int)=job.srcs/\(n2:Int)=job.srcs/\(n3:Int)=job.tsks/\(n4:Int)=job.tsks:=by
    subst hA
    simp only [real,u5,v4,v7,w4,beqB,decide_eq_true_eq,decide_eq_false_iff_not,beqI,bneI,v6,w3,ne_eq,Classical.not_not,Bool.and_eq_true,Bool.or_eq_true,Bool.not_eq_true',Bool.not_eq_false',Bool.and_eq_false_iff,Bool.or_eq_false_iff,Bool.false_eq_true,and_false,false_and,or_false,false_or,and_true,true_and,not_true_eq_false,not_false_eq_true,true_iff,false_iff,Int.ofNat_eq_natCast,Int.toNat_natCast] at hgood
    have hgood:(((b1=true/\(n1:Int)=job.srcs)/\(n2:Int)=job.srcs)/\(n3:Int)=job.tsks)/\(n4:Int)=job.tsks:=hgood
    exact ⟨hb1.1 hgood.1.1.1.1,hgood.1.1.1.2,hgood.1.1.2,hgood.1.2,hgood.2⟩
  clear hgood
  have e12:n1=n2:=Int.ofNat.inj (hpre.2.1.trans hpre.2.2.1.symm)
  have e34:n3=n4:=Int.ofNat.inj (hpre.2.2.2.1.trans hpre.2.2.2.2.symm)
  have ea:n1=ckp.safe.at_.n:=Int.ofNat.inj (hpre.2.1.trans hpre.1.2.1.2.1.symm)
  refine i7 hA (α := { i:Nat // i<=n1/\∀ k,k<i->LogOkP (g1 k)/\(0<=(g2 k).at_/\(g2 k).at_<=((g1 k).n:Int))/\ckp.safe.at_.g k<=((g1 k).n:Int)/\(0<=(g2 k).wall/\(g2 k).wall<=ckp.n) }) (λx=>st_sfl0 job n1 g1 hn1 n2 g2 hn2 n3 g3 hn3 ckp n4 g4 hn4 x.1) (λx=>n1-x.1) ⟨0,Nat.zero_le _,λk h=>absurd h (Nat.not_lt_zero k)⟩ ?_ ?_
  · refine c7 ?_ ?_ ?_
    · cbv;try (subst hA;repeat' first|apply And.intro|exact True.intro|rfl)
    · cbv;try (subst hA;repeat' first|apply And.intro|exact True.intro|rfl)
    · cbv
  rintro ⟨i,hi,hk⟩
  cbv
  repeat' first|apply And.intro|exact True.intro|with_reducible rfl|exact b7 hA rfl|apply c8 hA<;>intro _|exact c6 hA id | (subst hA;exact λh=>h) | (refine c5 hA ?_;decide +kernel) | (refine d6 hA hM (c_sLogOk (g1 (A.nat (Int.ofNat i)))) (λ_ _ => ?_);cbv) | (refine d6 hA hM (c_l1In _ _ _) (λ_ _ => ?_);cbv) | (refine d8 hA λ_ => ?_;subst hA;have h9:(decide ((i:Int)<job.srcs))=true:=(by assumption);have h8:=of_decide_eq_true h9;rw [<- hpre.2.1] at h8;have h7:=Int.ofNat_lt.1 h8;first|exact ⟨Int.natCast_nonneg i,Int.ofNat_lt.2 h7⟩|exact ⟨Int.natCast_nonneg i,Int.ofNat_lt.2 (Nat.lt_of_lt_of_eq h7 e12)⟩|exact ⟨Int.natCast_nonneg i,Int.ofNat_lt.2 (Nat.lt_of_lt_of_eq h7 ea)⟩) | (refine d8 hA λ_ => ?_;subst hA;simp only [real,Bool.and_eq_true,Bool.not_eq_true',Bool.not_eq_false',decide_eq_true_eq,Int.ofNat_eq_natCast,IntKind.wrap_i64] at *;omega)|fail
  · rename_i hlt b1 hb1 b2 hb2 b3 hb3 hc
    have hlt':i<n1:=by subst hA;have h:(i:Int)<job.srcs:=of_decide_eq_true hlt;rw [<- hpre.2.1] at h;exact Int.ofNat_lt.1 h
    have hq:¬ (LogOkP (g1 i)/\(0<=(g2 i).at_/\(g2 i).at_<=((g1 i).n:Int))/\ckp.safe.at_.g i<=((g1 i).n:Int)/\(0<=(g2 i).wall/\(g2 i).wall<=ckp.n)):=by
      subst hA
      have hB1:b1=true↔LogOkP (g1 i):=hb1
      have hB2:b2=true↔(0<=(g2 i).at_/\(g2 i).at_<=((g1 i).n:Int)):=⟨λh=>of_decide_eq_true (hb2.symm.trans h),λh=>hb2.trans (decide_eq_true h)⟩
      have hB3:b3=true↔(0<=(g2 i).wall/\(g2 i).wall<=ckp.n):=⟨λh=>of_decide_eq_true (hb3.symm.trans h),λh=>hb3.trans (decide_eq_true h)⟩
      simp only [real,u5,v4,v7,w4,beqB,decide_eq_true_eq,decide_eq_false_iff_not,beqI,bneI,v6,w3,ne_eq,Classical.not_not,Bool.and_eq_true,Bool.or_eq_true,Bool.not_eq_true',Bool.not_eq_false',Bool.and_eq_false_iff,Bool.or_eq_false_iff,Bool.false_eq_true,and_false,false_and,or_false,false_or,and_true,true_and,not_true_eq_false,not_false_eq_true,true_iff,false_iff,Int.ofNat_eq_natCast,Int.toNat_natCast] at hc
      have hc:((b1=false\/b2=false)\/b3=false)\/ckp.safe.at_.g i>((g1 i).n:Int):=hc
      rintro ⟨h1,h2,h3,h4⟩
      rcases hc with ((h|h)|h)|h
      · have:=hB1.2 h1
        rw [h] at this;cases this
      · have:=hB2.2 h2
        rw [h] at this;cases this
      · have:=hB3.2 h4
        rw [h] at this;cases this
      · exact absurd h3 (Int.not_le.2 h)
    refine congrArg (λb=>XA.one (.c (.d (eB b)))) ?_
    cases b with
    | false=>rfl
    | true=>
      exfalso
      exact hq ((hb.1 rfl).2.2.2.2.2.1 i hlt')
  · rename_i hlt b1 hb1 b2 hb2 b3 hb3 hc
    have hlt':i<n1:=by subst hA;have h:(i:Int)<job.srcs:=of_decide_eq_true hlt;rw [<- hpre.2.1] at h;exact Int.ofNat_lt.1 h
    have hq:LogOkP (g1 i)/\(0<=(g2 i).at_/\(g2 i).at_<=((g1 i).n:Int))/\ckp.safe.at_.g i<=((g1 i).n:Int)/\(0<=(g2 i).wall/\(g2 i).wall<=ckp.n):=by
      subst hA
      have hB1:b1=true↔LogOkP (g1 i):=hb1
      have hB2:b2=true↔(0<=(g2 i).at_/\(g2 i).at_<=((g1 i).n:Int)):=⟨λh=>of_decide_eq_true (hb2.symm.trans h),λh=>hb2.trans (decide_eq_true h)⟩
      have hB3:b3=true↔(0<=(g2 i).wall/\(g2 i).wall<=ckp.n):=⟨λh=>of_decide_eq_true (hb3.symm.trans h),λh=>hb3.trans (decide_eq_true h)⟩
      simp only [real,u5,v4,v7,w4,beqB,decide_eq_true_eq,decide_eq_false_iff_not,beqI,bneI,v6,w3,ne_eq,Classical.not_not,Bool.and_eq_true,Bool.or_eq_true,Bool.not_eq_true',Bool.not_eq_false',Bool.and_eq_false_iff,Bool.or_eq_false_iff,Bool.false_eq_true,and_false,false_and,or_false,false_or,and_true,true_and,not_true_eq_false,not_false_eq_true,true_iff,false_iff,Int.ofNat_eq_natCast,Int.toNat_natCast] at hc
      have hc:((b1=true/\b2=true)/\b3=true)/\¬ ckp.safe.at_.g i>((g1 i).n:Int):=hc
      exact ⟨hB1.1 hc.1.1.1,hB2.1 hc.1.1.2,Int.not_lt.1 hc.2,hB3.1 hc.1.2⟩
    refine ⟨⟨i+1,by omega,λk hk' => ?_⟩,by simp only;omega,c7 ?_ ?_ ?_⟩
    · by_cases e:k=i
      · rw [e];exact hq
      · exact hk k (by omega)
    · cbv
      subst hA
      repeat' first|apply And.intro|exact True.intro|exact congrArg (λx=>DV.v (.int .i64 x)) (o0 hlt' hn1)|rfl | (intro k hk;exact t7 rfl _ _ _ _ k hk)
    · cbv;try (subst hA;repeat' first|apply And.intro|exact True.intro|rfl)
    · cbv
  rename_i hge
  have hall:∀ k,k<n1->LogOkP (g1 k)/\(0<=(g2 k).at_/\(g2 k).at_<=((g1 k).n:Int))/\ckp.safe.at_.g k<=((g1 k).n:Int)/\(0<=(g2 k).wall/\(g2 k).wall<=ckp.n):=λk hk'=>hk k (by subst hA;have h:¬ (i:Int)<job.srcs:=of_decide_eq_false hge;rw [<- hpre.2.1] at h;have h7:¬ i<n1:=λq=>h (Int.ofNat_lt.2 q);omega)
  clear hk hi hge
  have hall1:=hall
  clear hall
  refine i7 hA (α := { i:Nat // i<=n3/\∀ k,k<i->(s9 job (g3 k)/\(g3 k).wall<=ckp.n)/\w6 (g4 k) }) (λx=>st_sfl1 job n1 g1 hn1 n2 g2 hn2 n3 g3 hn3 ckp n4 g4 hn4 x.1) (λx=>n3-x.1) ⟨0,Nat.zero_le _,λk h=>absurd h (Nat.not_lt_zero k)⟩ ?_ ?_
  · refine c7 ?_ ?_ ?_
    · cbv;try (subst hA;repeat' first|apply And.intro|exact True.intro|rfl)
    · cbv;try (subst hA;repeat' first|apply And.intro|exact True.intro|rfl)
    · cbv
  rintro ⟨i,hi,hk⟩
  cbv
  repeat' first|apply And.intro|exact True.intro|with_reducible rfl|exact b7 hA rfl|apply c8 hA<;>intro _|exact c6 hA id | (subst hA;exact λh=>h) | (refine c5 hA ?_;decide +kernel) | (refine d6 hA hM (c_sTskOk job (g3 (A.nat (Int.ofNat i)))) (λ_ _ => ?_);cbv) | (refine d6 hA hM (c_sSinkOk (g4 (A.nat (Int.ofNat i)))) (λ_ _ => ?_);cbv) | (refine d8 hA λ_ => ?_;subst hA;have h9:(decide ((i:Int)<job.tsks))=true:=(by assumption);have h8:=of_decide_eq_true h9;rw [<- hpre.2.2.2.1] at h8;have h7:=Int.ofNat_lt.1 h8;first|exact ⟨Int.natCast_nonneg i,Int.ofNat_lt.2 h7⟩|exact ⟨Int.natCast_nonneg i,Int.ofNat_lt.2 (Nat.lt_of_lt_of_eq h7 e34)⟩) | (refine d8 hA λ_ => ?_;subst hA;simp only [real,Bool.and_eq_true,Bool.not_eq_true',Bool.not_eq_false',decide_eq_true_eq,Int.ofNat_eq_natCast,IntKind.wrap_i64] at *;omega)|fail
  · rename_i hlt b1 hb1 b2 hb2 hc
    have hlt':i<n3:=by subst hA;have h:(i:Int)<job.tsks:=of_decide_eq_true hlt;rw [<- hpre.2.2.2.1] at h;exact Int.ofNat_lt.1 h
    have hq:¬ ((s9 job (g3 i)/\(g3 i).wall<=ckp.n)/\w6 (g4 i)):=by
      subst hA
      have hB1:b1=true↔s9 job (g3 i):=hb1
      have hB2:b2=true↔w6 (g4 i):=hb2
      simp only [real,u5,v4,v7,w4,beqB,decide_eq_true_eq,decide_eq_false_iff_not,beqI,bneI,v6,w3,ne_eq,Classical.not_not,Bool.and_eq_true,Bool.or_eq_true,Bool.not_eq_true',Bool.not_eq_false',Bool.and_eq_false_iff,Bool.or_eq_false_iff,Bool.false_eq_true,and_false,false_and,or_false,false_or,and_true,true_and,not_true_eq_false,not_false_eq_true,true_iff,false_iff,Int.ofNat_eq_natCast,Int.toNat_natCast] at hc
      have hc:(b1=false\/(g3 i).wall>ckp.n)\/b2=false:=hc
      rintro ⟨⟨h1,h2⟩,h3⟩
      rcases hc with (h|h)|h
      · have:=hB1.2 h1
        rw [h] at this;cases this
      · exact absurd h2 (Int.not_le.2 h)
      · have:=hB2.2 h3
        rw [h] at this;cases this
    refine congrArg (λb=>XA.one (.c (.d (eB b)))) ?_
    cases b with
    | false=>rfl
    | true=>
      exfalso
      exact hq (⟨(hb.1 rfl).2.2.2.2.2.2.1 i hlt',(hb.1 rfl).2.2.2.2.2.2.2 i (Nat.lt_of_lt_of_eq hlt' e34)⟩)
  · rename_i hlt b1 hb1 b2 hb2 hc
    have hlt':i<n3:=by subst hA;have h:(i:Int)<job.tsks:=of_decide_eq_true hlt;rw [<- hpre.2.2.2.1] at h;exact Int.ofNat_lt.1 h
    have hq:(s9 job (g3 i)/\(g3 i).wall<=ckp.n)/\w6 (g4 i):=by
      subst hA
      have hB1:b1=true↔s9 job (g3 i):=hb1
      have hB2:b2=true↔w6 (g4 i):=hb2
      simp only [real,u5,v4,v7,w4,beqB,decide_eq_true_eq,decide_eq_false_iff_not,beqI,bneI,v6,w3,ne_eq,Classical.not_not,Bool.and_eq_true,Bool.or_eq_true,Bool.not_eq_true',Bool.not_eq_false',Bool.and_eq_false_iff,Bool.or_eq_false_iff,Bool.false_eq_true,and_false,false_and,or_false,false_or,and_true,true_and,not_true_eq_false,not_false_eq_true,true_iff,false_iff,Int.ofNat_eq_natCast,Int.toNat_natCast] at hc
      have hc:(b1=true/\¬ (g3 i).wall>ckp.n)/\b2=true:=hc
      exact ⟨⟨hB1.1 hc.1.1,Int.not_lt.1 hc.1.2⟩,hB2.1 hc.2⟩
    refine ⟨⟨i+1,by omega,λk hk' => ?_⟩,by simp only;omega,c7 ?_ ?_ ?_⟩
    · by_cases e:k=i
      · rw [e];exact hq
      · exact hk k (by omega)
    · cbv
      subst hA
      repeat' first|apply And.intro|exact True.intro|exact congrArg (λx=>DV.v (.int .i64 x)) (o0 hlt' hn3)|rfl | (intro k hk;exact t7 rfl _ _ _ _ k hk)
    · cbv;try (subst hA;repeat' first|apply And.intro|exact True.intro|rfl)
    · cbv
  rename_i hge
  have hall:∀ k,k<n3->(s9 job (g3 k)/\(g3 k).wall<=ckp.n)/\w6 (g4 k):=λk hk'=>hk k (by subst hA;have h:¬ (i:Int)<job.tsks:=of_decide_eq_false hge;rw [<- hpre.2.2.2.1] at h;have h7:¬ i<n3:=λq=>h (Int.ofNat_lt.2 q);omega)
  clear hk hi hge
  exact congrArg (λb=>XA.one (.c (.d (eB b)))) (hb.2 ⟨hpre.1,hpre.2.1,hpre.2.2.1,hpre.2.2.2.1,hpre.2.2.2.2,hall1,λk hk=>(hall k hk).1,λk hk=>(hall k (Nat.lt_of_lt_of_eq hk e34.symm)).2⟩).symm
set_option maxRecDepth 100000
set_option maxHeartbeats 1000000
theorem c_sAggBoth (a b c:AggT) (hc:c=aggB a b):d7 Tryz.prog 109 [xd (eAgg a),xd (eAgg b)] ⟨.one (xd (eAgg c)),[none,none]⟩:=by
  obtain ⟨n,s,l,m⟩:=a;obtain ⟨n2,s2,l2,m2⟩:=b;obtain ⟨n3,s3,l3,m3⟩:=c
  refine d5 (H:=[]) (EX:=EXA) l6 e8 Tryz.func109 rfl (by kernel_rfl) (by decide) ?_
  generalize hA:real=A
  generalize hM:d4 Tryz.prog=M
  cbv
  repeat' first|apply And.intro|exact True.intro|with_reducible rfl|exact b7 hA rfl|apply c8 hA<;>intro _|exact c6 hA id | (subst hA;exact λh=>h) | (refine c5 hA ?_;decide +kernel)|fail
  all_goals
    subst hA
    simp only [aggB,w64] at hc
    simp only [real,u5,v4,v7,w4,beqI,v6,decide_eq_true_eq,decide_eq_false_iff_not,gt_iff_lt] at *
    simp_all
theorem c_sAggAdd (a:AggT) (v:Int) (c:AggT) (hc:c=aggAdd a v):d7 Tryz.prog 89 [xd (eAgg a),.c (.d (eI v))] ⟨.one (xd (eAgg c)),[none,none]⟩:=by
  have h:=c_sAggBoth a (agg1 v) c hc
  obtain ⟨n,s,l,m⟩:=a
  refine d5 (H:=[]) (EX:=EXA) l6 e8 Tryz.func89 rfl (by kernel_rfl) (by decide) ?_
  generalize hA:real=A
  generalize hM:d4 Tryz.prog=M
  cbv
  repeat' first|apply And.intro|exact True.intro|with_reducible rfl|exact b7 hA rfl|apply c8 hA<;>intro _|exact c6 hA id | (subst hA;exact λh=>h) | (refine c5 hA ?_;decide +kernel) | (refine f7 hA hM _ h ?_;cbv)|fail
theorem c_sWinSpan (a b c:WinT) (hc:c=winSpan a b):d7 Tryz.prog 145 [xd (eWin a),xd (eWin b)] ⟨.one (xd (eWin c)),[none,none]⟩:=by
  obtain ⟨n,s⟩:=a;obtain ⟨n2,s2⟩:=b;obtain ⟨n3,s3⟩:=c
  refine d5 (H:=[]) (EX:=EXA) l6 e8 Tryz.func145 rfl (by kernel_rfl) (by decide) ?_
  generalize hA:real=A
  generalize hM:d4 Tryz.prog=M
  cbv
  repeat' first|apply And.intro|exact True.intro|with_reducible rfl|exact b7 hA rfl|apply c8 hA<;>intro _|exact c6 hA id | (subst hA;exact λh=>h) | (refine c5 hA ?_;decide +kernel)|fail
  all_goals
    subst hA
    simp only [winSpan] at hc
    simp only [real,u5,v4,v7,w4,beqI,v6,decide_eq_true_eq,decide_eq_false_iff_not,gt_iff_lt] at *
    simp_all
end Go.Rk
namespace Go.Rk
set_option linter.unusedSimpArgs false
set_option linter.unusedVariables false
theorem nz_of {A:Ar} (hA:real=A) {g:Bool} {n:Int} (h:n≠0):A.nz g n:=by subst hA;exact λ_=>h
end Go.Rk
