/- What else this law leans on: functions' answers at all data, no condition. -/
import Derived.Test.YtaddofloloopjaaGreatM15
namespace Go.Rk
set_option linter.unusedSimpArgs false
set_option linter.unusedVariables false
open Go.Proofs
set_option maxRecDepth 100000
set_option maxHeartbeats 2000000
theorem c_Mul64 (y:Int) (hy:y=1\/y=2\/y=3):d7 Tryz.prog 101 [.c (.d (.v (.int .u64 1))),.c (.d (.v (.int .u64 y)))] ⟨.tup [.c (.d (.v (.int .u64 0))),.c (.d (.v (.int .u64 y)))],[none,none]⟩:=by
  refine d5 (H:=[]) (EX:=EXA) l6 e8 Tryz.func101 rfl (by kernel_rfl) (by decide) ?_
  generalize hA:real=A
  generalize hM:d4 Tryz.prog=M
  cbv
  repeat' first|apply And.intro|exact True.intro|with_reducible rfl|exact b7 hA rfl|apply c8 hA<;>intro _|exact c6 hA id | (subst hA;exact λh=>h) | (refine c5 hA ?_;decide +kernel)|fail
  all_goals (subst hA;rcases hy with rfl|rfl|rfl<;>rfl)
theorem c_Mul (y:Int) (hy:y=1\/y=2\/y=3):d7 Tryz.prog 81 [.c (.d (.v (.int .u64 1))),.c (.d (.v (.int .u64 y)))] ⟨.tup [.c (.d (.v (.int .u64 0))),.c (.d (.v (.int .u64 y)))],[none,none]⟩:=by
  refine d5 (H:=[]) (EX:=EXA) l6 e8 Tryz.func81 rfl (by kernel_rfl) (by decide) ?_
  generalize hA:real=A
  generalize hM:d4 Tryz.prog=M
  cbv
  repeat' first|exact absurd (show false=true by assumption) (by decide)|apply And.intro|exact True.intro|with_reducible rfl|exact b7 hA rfl|apply c8 hA<;>intro _|exact c6 hA id | (subst hA;exact λh=>h) | (refine c5 hA ?_;decide +kernel) | (refine f7 hA hM _ (c_Mul64 y hy) ?_;cbv)|fail
def st_rep (n:Nat) (row:Nat->List DV) (m:Nat) (R:Nat->List DV):St:=⟨[(8,.c (.d (eI m))),(7,.c (.own 1920 0 n 1))],[(1920,1,.arr 1 n R)]⟩
theorem c_RepeatM1 (n:Nat) (h1:1<=n) (h3:n<=3) (row:Nat->List DV) (hrow:row 0=[eI (-1)]):d7 Tryz.prog 58 [.c (.d (.sl 1 1 row)),.c (.d (eI n))] ⟨.one (.c (.own 1 n λ_=>[eI (-1)])),[none,none]⟩:=by
  have hy:(n:Int)=1\/(n:Int)=2\/(n:Int)=3:=by omega
  have hw:IntKind.i64.wrap (n:Int)=n:=IntWalk.i64_in _ (by omega)
  have hu:IntKind.u64.wrap (n:Int)=n:=by rcases hy with h|h|h<;>rw [h]<;>rfl
  have hbad:∀ {A:Ar},real=A->A.cmp .lss (n:Int) 0=true->False:=λhA h=>by
    subst hA
    have h:decide ((n:Int)<0)=true:=h
    have:=of_decide_eq_true h
    omega
  have hbad2:∀ {A:Ar},real=A->A.bite (A.cmp .gtr 0 0) true (A.cmp .gtr (n:Int) 9223372036854775807)=true->False:=λhA h=>by
    subst hA
    have h:(bif decide ((0:Int)>0) then true else decide ((n:Int)>9223372036854775807))=true:=h
    have h:decide ((n:Int)>9223372036854775807)=true:=h
    have:=of_decide_eq_true h
    omega
  refine d5 (H:=[7,10]) (EX:=EXA) l6 e8 Tryz.func58 rfl (by kernel_rfl) (by decide) ?_
  generalize hA:real=A
  generalize hM:d4 Tryz.prog=M
  cbv
  repeat' first|exact (hbad hA (by assumption)).elim|exact (hbad2 hA (by assumption)).elim|apply And.intro|exact True.intro|with_reducible rfl|exact b7 hA rfl|apply c8 hA<;>intro _|exact c6 hA id | (subst hA;exact λh=>h) | (refine c5 hA ?_;decide +kernel) | (refine i9 hA hM _ (c_Mul n hy) (by subst hA;show [XT.c (.d (.v (.int .u64 (IntKind.u64.wrap 1)))),XT.c (.d (.v (.int .u64 (IntKind.u64.wrap (n:Int)))))]=_;rw [hu];rfl) ?_;cbv) | (subst hA;show 0<=IntKind.i64.wrap (n:Int)/\IntKind.i64.wrap (n:Int)=IntKind.i64.wrap (n:Int)/\IntKind.i64.wrap (n:Int)*8<=140737488355328/\IntKind.i64.wrap (n:Int)<=140737488355328;rw [hw];exact ⟨by omega,rfl,by omega,by omega⟩)|fail
  refine l9 hA ⟨[(0,.c (.d (.sl 1 1 row))),(7,.c (.own 1920 0 n 1))],[(1920,1,.arr 1 n λ_=>[eI 0])]⟩ (c7 ?_ ?_ ?_) ?_
  · subst hA
    have e:real.nat (real.wrap .i64 (Int.ofNat n))=n:=by show (IntKind.i64.wrap (n:Int)).toNat=n;rw [hw];exact Int.toNat_natCast n
    repeat' first|exact True.intro|exact rfl|exact e|apply And.intro
  · subst hA
    have e:real.nat (real.wrap .i64 (Int.ofNat n))=n:=by show (IntKind.i64.wrap (n:Int)).toNat=n;rw [hw];exact Int.toNat_natCast n
    repeat' first|exact True.intro|exact rfl|exact e|apply And.intro | (intro _ _;rfl)
  · subst hA;repeat' first|exact True.intro|exact rfl|apply And.intro|exact .inr (b8 rfl)|exact .inl rfl
  cbv
  repeat' first|apply And.intro|exact True.intro|with_reducible rfl|exact b7 hA rfl|apply c8 hA<;>intro _|exact c6 hA id | (subst hA;exact λh=>h) | (refine c5 hA ?_;decide +kernel)|fail
  refine i7 hA (α := { q:Nat × (Nat->List DV) // 1<=q.1/\q.1<=n/\∀ i,i<q.1->q.2 i=[eI (-1)] }) (λy=>st_rep n row y.1.1 y.1.2) (λy=>n-y.1.1) ⟨(1,λi=>if i<1 then [eI (-1)] else [eI 0]),Nat.le_refl _,h1,λi hi=>if_pos hi⟩ ?_ ?_
  · have e:real.mn (real.int n) (real.int 1)=1:=by
      show (if (1:Int)<(n:Int) then (1:Int) else (n:Int))=1
      split<;>omega
    refine c7 ?_ ?_ ?_
    · subst hA;repeat' first|exact True.intro|exact rfl|exact congrArg (λx=>DV.v (.int .i64 x)) e|apply And.intro
    · subst hA
      refine ⟨⟨rfl,rfl,λi hi => ?_⟩,trivial⟩
      show (if i<0 then [eI 0] else if i-0<(real.mn (real.int n) (real.int 1)).toNat then row (i-0) else [eI 0])=if i<1 then [eI (-1)] else [eI 0]
      rw [if_neg (by omega),e]
      by_cases c:i<1
      · rw [if_pos c,if_pos (by simpa using c),show i-0=0 by omega,hrow]
      · rw [if_neg c,if_neg (by simpa using c)]
    · subst hA;repeat' first|exact True.intro|exact rfl|apply And.intro|exact .inr (b8 rfl)|exact .inl rfl
  rintro ⟨⟨m,R⟩,hm1,hmn,hR⟩
  have hm1:1<=m:=hm1
  have hmn:m<=n:=hmn
  have hR:∀ i,i<m->R i=[eI (-1)]:=hR
  cbv
  repeat' first|apply And.intro|exact True.intro|with_reducible rfl|exact b7 hA rfl|apply c8 hA<;>intro _|exact c6 hA id | (subst hA;exact λh=>h) | (refine c5 hA ?_;decide +kernel) | (subst hA;show _/\_;simp only [real];refine ⟨by omega,by omega,by omega⟩) | (subst hA;exact ⟨Int.natCast_nonneg _,Int.ofNat_le.2 hmn,Int.le_refl _⟩) | (subst hA;exact ⟨Int.le_refl _,Int.natCast_nonneg _,Int.ofNat_le.2 hmn⟩)|fail
  · rename_i hlt
    have hlt':m<n:=by subst hA;have h:((m:Int)<(n:Int)):=of_decide_eq_true hlt;omega
    obtain ⟨k,hk⟩:∃ k:Nat,k=min (n-m) m:=⟨_,rfl⟩
    have e8:real.mn (real.int (real.dif (real.int n) (Int.ofNat m))) (real.int (real.dif (Int.ofNat m) 0))=(k:Int):=by
      show (if ((((m:Int)-0).toNat:Nat):Int)<((((n:Int)-(m:Int)).toNat:Nat):Int) then ((((m:Int)-0).toNat:Nat):Int) else ((((n:Int)-(m:Int)).toNat:Nat):Int))=_
      rw [hk];split<;>omega
    have hkp:1<=k/\m+k<=n/\k<=m:=by rw [hk];omega
    have e9:real.ar .add .i64 (Int.ofNat m) (real.mn (real.int (real.dif (real.int n) (Int.ofNat m))) (real.int (real.dif (Int.ofNat m) 0)))=((m+k:Nat):Int):=by
      rw [e8]
      show IntKind.i64.wrap ((m:Int)+(k:Int))=_
      rw [IntWalk.i64_in _ (by omega)];omega
    refine ⟨⟨(m+k,λi=>if i<m then R i else if i-m<k then R (i-m) else R i),by simp only;omega,by simp only;omega,λi hi => ?_⟩,by simp only;omega,c7 ?_ ?_ ?_⟩
    · simp only at hi ⊢
      by_cases c:i<m
      · rw [if_pos c];exact hR i c
      · rw [if_neg c,if_pos (by omega)];exact hR _ (by omega)
    · subst hA;repeat' first|exact True.intro|exact rfl|exact congrArg (λx=>DV.v (.int .i64 x)) e9|apply And.intro
    · subst hA
      refine ⟨⟨rfl,rfl,λi hi => ?_⟩,trivial⟩
      show (if i<0+m then R i else if i-(0+m)<(real.mn (real.int (real.dif (real.int n) (Int.ofNat m))) (real.int (real.dif (Int.ofNat m) 0))).toNat then R (0+0+(i-(0+m))) else R (0+m+(real.mn (real.int (real.dif (real.int n) (Int.ofNat m))) (real.int (real.dif (Int.ofNat m) 0))).toNat+(i-(0+m)-(real.mn (real.int (real.dif (real.int n) (Int.ofNat m))) (real.int (real.dif (Int.ofNat m) 0))).toNat)))=if i<m then R i else if i-m<k then R (i-m) else R i
      rw [e8,Int.toNat_natCast,Nat.zero_add]
      by_cases c:i<m
      · rw [if_pos c,if_pos c]
      · rw [if_neg c,if_neg c]
        by_cases c2:i-m<k
        · rw [if_pos c2,if_pos c2];congr 1;omega
        · rw [if_neg c2,if_neg c2];congr 1;omega
    · subst hA;repeat' first|exact True.intro|exact rfl|apply And.intro|exact .inr (b8 rfl)|exact .inl rfl
  · rename_i hge
    have hin:m=n:=by
      subst hA
      have:¬ ((m:Int)<(n:Int)):=of_decide_eq_false hge
      omega
    subst hin
    refine l9 hA ⟨[(7,.c (.own 1920 0 m 1))],[(1920,1,.arr 1 m λ_=>[eI (-1)])]⟩ (c7 ?_ ?_ ?_) ?_
    · subst hA;repeat' first|exact True.intro|exact rfl|apply And.intro
    · subst hA;exact ⟨⟨rfl,rfl,λi hi=>hR i hi⟩,trivial⟩
    · subst hA;repeat' first|exact True.intro|exact rfl|apply And.intro|exact .inr (b8 rfl)|exact .inl rfl
    cbv
    repeat' first|apply And.intro|exact True.intro|with_reducible rfl|exact b7 hA rfl|apply c8 hA<;>intro _|exact c6 hA id | (subst hA;exact λh=>h) | (refine c5 hA ?_;decide +kernel)|fail
end Go.Rk
namespace Go.Rk
set_option linter.unusedSimpArgs false
set_option linter.unusedVariables false
theorem bd_zSnp:bdSnap zSnp:=⟨Nat.zero_le _,Nat.zero_le _⟩
end Go.Rk
namespace Go.Rk
set_option linter.unusedSimpArgs false
set_option linter.unusedVariables false
open Go.Proofs
set_option maxRecDepth 100000
set_option maxHeartbeats 2000000
def EXIdle:FuncId->List Nat × Bool:=λf=>bif nbeq f 1 then ([9801],false) else  ([],false)
theorem k_idle (x:CkpT) (a b:Nat) (ha1:1<=a) (ha3:a<=3) (hb1:1<=b) (hb2:b<=2) (r2 r3 r4 r5 r6 r7 r8 r9:DV) :
    MeetsO Tryz.prog 35 [.c (.bp 320 1 0),.agg [.d (eI (a:Int)),.d (eI (b:Int)),.d r2,.d r3,.d r4,.d r5,.d r6,.d r7,.d r8,.d r9]] [(320,1,.box [.d (eI x.n),.d (eB x.opn),.own 770 0 x.src.n 1,.own 771 0 x.tsk.n 1,.nown 772 x.snaps.n 1,.d (eI x.safe.n),.own 774 0 x.safe.at_.n 1,.nown 775 x.safe.snaps.n 1]),(770,1,.arr 1 x.src.n λi=>[eI (x.src.g i)]),(771,1,.arr 1 x.tsk.n λi=>[eB (x.tsk.g i)]),(772,1,.nest 3 x.snaps.n (λi=>d9 (x.snaps.g i)) none),(774,1,.arr 1 x.safe.at_.n λi=>[eI (x.safe.at_.g i)]),(775,1,.nest 3 x.safe.snaps.n (λi=>d9 (x.safe.snaps.g i)) none)] (.tup []) [(320,1,.box [.d (eI x.n),.d (eB false),.own 10633 0 a 1,.own 10825 0 b 1,.own 11017 0 b 1,.d (eI x.safe.n),.own 774 0 x.safe.at_.n 1,.nown 775 x.safe.snaps.n 1]),(770,1,.arr 1 x.src.n λi=>[eI (x.src.g i)]),(771,1,.arr 1 x.tsk.n λi=>[eB (x.tsk.g i)]),(772,1,.nest 3 x.snaps.n (λi=>d9 (x.snaps.g i)) none),(774,1,.arr 1 x.safe.at_.n λi=>[eI (x.safe.at_.g i)]),(775,1,.nest 3 x.safe.snaps.n (λi=>d9 (x.safe.snaps.g i)) none),(10633,1,.arr 1 a λ_=>[eI (-1)]),(10825,1,.arr 1 b λ_=>[eB false]),(11017,1,.arr 3 b λ_=>[eI 0,.v c9,.v c9]),(9993,1,.dead),(10441,1,.dead)]:=by
  refine inl_of (EX:=EXIdle) l6 e8 Tryz.func35 rfl (by kernel_rfl) (by decide) (by kernel_rfl) rfl rfl ?_
  generalize hA:real=A
  generalize hM:d4 Tryz.prog=M9
  cbv
  repeat' first|apply And.intro|exact True.intro|with_reducible rfl|exact b7 hA rfl|apply c8 hA<;>intro _|exact c6 hA id | (subst hA;exact λh=>h) | (refine c5 hA ?_;decide +kernel) | (intro _ _;rfl) | (refine i9 hA hM _ (c_RepeatM1 a ha1 ha3 _ rfl) (by subst hA;rfl) ?_;cbv) | (subst hA;show 0<=(b:Int)/\(b:Int)=(b:Int)/\(b:Int)*_<=140737488355328/\(b:Int)<=140737488355328;refine ⟨by omega,rfl,by omega,by omega⟩) | (subst hA;exact flatR λ_=>flat_int _) | (subst hA;rfl) | (intro _ _;subst hA;rfl)|fail
end Go.Rk
namespace Go.Rk
set_option linter.unusedSimpArgs false
set_option linter.unusedVariables false
open Go.Proofs
set_option maxRecDepth 100000
set_option maxHeartbeats 2000000
def EXCCkpDrop:FuncId->List Nat × Bool:=λf=>bif nbeq f 35 then ([99],false) else ([],false)
theorem c_CkpDrop (j:JobT) (x:CkpT) (hb:bdCkp x) (y:CkpT) (hy:y=dropP j x):d7 Tryz.prog 15 [xd (u7 j),xd (eCkp x)] ⟨.one (.agg [.d (eI y.n),.d (eB y.opn),.own 1 y.src.n λi=>[eI (y.src.g i)],.own 1 y.tsk.n λi=>[eB (y.tsk.g i)],.nown 3 y.snaps.n λi=>d9 (y.snaps.g i),.d (eI y.safe.n),.own 1 y.safe.at_.n λi=>[eI (y.safe.at_.g i)],.nown 3 y.safe.snaps.n λi=>d9 (y.safe.snaps.g i)]),[none,none]⟩:=by
  obtain ⟨t,ht,hm⟩:=c_CkpOk j x
  have hcp:=c_CkpCopied x hb
  cases t with
  | false=>
    have hno:¬ CkpOkP j x:=λh=>by have:=ht.2 h;cases this
    obtain rfl:y=zCkp:=by rw [hy];unfold dropP;rw [dif_neg hno]
    refine meets_wk (r:=.one (.agg [.d (eI 0),.d (eB false),.d (.v c9),.d (.v c9),.d (.v c9),.d (eI 0),.d (.v c9),.d (.v c9)])) ?_ (by repeat' first|exact True.intro|exact rfl|exact DLe.rfl|exact NLe.rfl|exact nle_nil _ _|apply And.intro | (intro _ _;exact LsLe.rfl) | (intro _ _;exact NsLe.rfl)|exact (flatR λ_=>flatL ⟨⟨_,rfl⟩,⟨_,rfl⟩,⟨_,rfl⟩,trivial⟩)|exact (flatR λ_=>⟨⟨_,rfl⟩,⟨_,rfl⟩,⟨_,rfl⟩,trivial⟩) | (intro _ _;exact ⟨NLe.rfl,nle_nil _ _,nle_nil _ _,trivial⟩))
    refine d5 (H:=[]) (EX:=EXCCkpDrop) l6 e8 Tryz.func15 rfl (by kernel_rfl) (by decide) ?_
    generalize hA:real=A
    generalize hM:d4 Tryz.prog=M
    cbv
    repeat' first|exact absurd (show false=true by subst hA;assumption) (by decide)|exact absurd (show true=false by subst hA;assumption) (by decide)|apply And.intro|exact True.intro|with_reducible rfl|exact b7 hA rfl|apply c8 hA<;>intro _|exact c6 hA id | (subst hA;exact λh=>h) | (refine c5 hA ?_;decide +kernel) | (refine f7 hA hM _ hm ?_;cbv)|fail
  | true=>
    have hok:CkpOkP j x:=ht.1 rfl
    have ea:=jobS (ckpJob hok)
    have eb:=jobT (ckpJob hok)
    obtain ⟨a,ha⟩:∃ a:Nat,a=j.srcs.toNat:=⟨_,rfl⟩
    obtain ⟨b,hbb⟩:∃ b:Nat,b=j.tsks.toNat:=⟨_,rfl⟩
    obtain ⟨ha1,ha3,ja⟩:1<=a/\a<=3/\(a:Int)=j.srcs:=by rw [ha];exact ea
    obtain ⟨hb1,hb2,jb⟩:1<=b/\b<=2/\(b:Int)=j.tsks:=by rw [hbb];exact eb
    obtain rfl:y=⟨x.n,false,⟨a,λ_ => -1,t8 ha3⟩,⟨b,λ_=>false,t8 (Nat.le_trans hb2 (by decide))⟩,⟨b,λ_=>zSnp,t8 (Nat.le_trans hb2 (by decide))⟩,x.safe⟩:=by
      rw [hy];unfold dropP;rw [dif_pos hok];unfold idleP;subst ha hbb;rfl
    obtain ⟨j0,j1,j2,j3,j4,j5,j6,j7,j8,j9⟩:=j
    obtain rfl:(a:Int)=j0:=ja
    obtain rfl:(b:Int)=j1:=jb
    refine meets_wk (r:=.one (.agg [.d (eI x.n),.d (eB false),.own 1 a λ_=>[eI (-1)],.own 1 b λ_=>[eB false],.own 3 b λ_=>[eI 0,.v c9,.v c9],.d (eI x.safe.n),.own 1 x.safe.at_.n λi=>[eI (x.safe.at_.g i)],.nown 3 x.safe.snaps.n λi=>d9 (x.safe.snaps.g i)])) ?_ (by repeat' first|exact True.intro|exact rfl|exact DLe.rfl|exact NLe.rfl|exact nle_nil _ _|apply And.intro | (intro _ _;exact LsLe.rfl) | (intro _ _;exact NsLe.rfl)|exact (flatR λ_=>flatL ⟨⟨_,rfl⟩,⟨_,rfl⟩,⟨_,rfl⟩,trivial⟩)|exact (flatR λ_=>⟨⟨_,rfl⟩,⟨_,rfl⟩,⟨_,rfl⟩,trivial⟩) | (intro _ _;exact ⟨NLe.rfl,nle_nil _ _,nle_nil _ _,trivial⟩))
    refine d5 (H:=[]) (EX:=EXCCkpDrop) l6 e8 Tryz.func15 rfl (by kernel_rfl) (by decide) ?_
    generalize hA:real=A
    generalize hM:d4 Tryz.prog=M
    cbv
    repeat' first|exact absurd (show false=true by subst hA;assumption) (by decide)|exact absurd (show true=false by subst hA;assumption) (by decide)|apply And.intro|exact True.intro|with_reducible rfl|exact b7 hA rfl|apply c8 hA<;>intro _|exact c6 hA id | (subst hA;exact λh=>h) | (refine c5 hA ?_;decide +kernel) | (refine f7 hA hM _ hm ?_;cbv) | (refine f7 hA hM _ hcp ?_;cbv) | (refine inl_call hA _ _ _ ⟨λ_=>(by rw [<- hM];exact (k_idle x a b ha1 ha3 hb1 hb2 (eI j2) (eI j3) (eI j4) (eI j5) (eI j6) (eB j7) (eI j8) (eI j9))),(by cbv;repeat' first|apply And.intro|exact True.intro|rfl|exact .inr trivial|exact .inl trivial),?_⟩;cbv)|fail
end Go.Rk
namespace Go.Rk
set_option linter.unusedSimpArgs false
set_option linter.unusedVariables false
open Go.Proofs
set_option maxRecDepth 100000
set_option maxHeartbeats 2000000
def EXSCkpDrop:FuncId->List Nat × Bool:=λf =>  ([],false)
theorem c_sCkpDrop (j:JobT) (x:CkpT) (hb:bdCkp x) (y:CkpT) (hy:y=dropP j x):d7 Tryz.prog 16 [xd (u7 j),xd (eCkp x)] ⟨.one (xd (eCkp y)),[none,none]⟩:=by
  obtain ⟨t,ht,hm⟩:=c_sCkpOk j x hb
  have hcp:=c_sCkp x hb
  cases t with
  | false=>
    have hno:¬ CkpOkP j x:=λh=>by have:=ht.2 h;cases this
    obtain rfl:y=zCkp:=by rw [hy];unfold dropP;rw [dif_neg hno]
    refine meets_wk (r:=.one (.agg [.d (eI 0),.d (eB false),.d (.v c9),.d (.v c9),.d (.v c9),.d (eI 0),.d (.v c9),.d (.v c9)])) ?_ (by repeat' first|exact True.intro|exact rfl|exact DLe.rfl|exact f8 _ _|apply And.intro | (intro _ _;exact LsLe.rfl) | (refine dle_sl λ_ _ => ?_;exact ⟨DLe.rfl,f8 _ _,f8 _ _,trivial⟩))
    refine d5 (H:=[]) (EX:=EXSCkpDrop) l6 e8 Tryz.func16 rfl (by kernel_rfl) (by decide) ?_
    generalize hA:real=A
    generalize hM:d4 Tryz.prog=M
    cbv
    repeat' first|exact absurd (show false=true by subst hA;assumption) (by decide)|exact absurd (show true=false by subst hA;assumption) (by decide)|apply And.intro|exact True.intro|with_reducible rfl|exact b7 hA rfl|apply c8 hA<;>intro _|exact c6 hA id | (subst hA;exact λh=>h) | (refine c5 hA ?_;decide +kernel) | (refine f7 hA hM _ hm ?_;cbv)|fail
  | true=>
    have hok:CkpOkP j x:=ht.1 rfl
    have ea:=jobS (ckpJob hok)
    have eb:=jobT (ckpJob hok)
    obtain ⟨a,ha⟩:∃ a:Nat,a=j.srcs.toNat:=⟨_,rfl⟩
    obtain ⟨b,hbb⟩:∃ b:Nat,b=j.tsks.toNat:=⟨_,rfl⟩
    obtain ⟨ha1,ha3,ja⟩:1<=a/\a<=3/\(a:Int)=j.srcs:=by rw [ha];exact ea
    obtain ⟨hb1,hb2,jb⟩:1<=b/\b<=2/\(b:Int)=j.tsks:=by rw [hbb];exact eb
    obtain rfl:y=⟨x.n,false,⟨a,λ_ => -1,t8 ha3⟩,⟨b,λ_=>false,t8 (Nat.le_trans hb2 (by decide))⟩,⟨b,λ_=>zSnp,t8 (Nat.le_trans hb2 (by decide))⟩,x.safe⟩:=by
      rw [hy];unfold dropP;rw [dif_pos hok];unfold idleP;subst ha hbb;rfl
    obtain ⟨j0,j1,j2,j3,j4,j5,j6,j7,j8,j9⟩:=j
    obtain rfl:(a:Int)=j0:=ja
    obtain rfl:(b:Int)=j1:=jb
    refine d5 (H:=[]) (EX:=EXSCkpDrop) l6 e8 Tryz.func16 rfl (by kernel_rfl) (by decide) ?_
    generalize hA:real=A
    generalize hM:d4 Tryz.prog=M
    cbv
    repeat' first|exact absurd (show false=true by subst hA;assumption) (by decide)|exact absurd (show true=false by subst hA;assumption) (by decide)|apply And.intro|exact True.intro|with_reducible rfl|exact b7 hA rfl|apply c8 hA<;>intro _|exact c6 hA id | (subst hA;exact λh=>h) | (refine c5 hA ?_;decide +kernel) | (refine f7 hA hM _ hm ?_;cbv) | (refine f7 hA hM _ hcp ?_;cbv) | (refine f7 hA hM _ (c_l9Drop a b ha3 hb2 (eI j2) (eI j3) (eI j4) (eI j5) (eI j6) (eB j7) (eI j8) (eI j9) x) ?_;cbv)|fail
end Go.Rk
namespace Go.Rk
set_option linter.unusedSimpArgs false
set_option linter.unusedVariables false
open Go.Proofs
set_option maxRecDepth 100000
set_option maxHeartbeats 20000000
theorem x_drawDrop (M0:Nat) (b:Nat->Int) (hb:∀ i,0<=b i/\b i<=255):∃ y:JobT × CkpT,bdCkp y.2/\d7 Tryz.prog 14 [.c (.d (.sl 1 M0 λi=>[eU (b i)]))] ⟨.tup [xd (u7 y.1),xd (eCkp y.2)],[none]⟩:=by
  obtain ⟨m,hmm⟩:∃ m:Nat,m=if 2000<M0 then 2000 else M0:=⟨_,rfl⟩
  have hm:m<=2000:=by rw [hmm];split<;>omega
  have ho:=m_open M0 b m hmm
  obtain ⟨⟨⟨j,c⟩,qc⟩,⟨hc0,hc1,hc⟩,mB⟩:=x_ckp m hm b hb 0 ⟨Int.le_refl _,by decide⟩
  dsimp only at hc0 hc1 hc mB
  refine u0 (H:=[]) (EX:=EXD) l6 e8 ([none]) Tryz.func14 rfl (by kernel_rfl) (by decide) (λ_=>rfl) ?_
  generalize hA:real=A
  generalize hM:d4 Tryz.prog=M
  cbv
  repeat' first|apply And.intro|exact True.intro|with_reducible rfl|exact b7 hA rfl|apply c8 hA<;>intro _|exact c6 hA id | (subst hA;exact λh=>h) | (refine c5 hA ?_;decide +kernel) | (refine f7 hA hM _ ho ?_;cbv) | (refine f7 hA hM _ mB ?_;cbv) | (refine b7 hA ?_;subst hA;rfl)|fail
  refine i8 hA ⟨(j,c),hc,by (subst hA;rfl),?_,rfl⟩
  (subst hA;repeat' first|apply And.intro|exact True.intro|exact DLe.rfl|exact f8 _ _ |  exact m9 rfl)
end Go.Rk
namespace Go.Rk
set_option linter.unusedSimpArgs false
set_option linter.unusedVariables false
open Go.Proofs
set_option maxRecDepth 100000
set_option maxHeartbeats 4000000
theorem idle_bdy {j:JobT} (h:t9 j) {x:CkpT} (hb:bdSafe x.safe):bdCkp (idleP j h x):=by
  have e1:=jobS h
  have e2:=jobT h
  have d:(3:Nat)<=1048576:=by decide
  exact ⟨by show j.srcs.toNat<=_;omega,by show j.tsks.toNat<=_;omega,by show j.tsks.toNat<=_;omega,λ_ _=>bd_zSnp,hb⟩
theorem if_CkpDrop (hd:∀ (M0:Nat) (b:Nat->Int),(∀ i,0<=b i/\b i<=255)->∃ y:JobT × CkpT,bdCkp y.2/\d7 Tryz.prog 14 [.c (.d (.sl 1 M0 λi=>[eU (b i)]))] ⟨.tup [xd (u7 y.1),xd (eCkp y.2)],[none]⟩)
    (M0:Nat) (b:Nat->Int) (hb:∀ i,0<=b i/\b i<=255):d7 Tryz.prog 4 [.c (.d (.sl 1 M0 λi=>[eU (b i)]))] ⟨.one (.c (.d (eB true))),[none]⟩:=by
  refine d5 (H:=[]) (EX:=EXA) l6 e8 Tryz.func4 rfl (by kernel_rfl) (by decide) ?_
  generalize hA:real=A
  generalize hM:d4 Tryz.prog=M
  cbv
  repeat' first|apply And.intro|exact True.intro|with_reducible rfl|exact b7 hA rfl|apply c8 hA<;>intro _|exact c6 hA id | (subst hA;exact λh=>h) | (refine c5 hA ?_;decide +kernel) | (refine d6 hA hM (hd M0 b hb) ?_;rintro ⟨j,c⟩ hbd;cbv)|fail
  have hbd:bdCkp c:=hbd
  obtain ⟨y,hy⟩:∃ y,y=dropP j c:=⟨_,rfl⟩
  have hI:d7 Tryz.prog 15 [xd (u7 j),xd (eCkp c)] ⟨.one (xd (eCkp y)),[none,none]⟩:=meets_frz (c_CkpDrop j c hbd y hy) rfl
  have hS:=c_sCkpDrop j c hbd y hy
  obtain ⟨t,ht,hJ⟩:=c_sCkpOk j c hbd
  obtain ⟨u,hu,hK⟩:=c_CkpOk j y
  by_cases hj:CkpOkP j c
  · obtain rfl:t=true:=ht.2 hj
    have hoky:CkpOkP j y:=by rw [hy];exact drop_ok hj
    obtain rfl:u=true:=hu.2 hoky
    have hF:=c_frCkp y
    have ey:y=idleP j (ckpJob hj) c:=by rw [hy];unfold dropP;rw [dif_pos hj]
    obtain ⟨S,hSS⟩:∃ S,S=(idleP j (ckpJob hj) c).src:=⟨_,rfl⟩
    obtain ⟨T,hTT⟩:∃ T,T=(idleP j (ckpJob hj) c).tsk:=⟨_,rfl⟩
    obtain ⟨N,hNN⟩:∃ N,N=(idleP j (ckpJob hj) c).snaps:=⟨_,rfl⟩
    have ey:y=⟨c.n,false,S,T,N,c.safe⟩:=by rw [ey,hSS,hTT,hNN];rfl
    have hbdy:bdCkp y:=by
      rw [ey,hSS,hTT,hNN]
      exact (idle_bdy (ckpJob hj) hbd.2.2.2.2)
    have hdd:y=dropP j y:=by
      have h:dropP j y=idleP j (ckpJob hoky) y:=dif_pos hoky
      rw [h]
      clear h hI hS hF hK hu hy
      subst ey
      show _=(⟨c.n,false,(idleP j (ckpJob hj) c).src,(idleP j (ckpJob hj) c).tsk,(idleP j (ckpJob hj) c).snaps,c.safe⟩:CkpT)
      rw [<- hSS,<- hTT,<- hNN]
    have hII:d7 Tryz.prog 15 [xd (u7 j),xd (eCkp y)] ⟨.one (xd (eCkp y)),[none,none]⟩:=meets_frz (c_CkpDrop j y hbdy y hdd) rfl
    clear hdd hy hbdy
    subst ey
    have hFS:=c_frSnaps c.safe.snaps.n c.safe.snaps.hn c.safe.snaps.g
    have hFI:=c_frInts c.safe.at_.n c.safe.at_.hn c.safe.at_.g
    repeat' first|exact absurd (show false=true by subst hA;assumption) (by decide)|exact absurd (show true=false by subst hA;assumption) (by decide)|apply And.intro|exact True.intro|with_reducible rfl|exact b7 hA rfl|apply c8 hA<;>intro _|exact c6 hA id | (subst hA;exact λh=>h) | (refine c5 hA ?_;decide +kernel) | (refine f7 hA hM _ hI ?_;cbv) | (refine f7 hA hM _ hII ?_;cbv) | (refine f7 hA hM _ hS ?_;cbv) | (refine f7 hA hM _ hJ ?_;cbv) | (refine f7 hA hM _ hK ?_;cbv) | (refine f7 hA hM _ hF ?_;cbv) | (refine f7 hA hM _ c_frOk ?_;cbv) | (refine f7 hA hM _ hFS ?_;cbv) | (refine f7 hA hM _ hFI ?_;cbv)|fail
    subst hA
    refine congrArg (λb=>XA.one (.c (.d (eB b)))) ?_
    show (bif (bif (bif (bif (bif (bif !false then (c.n==c.n) else false) then (c.safe.n==c.safe.n) else false) then true else false) then true else false) then true else false) then true else false)=true
    rw [beq_self_eq_true,beq_self_eq_true]
    rfl
  · obtain rfl:t=false:=by
      cases t
      · rfl
      · exact absurd (ht.1 rfl) hj
    have ey:y=zCkp:=by rw [hy];exact dif_neg hj
    subst ey
    have hF:=c_frCkp zCkp
    have hFZ:=c_frZ
    repeat' first|exact absurd (show false=true by subst hA;assumption) (by decide)|exact absurd (show true=false by subst hA;assumption) (by decide)|apply And.intro|exact True.intro|with_reducible rfl|exact b7 hA rfl|apply c8 hA<;>intro _|exact c6 hA id | (subst hA;exact λh=>h) | (refine c5 hA ?_;decide +kernel) | (refine f7 hA hM _ hI ?_;cbv) | (refine f7 hA hM _ hS ?_;cbv) | (refine f7 hA hM _ hJ ?_;cbv) | (refine f7 hA hM _ hK ?_;cbv) | (refine f7 hA hM _ hF ?_;cbv) | (refine f7 hA hM _ hFZ ?_;cbv) | (refine f7 hA hM _ c_frOk ?_;cbv) | (subst hA;rfl)|fail
end Go.Rk
