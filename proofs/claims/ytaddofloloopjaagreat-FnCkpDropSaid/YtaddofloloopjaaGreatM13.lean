/- What each of this seat's functions answers, at all data, part 13: no condition. -/
import Derived.Test.YtaddofloloopjaaGreatM6
import Derived.Test.YtaddofloloopjaaGreatM9
import Derived.Test.YtaddofloloopjaaGreatM11
import Derived.Test.YtaddofloloopjaaGreatM12
namespace Go.Rk
set_option linter.unusedSimpArgs false
set_option linter.unusedVariables false
open Go.Proofs
set_option maxRecDepth 100000
set_option maxHeartbeats 2000000
def OpenP (s:SinkT) (safe:Int):Prop:=0<s.ready.n/\safe<(s.ready.g (s.ready.n-1)).n
theorem last_ix {n:Nat} (h:0<n) (hn:n<=maxLen):IntKind.i64.wrap ((n:Int)-1)=((n-1:Nat):Int):=by
  have hb:(maxLen:Nat)=9223372036854775807:=by decide
  rw [IntWalk.i64_in _ (by omega)];omega
theorem gtr_t {A:Ar} (hA:real=A) {a b:Int} (h:A.cmp .gtr a b=true):b<a:=by
  subst hA;exact of_decide_eq_true h
theorem pos_of {A:Ar} (hA:real=A) {n:Nat} (h:A.cmp .gtr (A.int n) 0=true):0<n:=by
  subst hA
  have h:(n:Int)>0:=of_decide_eq_true h
  omega
theorem and_t {A:Ar} (hA:real=A) {a b:Bool} (h:A.bite a b false=true):a=true/\b=true:=by
  subst hA
  have h:(bif a then b else false)=true:=h
  cases a with
  | true=>exact ⟨rfl,h⟩
  | false=>cases h
theorem and_f {A:Ar} (hA:real=A) {a b:Bool} (h:A.bite a b false=false) (ha:a=true):b=false:=by
  subst hA
  subst ha
  exact h
theorem last_nat {A:Ar} (hA:real=A) {n:Nat} (hn:n<=maxLen) (h:0<n):A.nat (A.ar .sub .i64 (A.int n) 1)=n-1:=by
  subst hA
  show (IntKind.i64.wrap ((n:Int)-1)).toNat=n-1
  rw [last_ix h hn];rfl
theorem inb_last {A:Ar} (hA:real=A) {g:Bool} {n:Nat} (hn:n<=maxLen) (h:g=true->0<n):A.inb g (A.ar .sub .i64 (A.int n) 1) n:=by
  subst hA
  intro hg
  have h0:=h hg
  show 0<=IntKind.i64.wrap ((n:Int)-1)/\IntKind.i64.wrap ((n:Int)-1)<(n:Int)
  rw [last_ix h0 hn];omega
theorem open_of {A:Ar} (hA:real=A) {s:SinkT} {safe:Int} (h:A.bite (A.cmp .gtr (A.int s.ready.n) 0) (A.cmp .gtr (s.ready.g (A.nat (A.ar .sub .i64 (A.int s.ready.n) 1))).n safe) false=true):OpenP s safe:=by
  obtain ⟨h1,h2⟩:=and_t hA h
  have h0:=pos_of hA h1
  have h2:=gtr_t hA h2
  rw [last_nat hA s.ready.hn h0] at h2
  exact ⟨h0,h2⟩
theorem not_open {A:Ar} (hA:real=A) {s:SinkT} {safe:Int} (h:A.bite (A.cmp .gtr (A.int s.ready.n) 0) (A.cmp .gtr (s.ready.g (A.nat (A.ar .sub .i64 (A.int s.ready.n) 1))).n safe) false=false):¬ OpenP s safe:=λ⟨h0,h1⟩=>by
  have hg:A.cmp .gtr (A.int s.ready.n) 0=true:=by
    subst hA;exact decide_eq_true (show (s.ready.n:Int)>0 by omega)
  have h2:=and_f hA h hg
  rw [last_nat hA s.ready.hn h0] at h2
  have:=gtr_f hA h2
  omega
theorem x_openT (s:SinkT) (safe:Int) (h:OpenP s safe):d7 Tryz.prog 136 [xd (s0 s),.c (.d (eI safe))] ⟨.tup [xd (eTxn (s.ready.g (s.ready.n-1))),.c (.d (eB true))],[none,none]⟩:=by
  have hL:s.ready.n<=maxLen:=s.ready.hn
  refine d5 (H:=[]) (EX:=EXA) l6 e8 Tryz.func136 rfl (by kernel_rfl) (by decide) ?_
  generalize hA:real=A
  generalize hM:d4 Tryz.prog=M
  cbv
  repeat' first|exact absurd (show false=true by subst hA;assumption) (by decide)|exact absurd (show true=false by subst hA;assumption) (by decide)|exact (not_open hA (by assumption) h).elim|apply And.intro|exact True.intro|with_reducible rfl|exact b7 hA rfl|apply c8 hA<;>intro _|exact c6 hA id | (subst hA;exact λh=>h) | (refine c5 hA ?_;decide +kernel) | (refine b7 hA ?_;subst hA;rfl)|exact inb_last hA hL (λhg=>pos_of hA hg)|exact inb_last hA hL (λ_=>h.1)|fail
  · exact congrArg (λi=>XA.tup [xd (eTxn (s.ready.g i)),.c (.d (eB true))]) (last_nat hA hL h.1)
theorem x_openF (s:SinkT) (safe:Int) (h:¬ OpenP s safe):d7 Tryz.prog 136 [xd (s0 s),.c (.d (eI safe))] ⟨.tup [.agg [.d (eI 0),.d (.v c9),.d (.v c9)],.c (.d (eB false))],[none,none]⟩:=by
  have hL:s.ready.n<=maxLen:=s.ready.hn
  refine d5 (H:=[]) (EX:=EXA) l6 e8 Tryz.func136 rfl (by kernel_rfl) (by decide) ?_
  generalize hA:real=A
  generalize hM:d4 Tryz.prog=M
  cbv
  repeat' first|exact absurd (show false=true by subst hA;assumption) (by decide)|exact absurd (show true=false by subst hA;assumption) (by decide)|exact (h (open_of hA (by assumption))).elim|apply And.intro|exact True.intro|with_reducible rfl|exact b7 hA rfl|apply c8 hA<;>intro _|exact c6 hA id | (subst hA;exact λh=>h) | (refine c5 hA ?_;decide +kernel) | (refine b7 hA ?_;subst hA;rfl)|exact inb_last hA hL (λhg=>pos_of hA hg)|fail
theorem x_open (s:SinkT) (safe:Int):∃ y:TxnT × Bool,((y.2=true/\OpenP s safe/\y.1=s.ready.g (s.ready.n-1))\/(y.2=false/\¬ OpenP s safe))/\d7 Tryz.prog 136 [xd (s0 s),.c (.d (eI safe))] ⟨.tup [xd (eTxn y.1),.c (.d (eB y.2))],[none,none]⟩:=by
  by_cases h:OpenP s safe
  · exact ⟨(_,true),.inl ⟨rfl,h,rfl⟩,x_openT s safe h⟩
  · exact ⟨(zTxn,false),.inr ⟨rfl,h⟩,meets_wk (x_openF s safe h) ⟨⟨DLe.rfl,f8 9 _,f8 7 _,trivial⟩,DLe.rfl,trivial⟩⟩
set_option maxHeartbeats 20000000
theorem x_drop9 (j:JobT) (x:CkpT) (h:CkpOkP j x) (y:CkpT) (hy:y=dropP j x):d7 Tryz.prog 36 [xd (u7 j),xd (eCkp x)] ⟨.one (xd (eCkp y)),[none,none]⟩:=by
  have e:dropP j x=idleP j (ckpJob h) x:=dif_pos h
  have ea:=jobS (ckpJob h)
  have eb:=jobT (ckpJob h)
  have hc:=c_l9Drop j.srcs.toNat j.tsks.toNat ea.2.1 eb.2.1 (eI j.kind) (eI j.size) (eI j.step) (eI j.late) (eI j.tell) (eB j.piece) (eI j.least) (eI j.room) x
  have e1:eI ((j.srcs.toNat:Nat):Int)=eI j.srcs:=by rw [ea.2.2]
  have e2:eI ((j.tsks.toNat:Nat):Int)=eI j.tsks:=by rw [eb.2.2]
  rw [e1,e2] at hc
  rw [hy,e];exact hc
theorem x_tskNew (j:JobT) (s:OpStT) (ms:Sl Int) (h:OpOkP j s/\MarksP j ms) (t:TskT) (ht:t=tskT s ms):d7 Tryz.prog 107 [xd (u7 j),.agg [.d (eI s.mark),.d (.sl 13 s.rows.n λi=>i6 (s.rows.g i))],.c (.d (.sl 1 ms.n λi=>[eI (ms.g i)]))] ⟨.one (xd (v9 t)),[none,none,none]⟩:=by
  have hn:=op_bd h.1
  have hn2:s.rows.n<=1080000:=Nat.le_trans hn (by decide)
  rw [ht]
  exact meets_wk (meets_frz (c_sTskNew_ok j s hn2 ms h) rfl) (le_tskT s ms)
def st_cr1 (f:FloT) (c:CkpT) (i:Nat) (G:Nat->SrcT):St:=⟨[(3,.c (.d (eI i))),(1,.c (.bp 64 1 0)),(2,.c (.bp 128 1 0))],[(11,1,.arr 2 (i4 f c).srcs.n λi=>eSrc (G i)),(12,1,.arr 7 (i4 f c).tasks.n λi=>v9 ((i4 f c).tasks.g i)),(13,1,.arr 4 (i4 f c).sinks.n λi=>s0 ((i4 f c).sinks.g i)),(64,1,.box [.d (eI (i4 f c).job.srcs),.d (eI (i4 f c).job.tsks),.d (eI (i4 f c).job.kind),.d (eI (i4 f c).job.size),.d (eI (i4 f c).job.step),.d (eI (i4 f c).job.late),.d (eI (i4 f c).job.tell),.d (eB (i4 f c).job.piece),.d (eI (i4 f c).job.least),.d (eI (i4 f c).job.room),.d (.sl 1 (i4 f c).logs.n λi=>[.sl 5 ((i4 f c).logs.g i).n λk=>n9 (((i4 f c).logs.g i).g k)]),.own 11 0 (i4 f c).srcs.n 1,.own 12 0 (i4 f c).tasks.n 1,.own 13 0 (i4 f c).sinks.n 1,.d (eI (i4 f c).ckp.n),.d (eB (i4 f c).ckp.opn),.d (.sl 1 (i4 f c).ckp.src.n λi=>[eI ((i4 f c).ckp.src.g i)]),.d (.sl 1 (i4 f c).ckp.tsk.n λi=>[eB ((i4 f c).ckp.tsk.g i)]),.d (.sl 3 (i4 f c).ckp.snaps.n λi=>d9 ((i4 f c).ckp.snaps.g i)),.d (eI (i4 f c).ckp.safe.n),.d (.sl 1 (i4 f c).ckp.safe.at_.n λi=>[eI ((i4 f c).ckp.safe.at_.g i)]),.d (.sl 3 (i4 f c).ckp.safe.snaps.n λi=>d9 ((i4 f c).ckp.safe.snaps.g i))]),(128,1,.box [.d (eI 0),.d (eI 0),.d (eI 0),.d (eI 0),.d (eI 0),.d (eI 0),.d (eI 0),.d (eB false),.d (eI 0),.d (eI 0),.d (.v c9),.d (.v c9),.d (.v c9),.d (.v c9),.d (eI 0),.d (eB false),.d (.v c9),.d (.v c9),.d (.v c9),.d (eI 0),.d (.v c9),.d (.v c9)])]⟩
def st_cr2 (f:FloT) (c:CkpT) (G:Nat->SrcT) (i:Nat) (GT:Nat->TskT) (GS:Nat->SinkT):St:=⟨[(4,.c (.d (eI i))),(1,.c (.bp 64 1 0)),(2,.c (.bp 128 1 0))],[(11,1,.arr 2 (i4 f c).srcs.n λi=>eSrc (G i)),(12,1,.arr 7 (i4 f c).tasks.n λi=>v9 (GT i)),(13,1,.arr 4 (i4 f c).sinks.n λi=>s0 (GS i)),(64,1,.box [.d (eI (i4 f c).job.srcs),.d (eI (i4 f c).job.tsks),.d (eI (i4 f c).job.kind),.d (eI (i4 f c).job.size),.d (eI (i4 f c).job.step),.d (eI (i4 f c).job.late),.d (eI (i4 f c).job.tell),.d (eB (i4 f c).job.piece),.d (eI (i4 f c).job.least),.d (eI (i4 f c).job.room),.d (.sl 1 (i4 f c).logs.n λi=>[.sl 5 ((i4 f c).logs.g i).n λk=>n9 (((i4 f c).logs.g i).g k)]),.own 11 0 (i4 f c).srcs.n 1,.own 12 0 (i4 f c).tasks.n 1,.own 13 0 (i4 f c).sinks.n 1,.d (eI (i4 f c).ckp.n),.d (eB (i4 f c).ckp.opn),.d (.sl 1 (i4 f c).ckp.src.n λi=>[eI ((i4 f c).ckp.src.g i)]),.d (.sl 1 (i4 f c).ckp.tsk.n λi=>[eB ((i4 f c).ckp.tsk.g i)]),.d (.sl 3 (i4 f c).ckp.snaps.n λi=>d9 ((i4 f c).ckp.snaps.g i)),.d (eI (i4 f c).ckp.safe.n),.d (.sl 1 (i4 f c).ckp.safe.at_.n λi=>[eI ((i4 f c).ckp.safe.at_.g i)]),.d (.sl 3 (i4 f c).ckp.safe.snaps.n λi=>d9 ((i4 f c).ckp.safe.snaps.g i))]),(128,1,.box [.d (eI 0),.d (eI 0),.d (eI 0),.d (eI 0),.d (eI 0),.d (eI 0),.d (eI 0),.d (eB false),.d (eI 0),.d (eI 0),.d (.v c9),.d (.v c9),.d (.v c9),.d (.v c9),.d (eI 0),.d (eB false),.d (.v c9),.d (.v c9),.d (.v c9),.d (eI 0),.d (.v c9),.d (.v c9)])]⟩
def st_cr3 (f:FloT) (c:CkpT) (G:Nat->SrcT) (i:Nat) (GT:Nat->TskT) (GS:Nat->SinkT) (k:Nat) (r:Sl TxnT):St:=⟨[(7,.c (.d (eI k))),(6,.c (.own 4544 0 r.n 1)),(4,.c (.d (eI i))),(1,.c (.bp 64 1 0)),(2,.c (.bp 128 1 0))],[(11,1,.arr 2 (i4 f c).srcs.n λi=>eSrc (G i)),(12,1,.arr 7 (i4 f c).tasks.n λi=>v9 (GT i)),(13,1,.arr 4 (i4 f c).sinks.n λi=>s0 (GS i)),(4544,1,.arr 3 r.n λq=>eTxn (r.g q)),(64,1,.box [.d (eI (i4 f c).job.srcs),.d (eI (i4 f c).job.tsks),.d (eI (i4 f c).job.kind),.d (eI (i4 f c).job.size),.d (eI (i4 f c).job.step),.d (eI (i4 f c).job.late),.d (eI (i4 f c).job.tell),.d (eB (i4 f c).job.piece),.d (eI (i4 f c).job.least),.d (eI (i4 f c).job.room),.d (.sl 1 (i4 f c).logs.n λi=>[.sl 5 ((i4 f c).logs.g i).n λk=>n9 (((i4 f c).logs.g i).g k)]),.own 11 0 (i4 f c).srcs.n 1,.own 12 0 (i4 f c).tasks.n 1,.own 13 0 (i4 f c).sinks.n 1,.d (eI (i4 f c).ckp.n),.d (eB (i4 f c).ckp.opn),.d (.sl 1 (i4 f c).ckp.src.n λi=>[eI ((i4 f c).ckp.src.g i)]),.d (.sl 1 (i4 f c).ckp.tsk.n λi=>[eB ((i4 f c).ckp.tsk.g i)]),.d (.sl 3 (i4 f c).ckp.snaps.n λi=>d9 ((i4 f c).ckp.snaps.g i)),.d (eI (i4 f c).ckp.safe.n),.d (.sl 1 (i4 f c).ckp.safe.at_.n λi=>[eI ((i4 f c).ckp.safe.at_.g i)]),.d (.sl 3 (i4 f c).ckp.safe.snaps.n λi=>d9 ((i4 f c).ckp.safe.snaps.g i))]),(128,1,.box [.d (eI 0),.d (eI 0),.d (eI 0),.d (eI 0),.d (eI 0),.d (eI 0),.d (eI 0),.d (eB false),.d (eI 0),.d (eI 0),.d (.v c9),.d (.v c9),.d (.v c9),.d (.v c9),.d (eI 0),.d (eB false),.d (.v c9),.d (.v c9),.d (.v c9),.d (eI 0),.d (.v c9),.d (.v c9)])]⟩
theorem x_crash (f:FloT) (B:Int) (hB:0<=B) (h:FInv B f):∃ y:FloT,FInv B y/\d7 Tryz.prog 118 [.agg [.d (eI f.job.srcs),.d (eI f.job.tsks),.d (eI f.job.kind),.d (eI f.job.size),.d (eI f.job.step),.d (eI f.job.late),.d (eI f.job.tell),.d (eB f.job.piece),.d (eI f.job.least),.d (eI f.job.room),.d (.sl 1 f.logs.n λi=>[.sl 5 (f.logs.g i).n λk=>n9 ((f.logs.g i).g k)]),.own 2 f.srcs.n λi=>eSrc (f.srcs.g i),.own 7 f.tasks.n λi=>v9 (f.tasks.g i),.own 4 f.sinks.n λi=>s0 (f.sinks.g i),.d (eI f.ckp.n),.d (eB f.ckp.opn),.d (.sl 1 f.ckp.src.n λi=>[eI (f.ckp.src.g i)]),.d (.sl 1 f.ckp.tsk.n λi=>[eB (f.ckp.tsk.g i)]),.d (.sl 3 f.ckp.snaps.n λi=>d9 (f.ckp.snaps.g i)),.d (eI f.ckp.safe.n),.d (.sl 1 f.ckp.safe.at_.n λi=>[eI (f.ckp.safe.at_.g i)]),.d (.sl 3 f.ckp.safe.snaps.n λi=>d9 (f.ckp.safe.snaps.g i))]] ⟨.one (xd (eFlo y)),[none]⟩:=by
  obtain ⟨c,hc⟩:∃ c,c=dropP f.job f.ckp:=⟨_,rfl⟩
  have mD:=x_drop9 f.job f.ckp h.ok.1 c hc
  have hF:FInv B (i4 f c):=by rw [hc];exact finv_drop hB h
  have ok:=hF.ok
  have hso:SafeOkP f.job c.safe:=ok.1.2.1
  have hs3:(f.srcs.n:Int)=f.job.srcs:=ok.2.2.1
  have ht3:(f.tasks.n:Int)=f.job.tsks:=ok.2.2.2.1
  have hk3:(f.sinks.n:Int)=f.job.tsks:=ok.2.2.2.2.1
  have hat:c.safe.at_.n=f.srcs.n:=Int.ofNat.inj (hso.2.1.trans hs3.symm)
  have hsn:c.safe.snaps.n=f.tasks.n:=Int.ofNat.inj (hso.2.2.2.1.trans ht3.symm)
  have hkt:f.sinks.n=f.tasks.n:=Int.ofNat.inj (hk3.trans ht3.symm)
  have hL1:f.srcs.n<=maxLen:=f.srcs.hn
  have hL2:f.tasks.n<=maxLen:=f.tasks.hn
  have hss:∀ i,i<f.sinks.n->w6 (f.sinks.g i):=ok.2.2.2.2.2.2.2
  refine u0 (H:=[18]) (EX:=EXA) l6 e8 ([none]) Tryz.func118 rfl (by kernel_rfl) (by decide) (λ_=>rfl) ?_
  generalize hA:real=A
  generalize hM:d4 Tryz.prog=M
  cbv
  repeat' first|exact absurd (show false=true by subst hA;assumption) (by decide)|exact absurd (show true=false by subst hA;assumption) (by decide)|apply And.intro|exact True.intro|with_reducible rfl|exact b7 hA rfl|apply c8 hA<;>intro _|exact c6 hA id | (subst hA;exact λh=>h) | (refine c5 hA ?_;decide +kernel) | (refine i9 hA hM _ mD (by (subst hA;first|rfl | (simp only [p6];done) | (simp only [p6];rfl))) ?_;cbv) | (refine b7 hA ?_;subst hA;rfl)|fail
  refine i7 hA (α := { y:Nat × (Nat->SrcT) // y.1<=f.srcs.n/\∀ q,q<y.1->y.2 q=⟨c.safe.at_.g q,c.n⟩ }) (λy=>st_cr1 f c y.1.1 y.1.2) (λy=>f.srcs.n-y.1.1) ⟨(0,f.srcs.g),Nat.zero_le _,λq hq=>absurd hq (Nat.not_lt_zero q)⟩ ?_ ?_
  · refine c7 ?_ ?_ ?_
    iterate 3 focus (subst hA;repeat' first|exact True.intro|exact rfl |  apply And.intro | (intro _ _;rfl) | (intro _ _ _;rfl) | (intro q hq;exact absurd hq (Nat.not_lt_zero q))|exact .inr (b8 rfl)|exact .inl rfl|exact .inr (Nat.le_refl _)|fail)
  rintro ⟨⟨i,G⟩,hi,hG⟩
  have hi:i<=f.srcs.n:=hi
  have hG:∀ q,q<i->G q=⟨c.safe.at_.g q,c.n⟩:=hG
  cbv
  repeat' first|apply And.intro|exact True.intro|with_reducible rfl|exact b7 hA rfl|apply c8 hA<;>intro _|exact c6 hA id | (subst hA;exact λh=>h) | (refine c5 hA ?_;decide +kernel) | (refine d8 hA λ_ => ?_;have hlt9:i<f.srcs.n:=(by first|exact f9 hA (by assumption)|exact l5 hA (by assumption));exact ⟨Int.natCast_nonneg i,Int.ofNat_lt.2 (hlt9)⟩) | (refine d8 hA λ_ => ?_;have hlt9:i<f.srcs.n:=(by first|exact f9 hA (by assumption)|exact l5 hA (by assumption));exact ⟨Int.natCast_nonneg i,Int.ofNat_lt.2 (Nat.lt_of_lt_of_eq hlt9 hat.symm)⟩) | (refine b7 hA ?_;subst hA;rfl)|fail
  · rename_i hlt
    have hlt':i<f.srcs.n:=(by first|exact f9 hA (by assumption)|exact l5 hA (by assumption))
    obtain ⟨G',hG'⟩:∃ r:Nat->SrcT,r=λq=>if q=i then ⟨c.safe.at_.g i,c.n⟩ else G q:=⟨_,rfl⟩
    have hrow:∀ ix l,ix=i->l=eSrc ⟨c.safe.at_.g i,c.n⟩->∀ q,q<f.srcs.n->real.upd (λq=>eSrc (G q)) ix l q=eSrc (G' q):=λix l e1 e2 q _=>by
      rw [hG'];exact upd_rows e1 e2 q
    have hnew:∀ q,q<i+1->G' q=⟨c.safe.at_.g q,c.n⟩:=λq hq=>by
      rw [hG']
      show (if q=i then (⟨c.safe.at_.g i,c.n⟩:SrcT) else G q)=_
      by_cases e:q=i
      · rw [if_pos e,e]
      · rw [if_neg e];exact hG q (by omega)
    refine ⟨⟨(i+1,G'),hlt',hnew⟩,by simp only;omega,c7 ?_ ?_ ?_⟩
    iterate 3 focus (subst hA;repeat' first|exact True.intro|exact rfl|exact congrArg (λx=>DV.v (.int .i64 x)) (o0 hlt' hL1)|exact hrow _ _ (Nat.zero_add i) rfl|exact (λq hq _=>hrow _ _ (Nat.zero_add i) rfl q hq) |  apply And.intro | (intro _ _;rfl) | (intro _ _ _;rfl) | (intro q hq;exact absurd hq (Nat.not_lt_zero q))|exact .inr (b8 rfl)|exact .inl rfl|exact .inr (Nat.le_refl _)|fail)
  have hin:i=f.srcs.n:=by
    rename_i hge
    subst hA
    have:¬ ((i:Int)<(f.srcs.n:Int)):=of_decide_eq_false hge
    omega
  subst hin
  clear hi
  repeat' first|apply And.intro|exact True.intro|with_reducible rfl|exact b7 hA rfl|apply c8 hA<;>intro _|exact c6 hA id | (subst hA;exact λh=>h) | (refine c5 hA ?_;decide +kernel) | (refine b7 hA ?_;subst hA;rfl)|fail
  refine i7 hA (α := { y:Nat × (Nat->TskT) × (Nat->SinkT) // y.1<=f.tasks.n/\(∀ q,q<y.1->y.2.1 q=anewT (c.safe.snaps.g q) c.n)/\(∀ q,q<f.sinks.n->w6 (y.2.2 q))/\∀ q,y.1<=q->y.2.2 q=f.sinks.g q }) (λy=>st_cr2 f c G y.1.1 y.1.2.1 y.1.2.2) (λy=>f.tasks.n-y.1.1) ⟨(0,f.tasks.g,f.sinks.g),Nat.zero_le _,λq hq=>absurd hq (Nat.not_lt_zero q),hss,λ_ _=>rfl⟩ ?_ ?_
  · refine c7 ?_ ?_ ?_
    iterate 3 focus (subst hA;repeat' first|exact True.intro|exact rfl |  apply And.intro | (intro _ _;rfl) | (intro _ _ _;rfl) | (intro q hq;exact absurd hq (Nat.not_lt_zero q))|exact .inr (b8 rfl)|exact .inl rfl|exact .inr (Nat.le_refl _)|fail)
  rintro ⟨⟨i,GT,GS⟩,hi,hT,hS,hS0⟩
  have hi:i<=f.tasks.n:=hi
  have hT:∀ q,q<i->GT q=anewT (c.safe.snaps.g q) c.n:=hT
  have hS:∀ q,q<f.sinks.n->w6 (GS q):=hS
  have hS0:∀ q,i<=q->GS q=f.sinks.g q:=hS0
  have hGSi:=hS0 i (Nat.le_refl i)
  obtain ⟨t,ht⟩:∃ t,t=tskT (c.safe.snaps.g i).op (c.safe.snaps.g i).marks:=⟨_,rfl⟩
  cbv
  repeat' first|apply And.intro|exact True.intro|with_reducible rfl|exact b7 hA rfl|apply c8 hA<;>intro _|exact c6 hA id | (subst hA;exact λh=>h) | (refine c5 hA ?_;decide +kernel) | (refine d8 hA λ_ => ?_;have hlt9:i<f.tasks.n:=(by first|exact f9 hA (by assumption)|exact l5 hA (by assumption));exact ⟨Int.natCast_nonneg i,Int.ofNat_lt.2 (hlt9)⟩) | (refine d8 hA λ_ => ?_;have hlt9:i<f.tasks.n:=(by first|exact f9 hA (by assumption)|exact l5 hA (by assumption));exact ⟨Int.natCast_nonneg i,Int.ofNat_lt.2 (Nat.lt_of_lt_of_eq hlt9 hsn.symm)⟩) | (refine d8 hA λ_ => ?_;have hlt9:i<f.tasks.n:=(by first|exact f9 hA (by assumption)|exact l5 hA (by assumption));exact ⟨Int.natCast_nonneg i,Int.ofNat_lt.2 (Nat.lt_of_lt_of_eq hlt9 hkt.symm)⟩) | (have hlt9:i<f.tasks.n:=(by first|exact f9 hA (by assumption)|exact l5 hA (by assumption));have hsk9:=hso.2.2.2.2 i (Nat.lt_of_lt_of_eq hlt9 hsn.symm);refine i9 hA hM _ (x_tskNew f.job (c.safe.snaps.g i).op (c.safe.snaps.g i).marks ⟨hsk9.1,hsk9.2.1⟩ t ht) (by (subst hA;rfl)) ?_;cbv) | (refine b7 hA ?_;subst hA;rfl)|fail
  · rename_i hlt
    have hlt':i<f.tasks.n:=(by first|exact f9 hA (by assumption)|exact l5 hA (by assumption))
    have hlk:i<f.sinks.n:=by rw [hkt];exact hlt'
    have hso2:=hss i hlk
    have hrL:(f.sinks.g i).ready.n<=maxLen:=(f.sinks.g i).ready.hn
    have hr12:=hso2.1
    obtain ⟨GT',hGT'⟩:∃ r:Nat->TskT,r=λq=>if q=i then anewT (c.safe.snaps.g i) c.n else GT q:=⟨_,rfl⟩
    have hrow:∀ ix l,ix=i->l=v9 (anewT (c.safe.snaps.g i) c.n)->∀ q,q<f.tasks.n->real.upd (λq=>v9 (GT q)) ix l q=v9 (GT' q):=λix l e1 e2 q _=>by
      rw [hGT'];exact upd_rows e1 e2 q
    have hte:[.sl 3 t.ins.n λi=>l8 (t.ins.g i),eI t.op.mark,.sl 13 t.op.rows.n λi=>i6 (t.op.rows.g i),eI c.n,eI t.pend.n,.sl 9 t.pend.panes.n λi=>m6 (t.pend.panes.g i),.sl 7 t.pend.lates.n λi=>eLat (t.pend.lates.g i)]=v9 (anewT (c.safe.snaps.g i) c.n):=by rw [ht];rfl
    have hTn:∀ q,q<i+1->GT' q=anewT (c.safe.snaps.g q) c.n:=λq hq=>by
      rw [hGT']
      show (if q=i then anewT (c.safe.snaps.g i) c.n else GT q)=_
      by_cases e:q=i
      · rw [if_pos e,e]
      · rw [if_neg e];exact hT q (by omega)
    refine i7 hA (α := { y:Nat × Sl TxnT // y.1<=(f.sinks.g i).ready.n/\CmI (f.sinks.g i) y.1 ⟨y.2,(f.sinks.g i).n,(f.sinks.g i).panes,(f.sinks.g i).lates⟩ }) (λy=>st_cr3 f c G i GT' GS y.1.1 y.1.2) (λy=>(f.sinks.g i).ready.n-y.1.1) ⟨(0,⟨0,λ_=>zTxn,Nat.zero_le _⟩),Nat.zero_le _,cm_zero hso2⟩ ?_ ?_
    · refine c7 ?_ ?_ ?_
      iterate 3 focus (subst hA;repeat' first|exact True.intro|exact rfl|exact hrow _ _ (Nat.zero_add i) hte|exact (λq hq _=>hrow _ _ (Nat.zero_add i) hte q hq) |  apply And.intro | (intro _ _;rfl) | (intro _ _ _;rfl) | (intro q hq;exact absurd hq (Nat.not_lt_zero q))|exact .inr (b8 rfl)|exact .inl rfl|exact .inr (Nat.le_refl _)|fail)
    rintro ⟨⟨k,r⟩,hk,hcm⟩
    have hk:k<=(f.sinks.g i).ready.n:=hk
    have hcm:CmI (f.sinks.g i) k ⟨r,(f.sinks.g i).n,(f.sinks.g i).panes,(f.sinks.g i).lates⟩:=hcm
    have hrf:r.n<=k:=hcm.few
    have hlen:∀ ix,ix=i->(GS ix).ready.n=(f.sinks.g i).ready.n:=λix e=>by rw [e,hGSi]
    have hel:∀ ix,ix=i->eTxn ((GS ix).ready.g k)=eTxn ((f.sinks.g i).ready.g k):=λix e=>by rw [e,hGSi]
    cbv
    repeat' first|exact absurd (show false=true by subst hA;assumption) (by decide)|exact absurd (show true=false by subst hA;assumption) (by decide)|apply And.intro|exact True.intro|with_reducible rfl|exact b7 hA rfl|apply c8 hA<;>intro _|exact c6 hA id | (subst hA;exact λh=>h) | (refine c5 hA ?_;decide +kernel) | (refine d8 hA λ_=>⟨Int.natCast_nonneg i,Int.ofNat_lt.2 hlk⟩) | (refine d8 hA λ_=>⟨Int.natCast_nonneg k,Int.ofNat_lt.2 (by first|exact f9 hA (by assumption)|exact l5 hA (by assumption))⟩) | (refine b7 hA ?_;subst hA;rfl)|exact f6 hA (show r.n+1<=2000000 by omega) (by decide)|fail
    · skip
      have hk':k<(f.sinks.g i).ready.n:=by
        have h9:k<(GS (A.add 0 (A.nat (Int.ofNat i)))).ready.n:=by first|exact f9 hA (by assumption)|exact l5 hA (by assumption)
        subst hA
        have key:∀ ix,ix=i->k<(GS ix).ready.n->k<(f.sinks.g i).ready.n:=λix e h8=>by rw [hlen ix e] at h8;exact h8
        exact key _ (Nat.zero_add i) h9
      have hrm:r.n+1<=maxLen:=Nat.le_trans (show r.n+1<=13 by omega) (by decide)
      refine ⟨⟨(k+1,⟨r.n+1,λq=>if q<r.n then r.g q else (f.sinks.g i).ready.g k,hrm⟩),hk',cm_push (a:=⟨r,(f.sinks.g i).n,(f.sinks.g i).panes,(f.sinks.g i).lates⟩) (hm:=hrm) hso2 hcm hk'⟩,by simp only;omega,c7 ?_ ?_ ?_⟩
      iterate 3 focus (subst hA;repeat' first|exact True.intro|exact rfl|exact congrArg (λx=>DV.v (.int .i64 x)) (o0 hk' hrL)|exact push_rows (R':=λq=>eTxn (if q<r.n then r.g q else (f.sinks.g i).ready.g k)) (λq hq=>congrArg eTxn (if_pos hq).symm) ((hel _ (Nat.zero_add i)).trans (congrArg eTxn (if_neg (Nat.lt_irrefl _)).symm))|exact (λq hq _=>push_rows (R':=λq=>eTxn (if q<r.n then r.g q else (f.sinks.g i).ready.g k)) (λq hq=>congrArg eTxn (if_pos hq).symm) ((hel _ (Nat.zero_add i)).trans (congrArg eTxn (if_neg (Nat.lt_irrefl _)).symm)) q hq) |  apply And.intro | (intro _ _;rfl) | (intro _ _ _;rfl) | (intro q hq;exact absurd hq (Nat.not_lt_zero q))|exact .inr (b8 rfl)|exact .inl rfl|exact .inr (Nat.le_refl _)|fail)
    · skip
      have hk':k<(f.sinks.g i).ready.n:=by
        have h9:k<(GS (A.add 0 (A.nat (Int.ofNat i)))).ready.n:=by first|exact f9 hA (by assumption)|exact l5 hA (by assumption)
        subst hA
        have key:∀ ix,ix=i->k<(GS ix).ready.n->k<(f.sinks.g i).ready.n:=λix e h8=>by rw [hlen ix e] at h8;exact h8
        exact key _ (Nat.zero_add i) h9
      refine ⟨⟨(k+1,r),hk',cm_skip hcm⟩,by simp only;omega,c7 ?_ ?_ ?_⟩
      iterate 3 focus (subst hA;repeat' first|exact True.intro|exact rfl|exact congrArg (λx=>DV.v (.int .i64 x)) (o0 hk' hrL) |  apply And.intro | (intro _ _;rfl) | (intro _ _ _;rfl) | (intro q hq;exact absurd hq (Nat.not_lt_zero q))|exact .inr (b8 rfl)|exact .inl rfl|exact .inr (Nat.le_refl _)|fail)
    rename_i hge
    have hkn:k=(f.sinks.g i).ready.n:=by
      subst hA
      have key:∀ ix,ix=i->decide ((k:Int)<((GS ix).ready.n:Int))=false->k=(f.sinks.g i).ready.n:=λix e h8=>by
        have h8:=of_decide_eq_false h8
        rw [hlen ix e] at h8;omega
      exact key _ (Nat.zero_add i) hge
    refine l9 hA ⟨[(6,.c (.d (.sl 3 r.n λq=>eTxn (r.g q)))),(4,.c (.d (eI i))),(1,.c (.bp 64 1 0)),(2,.c (.bp 128 1 0))],[(11,1,.arr 2 (i4 f c).srcs.n λi=>eSrc (G i)),(12,1,.arr 7 (i4 f c).tasks.n λi=>v9 (GT' i)),(13,1,.arr 4 (i4 f c).sinks.n λi=>s0 (GS i)),(64,1,.box [.d (eI (i4 f c).job.srcs),.d (eI (i4 f c).job.tsks),.d (eI (i4 f c).job.kind),.d (eI (i4 f c).job.size),.d (eI (i4 f c).job.step),.d (eI (i4 f c).job.late),.d (eI (i4 f c).job.tell),.d (eB (i4 f c).job.piece),.d (eI (i4 f c).job.least),.d (eI (i4 f c).job.room),.d (.sl 1 (i4 f c).logs.n λi=>[.sl 5 ((i4 f c).logs.g i).n λk=>n9 (((i4 f c).logs.g i).g k)]),.own 11 0 (i4 f c).srcs.n 1,.own 12 0 (i4 f c).tasks.n 1,.own 13 0 (i4 f c).sinks.n 1,.d (eI (i4 f c).ckp.n),.d (eB (i4 f c).ckp.opn),.d (.sl 1 (i4 f c).ckp.src.n λi=>[eI ((i4 f c).ckp.src.g i)]),.d (.sl 1 (i4 f c).ckp.tsk.n λi=>[eB ((i4 f c).ckp.tsk.g i)]),.d (.sl 3 (i4 f c).ckp.snaps.n λi=>d9 ((i4 f c).ckp.snaps.g i)),.d (eI (i4 f c).ckp.safe.n),.d (.sl 1 (i4 f c).ckp.safe.at_.n λi=>[eI ((i4 f c).ckp.safe.at_.g i)]),.d (.sl 3 (i4 f c).ckp.safe.snaps.n λi=>d9 ((i4 f c).ckp.safe.snaps.g i))]),(128,1,.box [.d (eI 0),.d (eI 0),.d (eI 0),.d (eI 0),.d (eI 0),.d (eI 0),.d (eI 0),.d (eB false),.d (eI 0),.d (eI 0),.d (.v c9),.d (.v c9),.d (.v c9),.d (.v c9),.d (eI 0),.d (eB false),.d (.v c9),.d (.v c9),.d (.v c9),.d (eI 0),.d (.v c9),.d (.v c9)])]⟩ (p7 4544 rfl (c7 ?_ ?_ ?_)) ?_
    iterate 3 focus (subst hA;repeat' first|exact True.intro|exact rfl |  apply And.intro | (intro _ _;rfl) | (intro _ _ _;rfl) | (intro q hq;exact absurd hq (Nat.not_lt_zero q))|exact .inr (b8 rfl)|exact .inl rfl|exact .inr (Nat.le_refl _)|fail)
    cbv
    repeat' first|exact absurd (show false=true by subst hA;assumption) (by decide)|exact absurd (show true=false by subst hA;assumption) (by decide)|apply And.intro|exact True.intro|with_reducible rfl|exact b7 hA rfl|apply c8 hA<;>intro _|exact c6 hA id | (subst hA;exact λh=>h) | (refine c5 hA ?_;decide +kernel) | (refine d8 hA λ_=>⟨Int.natCast_nonneg i,Int.ofNat_lt.2 hlk⟩) | (refine b7 hA ?_;subst hA;rfl)|fail
    obtain ⟨GS',hGS'⟩:∃ z:Nat->SinkT,z=λq=>if q=i then ⟨r,(f.sinks.g i).n,(f.sinks.g i).panes,(f.sinks.g i).lates⟩ else GS q:=⟨_,rfl⟩
    have hsrow:∀ ix l,ix=i->l=s0 ⟨r,(GS ix).n,(GS ix).panes,(GS ix).lates⟩->∀ q,q<f.sinks.n->real.upd (λq=>s0 (GS q)) ix l q=s0 (GS' q):=λix l e1 e2 q _=>by
      rw [hGS'];exact upd_rows e1 (by rw [e2,e1,hGSi]) q
    have hSn:∀ q,q<f.sinks.n->w6 (GS' q):=λq hq=>by
      rw [hGS']
      show w6 (if q=i then (⟨r,(f.sinks.g i).n,(f.sinks.g i).panes,(f.sinks.g i).lates⟩:SinkT) else GS q)
      by_cases e:q=i
      · rw [if_pos e];exact hcm.ok
      · rw [if_neg e];exact hS q hq
    have hS0n:∀ q,i+1<=q->GS' q=f.sinks.g q:=λq hq=>by
      rw [hGS']
      show (if q=i then (⟨r,(f.sinks.g i).n,(f.sinks.g i).panes,(f.sinks.g i).lates⟩:SinkT) else GS q)=_
      rw [if_neg (by omega)];exact hS0 q (by omega)
    refine ⟨⟨(i+1,GT',GS'),hlt',hTn,hSn,hS0n⟩,by simp only;omega,c7 ?_ ?_ ?_⟩
    iterate 3 focus (subst hA;repeat' first|exact True.intro|exact rfl|exact congrArg (λx=>DV.v (.int .i64 x)) (o0 hlt' hL2)|exact hsrow _ _ (Nat.zero_add i) rfl|exact (λq hq _=>hsrow _ _ (Nat.zero_add i) rfl q hq) |  apply And.intro | (intro _ _;rfl) | (intro _ _ _;rfl) | (intro q hq;exact absurd hq (Nat.not_lt_zero q))|exact .inr (b8 rfl)|exact .inl rfl|exact .inr (Nat.le_refl _)|fail)
  have hin:i=f.tasks.n:=by
    rename_i hge
    subst hA
    have:¬ ((i:Int)<(f.tasks.n:Int)):=of_decide_eq_false hge
    omega
  subst hin
  have hr:=finv_crash (G1:=G) (GT:=GT) (GS:=GS) hF hG hT hS
  refine i8 hA ⟨_,hr,by (subst hA;rfl),?_,rfl⟩
  (subst hA;repeat' first|apply And.intro|exact True.intro|exact DLe.rfl|exact f8 _ _ |  exact m9 rfl)
def EXFn:FuncId->List Nat × Bool:=λf=>bif nbeq f 107 then ([],true) else ([],false)
def st_fn1 (j:JobT) (logs:Sl (Sl ItmT)) (c:CkpT) (i:Nat):St:=⟨[(6,.c (.d (eI i))),(1,.c (.d (.sl 1 logs.n λi=>[.sl 5 (logs.g i).n λk=>n9 ((logs.g i).g k)]))),(2,.c (.bp 128 1 0)),(4,.c (.bp 256 1 0)),(5,.c (.bp 320 1 0))],[(128,1,.box [.d (eI j.srcs),.d (eI j.tsks),.d (eI j.kind),.d (eI j.size),.d (eI j.step),.d (eI j.late),.d (eI j.tell),.d (eB j.piece),.d (eI j.least),.d (eI j.room)]),(256,1,.box [.d (eI 0),.d (eI 0),.d (eI 0),.d (eI 0),.d (eI 0),.d (eI 0),.d (eI 0),.d (eB false),.d (eI 0),.d (eI 0),.d (.v c9),.d (.v c9),.d (.v c9),.d (.v c9),.d (eI 0),.d (eB false),.d (.v c9),.d (.v c9),.d (.v c9),.d (eI 0),.d (.v c9),.d (.v c9)]),(320,1,.box [.d (eI j.srcs),.d (eI j.tsks),.d (eI j.kind),.d (eI j.size),.d (eI j.step),.d (eI j.late),.d (eI j.tell),.d (eB j.piece),.d (eI j.least),.d (eI j.room),.nown 8000 i 1,.own 8001 0 i 1,.d (.v c9),.d (.v c9),.d (eI c.n),.d (eB c.opn),.d (.sl 1 c.src.n λi=>[eI (c.src.g i)]),.d (.sl 1 c.tsk.n λi=>[eB (c.tsk.g i)]),.d (.sl 3 c.snaps.n λi=>d9 (c.snaps.g i)),.d (eI c.safe.n),.d (.sl 1 c.safe.at_.n λi=>[eI (c.safe.at_.g i)]),.d (.sl 3 c.safe.snaps.n λi=>d9 (c.safe.snaps.g i))]),(8000,1,.nest 1 i (λi=>[.sl 5 (logs.g i).n λk=>n9 ((logs.g i).g k)]) none),(8001,1,.arr 2 i λ_=>[eI 0,eI 0])]⟩
def st_fn2 (j:JobT) (logs:Sl (Sl ItmT)) (c:CkpT) (t:TskT) (i:Nat):St:=⟨[(7,.c (.d (eI i))),(1,.c (.d (.sl 1 logs.n λi=>[.sl 5 (logs.g i).n λk=>n9 ((logs.g i).g k)]))),(2,.c (.bp 128 1 0)),(4,.c (.bp 256 1 0)),(5,.c (.bp 320 1 0))],[(128,1,.box [.d (eI j.srcs),.d (eI j.tsks),.d (eI j.kind),.d (eI j.size),.d (eI j.step),.d (eI j.late),.d (eI j.tell),.d (eB j.piece),.d (eI j.least),.d (eI j.room)]),(256,1,.box [.d (eI 0),.d (eI 0),.d (eI 0),.d (eI 0),.d (eI 0),.d (eI 0),.d (eI 0),.d (eB false),.d (eI 0),.d (eI 0),.d (.v c9),.d (.v c9),.d (.v c9),.d (.v c9),.d (eI 0),.d (eB false),.d (.v c9),.d (.v c9),.d (.v c9),.d (eI 0),.d (.v c9),.d (.v c9)]),(320,1,.box [.d (eI j.srcs),.d (eI j.tsks),.d (eI j.kind),.d (eI j.size),.d (eI j.step),.d (eI j.late),.d (eI j.tell),.d (eB j.piece),.d (eI j.least),.d (eI j.room),.nown 8000 logs.n 1,.own 8001 0 logs.n 1,.own 8002 0 i 1,.own 8003 0 i 1,.d (eI c.n),.d (eB c.opn),.d (.sl 1 c.src.n λi=>[eI (c.src.g i)]),.d (.sl 1 c.tsk.n λi=>[eB (c.tsk.g i)]),.d (.sl 3 c.snaps.n λi=>d9 (c.snaps.g i)),.d (eI c.safe.n),.d (.sl 1 c.safe.at_.n λi=>[eI (c.safe.at_.g i)]),.d (.sl 3 c.safe.snaps.n λi=>d9 (c.safe.snaps.g i))]),(8000,1,.nest 1 logs.n (λi=>[.sl 5 (logs.g i).n λk=>n9 ((logs.g i).g k)]) none),(8001,1,.arr 2 logs.n λ_=>[eI 0,eI 0]),(8002,1,.arr 7 i λ_=>v9 t),(8003,1,.arr 4 i λ_=>[.v c9,eI 0,.v c9,.v c9])]⟩
theorem x_tskNewZ (j:JobT) (hj:t9 j) (a:Nat) (ha:a<=3) (ja:(a:Int)=j.srcs) (t:TskT) (ht:t=tskT zOpS ⟨a,λ_=>0,t8 ha⟩):d7 Tryz.prog 107 [xd (u7 j),.agg [.d (eI 0),.d (.v c9)],.c (.d (.sl 1 a λ_=>[eI 0]))] ⟨.one (xd (v9 t)),[none,none,none]⟩:=
  meets_args (x_tskNew j zOpS ⟨a,λ_=>0,t8 ha⟩ ⟨⟨hj,⟨Int.le_refl _,(by decide:(0:Int)<=1000)⟩,Nat.zero_le _,λi hi=>absurd hi (Nat.not_lt_zero i)⟩,⟨ja,λ_ _=>⟨Int.le_refl _,(by decide:(0:Int)<=1000)⟩⟩⟩ t ht)
    ⟨⟨DLe.rfl,DLe.rfl,DLe.rfl,DLe.rfl,DLe.rfl,DLe.rfl,DLe.rfl,DLe.rfl,DLe.rfl,DLe.rfl,trivial⟩,⟨DLe.rfl,f8 13 _,trivial⟩,DLe.rfl,trivial⟩
theorem x_flonew (j:JobT) (hj:t9 j) (logs:Sl (Sl ItmT)) (hl:(logs.n:Int)=j.srcs) (hok:∀ i,i<logs.n->LogOkP (logs.g i)):∃ y:FloT,FInv 0 y/\d7 Tryz.prog 87 [xd (u7 j),.c (.d (.sl 1 logs.n λi=>[.sl 5 (logs.g i).n λk=>n9 ((logs.g i).g k)]))] ⟨.one (xd (eFlo y)),[none,none]⟩:=by
  obtain ⟨a,ha⟩:∃ a:Nat,a=j.srcs.toNat:=⟨_,rfl⟩
  obtain ⟨b,hb⟩:∃ b:Nat,b=j.tsks.toNat:=⟨_,rfl⟩
  have hs:=hj.1
  have hs2:=hj.2.1
  have ja:(a:Int)=j.srcs:=by rw [ha];exact Int.toNat_of_nonneg (by omega)
  have jb:(b:Int)=j.tsks:=by rw [hb];exact Int.toNat_of_nonneg (by omega)
  have ha1:1<=a:=by omega
  have ha3:a<=3:=by omega
  have hb2:b<=2:=by omega
  have hln:logs.n=a:=Int.ofNat.inj (hl.trans ja.symm)
  have hlL:logs.n<=maxLen:=logs.hn
  have hl3:logs.n<=3:=by rw [hln];exact ha3
  have hbL:b<=maxLen:=Nat.le_trans hb2 (by decide)
  obtain ⟨bj,hbj,mJ⟩:=c_sJobOkP j
  obtain rfl:bj=true:=hbj.2 hj
  obtain ⟨c,hc⟩:∃ c,c=newP j:=⟨_,rfl⟩
  have mC:=c_sCkpNew j c hc
  have hc2:c=newC a b ha3 hb2:=by
    subst ha;subst hb
    rw [hc];unfold newP;rw [dif_pos hj]
  obtain ⟨t,ht⟩:∃ t,t=tskT zOpS ⟨a,λ_=>0,t8 ha3⟩:=⟨_,rfl⟩
  have mT:=x_tskNewZ j hj a ha3 ja t ht
  have hmade:0<=j.srcs/\j.srcs=j.srcs/\j.srcs*((8:Nat):Int)<=140737488355328/\j.srcs<=140737488355328:=⟨by omega,rfl,by omega,by omega⟩
  have hnel:∀ {A:Ar},real=A->A.cmp .neq (A.int logs.n) j.srcs=true->False:=λhA h=>by
    subst hA
    have h:((logs.n:Int) != j.srcs)=true:=h
    rw [hl,bne_self_eq_false] at h;cases h
  refine u0 (H:=[]) (EX:=EXFn) l6 e8 ([none,none]) Tryz.func87 rfl (by kernel_rfl) (by decide) (λ_=>rfl) ?_
  generalize hA:real=A
  generalize hM:d4 Tryz.prog=M
  cbv
  repeat' first|exact absurd (show false=true by subst hA;assumption) (by decide)|exact absurd (show true=false by subst hA;assumption) (by decide)|apply And.intro|exact True.intro|with_reducible rfl|exact b7 hA rfl|apply c8 hA<;>intro _|exact c6 hA id | (subst hA;exact λh=>h) | (refine c5 hA ?_;decide +kernel) | (refine i9 hA hM _ mJ (by (subst hA;first|rfl | (simp only [p6];done) | (simp only [p6];rfl))) ?_;cbv) | (refine i9 hA hM _ mC (by (subst hA;first|rfl | (simp only [p6];done) | (simp only [p6];rfl))) ?_;cbv) | (refine b7 hA ?_;subst hA;rfl)|fail
  · exfalso
    rename_i hh
    refine hnel hA ?_
    subst hA
    exact hh
  refine i7 hA (α := { i:Nat // i<=logs.n }) (λy=>st_fn1 j logs c y.1) (λy=>logs.n-y.1) ⟨0,Nat.zero_le _⟩ ?_ ?_
  · refine cov_promCN 320 8000 1 1 (λi=>[.sl 5 (logs.g i).n λk=>n9 ((logs.g i).g k)]) [.d (eI j.srcs),.d (eI j.tsks),.d (eI j.kind),.d (eI j.size),.d (eI j.step),.d (eI j.late),.d (eI j.tell),.d (eB j.piece),.d (eI j.least),.d (eI j.room)] [.d (.v c9),.d (.v c9),.d (.v c9),.d (eI c.n),.d (eB c.opn),.d (.sl 1 c.src.n λi=>[eI (c.src.g i)]),.d (.sl 1 c.tsk.n λi=>[eB (c.tsk.g i)]),.d (.sl 3 c.snaps.n λi=>d9 (c.snaps.g i)),.d (eI c.safe.n),.d (.sl 1 c.safe.at_.n λi=>[eI (c.safe.at_.g i)]),.d (.sl 3 c.safe.snaps.n λi=>d9 (c.safe.snaps.g i))] rfl rfl rfl
      (cov_promC 320 8001 1 2 (λ_=>[eI 0,eI 0]) [.d (eI j.srcs),.d (eI j.tsks),.d (eI j.kind),.d (eI j.size),.d (eI j.step),.d (eI j.late),.d (eI j.tell),.d (eB j.piece),.d (eI j.least),.d (eI j.room),.nown 8000 0 1] [.d (.v c9),.d (.v c9),.d (eI c.n),.d (eB c.opn),.d (.sl 1 c.src.n λi=>[eI (c.src.g i)]),.d (.sl 1 c.tsk.n λi=>[eB (c.tsk.g i)]),.d (.sl 3 c.snaps.n λi=>d9 (c.snaps.g i)),.d (eI c.safe.n),.d (.sl 1 c.safe.at_.n λi=>[eI (c.safe.at_.g i)]),.d (.sl 3 c.safe.snaps.n λi=>d9 (c.safe.snaps.g i))] rfl rfl rfl (c7 ?_ ?_ ?_))
    iterate 3 focus (subst hA;repeat' first|exact True.intro|exact rfl|apply And.intro | (intro _ _;rfl) | (intro _ _ _;rfl) | (intro q hq;exact absurd hq (Nat.not_lt_zero q))|exact .inr (b8 rfl)|exact .inl rfl|exact .inr (Nat.le_refl _)|fail)
  rintro ⟨i,hi⟩
  have hi:i<=logs.n:=hi
  cbv
  repeat' first|exact absurd (show false=true by subst hA;assumption) (by decide)|exact absurd (show true=false by subst hA;assumption) (by decide)|apply And.intro|exact True.intro|with_reducible rfl|exact b7 hA rfl|apply c8 hA<;>intro _|exact c6 hA id | (subst hA;exact λh=>h) | (refine c5 hA ?_;decide +kernel) | (refine d8 hA λ_ => ?_;have hlt9:i<logs.n:=(by first|exact f9 hA (by assumption)|exact l5 hA (by assumption));exact ⟨Int.natCast_nonneg i,Int.ofNat_lt.2 hlt9⟩) | (have hlt9:i<logs.n:=(by first|exact f9 hA (by assumption)|exact l5 hA (by assumption));obtain ⟨bl,hbl,mL⟩:=c_sLogOk (logs.g i);obtain rfl:bl=true:=hbl.2 (hok i hlt9);refine i9 hA hM _ mL (by (subst hA;rfl)) ?_;cbv) | (have hlt9:i<logs.n:=(by first|exact f9 hA (by assumption)|exact l5 hA (by assumption));have h40:=(hok i hlt9).1.2;subst hA;exact room_z rfl (Nat.le_trans h40 (by decide)) (by decide))|exact f6 hA (show i+1<=2000000 by omega) (by decide) | (refine b7 hA ?_;subst hA;rfl)|fail
  · rename_i hlt
    have hlt':i<logs.n:=(by first|exact f9 hA (by assumption)|exact l5 hA (by assumption))
    refine ⟨⟨i+1,hlt'⟩,by simp only;omega,cov_close 8000 (λi=>[.sl 5 (logs.g i).n λk=>n9 ((logs.g i).g k)]) [.sl 5 (logs.g i).n λk=>n9 ((logs.g i).g k)] [(2432,2)] rfl ?_ rfl rfl (λk _ _=>rfl) (c7 ?_ ?_ ?_)⟩
    · subst hA;exact (close_ownE (Nat.zero_add _) rfl (λq _=>(show (if q<0 then _ else n9 ((logs.g i).g (q-0)))=_ by rw [if_neg (Nat.not_lt_zero q)];rfl)) (flatR λ_=>flat_Itm _) close_end)
    iterate 3 focus (subst hA;repeat' first|exact True.intro|exact rfl|exact congrArg (λx=>DV.v (.int .i64 x)) (o0 hlt' hlL)|exact push_rows (R':=λ_=>[eI 0,eI 0]) (λ_ _=>rfl) rfl|exact (λq hq _=>push_rows (R':=λ_=>[eI 0,eI 0]) (λ_ _=>rfl) rfl q hq) |  apply And.intro | (intro _ _;rfl) | (intro _ _ _;rfl) | (intro q hq;exact absurd hq (Nat.not_lt_zero q))|exact .inr (b8 rfl)|exact .inl rfl|exact .inr (Nat.le_refl _)|fail)
  have hin:i=logs.n:=by
    rename_i hge
    subst hA
    have:¬ ((i:Int)<(logs.n:Int)):=of_decide_eq_false hge
    omega
  subst hin
  repeat' first|apply And.intro|exact True.intro|with_reducible rfl|exact b7 hA rfl|apply c8 hA<;>intro _|exact c6 hA id | (subst hA;exact λh=>h) | (refine c5 hA ?_;decide +kernel) | (refine b7 hA ?_;subst hA;rfl)|fail
  refine i7 hA (α := { k:Nat // k<=b }) (λy=>st_fn2 j logs c t y.1) (λy=>b-y.1) ⟨0,Nat.zero_le _⟩ ?_ ?_
  · refine cov_promC 320 8002 1 7 (λ_=>v9 t) [.d (eI j.srcs),.d (eI j.tsks),.d (eI j.kind),.d (eI j.size),.d (eI j.step),.d (eI j.late),.d (eI j.tell),.d (eB j.piece),.d (eI j.least),.d (eI j.room),.nown 8000 logs.n 1,.own 8001 0 logs.n 1] [.d (.v c9),.d (eI c.n),.d (eB c.opn),.d (.sl 1 c.src.n λi=>[eI (c.src.g i)]),.d (.sl 1 c.tsk.n λi=>[eB (c.tsk.g i)]),.d (.sl 3 c.snaps.n λi=>d9 (c.snaps.g i)),.d (eI c.safe.n),.d (.sl 1 c.safe.at_.n λi=>[eI (c.safe.at_.g i)]),.d (.sl 3 c.safe.snaps.n λi=>d9 (c.safe.snaps.g i))] rfl rfl rfl
      (cov_promC 320 8003 1 4 (λ_=>[.v c9,eI 0,.v c9,.v c9]) [.d (eI j.srcs),.d (eI j.tsks),.d (eI j.kind),.d (eI j.size),.d (eI j.step),.d (eI j.late),.d (eI j.tell),.d (eB j.piece),.d (eI j.least),.d (eI j.room),.nown 8000 logs.n 1,.own 8001 0 logs.n 1,.own 8002 0 0 1] [.d (eI c.n),.d (eB c.opn),.d (.sl 1 c.src.n λi=>[eI (c.src.g i)]),.d (.sl 1 c.tsk.n λi=>[eB (c.tsk.g i)]),.d (.sl 3 c.snaps.n λi=>d9 (c.snaps.g i)),.d (eI c.safe.n),.d (.sl 1 c.safe.at_.n λi=>[eI (c.safe.at_.g i)]),.d (.sl 3 c.safe.snaps.n λi=>d9 (c.safe.snaps.g i))] rfl rfl rfl (c7 ?_ ?_ ?_))
    iterate 3 focus (subst hA;repeat' first|exact True.intro|exact rfl|apply And.intro | (intro _ _;rfl) | (intro _ _ _;rfl) | (intro q hq;exact absurd hq (Nat.not_lt_zero q))|exact .inr (b8 rfl)|exact .inl rfl|exact .inr (Nat.le_refl _)|fail)
  rintro ⟨k,hk⟩
  have hk:k<=b:=hk
  have hargs:∀ n:Nat,n=a->[xd (u7 j),.agg [.d (eI 0),.d (.v c9)],.c (.d (.sl 1 n λ_=>[eI 0]))]=[xd (u7 j),.agg [.d (eI 0),.d (.v c9)],.c (.d (.sl 1 a λ_=>[eI 0]))]:=λn e=>by rw [e]
  cbv
  repeat' first|apply And.intro|exact True.intro|with_reducible rfl|exact b7 hA rfl|apply c8 hA<;>intro _|exact c6 hA id | (subst hA;exact λh=>h) | (refine c5 hA ?_;decide +kernel)|exact made_of hA hmade | (refine l7 hA hM ⟨(),trivial,mT⟩ (S:=λ_:Unit=>True) (out:=λ_:Unit=>⟨.one (xd (v9 t)),[none,none,none]⟩) (by (subst hA;exact hargs _ ha.symm)) ?_;rintro ⟨⟩ -;cbv)|exact f6 hA (show k+1<=2000000 by omega) (by decide) | (refine b7 hA ?_;subst hA;rfl)|fail
  · rename_i hlt
    have hlt':k<b:=by
      subst hA
      have hlt:(k:Int)<j.tsks:=of_decide_eq_true hlt
      omega
    refine ⟨⟨k+1,hlt'⟩,by simp only;omega,c7 ?_ ?_ ?_⟩
    iterate 3 focus (subst hA;repeat' first|exact True.intro|exact rfl|exact congrArg (λx=>DV.v (.int .i64 x)) (o0 hlt' hbL)|exact push_rows (R':=λ_=>v9 t) (λ_ _=>rfl) rfl|exact push_rows (R':=λ_=>[.v c9,eI 0,.v c9,.v c9]) (λ_ _=>rfl) rfl|exact (λq hq _=>push_rows (R':=λ_=>v9 t) (λ_ _=>rfl) rfl q hq)|exact (λq hq _=>push_rows (R':=λ_=>[.v c9,eI 0,.v c9,.v c9]) (λ_ _=>rfl) rfl q hq) |  apply And.intro | (intro _ _;rfl) | (intro _ _ _;rfl) | (intro q hq;exact absurd hq (Nat.not_lt_zero q))|exact .inr (b8 rfl)|exact .inl rfl|exact .inr (Nat.le_refl _)|fail)
  · rename_i hge
    have hin:k=b:=by
      subst hA
      have:¬ ((k:Int)<j.tsks):=of_decide_eq_false hge
      omega
    subst hin
    have hF:FInv 0 ⟨j,logs,⟨logs.n,λ_=>⟨0,0⟩,logs.hn⟩,⟨k,λ_=>t,hbL⟩,⟨k,λ_=>zSink,hbL⟩,c⟩:=by
      rw [hc2,ht];exact newF_inv hj ha1 ha3 hb2 ja jb hl hok
    refine i8 hA ⟨_,hF,by (subst hA;rfl),?_,rfl⟩
    (subst hA;repeat' first|apply And.intro|exact True.intro|exact DLe.rfl|exact f8 _ _|exact dle_sl λ_ _=>⟨f8 3 _,DLe.rfl,f8 9 _,f8 7 _,trivial⟩ |  exact m9 rfl)
theorem x_begin (m:Nat) (hm:m<=2000) (b:Nat->Int) (hb:∀ i,0<=b i/\b i<=255) (p:Int) (hp:0<=p/\p<=40000)  : ∃ y:FloT × Int,(p<=y.2/\y.2<=p+2100/\FInv 0 y.1)/\d7 Tryz.prog 61 [.c (.box [.d (.sl 1 m λi=>[eU (b i)]),.d (eI p)])] ⟨.one (xd (eFlo y.1)),[some (.box [.d (.sl 1 m λi=>[eU (b i)]),.d (eI y.2)])]⟩:=by
  refine u0 (H:=[]) (EX:=EXD) l6 e8 ([some (.box [.d (.sl 1 m λi=>[eU (b i)]),.d (eI 0)])]) Tryz.func61 rfl (by kernel_rfl) (by decide) (λ_=>rfl) ?_
  generalize hA:real=A
  generalize hM:d4 Tryz.prog=M
  cbv
  repeat' first|apply And.intro|exact True.intro|with_reducible rfl|exact b7 hA rfl|apply c8 hA<;>intro _|exact c6 hA id | (subst hA;exact λh=>h) | (refine c5 hA ?_;decide +kernel) | (refine d6 hA hM (x2_job m hm b hb _ (by omega)) ?_;rintro ⟨j,qj⟩ ⟨hj0,hj1,hjob⟩;dsimp only at hj0 hj1 hjob;cbv) | (refine d6 hA hM (x_logs m hm b hb _ (by omega) j hjob) ?_;rintro ⟨l,ql⟩ ⟨hl0,hl1,hl2,hl3⟩;dsimp only at hl0 hl1 hl2 hl3;cbv) | (refine d6 hA hM (x_flonew j hjob l hl2 hl3) ?_;rintro y hy;cbv) | (refine b7 hA ?_;subst hA;rfl)|fail
  refine i8 hA ⟨(y,ql),⟨by (show p<=ql);omega,by (show ql<=p+2100);omega,hy⟩,by (subst hA;rfl),?_,rfl⟩
  (subst hA;repeat' first|apply And.intro|exact True.intro|exact DLe.rfl|exact f8 _ _ |  exact m9 rfl)
theorem finv_sizes {B:Int} {f:FloT} (h:FInv B f):(1<=f.srcs.n/\f.srcs.n<=3)/\(1<=f.tasks.n/\f.tasks.n<=2)/\∀ i,i<f.tasks.n->(f.tasks.g i).ins.n=f.srcs.n:=by
  have hj:=h.ok.1.1
  have hs:=h.ok.2.2.1
  have ht:=h.ok.2.2.2.1
  have j1:=hj.1
  have j2:=hj.2.1
  exact ⟨⟨by omega,by omega⟩,⟨by omega,by omega⟩,λi hi=>Int.ofNat.inj ((h.ok.2.2.2.2.2.2.1 i hi).1.2.1.trans hs.symm)⟩
theorem x_event (m:Nat) (hm:m<=2000) (b:Nat->Int) (hb:∀ i,0<=b i/\b i<=255) (p:Int) (hp:0<=p/\p<=100000) (f:FloT) (B:Int) (h:FInv B f):∃ y:(Int × Int × Int) × Int,(p<=y.2/\y.2<=p+5)/\d7 Tryz.prog 82 [.c (.box [.d (.sl 1 m λi=>[eU (b i)]),.d (eI p)]),xd (eFlo f)] ⟨.one (.agg [.d (eI y.1.1),.d (eI y.1.2.1),.d (eI y.1.2.2)]),[some (.box [.d (.sl 1 m λi=>[eU (b i)]),.d (eI y.2)]),none]⟩:=by
  obtain ⟨h1,h2,h3⟩:=finv_sizes h
  have w1:IntKind.i64.wrap ((f.tasks.n:Int)+1)=(f.tasks.n:Int)+1:=IntWalk.i64_in _ (by omega)
  have w2:IntKind.i64.wrap ((f.srcs.n:Int)+1)=(f.srcs.n:Int)+1:=IntWalk.i64_in _ (by omega)
  have n1:1<=(f.tasks.n:Int)/\(f.tasks.n:Int)<=1000000:=by omega
  have n2:1<=(f.srcs.n:Int)/\(f.srcs.n:Int)<=1000000:=by omega
  have n3:1<=(f.tasks.n:Int)+1/\(f.tasks.n:Int)+1<=1000000:=by omega
  have n4:1<=(f.srcs.n:Int)+1/\(f.srcs.n:Int)+1<=1000000:=by omega
  refine meets_ex (H:=[]) (EX:=EXD) l6 e8 ([some (.box [.d (.sl 1 m λi=>[eU (b i)]),.d (eI 0)]),none]) Tryz.func82 rfl (by kernel_rfl) (by decide) (λ_=>rfl) ?_
  generalize hA:real=A
  generalize hM:d4 Tryz.prog=M
  cbv
  repeat' first|refine br_t hA (by assumption) ?_|refine br_f hA (by assumption) ?_|apply And.intro|exact True.intro|with_reducible rfl|exact b7 hA rfl|apply c8 hA<;>intro _|exact c6 hA id | (subst hA;exact λh=>h) | (refine c5 hA ?_;decide +kernel) | (refine d6 hA hM (m7 m hm b hb _ (by omega) _ (by omega)) ?_;rintro ⟨x,q⟩ ⟨hx0,hx1,hq⟩;dsimp only at hx0 hx1 hq;cbv) | (refine l7 hA hM (m7 m hm b hb q (by omega) ((f.tasks.n:Int)+1) n3) ?_ ?_;(focus (subst hA;exact congrArg (λz=>[_,XT.c (.d (eI z))]) w1));rintro ⟨x,q⟩ ⟨hx0,hx1,hq⟩;dsimp only at hx0 hx1 hq;cbv) | (refine l7 hA hM (m7 m hm b hb p (by omega) ((f.tasks.n:Int)+1) n3) ?_ ?_;(focus (subst hA;exact congrArg (λz=>[_,XT.c (.d (eI z))]) w1));rintro ⟨x,q⟩ ⟨hx0,hx1,hq⟩;dsimp only at hx0 hx1 hq;cbv) | (refine l7 hA hM (m7 m hm b hb q (by omega) ((f.srcs.n:Int)+1) n4) ?_ ?_;(focus (subst hA;exact congrArg (λz=>[_,XT.c (.d (eI z))]) w2));rintro ⟨x,q⟩ ⟨hx0,hx1,hq⟩;dsimp only at hx0 hx1 hq;cbv) | (refine l7 hA hM (m7 m hm b hb p (by omega) ((f.srcs.n:Int)+1) n4) ?_ ?_;(focus (subst hA;exact congrArg (λz=>[_,XT.c (.d (eI z))]) w2));rintro ⟨x,q⟩ ⟨hx0,hx1,hq⟩;dsimp only at hx0 hx1 hq;cbv) | (refine l7 hA hM (m7 m hm b hb q (by omega) ((f.tasks.n:Int)) n1) ?_ ?_;(focus (subst hA;rfl));rintro ⟨x,q⟩ ⟨hx0,hx1,hq⟩;dsimp only at hx0 hx1 hq;cbv) | (refine l7 hA hM (m7 m hm b hb p (by omega) ((f.tasks.n:Int)) n1) ?_ ?_;(focus (subst hA;rfl));rintro ⟨x,q⟩ ⟨hx0,hx1,hq⟩;dsimp only at hx0 hx1 hq;cbv) | (refine l7 hA hM (m7 m hm b hb q (by omega) ((f.srcs.n:Int)) n2) ?_ ?_;(focus (subst hA;rfl));rintro ⟨x,q⟩ ⟨hx0,hx1,hq⟩;dsimp only at hx0 hx1 hq;cbv) | (refine l7 hA hM (m7 m hm b hb p (by omega) ((f.srcs.n:Int)) n2) ?_ ?_;(focus (subst hA;rfl));rintro ⟨x,q⟩ ⟨hx0,hx1,hq⟩;dsimp only at hx0 hx1 hq;cbv) | (refine i8 hA ⟨⟨(_,_,_),_⟩,?_,rfl,rfl⟩;simp only;omega)|fail
def st_lv (m:Nat) (b:Nat->Int) (f:FloT) (t k:Nat) (i:Nat) (q:Int):St:=⟨[(7,.c (.d (eI i))),(6,.c (.d (eI (k:Int)))),(5,.c (.d (eI (t:Int)))),(4,.c (.bp 256 1 0)),(3,.c (.bp 192 1 0)),(0,.c (.bp 0 1 0))],[(256,1,.box [.d (eI 0),.d (eI 0),.d (eI 0)]),(192,1,.box ((eFlo f).map .d)),(0,1,.box [.d (.sl 1 m λi=>[eU (b i)]),.d (eI q)])]⟩
theorem x_lively (m:Nat) (hm:m<=2000) (b:Nat->Int) (hb:∀ i,0<=b i/\b i<=255) (p:Int) (hp:0<=p/\p<=90000) (f:FloT) (B:Int) (h:FInv B f):∃ y:(Int × Int × Int) × Int,(p<=y.2/\y.2<=p+10)/\d7 Tryz.prog 85 [.c (.box [.d (.sl 1 m λi=>[eU (b i)]),.d (eI p)]),xd (eFlo f)] ⟨.one (.agg [.d (eI y.1.1),.d (eI y.1.2.1),.d (eI y.1.2.2)]),[some (.box [.d (.sl 1 m λi=>[eU (b i)]),.d (eI y.2)]),none]⟩:=by
  obtain ⟨h1,h2,h3⟩:=finv_sizes h
  have w1:IntKind.i64.wrap ((f.tasks.n:Int)+1)=(f.tasks.n:Int)+1:=IntWalk.i64_in _ (by omega)
  have w2:IntKind.i64.wrap ((f.srcs.n:Int)+1)=(f.srcs.n:Int)+1:=IntWalk.i64_in _ (by omega)
  have n1:1<=(f.tasks.n:Int)/\(f.tasks.n:Int)<=1000000:=by omega
  have n2:1<=(f.srcs.n:Int)/\(f.srcs.n:Int)<=1000000:=by omega
  have n3:1<=(f.tasks.n:Int)+1/\(f.tasks.n:Int)+1<=1000000:=by omega
  have n4:1<=(f.srcs.n:Int)+1/\(f.srcs.n:Int)+1<=1000000:=by omega
  refine meets_ex (H:=[]) (EX:=EXD) l6 e8 ([some (.box [.d (.sl 1 m λi=>[eU (b i)]),.d (eI 0)]),none]) Tryz.func85 rfl (by kernel_rfl) (by decide) (λ_=>rfl) ?_
  generalize hA:real=A
  generalize hM:d4 Tryz.prog=M
  cbv
  repeat' first|apply And.intro|exact True.intro|with_reducible rfl|exact b7 hA rfl|apply c8 hA<;>intro _|exact c6 hA id | (subst hA;exact λh=>h) | (refine c5 hA ?_;decide +kernel) | (refine l7 hA hM (m7 m hm b hb q (by omega) ((f.tasks.n:Int)+1) n3) ?_ ?_;(focus (subst hA;exact congrArg (λz=>[_,XT.c (.d (eI z))]) w1));rintro ⟨x,q⟩ ⟨hx0,hx1,hq⟩;dsimp only at hx0 hx1 hq;cbv) | (refine l7 hA hM (m7 m hm b hb p (by omega) ((f.tasks.n:Int)+1) n3) ?_ ?_;(focus (subst hA;exact congrArg (λz=>[_,XT.c (.d (eI z))]) w1));rintro ⟨x,q⟩ ⟨hx0,hx1,hq⟩;dsimp only at hx0 hx1 hq;cbv) | (refine l7 hA hM (m7 m hm b hb q (by omega) ((f.srcs.n:Int)+1) n4) ?_ ?_;(focus (subst hA;exact congrArg (λz=>[_,XT.c (.d (eI z))]) w2));rintro ⟨x,q⟩ ⟨hx0,hx1,hq⟩;dsimp only at hx0 hx1 hq;cbv) | (refine l7 hA hM (m7 m hm b hb p (by omega) ((f.srcs.n:Int)+1) n4) ?_ ?_;(focus (subst hA;exact congrArg (λz=>[_,XT.c (.d (eI z))]) w2));rintro ⟨x,q⟩ ⟨hx0,hx1,hq⟩;dsimp only at hx0 hx1 hq;cbv) | (refine l7 hA hM (m7 m hm b hb q (by omega) ((f.tasks.n:Int)) n1) ?_ ?_;(focus (subst hA;rfl));rintro ⟨x,q⟩ ⟨hx0,hx1,hq⟩;dsimp only at hx0 hx1 hq;cbv) | (refine l7 hA hM (m7 m hm b hb p (by omega) ((f.tasks.n:Int)) n1) ?_ ?_;(focus (subst hA;rfl));rintro ⟨x,q⟩ ⟨hx0,hx1,hq⟩;dsimp only at hx0 hx1 hq;cbv) | (refine l7 hA hM (m7 m hm b hb q (by omega) ((f.srcs.n:Int)) n2) ?_ ?_;(focus (subst hA;rfl));rintro ⟨x,q⟩ ⟨hx0,hx1,hq⟩;dsimp only at hx0 hx1 hq;cbv) | (refine l7 hA hM (m7 m hm b hb p (by omega) ((f.srcs.n:Int)) n2) ?_ ?_;(focus (subst hA;rfl));rintro ⟨x,q⟩ ⟨hx0,hx1,hq⟩;dsimp only at hx0 hx1 hq;cbv)|fail
  rename_i xt qt hxt0 hxt1 hqt
  obtain ⟨t,rfl⟩:=Int.eq_ofNat_of_zero_le hxt0
  obtain ⟨k0,rfl⟩:=Int.eq_ofNat_of_zero_le hx0
  have ht:t<f.tasks.n:=Int.ofNat_lt.1 hxt1
  have hk0:k0<f.srcs.n:=Int.ofNat_lt.1 hx1
  have hti:=h3 t ht
  have hsL:f.srcs.n<=maxLen:=f.srcs.hn
  refine i7 hA (α := { y:Nat × Nat × Int // y.1<=f.srcs.n/\y.2.1<f.srcs.n/\p<=y.2.2/\y.2.2<=p+2+(y.1:Int) }) (λy=>st_lv m b f t y.1.2.1 y.1.1 y.1.2.2) (λy=>f.srcs.n-y.1.1) ⟨(0,k0,q),Nat.zero_le _,hk0,by (show p<=q);omega,by (show q<=p+2+0);omega⟩ ?_ ?_
  · refine c7 ?_ ?_ ?_
    iterate 3 focus (subst hA;repeat' first|exact True.intro|exact rfl |  apply And.intro | (intro _ _;rfl) | (intro _ _ _;rfl) | (intro q hq;exact absurd hq (Nat.not_lt_zero q))|exact .inr (b8 rfl)|exact .inl rfl|exact .inr (Nat.le_refl _)|fail)
  rintro ⟨⟨i,k,q1⟩,hi,hk,hq0,hq1⟩
  have hi:i<=f.srcs.n:=hi
  have hk:k<f.srcs.n:=hk
  have hq0:p<=q1:=hq0
  have hq1:q1<=p+2+(i:Int):=hq1
  have hqb:q1<=p+6:=by omega
  have hqn:q1+1<=p+2+((i+1:Nat):Int):=by omega
  have hki:k<(f.tasks.g t).ins.n:=by rw [hti];exact hk
  have hsz:f.srcs.n≠0:=by omega
  obtain ⟨k',hk'⟩:∃ z:Nat,z=(k+1) % f.srcs.n:=⟨_,rfl⟩
  have hk'l:k'<f.srcs.n:=by rw [hk'];exact Nat.mod_lt _ (by omega)
  have hrem:(IntKind.i64.wrap ((k:Int)+1)).tmod (f.srcs.n:Int)=(k':Int):=by
    rw [IntWalk.i64_in _ (by omega),hk']
    have e:(k:Int)+1=((k+1:Nat):Int):=by omega
    rw [e,Int.tmod_eq_emod_of_nonneg (by omega)]
    first|rfl|exact (Int.natCast_emod _ _).symm|exact Int.natCast_emod _ _
  clear hq hqt hxt0 hxt1 hx0 hx1
  cbv
  repeat' first|apply And.intro|exact True.intro|with_reducible rfl|exact b7 hA rfl|apply c8 hA<;>intro _|exact c6 hA id | (subst hA;exact λh=>h) | (refine c5 hA ?_;decide +kernel) | (refine d8 hA λ_=>⟨Int.natCast_nonneg t,Int.ofNat_lt.2 ht⟩) | (refine d8 hA λ_ => ?_;subst hA;exact ⟨Int.natCast_nonneg k,Int.ofNat_lt.2 hki⟩) | (refine d6 hA hM (m7 m hm b hb q1 (by omega) 3 (by omega)) ?_;rintro ⟨x,q2⟩ ⟨hx0,hx1,hq⟩;dsimp only at hx0 hx1 hq;cbv) | (refine nz_of hA ?_;subst hA;(show (f.srcs.n:Int)≠0);omega) | (refine b7 hA ?_;subst hA;rfl) | (refine i8 hA ⟨⟨(_,_,_),_⟩,?_,rfl,rfl⟩;simp only;omega)|fail
  · have hlt':i<f.srcs.n:=(by first|exact f9 hA (by assumption)|exact l5 hA (by assumption))
    refine ⟨⟨(i+1,k',q2),hlt',hk'l,by (show p<=q2);omega,Int.le_trans (by (show q2<=q1+1);omega) hqn⟩,by simp only;omega,c7 ?_ ?_ ?_⟩
    iterate 3 focus (subst hA;repeat' first|exact True.intro|exact rfl|exact congrArg (λx=>DV.v (.int .i64 x)) (o0 hlt' hsL)|exact congrArg (λx=>DV.v (.int .i64 x)) hrem |  apply And.intro | (intro _ _;rfl) | (intro _ _ _;rfl) | (intro q hq;exact absurd hq (Nat.not_lt_zero q))|exact .inr (b8 rfl)|exact .inl rfl|exact .inr (Nat.le_refl _)|fail)
  · have hlt':i<f.srcs.n:=(by first|exact f9 hA (by assumption)|exact l5 hA (by assumption))
    refine ⟨⟨(i+1,k',q1),hlt',hk'l,by (show p<=q1);omega,Int.le_trans (by (show q1<=q1+1);omega) hqn⟩,by simp only;omega,c7 ?_ ?_ ?_⟩
    iterate 3 focus (subst hA;repeat' first|exact True.intro|exact rfl|exact congrArg (λx=>DV.v (.int .i64 x)) (o0 hlt' hsL)|exact congrArg (λx=>DV.v (.int .i64 x)) hrem |  apply And.intro | (intro _ _;rfl) | (intro _ _ _;rfl) | (intro q hq;exact absurd hq (Nat.not_lt_zero q))|exact .inr (b8 rfl)|exact .inl rfl|exact .inr (Nat.le_refl _)|fail)
theorem x_story (m:Nat) (hm:m<=2000) (b:Nat->Int) (hb:∀ i,0<=b i/\b i<=255) (p:Int) (hp:0<=p/\p<=80000) (k:Int) (f:FloT) (B:Int) (h:FInv B f):∃ y:(Int × Int × Int) × Int,(p<=y.2/\y.2<=p+12)/\d7 Tryz.prog 83 [.c (.box [.d (.sl 1 m λi=>[eU (b i)]),.d (eI p)]),xd (eFlo f),.c (.d (eI k))] ⟨.one (.agg [.d (eI y.1.1),.d (eI y.1.2.1),.d (eI y.1.2.2)]),[some (.box [.d (.sl 1 m λi=>[eU (b i)]),.d (eI y.2)]),none,none]⟩:=by
  obtain ⟨h1,h2,h3⟩:=finv_sizes h
  have w1:IntKind.i64.wrap ((f.tasks.n:Int)+1)=(f.tasks.n:Int)+1:=IntWalk.i64_in _ (by omega)
  have w2:IntKind.i64.wrap ((f.srcs.n:Int)+1)=(f.srcs.n:Int)+1:=IntWalk.i64_in _ (by omega)
  have n1:1<=(f.tasks.n:Int)/\(f.tasks.n:Int)<=1000000:=by omega
  have n2:1<=(f.srcs.n:Int)/\(f.srcs.n:Int)<=1000000:=by omega
  have n3:1<=(f.tasks.n:Int)+1/\(f.tasks.n:Int)+1<=1000000:=by omega
  have n4:1<=(f.srcs.n:Int)+1/\(f.srcs.n:Int)+1<=1000000:=by omega
  refine meets_ex (H:=[]) (EX:=EXD) l6 e8 ([some (.box [.d (.sl 1 m λi=>[eU (b i)]),.d (eI 0)]),none,none]) Tryz.func83 rfl (by kernel_rfl) (by decide) (λ_=>rfl) ?_
  generalize hA:real=A
  generalize hM:d4 Tryz.prog=M
  cbv
  repeat' first|refine br_t hA (by assumption) ?_|refine br_f hA (by assumption) ?_|apply And.intro|exact True.intro|with_reducible rfl|exact b7 hA rfl|apply c8 hA<;>intro _|exact c6 hA id | (subst hA;exact λh=>h) | (refine c5 hA ?_;decide +kernel) | (refine d6 hA hM (m7 m hm b hb _ (by omega) _ (by omega)) ?_;rintro ⟨x,q⟩ ⟨hx0,hx1,hq⟩;dsimp only at hx0 hx1 hq;cbv) | (refine l7 hA hM (m7 m hm b hb q (by omega) ((f.tasks.n:Int)+1) n3) ?_ ?_;(focus (subst hA;exact congrArg (λz=>[_,XT.c (.d (eI z))]) w1));rintro ⟨x,q⟩ ⟨hx0,hx1,hq⟩;dsimp only at hx0 hx1 hq;cbv) | (refine l7 hA hM (m7 m hm b hb p (by omega) ((f.tasks.n:Int)+1) n3) ?_ ?_;(focus (subst hA;exact congrArg (λz=>[_,XT.c (.d (eI z))]) w1));rintro ⟨x,q⟩ ⟨hx0,hx1,hq⟩;dsimp only at hx0 hx1 hq;cbv) | (refine l7 hA hM (m7 m hm b hb q (by omega) ((f.srcs.n:Int)+1) n4) ?_ ?_;(focus (subst hA;exact congrArg (λz=>[_,XT.c (.d (eI z))]) w2));rintro ⟨x,q⟩ ⟨hx0,hx1,hq⟩;dsimp only at hx0 hx1 hq;cbv) | (refine l7 hA hM (m7 m hm b hb p (by omega) ((f.srcs.n:Int)+1) n4) ?_ ?_;(focus (subst hA;exact congrArg (λz=>[_,XT.c (.d (eI z))]) w2));rintro ⟨x,q⟩ ⟨hx0,hx1,hq⟩;dsimp only at hx0 hx1 hq;cbv) | (refine l7 hA hM (m7 m hm b hb q (by omega) ((f.tasks.n:Int)) n1) ?_ ?_;(focus (subst hA;rfl));rintro ⟨x,q⟩ ⟨hx0,hx1,hq⟩;dsimp only at hx0 hx1 hq;cbv) | (refine l7 hA hM (m7 m hm b hb p (by omega) ((f.tasks.n:Int)) n1) ?_ ?_;(focus (subst hA;rfl));rintro ⟨x,q⟩ ⟨hx0,hx1,hq⟩;dsimp only at hx0 hx1 hq;cbv) | (refine l7 hA hM (m7 m hm b hb q (by omega) ((f.srcs.n:Int)) n2) ?_ ?_;(focus (subst hA;rfl));rintro ⟨x,q⟩ ⟨hx0,hx1,hq⟩;dsimp only at hx0 hx1 hq;cbv) | (refine l7 hA hM (m7 m hm b hb p (by omega) ((f.srcs.n:Int)) n2) ?_ ?_;(focus (subst hA;rfl));rintro ⟨x,q⟩ ⟨hx0,hx1,hq⟩;dsimp only at hx0 hx1 hq;cbv) | (refine d6 hA hM (x_lively m hm b hb q (by omega) f B h) ?_;rintro ⟨⟨e1,e2,e3⟩,q⟩ ⟨hx0,hx1⟩;dsimp only at hx0 hx1;cbv) | (refine d6 hA hM (x_lively m hm b hb p (by omega) f B h) ?_;rintro ⟨⟨e1,e2,e3⟩,q⟩ ⟨hx0,hx1⟩;dsimp only at hx0 hx1;cbv) | (refine d8 hA (λ_ => ?_);(constructor<;>omega)) | (refine b7 hA ?_;subst hA;rfl) | (refine i8 hA ⟨⟨(_,_,_),_⟩,?_,rfl,rfl⟩;simp only;omega)|fail
def st_gv0 (m:Nat) (b:Nat->Int) (f:FloT) (k:Int) (p:Int) (i:Nat):St:=⟨[(7,.c (.d (eI i))),(6,.c (.bp 384 1 0)),(4,.c (.bp 256 1 0)),(2,.c (.d (eI k))),(0,.c (.bp 0 1 0))],[(384,1,.box [.d (eI 0),.d (eI 0),.d (eI 0)]),(256,1,.box ((eFlo f).map .d)),(0,1,.box [.d (.sl 1 m λi=>[eU (b i)]),.d (eI p)])]⟩
def st_gv1 (m:Nat) (b:Nat->Int) (f:FloT) (k:Int) (p:Int) (i n:Nat):St:=⟨[(8,.c (.d (eI n))),(7,.c (.d (eI i))),(6,.c (.bp 384 1 0)),(4,.c (.bp 256 1 0)),(2,.c (.d (eI k))),(0,.c (.bp 0 1 0))],[(384,1,.box [.d (eI 0),.d (eI 0),.d (eI 0)]),(256,1,.box ((eFlo f).map .d)),(0,1,.box [.d (.sl 1 m λi=>[eU (b i)]),.d (eI p)])]⟩
def st_gv2 (m:Nat) (b:Nat->Int) (f:FloT) (k:Int) (p:Int) (i:Nat):St:=⟨[(9,.c (.d (eI i))),(6,.c (.bp 384 1 0)),(4,.c (.bp 256 1 0)),(2,.c (.d (eI k))),(0,.c (.bp 0 1 0))],[(384,1,.box [.d (eI 0),.d (eI 0),.d (eI 0)]),(256,1,.box ((eFlo f).map .d)),(0,1,.box [.d (.sl 1 m λi=>[eU (b i)]),.d (eI p)])]⟩
theorem x_given (m:Nat) (hm:m<=2000) (b:Nat->Int) (hb:∀ i,0<=b i/\b i<=255) (p:Int) (hp:0<=p/\p<=80000) (k:Int) (f:FloT) (B:Int) (h:FInv B f):∃ y:(Int × Int × Int) × Int,(p<=y.2/\y.2<=p+12)/\d7 Tryz.prog 84 [.c (.box [.d (.sl 1 m λi=>[eU (b i)]),.d (eI p)]),xd (eFlo f),.c (.d (eI k))] ⟨.one (.agg [.d (eI y.1.1),.d (eI y.1.2.1),.d (eI y.1.2.2)]),[some (.box [.d (.sl 1 m λi=>[eU (b i)]),.d (eI y.2)]),none,none]⟩:=by
  obtain ⟨h1,h2,h3⟩:=finv_sizes h
  have w1:IntKind.i64.wrap ((f.tasks.n:Int)+1)=(f.tasks.n:Int)+1:=IntWalk.i64_in _ (by omega)
  have w2:IntKind.i64.wrap ((f.srcs.n:Int)+1)=(f.srcs.n:Int)+1:=IntWalk.i64_in _ (by omega)
  have n1:1<=(f.tasks.n:Int)/\(f.tasks.n:Int)<=1000000:=by omega
  have n2:1<=(f.srcs.n:Int)/\(f.srcs.n:Int)<=1000000:=by omega
  have n3:1<=(f.tasks.n:Int)+1/\(f.tasks.n:Int)+1<=1000000:=by omega
  have n4:1<=(f.srcs.n:Int)+1/\(f.srcs.n:Int)+1<=1000000:=by omega
  have hsL:f.srcs.n<=maxLen:=f.srcs.hn
  have htL:f.tasks.n<=maxLen:=f.tasks.hn
  refine meets_ex (H:=[]) (EX:=EXD) l6 e8 ([some (.box [.d (.sl 1 m λi=>[eU (b i)]),.d (eI 0)]),none,none]) Tryz.func84 rfl (by kernel_rfl) (by decide) (λ_=>rfl) ?_
  generalize hA:real=A
  generalize hM:d4 Tryz.prog=M
  cbv
  repeat' first|apply And.intro|exact True.intro|with_reducible rfl|exact b7 hA rfl|apply c8 hA<;>intro _|exact c6 hA id | (subst hA;exact λh=>h) | (refine c5 hA ?_;decide +kernel)|fail
  refine i7 hA (α := { i:Nat // i<=f.tasks.n }) (λy=>st_gv0 m b f k p y.1) (λy=>f.tasks.n-y.1) ⟨0,Nat.zero_le _⟩ ?_ ?_
  · refine c7 ?_ ?_ ?_
    iterate 3 focus (subst hA;repeat' first|exact True.intro|exact rfl |  apply And.intro | (intro _ _;rfl) | (intro _ _ _;rfl) | (intro q hq;exact absurd hq (Nat.not_lt_zero q))|exact .inr (b8 rfl)|exact .inl rfl|exact .inr (Nat.le_refl _)|fail)
  rintro ⟨i,hi⟩
  have hi:i<=f.tasks.n:=hi
  have hlss:∀ {A:Ar},real=A->∀ v:Bool,A.bite (A.cmp .lss (Int.ofNat i) (A.int f.tasks.n)) v false=true->i<f.tasks.n:=λhA v hh=>by
    have hh:=(and_t hA hh).1
    subst hA
    have hh:(i:Int)<(f.tasks.n:Int):=of_decide_eq_true hh
    omega
  cbv
  repeat' first|apply And.intro|exact True.intro|with_reducible rfl|exact b7 hA rfl|apply c8 hA<;>intro _|exact c6 hA id | (subst hA;exact λh=>h) | (refine c5 hA ?_;decide +kernel)|fail
  · have hlt':i<f.tasks.n:=hlss hA _ (by assumption)
    have hii:=h3 i hlt'
    refine i7 hA (α := { n:Nat // n<=f.srcs.n }) (λy=>st_gv1 m b f k p i y.1) (λy=>f.srcs.n-y.1) ⟨0,Nat.zero_le _⟩ ?_ ?_
    · refine c7 ?_ ?_ ?_
      iterate 3 focus (subst hA;repeat' first|exact True.intro|exact rfl |  apply And.intro | (intro _ _;rfl) | (intro _ _ _;rfl) | (intro q hq;exact absurd hq (Nat.not_lt_zero q))|exact .inr (b8 rfl)|exact .inl rfl|exact .inr (Nat.le_refl _)|fail)
    rintro ⟨n,hn⟩
    have hn:n<=f.srcs.n:=hn
    cbv
    repeat' first|apply And.intro|exact True.intro|with_reducible rfl|exact b7 hA rfl|apply c8 hA<;>intro _|exact c6 hA id | (subst hA;exact λh=>h) | (refine c5 hA ?_;decide +kernel) | (refine d8 hA λ_=>⟨Int.natCast_nonneg i,Int.ofNat_lt.2 hlt'⟩) | (refine d8 hA λ_ => ?_;have hln:n<f.srcs.n:=(by first|exact f9 hA (by assumption)|exact l5 hA (by assumption));subst hA;exact ⟨Int.natCast_nonneg n,Int.ofNat_lt.2 (Nat.lt_of_lt_of_eq hln hii.symm)⟩) | (refine b7 hA ?_;subst hA;rfl) | (refine i8 hA ⟨⟨(_,_,_),_⟩,?_,rfl,rfl⟩;simp only;omega)|fail
    · have hln:n<f.srcs.n:=(by first|exact f9 hA (by assumption)|exact l5 hA (by assumption))
      refine ⟨⟨n+1,hln⟩,by simp only;omega,c7 ?_ ?_ ?_⟩
      iterate 3 focus (subst hA;repeat' first|exact True.intro|exact rfl|exact congrArg (λx=>DV.v (.int .i64 x)) (o0 hln hsL) |  apply And.intro | (intro _ _;rfl) | (intro _ _ _;rfl) | (intro q hq;exact absurd hq (Nat.not_lt_zero q))|exact .inr (b8 rfl)|exact .inl rfl|exact .inr (Nat.le_refl _)|fail)
    · refine ⟨⟨i+1,hlt'⟩,by simp only;omega,c7 ?_ ?_ ?_⟩
      iterate 3 focus (subst hA;repeat' first|exact True.intro|exact rfl|exact congrArg (λx=>DV.v (.int .i64 x)) (o0 hlt' htL) |  apply And.intro | (intro _ _;rfl) | (intro _ _ _;rfl) | (intro q hq;exact absurd hq (Nat.not_lt_zero q))|exact .inr (b8 rfl)|exact .inl rfl|exact .inr (Nat.le_refl _)|fail)
  refine i7 hA (α := { i:Nat // i<=f.srcs.n }) (λy=>st_gv2 m b f k p y.1) (λy=>f.srcs.n-y.1) ⟨0,Nat.zero_le _⟩ ?_ ?_
  · refine c7 ?_ ?_ ?_
    iterate 3 focus (subst hA;repeat' first|exact True.intro|exact rfl |  apply And.intro | (intro _ _;rfl) | (intro _ _ _;rfl) | (intro q hq;exact absurd hq (Nat.not_lt_zero q))|exact .inr (b8 rfl)|exact .inl rfl|exact .inr (Nat.le_refl _)|fail)
  clear hlss hi
  rintro ⟨n,hn⟩
  have hn:n<=f.srcs.n:=hn
  have hlss:∀ {A:Ar},real=A->∀ v:Bool,A.bite (A.cmp .lss (Int.ofNat n) (A.int f.srcs.n)) v false=true->n<f.srcs.n:=λhA v hh=>by
    have hh:=(and_t hA hh).1
    subst hA
    have hh:(n:Int)<(f.srcs.n:Int):=of_decide_eq_true hh
    omega
  cbv
  repeat' first|apply And.intro|exact True.intro|with_reducible rfl|exact b7 hA rfl|apply c8 hA<;>intro _|exact c6 hA id | (subst hA;exact λh=>h) | (refine c5 hA ?_;decide +kernel) | (refine d8 hA λ_ => ?_;have hln:n<f.srcs.n:=hlss hA _ (by assumption);exact ⟨Int.natCast_nonneg n,Int.ofNat_lt.2 hln⟩) | (refine nz_of hA ?_;(show (7:Int)≠0);decide) | (refine b7 hA ?_;subst hA;rfl) | (refine l7 hA hM (m7 m hm b hb q (by omega) ((f.tasks.n:Int)+1) n3) ?_ ?_;(focus (subst hA;exact congrArg (λz=>[_,XT.c (.d (eI z))]) w1));rintro ⟨x,q⟩ ⟨hx0,hx1,hq⟩;dsimp only at hx0 hx1 hq;cbv) | (refine l7 hA hM (m7 m hm b hb p (by omega) ((f.tasks.n:Int)+1) n3) ?_ ?_;(focus (subst hA;exact congrArg (λz=>[_,XT.c (.d (eI z))]) w1));rintro ⟨x,q⟩ ⟨hx0,hx1,hq⟩;dsimp only at hx0 hx1 hq;cbv) | (refine l7 hA hM (m7 m hm b hb q (by omega) ((f.srcs.n:Int)+1) n4) ?_ ?_;(focus (subst hA;exact congrArg (λz=>[_,XT.c (.d (eI z))]) w2));rintro ⟨x,q⟩ ⟨hx0,hx1,hq⟩;dsimp only at hx0 hx1 hq;cbv) | (refine l7 hA hM (m7 m hm b hb p (by omega) ((f.srcs.n:Int)+1) n4) ?_ ?_;(focus (subst hA;exact congrArg (λz=>[_,XT.c (.d (eI z))]) w2));rintro ⟨x,q⟩ ⟨hx0,hx1,hq⟩;dsimp only at hx0 hx1 hq;cbv) | (refine l7 hA hM (m7 m hm b hb q (by omega) ((f.tasks.n:Int)) n1) ?_ ?_;(focus (subst hA;rfl));rintro ⟨x,q⟩ ⟨hx0,hx1,hq⟩;dsimp only at hx0 hx1 hq;cbv) | (refine l7 hA hM (m7 m hm b hb p (by omega) ((f.tasks.n:Int)) n1) ?_ ?_;(focus (subst hA;rfl));rintro ⟨x,q⟩ ⟨hx0,hx1,hq⟩;dsimp only at hx0 hx1 hq;cbv) | (refine l7 hA hM (m7 m hm b hb q (by omega) ((f.srcs.n:Int)) n2) ?_ ?_;(focus (subst hA;rfl));rintro ⟨x,q⟩ ⟨hx0,hx1,hq⟩;dsimp only at hx0 hx1 hq;cbv) | (refine l7 hA hM (m7 m hm b hb p (by omega) ((f.srcs.n:Int)) n2) ?_ ?_;(focus (subst hA;rfl));rintro ⟨x,q⟩ ⟨hx0,hx1,hq⟩;dsimp only at hx0 hx1 hq;cbv) | (refine i8 hA ⟨⟨(_,_,_),_⟩,?_,rfl,rfl⟩;simp only;omega)|fail
  have hln:n<f.srcs.n:=hlss hA _ (by assumption)
  refine ⟨⟨n+1,hln⟩,by simp only;omega,c7 ?_ ?_ ?_⟩
  iterate 3 focus (subst hA;repeat' first|exact True.intro|exact rfl|exact congrArg (λx=>DV.v (.int .i64 x)) (o0 hln hsL) |  apply And.intro | (intro _ _;rfl) | (intro _ _ _;rfl) | (intro q hq;exact absurd hq (Nat.not_lt_zero q))|exact .inr (b8 rfl)|exact .inl rfl|exact .inr (Nat.le_refl _)|fail)
set_option maxHeartbeats 2000000
def SelP (c:Int) (i:Nat):Prop:=c<0\/c=(i:Int)
def st_rm (f:FloT) (k:Nat) (c:Int) (i:Nat):St:=⟨[(7,.c (.d (eI i))),(3,.c (.bp 192 1 0)),(1,.c (.d (eI (k:Int)))),(2,.c (.d (eI c)))],[(192,1,.box ((eFlo f).map .d))]⟩
theorem x_room (f:FloT) (k:Nat) (c:Int) (hk:∀ i,i<f.tasks.n->k<(f.tasks.g i).ins.n):∃ b,(b=true->∀ i,i<f.tasks.n->SelP c i->(((f.tasks.g i).ins.g k).queue.n:Int)<f.job.room)/\d7 Tryz.prog 129 [xd (eFlo f),.c (.d (eI (k:Int))),.c (.d (eI c))] ⟨.one (.c (.d (eB b))),[none,none,none]⟩:=by
  have hnL:f.tasks.n<=maxLen:=f.tasks.hn
  refine meets_ex (H:=[]) (EX:=EXA) l6 e8 ([none,none,none]) Tryz.func129 rfl (by kernel_rfl) (by decide) (λ_=>rfl) ?_
  generalize hA:real=A
  generalize hM:d4 Tryz.prog=M
  cbv
  repeat' first|apply And.intro|exact True.intro|with_reducible rfl|exact b7 hA rfl|apply c8 hA<;>intro _|exact c6 hA id | (subst hA;exact λh=>h) | (refine c5 hA ?_;decide +kernel)|fail
  refine i7 hA (α := { i:Nat // i<=f.tasks.n/\∀ q,q<i->SelP c q->(((f.tasks.g q).ins.g k).queue.n:Int)<f.job.room }) (λy=>st_rm f k c y.1) (λy=>f.tasks.n-y.1) ⟨0,Nat.zero_le _,λq hq=>absurd hq (Nat.not_lt_zero q)⟩ ?_ ?_
  · refine c7 ?_ ?_ ?_
    iterate 3 focus (subst hA;repeat' first|exact True.intro|exact rfl |  apply And.intro | (intro _ _;rfl) | (intro _ _ _;rfl) | (intro q hq;exact absurd hq (Nat.not_lt_zero q))|exact .inr (b8 rfl)|exact .inl rfl|exact .inr (Nat.le_refl _)|fail)
  rintro ⟨i,hi,hr⟩
  have hi:i<=f.tasks.n:=hi
  cbv
  repeat' first|apply And.intro|exact True.intro|with_reducible rfl|exact b7 hA rfl|apply c8 hA<;>intro _|exact c6 hA id | (subst hA;exact λh=>h) | (refine c5 hA ?_;decide +kernel) | (refine d8 hA λ_ => ?_;have hlt9:i<f.tasks.n:=(by first|exact f9 hA (by assumption)|exact l5 hA (by assumption));exact ⟨Int.natCast_nonneg i,Int.ofNat_lt.2 hlt9⟩) | (refine d8 hA λ_ => ?_;have hlt9:i<f.tasks.n:=(by first|exact f9 hA (by assumption)|exact l5 hA (by assumption));have hk9:=hk i hlt9;subst hA;exact ⟨Int.natCast_nonneg k,Int.ofNat_lt.2 hk9⟩) | (refine b7 hA ?_;subst hA;rfl)|fail
  · refine i8 hA ⟨false,λh=>absurd h (by decide),rfl,rfl⟩
  · rename_i hlt hsel
    have hlt':i<f.tasks.n:=(by first|exact f9 hA (by assumption)|exact l5 hA (by assumption))
    have hnew:∀ q,q<i+1->SelP c q->(((f.tasks.g q).ins.g k).queue.n:Int)<f.job.room:=λq hq hs=>by
      by_cases e:q<i
      · exact hr q e hs
      · have e:q=i:=by omega
        subst e
        subst hA
        have hsel:(bif (bif decide (c<0) then true else c==(q:Int)) then decide (((f.tasks.g q).ins.g k).queue.n>=f.job.room) else false)=false:=hsel
        have h1:(bif decide (c<0) then true else c==(q:Int))=true:=by
          rcases hs with hs|hs
          · rw [decide_eq_true hs];rfl
          · rw [hs,beq_self_eq_true];cases decide ((q:Int)<0)<;>rfl
        rw [h1] at hsel
        have hsel:decide ((((f.tasks.g q).ins.g k).queue.n:Int)>=f.job.room)=false:=hsel
        have:=of_decide_eq_false hsel
        omega
    refine ⟨⟨i+1,hlt',hnew⟩,by simp only;omega,c7 ?_ ?_ ?_⟩
    iterate 3 focus (subst hA;repeat' first|exact True.intro|exact rfl|exact congrArg (λx=>DV.v (.int .i64 x)) (o0 hlt' hnL) |  apply And.intro | (intro _ _;rfl) | (intro _ _ _;rfl) | (intro q hq;exact absurd hq (Nat.not_lt_zero q))|exact .inr (b8 rfl)|exact .inl rfl|exact .inr (Nat.le_refl _)|fail)
  · rename_i hge
    have hin:i=f.tasks.n:=by
      subst hA
      have:¬ ((i:Int)<(f.tasks.n:Int)):=of_decide_eq_false hge
      omega
    subst hin
    refine i8 hA ⟨true,λ_=>hr,rfl,rfl⟩
def st_sd (f:FloT) (k:Nat) (c:Int) (x:ItmT) (i:Nat) (G:Nat->TskT):St:=⟨[(9,.c (.d (eI i))),(4,.c (.bp 256 1 0)),(7,.c (.bp 448 1 0)),(8,.c (.bp 512 1 0)),(1,.c (.d (eI (k:Int)))),(2,.c (.d (eI c)))],[(12,1,.nest 7 f.tasks.n (λq=>v9 (G q)) none),(11,1,.arr 2 f.srcs.n λi=>eSrc (f.srcs.g i)),(16,1,.arr 1 f.ckp.src.n λi=>[eI (f.ckp.src.g i)]),(256,1,.box [.d (eI f.job.srcs),.d (eI f.job.tsks),.d (eI f.job.kind),.d (eI f.job.size),.d (eI f.job.step),.d (eI f.job.late),.d (eI f.job.tell),.d (eB f.job.piece),.d (eI f.job.least),.d (eI f.job.room),.d (.sl 1 f.logs.n λi=>[.sl 5 (f.logs.g i).n λk=>n9 ((f.logs.g i).g k)]),.own 11 0 f.srcs.n 1,.nown 12 f.tasks.n 1,.d (.sl 4 f.sinks.n λi=>s0 (f.sinks.g i)),.d (eI f.ckp.n),.d (eB f.ckp.opn),.own 16 0 f.ckp.src.n 1,.d (.sl 1 f.ckp.tsk.n λi=>[eB (f.ckp.tsk.g i)]),.d (.sl 3 f.ckp.snaps.n λi=>d9 (f.ckp.snaps.g i)),.d (eI f.ckp.safe.n),.d (.sl 1 f.ckp.safe.at_.n λi=>[eI (f.ckp.safe.at_.g i)]),.d (.sl 3 f.ckp.safe.snaps.n λi=>d9 (f.ckp.safe.snaps.g i))]),(448,1,.box [.d (eI x.kind),.d (eI x.t),.d (eI x.key),.d (eI x.v),.d (eI x.n)]),(512,1,.box [.d (eI 0),.d (eI 0),.d (eI 0),.d (eI 0),.d (eI 0),.d (eI 0),.d (eI 0),.d (eB false),.d (eI 0),.d (eI 0),.d (.v c9),.d (.v c9),.d (.v c9),.d (.v c9),.d (eI 0),.d (eB false),.d (.v c9),.d (.v c9),.d (.v c9),.d (eI 0),.d (.v c9),.d (.v c9)])]⟩
def selB (c:Int) (i:Nat):Bool:=decide (c<0\/c=(i:Int))
theorem selB_t {A:Ar} (hA:real=A) {c:Int} {i:Nat} (h:A.bite (A.cmp .lss c 0) true (A.cmp .eql c (Int.ofNat i))=true):selB c i=true:=by
  subst hA
  have h:(bif decide (c<0) then true else c==(i:Int))=true:=h
  unfold selB
  by_cases e:c<0
  · exact decide_eq_true (.inl e)
  · rw [decide_eq_false e] at h
    have h:(c==(i:Int))=true:=h
    rw [beq_iff_eq] at h
    exact decide_eq_true (.inr h)
theorem selB_f {A:Ar} (hA:real=A) {c:Int} {i:Nat} (h:A.bite (A.cmp .lss c 0) true (A.cmp .eql c (Int.ofNat i))=false):selB c i=false:=by
  obtain ⟨h1,h2⟩:=bite_f hA h
  have h2:=eql_f hA h2
  have h1:¬ c<0:=by subst hA;exact of_decide_eq_false h1
  exact decide_eq_false (λh=>h.elim h1 h2)
theorem x_send (f:FloT) (k:Nat) (c:Int) (x:ItmT) (hk:∀ i,i<f.tasks.n->k<(f.tasks.g i).ins.n) (hr:∀ i,i<f.tasks.n->selB c i=true->((f.tasks.g i).ins.g k).queue.n+1<=1000) :
    ∃ y:FloT,y=sendF f k (selB c) x/\d7 Tryz.prog 130 [.agg [.d (eI f.job.srcs),.d (eI f.job.tsks),.d (eI f.job.kind),.d (eI f.job.size),.d (eI f.job.step),.d (eI f.job.late),.d (eI f.job.tell),.d (eB f.job.piece),.d (eI f.job.least),.d (eI f.job.room),.d (.sl 1 f.logs.n λi=>[.sl 5 (f.logs.g i).n λk=>n9 ((f.logs.g i).g k)]),.own 2 f.srcs.n λi=>eSrc (f.srcs.g i),.nown 7 f.tasks.n λi=>v9 (f.tasks.g i),.d (.sl 4 f.sinks.n λi=>s0 (f.sinks.g i)),.d (eI f.ckp.n),.d (eB f.ckp.opn),.own 1 f.ckp.src.n λi=>[eI (f.ckp.src.g i)],.d (.sl 1 f.ckp.tsk.n λi=>[eB (f.ckp.tsk.g i)]),.d (.sl 3 f.ckp.snaps.n λi=>d9 (f.ckp.snaps.g i)),.d (eI f.ckp.safe.n),.d (.sl 1 f.ckp.safe.at_.n λi=>[eI (f.ckp.safe.at_.g i)]),.d (.sl 3 f.ckp.safe.snaps.n λi=>d9 (f.ckp.safe.snaps.g i))],.c (.d (eI (k:Int))),.c (.d (eI c)),xd (n9 x)] ⟨.one (.agg [.d (eI y.job.srcs),.d (eI y.job.tsks),.d (eI y.job.kind),.d (eI y.job.size),.d (eI y.job.step),.d (eI y.job.late),.d (eI y.job.tell),.d (eB y.job.piece),.d (eI y.job.least),.d (eI y.job.room),.d (.sl 1 y.logs.n λi=>[.sl 5 (y.logs.g i).n λk=>n9 ((y.logs.g i).g k)]),.own 2 y.srcs.n λi=>eSrc (y.srcs.g i),.nown 7 y.tasks.n λi=>v9 (y.tasks.g i),.d (.sl 4 y.sinks.n λi=>s0 (y.sinks.g i)),.d (eI y.ckp.n),.d (eB y.ckp.opn),.own 1 y.ckp.src.n λi=>[eI (y.ckp.src.g i)],.d (.sl 1 y.ckp.tsk.n λi=>[eB (y.ckp.tsk.g i)]),.d (.sl 3 y.ckp.snaps.n λi=>d9 (y.ckp.snaps.g i)),.d (eI y.ckp.safe.n),.d (.sl 1 y.ckp.safe.at_.n λi=>[eI (y.ckp.safe.at_.g i)]),.d (.sl 3 y.ckp.safe.snaps.n λi=>d9 (y.ckp.safe.snaps.g i))]),[none,none,none,none]⟩:=by
  have hnL:f.tasks.n<=maxLen:=f.tasks.hn
  obtain ⟨S,hS⟩:∃ S,S=(sendF f k (selB c) x).tasks.g:=⟨_,rfl⟩
  have hS0:∀ i,selB c i=false->S i=f.tasks.g i:=λi h=>by
    rw [hS];exact dif_neg (λhh=>by rw [h] at hh;exact absurd hh.1 (by decide))
  have hS1:∀ i (hm:((f.tasks.g i).ins.g k).queue.n+1<=maxLen),selB c i=true->S i=putT (f.tasks.g i) k x hm:=λi hm h=>by
    rw [hS];exact dif_pos ⟨h,hm⟩
  refine meets_exW (H:=[5]) (EX:=EXA) l6 e8 ([none,none,none,none]) Tryz.func130 rfl (by kernel_rfl) (by decide) (λ_=>rfl) ?_
  generalize hA:real=A
  generalize hM:d4 Tryz.prog=M
  cbv
  repeat' first|apply And.intro|exact True.intro|with_reducible rfl|exact b7 hA rfl|apply c8 hA<;>intro _|exact c6 hA id | (subst hA;exact λh=>h) | (refine c5 hA ?_;decide +kernel)|fail
  refine i7 hA (α := { y:Nat × (Nat->TskT) // y.1<=f.tasks.n/\(∀ q,q<y.1->y.2 q=S q)/\∀ q,y.1<=q->y.2 q=f.tasks.g q }) (λy=>st_sd f k c x y.1.1 y.1.2) (λy=>f.tasks.n-y.1.1) ⟨(0,f.tasks.g),Nat.zero_le _,λq hq=>absurd hq (Nat.not_lt_zero q),λ_ _=>rfl⟩ ?_ ?_
  · refine c7 ?_ ?_ ?_
    iterate 3 focus (subst hA;repeat' first|exact True.intro|exact rfl |  apply And.intro | (intro _ _;rfl) | (intro _ _ _;rfl) | (intro q hq;exact absurd hq (Nat.not_lt_zero q))|exact .inr (b8 rfl)|exact .inl rfl|exact .inr (Nat.le_refl _)|fail)
  rintro ⟨⟨i,G⟩,hi,hlo,hhi⟩
  have hi:i<=f.tasks.n:=hi
  have hlo:∀ q,q<i->G q=S q:=hlo
  have hhi:∀ q,i<=q->G q=f.tasks.g q:=hhi
  have hGi:=hhi i (Nat.le_refl i)
  cbv
  repeat' first|apply And.intro|exact True.intro|with_reducible rfl|exact b7 hA rfl|apply c8 hA<;>intro _|exact c6 hA id | (subst hA;exact λh=>h) | (refine c5 hA ?_;decide +kernel) | (refine b7 hA ?_;subst hA;rfl)|fail
  · rename_i hlt hsel
    have hlt':i<f.tasks.n:=(by first|exact f9 hA (by assumption)|exact l5 hA (by assumption))
    have hse:=selB_t hA hsel
    have hk':=hk i hlt'
    have hq1:=hr i hlt' hse
    have hqm:((f.tasks.g i).ins.g k).queue.n+1<=maxLen:=Nat.le_trans hq1 (by decide)
    have hSi:=hS1 i hqm hse
    refine l9 hA ⟨[(9,.c (.d (eI i))),(4,.c (.bp 256 1 0)),(7,.c (.bp 448 1 0)),(8,.c (.bp 512 1 0)),(1,.c (.d (eI (k:Int)))),(2,.c (.d (eI c)))],[(12,1,.nest 7 f.tasks.n (λq=>v9 (G q)) (some (i,[.nown 9000 (f.tasks.g i).ins.n 1,.d (eI (f.tasks.g i).op.mark),.own 9002 0 (f.tasks.g i).op.rows.n 1,.d (eI (f.tasks.g i).wall),.d (eI (f.tasks.g i).pend.n),.own 9005 0 (f.tasks.g i).pend.panes.n 1,.own 9006 0 (f.tasks.g i).pend.lates.n 1]))),(9000,1,.nest 3 (f.tasks.g i).ins.n (λq=>l8 ((f.tasks.g i).ins.g q)) (some (k,[.own 9100 0 ((f.tasks.g i).ins.g k).queue.n 1,.d (eI ((f.tasks.g i).ins.g k).mark),.d (eB ((f.tasks.g i).ins.g k).held)]))),(9100,1,.arr 5 ((f.tasks.g i).ins.g k).queue.n λp=>n9 (((f.tasks.g i).ins.g k).queue.g p)),(9002,1,.arr 13 (f.tasks.g i).op.rows.n λz9=>i6 ((f.tasks.g i).op.rows.g z9)),(9005,1,.arr 9 (f.tasks.g i).pend.panes.n λz9=>m6 ((f.tasks.g i).pend.panes.g z9)),(9006,1,.arr 7 (f.tasks.g i).pend.lates.n λz9=>eLat ((f.tasks.g i).pend.lates.g z9)),(11,1,.arr 2 f.srcs.n λi=>eSrc (f.srcs.g i)),(16,1,.arr 1 f.ckp.src.n λi=>[eI (f.ckp.src.g i)]),(256,1,.box [.d (eI f.job.srcs),.d (eI f.job.tsks),.d (eI f.job.kind),.d (eI f.job.size),.d (eI f.job.step),.d (eI f.job.late),.d (eI f.job.tell),.d (eB f.job.piece),.d (eI f.job.least),.d (eI f.job.room),.d (.sl 1 f.logs.n λi=>[.sl 5 (f.logs.g i).n λk=>n9 ((f.logs.g i).g k)]),.own 11 0 f.srcs.n 1,.nown 12 f.tasks.n 1,.d (.sl 4 f.sinks.n λi=>s0 (f.sinks.g i)),.d (eI f.ckp.n),.d (eB f.ckp.opn),.own 16 0 f.ckp.src.n 1,.d (.sl 1 f.ckp.tsk.n λi=>[eB (f.ckp.tsk.g i)]),.d (.sl 3 f.ckp.snaps.n λi=>d9 (f.ckp.snaps.g i)),.d (eI f.ckp.safe.n),.d (.sl 1 f.ckp.safe.at_.n λi=>[eI (f.ckp.safe.at_.g i)]),.d (.sl 3 f.ckp.safe.snaps.n λi=>d9 (f.ckp.safe.snaps.g i))]),(448,1,.box [.d (eI x.kind),.d (eI x.t),.d (eI x.key),.d (eI x.v),.d (eI x.n)]),(512,1,.box [.d (eI 0),.d (eI 0),.d (eI 0),.d (eI 0),.d (eI 0),.d (eI 0),.d (eI 0),.d (eB false),.d (eI 0),.d (eI 0),.d (.v c9),.d (.v c9),.d (.v c9),.d (.v c9),.d (eI 0),.d (eB false),.d (.v c9),.d (.v c9),.d (.v c9),.d (eI 0),.d (.v c9),.d (.v c9)])]⟩ (cov_open 12 9000 1 i (λj=>nbeq j 0) (v9 (f.tasks.g i)) rfl hlt' (congrArg v9 hGi) ⟨.inl rfl,trivial,.inr (flatR λ_=>flat_Row _),trivial,trivial,.inr (flatR λ_=>flat_Pane _),.inr (flatR λ_=>flat_Lat _),trivial⟩ rfl (cov_open 9000 9100 1 k (λ_=>false) (l8 ((f.tasks.g i).ins.g k)) rfl hk' rfl ⟨.inr (flatR λ_=>flat_Itm _),trivial,trivial,trivial⟩ rfl (c7 ?_ ?_ ?_))) ?_
    iterate 3 focus (subst hA;repeat' first|exact True.intro|exact rfl |  apply And.intro | (intro _ _;rfl) | (intro _ _ _;rfl) | (intro q hq;exact absurd hq (Nat.not_lt_zero q))|exact .inr (b8 rfl)|exact .inl rfl|exact .inr (Nat.le_refl _)|fail)
    cbv
    repeat' first|apply And.intro|exact True.intro|with_reducible rfl|exact b7 hA rfl|apply c8 hA<;>intro _|exact c6 hA id | (subst hA;exact λh=>h) | (refine c5 hA ?_;decide +kernel) | (refine d8 hA λ_=>⟨Int.natCast_nonneg i,Int.ofNat_lt.2 hlt'⟩) | (refine d8 hA λ_=>⟨Int.natCast_nonneg k,Int.ofNat_lt.2 hk'⟩) | (refine b7 hA ?_;subst hA;rfl)|exact f6 hA (Nat.le_trans hq1 (by decide)) (by decide)|fail
    obtain ⟨G',hG'⟩:∃ r:Nat->TskT,r=λq=>if q=i then putT (f.tasks.g i) k x hqm else G q:=⟨_,rfl⟩
    have g1:G' i=putT (f.tasks.g i) k x hqm:=by rw [hG'];exact if_pos rfl
    have g2:∀ q,q≠i->G' q=G q:=λq hq=>by rw [hG'];exact if_neg hq
    refine ⟨⟨(i+1,G'),hlt',λq hq => ?_,λq hq => ?_⟩,by simp only;omega,
      cov_close 9000 (λq=>l8 (if q=k then putI ((f.tasks.g i).ins.g k) x hqm else (f.tasks.g i).ins.g q)) (l8 (putI ((f.tasks.g i).ins.g k) x hqm)) [(9100,2)] rfl ?_ rfl (congrArg l8 (if_pos rfl)) (λq _ hne=>congrArg l8 (if_neg hne))
        (cov_close 12 (λq=>v9 (G' q)) (v9 (putT (f.tasks.g i) k x hqm)) [(9000,1),(9002,1),(9005,1),(9006,1)] rfl ?_ rfl (congrArg v9 g1) (λq _ hne=>congrArg v9 (g2 q hne)) (c7 ?_ ?_ ?_))⟩
    · show G' q=S q
      by_cases e:q=i
      · rw [e,g1,hSi]
      · rw [g2 q e];exact hlo q (by simp only at hq;omega)
    · show G' q=f.tasks.g q
      simp only at hq
      rw [g2 q (by omega)];exact hhi q (by omega)
    · subst hA;exact close_own rfl (λq hq=>m8 (A:=real) n9 rfl ((f.tasks.g i).ins.g k).queue.n ((f.tasks.g i).ins.g k).queue.g x _ q hq) (flatR λ_=>flat_Itm _) (close_v (close_v close_end))
    · subst hA;exact close_nown rfl (λ_ _=>NsLe.rfl) (close_v (close_own rfl (λ_ _=>rfl) (flatR λ_=>flat_Row _) (close_v (close_v (close_own rfl (λ_ _=>rfl) (flatR λ_=>flat_Pane _) (close_own rfl (λ_ _=>rfl) (flatR λ_=>flat_Lat _) close_end))))))
    iterate 3 focus (subst hA;repeat' first|exact True.intro|exact rfl|exact congrArg (λx=>DV.v (.int .i64 x)) (o0 hlt' hnL) |  apply And.intro | (intro _ _;rfl) | (intro _ _ _;rfl) | (intro q hq;exact absurd hq (Nat.not_lt_zero q))|exact .inr (b8 rfl)|exact .inl rfl|exact .inr (Nat.le_refl _)|fail)
  · rename_i hlt hsel
    have hlt':i<f.tasks.n:=(by first|exact f9 hA (by assumption)|exact l5 hA (by assumption))
    have hse:=selB_f hA hsel
    refine ⟨⟨(i+1,G),hlt',λq hq => ?_,λq hq=>hhi q (by simp only at hq;omega)⟩,by simp only;omega,c7 ?_ ?_ ?_⟩
    · show G q=S q
      by_cases e:q=i
      · rw [e,hGi,hS0 i hse]
      · exact hlo q (by simp only at hq;omega)
    iterate 3 focus (subst hA;repeat' first|exact True.intro|exact rfl|exact congrArg (λx=>DV.v (.int .i64 x)) (o0 hlt' hnL) |  apply And.intro | (intro _ _;rfl) | (intro _ _ _;rfl) | (intro q hq;exact absurd hq (Nat.not_lt_zero q))|exact .inr (b8 rfl)|exact .inl rfl|exact .inr (Nat.le_refl _)|fail)
  · rename_i hge
    have hin:i=f.tasks.n:=by
      subst hA
      have:¬ ((i:Int)<(f.tasks.n:Int)):=of_decide_eq_false hge
      omega
    subst hin
    refine i8 hA ⟨_,rfl,?_,rfl⟩
    subst hA
    have hall:∀ q,q<f.tasks.n->NsLe (v9 (G q)) (v9 ((sendF f k (selB c) x).tasks.g q)):=λq hq=>nsle_of_eq (by rw [hlo q hq,hS])
    repeat' first|apply And.intro|exact True.intro|exact DLe.rfl|exact rfl|exact hall|exact λ_ _=>LsLe.rfl
set_option maxHeartbeats 20000000
def EXSr:FuncId->List Nat × Bool:=λf=>bif nbeq f 130 then ([0],false) else ([],false)
theorem room_small4 {B:Int} {f:FloT} (h:FInv B f) {c:Int} {k:Nat} (hr:∀ i,i<f.tasks.n->SelP c i->(((f.tasks.g i).ins.g k).queue.n:Int)<f.job.room):∀ i,i<f.tasks.n->selB c i=true->((f.tasks.g i).ins.g k).queue.n+1<=1000:=λi hi hs=>by
  have h1:=hr i hi (show c<0\/c=(i:Int) from of_decide_eq_true hs)
  have h2:=h.ok.1.1.2.2.2.2.2.2.2.2
  omega
theorem room_lt {B:Int} {f:FloT} (h:FInv B f) {c:Int} {k:Nat} (hr:∀ i,i<f.tasks.n->SelP c i->(((f.tasks.g i).ins.g k).queue.n:Int)<f.job.room):∀ i,i<f.tasks.n->selB c i=true->(((f.tasks.g i).ins.g k).queue.n:Int)<f.job.room:=λi hi hs=>hr i hi (show c<0\/c=(i:Int) from of_decide_eq_true hs)
theorem src_next {B:Int} {f:FloT} {k:Nat} (h:FInv B f) (hk:k<f.logs.n) (hlt:(f.srcs.g k).at_<((f.logs.g k).n:Int)):FInv B (srcF f k ⟨(f.srcs.g k).at_+1,(f.srcs.g k).wall⟩)/\IntKind.i64.wrap ((f.srcs.g k).at_+1)=(f.srcs.g k).at_+1:=by
  obtain ⟨a1,a2,a3,a4⟩:=h.ok.2.2.2.2.2.1 k hk
  have h40:=a1.1.2
  have h0:=a2.1
  generalize ha:(f.srcs.g k).at_=at_ at *
  refine ⟨finv_src h ⟨?_,?_⟩ a4,IntWalk.i64_in _ (by omega)⟩
  · show 0<=at_+1
    omega
  · show at_+1<=((f.logs.g k).n:Int)
    omega
theorem x_src (f:FloT) (B:Int) (i:Int) (h:FInv B f):∃ y:FloT,FInv B y/\d7 Tryz.prog 114 [.agg [.d (eI f.job.srcs),.d (eI f.job.tsks),.d (eI f.job.kind),.d (eI f.job.size),.d (eI f.job.step),.d (eI f.job.late),.d (eI f.job.tell),.d (eB f.job.piece),.d (eI f.job.least),.d (eI f.job.room),.d (.sl 1 f.logs.n λi=>[.sl 5 (f.logs.g i).n λk=>n9 ((f.logs.g i).g k)]),.own 2 f.srcs.n λi=>eSrc (f.srcs.g i),.nown 7 f.tasks.n λi=>v9 (f.tasks.g i),.d (.sl 4 f.sinks.n λi=>s0 (f.sinks.g i)),.d (eI f.ckp.n),.d (eB f.ckp.opn),.own 1 f.ckp.src.n λi=>[eI (f.ckp.src.g i)],.d (.sl 1 f.ckp.tsk.n λi=>[eB (f.ckp.tsk.g i)]),.d (.sl 3 f.ckp.snaps.n λi=>d9 (f.ckp.snaps.g i)),.d (eI f.ckp.safe.n),.d (.sl 1 f.ckp.safe.at_.n λi=>[eI (f.ckp.safe.at_.g i)]),.d (.sl 3 f.ckp.safe.snaps.n λi=>d9 (f.ckp.safe.snaps.g i))],.c (.d (eI i))] ⟨.one (xd (eFlo y)),[none,none]⟩:=by
  have hj:=h.ok.1.1
  have hs3:=h.ok.2.2.1
  have hl3:=h.ok.2.1
  have hj1:=hj.1
  have hnL:f.srcs.n<=3:=by omega
  have wr:IntKind.i64.wrap ((f.srcs.n:Int)-1)=f.srcs.n-1:=IntWalk.i64_in _ (by omega)
  obtain ⟨b3,h3,m3⟩:=c_l1In i 0 ((f.srcs.n:Int)-1)
  by_cases hin:0<=i/\i<(f.srcs.n:Int)
  rotate_left
  · obtain rfl:b3=false:=by
      rw [h3];exact decide_eq_false (λhh=>hin ⟨hh.1,by omega⟩)
    refine u0 (H:=[8]) (EX:=EXSr) l6 e8 ([none,none]) Tryz.func114 rfl (by kernel_rfl) (by decide) (λ_=>rfl) ?_
    generalize hA:real=A
    generalize hM:d4 Tryz.prog=M
    cbv
    repeat' first|exact absurd (show false=true by subst hA;assumption) (by decide)|exact absurd (show true=false by subst hA;assumption) (by decide)|apply And.intro|exact True.intro|with_reducible rfl|exact b7 hA rfl|apply c8 hA<;>intro _|exact c6 hA id | (subst hA;exact λh=>h) | (refine c5 hA ?_;decide +kernel) | (refine i9 hA hM _ m3 (by subst hA;show [XT.c (.d (eI _)),XT.c (.d (eI 0)),XT.c (.d (eI (IntKind.i64.wrap ((f.srcs.n:Int)-1))))]=_;first | (rw [wr];done) | (rw [wr];rfl)) ?_;cbv) | (refine b7 hA ?_;subst hA;rfl)|fail
    refine i8 hA ⟨f,h,by (subst hA;rfl),?_,rfl⟩
    (subst hA;repeat' first|apply And.intro|exact True.intro|exact DLe.rfl|exact f8 _ _ |  exact m9 rfl)
  obtain ⟨k,rfl⟩:∃ k:Nat,i=(k:Int):=Int.eq_ofNat_of_zero_le hin.1
  have hk:k<f.srcs.n:=by have:=hin.2;omega
  have hkl:k<f.logs.n:=by omega
  obtain rfl:b3=true:=by rw [h3];exact decide_eq_true ⟨by omega,by omega⟩
  obtain ⟨a1,a2,a3,a4⟩:=h.ok.2.2.2.2.2.1 k hkl
  have hkk:∀ i,i<f.tasks.n->k<(f.tasks.g i).ins.n:=λi hi=>by
    have:=(h.ok.2.2.2.2.2.2.1 i hi).1.2.1
    omega
  have hlog40:=a1.1.2
  have hkj:(k:Int)<f.job.srcs:=by omega
  have hat:∀ {A:Ar},real=A->A.cmp .eql (f.srcs.g (A.add 0 (A.nat (Int.ofNat k)))).at_ (A.int (f.logs.g (A.nat (Int.ofNat k))).n)=false->0<=(f.srcs.g (A.add 0 (A.nat (Int.ofNat k)))).at_/\(f.srcs.g (A.add 0 (A.nat (Int.ofNat k)))).at_<((f.logs.g (A.nat (Int.ofNat k))).n:Int):=λhA hh=>by
    have hh:=eql_f hA hh
    subst hA
    have key:∀ ix iy,ix=k->iy=k->(f.srcs.g ix).at_≠((f.logs.g iy).n:Int)->0<=(f.srcs.g ix).at_/\(f.srcs.g ix).at_<((f.logs.g iy).n:Int):=λix iy e1 e2 h9=>by
      subst e1;subst e2
      have:=a2.2
      exact ⟨a2.1,by omega⟩
    exact key _ _ (Nat.zero_add k) rfl hh
  have hat2:∀ {A:Ar},real=A->A.cmp .eql (f.srcs.g (A.add 0 (A.nat (Int.ofNat k)))).at_ (A.int (f.logs.g (A.nat (Int.ofNat k))).n)=false->(f.srcs.g k).at_<((f.logs.g k).n:Int):=λhA hh=>by
    have h9:=(hat hA hh).2
    subst hA
    have key:∀ ix iy,ix=k->iy=k->(f.srcs.g ix).at_<((f.logs.g iy).n:Int)->(f.srcs.g k).at_<((f.logs.g k).n:Int):=λix iy e1 e2 h8=>by
      subst e1;subst e2;exact h8
    exact key _ _ (Nat.zero_add k) rfl h9
  have hnz:f.job.tsks≠0:=by have:=hj.2.1;omega
  have hopn:∀ {A:Ar},real=A->A.bite f.ckp.opn (A.cmp .lss (f.srcs.g (A.add 0 (A.nat (Int.ofNat k)))).wall f.ckp.n) false=true->f.ckp.opn=true:=λhA hh=>(and_t hA hh).1
  refine u0 (H:=[8,16]) (EX:=EXSr) l6 e8 ([none,none]) Tryz.func114 rfl (by kernel_rfl) (by decide) (λ_=>rfl) ?_
  generalize hA:real=A
  generalize hM:d4 Tryz.prog=M
  cbv
  repeat' first|exact absurd (show false=true by subst hA;assumption) (by decide)|exact absurd (show true=false by subst hA;assumption) (by decide)|apply And.intro|exact True.intro|with_reducible rfl|exact b7 hA rfl|apply c8 hA<;>intro _|exact c6 hA id | (subst hA;exact λh=>h) | (refine c5 hA ?_;decide +kernel) | (refine i9 hA hM _ m3 (by subst hA;show [XT.c (.d (eI _)),XT.c (.d (eI 0)),XT.c (.d (eI (IntKind.i64.wrap ((f.srcs.n:Int)-1))))]=_;first | (rw [wr];done) | (rw [wr];rfl)) ?_;cbv) | (refine d8 hA λ_=>⟨Int.natCast_nonneg k,Int.ofNat_lt.2 hk⟩) | (refine d8 hA λ_=>⟨Int.natCast_nonneg k,Int.ofNat_lt.2 hkl⟩) | (refine d8 hA λ_ => ?_;exact hat hA (by assumption)) | (refine b7 hA ?_;subst hA;rfl) | (refine l7 hA hM (x_room f k (-1) hkk) (by (subst hA;first|rfl | (simp only [p6];done) | (simp only [p6];rfl))) ?_;rintro b hb;cbv) | (refine i8 hA ⟨f,h,by (subst hA;rfl),?_,rfl⟩;(subst hA;repeat' first|apply And.intro|exact True.intro|exact DLe.rfl|exact f8 _ _ |  exact m9 rfl);done) | (subst hA;exact λ_=>hnz)|fail
  · have hbt:b=true:=by
      subst hA
      rename_i hbb
      have hbb:(!b)=false:=hbb
      cases b with
      | true=>rfl
      | false=>cases hbb
    have hr:=room_small4 h (hb hbt)
    have hr4:=room_lt h (hb hbt)
    have ho:=hopn hA (by assumption)
    have hok:=h.ok.1
    have hn1:1<=f.ckp.n/\f.ckp.n<=900:=by
      have q1:=hok.2.2.1
      have q2:=hok.2.1.1
      have q3:¬ f.ckp.n=f.ckp.safe.n:=λe=>hok.2.2.2.1 ⟨ho,e⟩
      omega
    obtain ⟨x,hx⟩:∃ x:ItmT,x=⟨3,0,0,0,f.ckp.n⟩:=⟨_,rfl⟩
    have hxo:ItmOkP x:=by rw [hx];exact .inr (.inr ⟨rfl,rfl,rfl,rfl,hn1⟩)
    refine l7 hA hM (x_send f k (-1) x hkk hr) (by (subst hA;rw [hx];first|rfl | (simp only [p6];done) | (simp only [p6];rfl))) ?_
    rintro y hy
    have hfy:FInv B y:=by rw [hy];exact finv_send h hkj hxo (λ_=>by rw [hx];exact Int.le_refl _) hr4
    have y1:y.srcs=f.srcs:=by rw [hy];rfl
    have y2:y.ckp=f.ckp:=by rw [hy];rfl
    have y3:y.logs=f.logs:=by rw [hy];rfl
    clear hy
    have hky:k<y.srcs.n:=by rw [y1];exact hk
    have hsrn:f.ckp.src.n=f.srcs.n:=Int.ofNat.inj (hok.2.2.2.2.1.trans hs3.symm)
    have hkc:k<y.ckp.src.n:=by rw [y2,hsrn];exact hk
    cbv
    repeat' first|exact absurd (show false=true by subst hA;assumption) (by decide)|exact absurd (show true=false by subst hA;assumption) (by decide)|apply And.intro|exact True.intro|with_reducible rfl|exact b7 hA rfl|apply c8 hA<;>intro _|exact c6 hA id | (subst hA;exact λh=>h) | (refine c5 hA ?_;decide +kernel) | (refine d8 hA λ_=>⟨Int.natCast_nonneg k,Int.ofNat_lt.2 hky⟩) | (refine d8 hA λ_=>⟨Int.natCast_nonneg k,Int.ofNat_lt.2 hkc⟩) | (refine b7 hA ?_;subst hA;rfl)|fail
    obtain ⟨G1,hG1⟩:∃ r:Nat->SrcT,r=λq=>if q=k then ⟨(y.srcs.g k).at_,y.ckp.n⟩ else y.srcs.g q:=⟨_,rfl⟩
    have hGk:(G1 k).at_=(y.srcs.g k).at_:=by
      rw [hG1]
      show (if k=k then (⟨(y.srcs.g k).at_,y.ckp.n⟩:SrcT) else y.srcs.g k).at_=_
      rw [if_pos rfl]
    have hrow:∀ ix l,ix=k->l=eSrc ⟨(y.srcs.g ix).at_,y.ckp.n⟩->∀ q,q<y.srcs.n->real.upd (λq=>eSrc (y.srcs.g q)) ix l q=eSrc (G1 q):=λix l e1 e2 q _=>by
      subst e1
      rw [hG1];exact upd_rows rfl e2 q
    refine l9 hA ⟨[(1,.c (.d (eI (k:Int)))),(2,.c (.bp 128 1 0)),(4,.c (.bp 256 1 0))],[(2635,1,.arr 2 y.srcs.n λi=>eSrc (G1 i)),(2636,1,.nest 7 y.tasks.n (λi=>v9 (y.tasks.g i)) none),(2640,1,.arr 1 y.ckp.src.n λi=>[eI (y.ckp.src.g i)]),(11,2,.dead),(12,2,.dead),(16,2,.dead),(128,1,.box [.d (eI y.job.srcs),.d (eI y.job.tsks),.d (eI y.job.kind),.d (eI y.job.size),.d (eI y.job.step),.d (eI y.job.late),.d (eI y.job.tell),.d (eB y.job.piece),.d (eI y.job.least),.d (eI y.job.room),.d (.sl 1 y.logs.n λi=>[.sl 5 (y.logs.g i).n λk=>n9 ((y.logs.g i).g k)]),.own 2635 0 y.srcs.n 1,.nown 2636 y.tasks.n 1,.d (.sl 4 y.sinks.n λi=>s0 (y.sinks.g i)),.d (eI y.ckp.n),.d (eB y.ckp.opn),.own 2640 0 y.ckp.src.n 1,.d (.sl 1 y.ckp.tsk.n λi=>[eB (y.ckp.tsk.g i)]),.d (.sl 3 y.ckp.snaps.n λi=>d9 (y.ckp.snaps.g i)),.d (eI y.ckp.safe.n),.d (.sl 1 y.ckp.safe.at_.n λi=>[eI (y.ckp.safe.at_.g i)]),.d (.sl 3 y.ckp.safe.snaps.n λi=>d9 (y.ckp.safe.snaps.g i))]),(256,1,.box [.d (eI 0),.d (eI 0),.d (eI 0),.d (eI 0),.d (eI 0),.d (eI 0),.d (eI 0),.d (eB false),.d (eI 0),.d (eI 0),.d (.v c9),.d (.v c9),.d (.v c9),.d (.v c9),.d (eI 0),.d (eB false),.d (.v c9),.d (.v c9),.d (.v c9),.d (eI 0),.d (.v c9),.d (.v c9)])]⟩ (c7 ?_ ?_ ?_) ?_
    iterate 3 focus (subst hA;repeat' first|exact True.intro|exact rfl|exact hrow _ _ (Nat.zero_add k) rfl|exact (λq hq _=>hrow _ _ (Nat.zero_add k) rfl q hq) |  apply And.intro | (intro _ _;rfl) | (intro _ _ _;rfl) | (intro q hq;exact absurd hq (Nat.not_lt_zero q))|exact .inr (b8 rfl)|exact .inl rfl|exact .inr (Nat.le_refl _)|fail)
    cbv
    repeat' first|exact absurd (show false=true by subst hA;assumption) (by decide)|exact absurd (show true=false by subst hA;assumption) (by decide)|apply And.intro|exact True.intro|with_reducible rfl|exact b7 hA rfl|apply c8 hA<;>intro _|exact c6 hA id | (subst hA;exact λh=>h) | (refine c5 hA ?_;decide +kernel) | (refine d8 hA λ_=>⟨Int.natCast_nonneg k,Int.ofNat_lt.2 hky⟩) | (refine d8 hA λ_=>⟨Int.natCast_nonneg k,Int.ofNat_lt.2 hkc⟩) | (refine b7 hA ?_;subst hA;rfl)|fail
    obtain ⟨a1,a2,a3,a4⟩:=hfy.ok.2.2.2.2.2.1 k (by rw [y3];exact hkl)
    have hf1:FInv B (srcF y k ⟨(y.srcs.g k).at_,y.ckp.n⟩):=finv_src hfy a2 ⟨show (0:Int)<=y.ckp.n by rw [y2];exact Int.le_trans (by decide) hn1.1,Int.le_refl _⟩
    have hf2:=finv_note (k:=k) (v:=(y.srcs.g k).at_) hf1 (show y.ckp.opn=true by rw [y2];exact ho) (by have:=a1.1.2;omega) a2.2
    have hvk:∀ ix,ix=k->eI (G1 ix).at_=eI (y.srcs.g k).at_:=λix e=>by rw [e,hGk]
    refine i8 hA ⟨_,hf2,by (subst hA;rfl),?_,rfl⟩
    (subst hA;repeat' first|apply And.intro|exact True.intro|exact DLe.rfl|exact f8 _ _|exact dle_rows (λq hq=>congrArg eSrc (congrFun hG1 q))|exact dle_upd (e:=λv=>[eI v]) (g:=y.ckp.src.g) (s:=(y.srcs.g k).at_) (Nat.zero_add k) (congrArg (λv=>[v]) (hvk _ (Nat.zero_add k))) |  exact m9 rfl)
  · skip
    have hatk:=hat2 hA (by assumption)
    obtain ⟨x,hx⟩:∃ x,x=(f.logs.g k).g (f.srcs.g k).at_.toNat:=⟨_,rfl⟩
    have hxl:=a1.2.1 (f.srcs.g k).at_.toNat ((Int.toNat_lt a2.1).2 hatk)
    have hxo:ItmOkP x:=by rw [hx];exact hxl.1
    have hx3:x.kind≠3:=by rw [hx];exact hxl.2.1
    obtain ⟨c,hc⟩:∃ c:Int,c=x.key.tmod f.job.tsks:=⟨_,rfl⟩
    have hxe:∀ ix iy,ix=k->iy=k->(f.logs.g iy).g (f.srcs.g ix).at_.toNat=x:=λix iy e1 e2=>by rw [e1,e2,hx]
    refine l9 hA ⟨[(6,.c (.d (eI c))),(5,.c (.bp 320 1 0)),(1,.c (.d (eI (k:Int)))),(2,.c (.bp 128 1 0)),(4,.c (.bp 256 1 0))],[(320,1,.box [.d (eI x.kind),.d (eI x.t),.d (eI x.key),.d (eI x.v),.d (eI x.n)]),(11,1,.arr 2 f.srcs.n λi=>eSrc (f.srcs.g i)),(12,1,.nest 7 f.tasks.n (λi=>v9 (f.tasks.g i)) none),(16,1,.arr 1 f.ckp.src.n λi=>[eI (f.ckp.src.g i)]),(128,1,.box [.d (eI f.job.srcs),.d (eI f.job.tsks),.d (eI f.job.kind),.d (eI f.job.size),.d (eI f.job.step),.d (eI f.job.late),.d (eI f.job.tell),.d (eB f.job.piece),.d (eI f.job.least),.d (eI f.job.room),.d (.sl 1 f.logs.n λi=>[.sl 5 (f.logs.g i).n λk=>n9 ((f.logs.g i).g k)]),.own 11 0 f.srcs.n 1,.nown 12 f.tasks.n 1,.d (.sl 4 f.sinks.n λi=>s0 (f.sinks.g i)),.d (eI f.ckp.n),.d (eB f.ckp.opn),.own 16 0 f.ckp.src.n 1,.d (.sl 1 f.ckp.tsk.n λi=>[eB (f.ckp.tsk.g i)]),.d (.sl 3 f.ckp.snaps.n λi=>d9 (f.ckp.snaps.g i)),.d (eI f.ckp.safe.n),.d (.sl 1 f.ckp.safe.at_.n λi=>[eI (f.ckp.safe.at_.g i)]),.d (.sl 3 f.ckp.safe.snaps.n λi=>d9 (f.ckp.safe.snaps.g i))]),(256,1,.box [.d (eI 0),.d (eI 0),.d (eI 0),.d (eI 0),.d (eI 0),.d (eI 0),.d (eI 0),.d (eB false),.d (eI 0),.d (eI 0),.d (.v c9),.d (.v c9),.d (.v c9),.d (.v c9),.d (eI 0),.d (eB false),.d (.v c9),.d (.v c9),.d (.v c9),.d (eI 0),.d (.v c9),.d (.v c9)])]⟩ (c7 ?_ ?_ ?_) ?_
    iterate 3 focus (subst hA;repeat' first|exact True.intro|exact rfl|exact congrArg (λz:ItmT=>DV.v (.int .i64 z.kind)) (hxe _ _ (Nat.zero_add k) rfl)|exact congrArg (λz:ItmT=>DV.v (.int .i64 z.t)) (hxe _ _ (Nat.zero_add k) rfl)|exact congrArg (λz:ItmT=>DV.v (.int .i64 z.key)) (hxe _ _ (Nat.zero_add k) rfl)|exact congrArg (λz:ItmT=>DV.v (.int .i64 z.v)) (hxe _ _ (Nat.zero_add k) rfl)|exact congrArg (λz:ItmT=>DV.v (.int .i64 z.n)) (hxe _ _ (Nat.zero_add k) rfl)|exact congrArg (λz:Int=>DV.v (.int .i64 z)) hc.symm|exact (by (rw [hc,<- hxe _ _ (Nat.zero_add k) rfl];rfl)) |  apply And.intro | (intro _ _;rfl) | (intro _ _ _;rfl) | (intro q hq;exact absurd hq (Nat.not_lt_zero q))|exact .inr (b8 rfl)|exact .inl rfl|exact .inr (Nat.le_refl _)|fail)
    cbv
    repeat' first|exact absurd (show false=true by subst hA;assumption) (by decide)|exact absurd (show true=false by subst hA;assumption) (by decide)|apply And.intro|exact True.intro|with_reducible rfl|exact b7 hA rfl|apply c8 hA<;>intro _|exact c6 hA id | (subst hA;exact λh=>h) | (refine c5 hA ?_;decide +kernel) | (refine d8 hA λ_=>⟨Int.natCast_nonneg k,Int.ofNat_lt.2 hk⟩) | (refine d8 hA λ_=>⟨Int.natCast_nonneg k,Int.ofNat_lt.2 hkl⟩) | (refine b7 hA ?_;subst hA;rfl) | (refine l7 hA hM (x_room f k c hkk) (by (subst hA;first|rfl | (simp only [p6];done) | (simp only [p6];rfl))) ?_;rintro b hb;cbv) | (refine i8 hA ⟨f,h,by (subst hA;rfl),?_,rfl⟩;(subst hA;repeat' first|apply And.intro|exact True.intro|exact DLe.rfl|exact f8 _ _ |  exact m9 rfl);done)|fail
    · have hbt:b=true:=by
        subst hA
        rename_i hbb
        have hbb:(!b)=false:=hbb
        cases b with
        | true=>rfl
        | false=>cases hbb
      have hr:=room_small4 h (hb hbt)
      have hr4:=room_lt h (hb hbt)
      refine l7 hA hM (x_send f k c x hkk hr) (by (subst hA;first|rfl | (simp only [p6];done) | (simp only [p6];rfl))) ?_
      rintro y hy
      have hfy:FInv B y:=by rw [hy];exact finv_send h hkj hxo (λe=>(hx3 e).elim) hr4
      have y1:y.srcs=f.srcs:=by rw [hy];rfl
      have y3:y.logs=f.logs:=by rw [hy];rfl
      clear hy
      have hky:k<y.srcs.n:=by rw [y1];exact hk
      have a9:=hfy.ok.2.2.2.2.2.1 k (by rw [y3];exact hkl)
      have a1:=a9.1
      have a2:=a9.2.1
      have a3:=a9.2.2.1
      have a4:=a9.2.2.2
      have hlt:(y.srcs.g k).at_<((y.logs.g k).n:Int):=by rw [y1,y3];exact hatk
      have h40:=a1.1.2
      cbv
      repeat' first|exact absurd (show false=true by subst hA;assumption) (by decide)|exact absurd (show true=false by subst hA;assumption) (by decide)|apply And.intro|exact True.intro|with_reducible rfl|exact b7 hA rfl|apply c8 hA<;>intro _|exact c6 hA id | (subst hA;exact λh=>h) | (refine c5 hA ?_;decide +kernel) | (refine d8 hA λ_=>⟨Int.natCast_nonneg k,Int.ofNat_lt.2 hky⟩) | (refine b7 hA ?_;subst hA;rfl)|fail
      obtain ⟨hf1,hwr⟩:=src_next hfy (by rw [y3];exact hkl) hlt
      have hvk:∀ ix,ix=k->[eI (IntKind.i64.wrap ((y.srcs.g ix).at_+1)),eI (y.srcs.g ix).wall]=eSrc ⟨(y.srcs.g k).at_+1,(y.srcs.g k).wall⟩:=λix e=>by
        subst e
        rw [hwr];rfl
      refine i8 hA ⟨_,hf1,by (subst hA;rfl),?_,rfl⟩
      (subst hA;repeat' first|apply And.intro|exact True.intro|exact DLe.rfl|exact f8 _ _|exact dle_upd (e:=eSrc) (g:=y.srcs.g) (Nat.zero_add k) (hvk _ (Nat.zero_add k)) |  exact m9 rfl)
    · skip
      obtain ⟨hf1,hwr⟩:=src_next h hkl hatk
      have hvk:∀ ix,ix=k->[eI (IntKind.i64.wrap ((f.srcs.g ix).at_+1)),eI (f.srcs.g ix).wall]=eSrc ⟨(f.srcs.g k).at_+1,(f.srcs.g k).wall⟩:=λix e=>by
        subst e
        rw [hwr];rfl
      refine i8 hA ⟨_,hf1,by (subst hA;rfl),?_,rfl⟩
      (subst hA;repeat' first|apply And.intro|exact True.intro|exact DLe.rfl|exact f8 _ _|exact dle_upd (e:=eSrc) (g:=f.srcs.g) (Nat.zero_add k) (hvk _ (Nat.zero_add k)) |  exact m9 rfl)
  · skip
    have hatk:=hat2 hA (by assumption)
    obtain ⟨x,hx⟩:∃ x,x=(f.logs.g k).g (f.srcs.g k).at_.toNat:=⟨_,rfl⟩
    have hxl:=a1.2.1 (f.srcs.g k).at_.toNat ((Int.toNat_lt a2.1).2 hatk)
    have hxo:ItmOkP x:=by rw [hx];exact hxl.1
    have hx3:x.kind≠3:=by rw [hx];exact hxl.2.1
    obtain ⟨c,hc⟩:∃ c:Int,c = -1:=⟨_,rfl⟩
    have hxe:∀ ix iy,ix=k->iy=k->(f.logs.g iy).g (f.srcs.g ix).at_.toNat=x:=λix iy e1 e2=>by rw [e1,e2,hx]
    refine l9 hA ⟨[(6,.c (.d (eI c))),(5,.c (.bp 320 1 0)),(1,.c (.d (eI (k:Int)))),(2,.c (.bp 128 1 0)),(4,.c (.bp 256 1 0))],[(320,1,.box [.d (eI x.kind),.d (eI x.t),.d (eI x.key),.d (eI x.v),.d (eI x.n)]),(11,1,.arr 2 f.srcs.n λi=>eSrc (f.srcs.g i)),(12,1,.nest 7 f.tasks.n (λi=>v9 (f.tasks.g i)) none),(16,1,.arr 1 f.ckp.src.n λi=>[eI (f.ckp.src.g i)]),(128,1,.box [.d (eI f.job.srcs),.d (eI f.job.tsks),.d (eI f.job.kind),.d (eI f.job.size),.d (eI f.job.step),.d (eI f.job.late),.d (eI f.job.tell),.d (eB f.job.piece),.d (eI f.job.least),.d (eI f.job.room),.d (.sl 1 f.logs.n λi=>[.sl 5 (f.logs.g i).n λk=>n9 ((f.logs.g i).g k)]),.own 11 0 f.srcs.n 1,.nown 12 f.tasks.n 1,.d (.sl 4 f.sinks.n λi=>s0 (f.sinks.g i)),.d (eI f.ckp.n),.d (eB f.ckp.opn),.own 16 0 f.ckp.src.n 1,.d (.sl 1 f.ckp.tsk.n λi=>[eB (f.ckp.tsk.g i)]),.d (.sl 3 f.ckp.snaps.n λi=>d9 (f.ckp.snaps.g i)),.d (eI f.ckp.safe.n),.d (.sl 1 f.ckp.safe.at_.n λi=>[eI (f.ckp.safe.at_.g i)]),.d (.sl 3 f.ckp.safe.snaps.n λi=>d9 (f.ckp.safe.snaps.g i))]),(256,1,.box [.d (eI 0),.d (eI 0),.d (eI 0),.d (eI 0),.d (eI 0),.d (eI 0),.d (eI 0),.d (eB false),.d (eI 0),.d (eI 0),.d (.v c9),.d (.v c9),.d (.v c9),.d (.v c9),.d (eI 0),.d (eB false),.d (.v c9),.d (.v c9),.d (.v c9),.d (eI 0),.d (.v c9),.d (.v c9)])]⟩ (c7 ?_ ?_ ?_) ?_
    iterate 3 focus (subst hA;repeat' first|exact True.intro|exact rfl|exact congrArg (λz:ItmT=>DV.v (.int .i64 z.kind)) (hxe _ _ (Nat.zero_add k) rfl)|exact congrArg (λz:ItmT=>DV.v (.int .i64 z.t)) (hxe _ _ (Nat.zero_add k) rfl)|exact congrArg (λz:ItmT=>DV.v (.int .i64 z.key)) (hxe _ _ (Nat.zero_add k) rfl)|exact congrArg (λz:ItmT=>DV.v (.int .i64 z.v)) (hxe _ _ (Nat.zero_add k) rfl)|exact congrArg (λz:ItmT=>DV.v (.int .i64 z.n)) (hxe _ _ (Nat.zero_add k) rfl)|exact congrArg (λz:Int=>DV.v (.int .i64 z)) hc.symm|exact (by (rw [hc,<- hxe _ _ (Nat.zero_add k) rfl];rfl)) |  apply And.intro | (intro _ _;rfl) | (intro _ _ _;rfl) | (intro q hq;exact absurd hq (Nat.not_lt_zero q))|exact .inr (b8 rfl)|exact .inl rfl|exact .inr (Nat.le_refl _)|fail)
    cbv
    repeat' first|exact absurd (show false=true by subst hA;assumption) (by decide)|exact absurd (show true=false by subst hA;assumption) (by decide)|apply And.intro|exact True.intro|with_reducible rfl|exact b7 hA rfl|apply c8 hA<;>intro _|exact c6 hA id | (subst hA;exact λh=>h) | (refine c5 hA ?_;decide +kernel) | (refine d8 hA λ_=>⟨Int.natCast_nonneg k,Int.ofNat_lt.2 hk⟩) | (refine d8 hA λ_=>⟨Int.natCast_nonneg k,Int.ofNat_lt.2 hkl⟩) | (refine b7 hA ?_;subst hA;rfl) | (refine l7 hA hM (x_room f k c hkk) (by (subst hA;first|rfl | (simp only [p6];done) | (simp only [p6];rfl))) ?_;rintro b hb;cbv) | (refine i8 hA ⟨f,h,by (subst hA;rfl),?_,rfl⟩;(subst hA;repeat' first|apply And.intro|exact True.intro|exact DLe.rfl|exact f8 _ _ |  exact m9 rfl);done)|fail
    · have hbt:b=true:=by
        subst hA
        rename_i hbb
        have hbb:(!b)=false:=hbb
        cases b with
        | true=>rfl
        | false=>cases hbb
      have hr:=room_small4 h (hb hbt)
      have hr4:=room_lt h (hb hbt)
      refine l7 hA hM (x_send f k c x hkk hr) (by (subst hA;first|rfl | (simp only [p6];done) | (simp only [p6];rfl))) ?_
      rintro y hy
      have hfy:FInv B y:=by rw [hy];exact finv_send h hkj hxo (λe=>(hx3 e).elim) hr4
      have y1:y.srcs=f.srcs:=by rw [hy];rfl
      have y3:y.logs=f.logs:=by rw [hy];rfl
      clear hy
      have hky:k<y.srcs.n:=by rw [y1];exact hk
      have a9:=hfy.ok.2.2.2.2.2.1 k (by rw [y3];exact hkl)
      have a1:=a9.1
      have a2:=a9.2.1
      have a3:=a9.2.2.1
      have a4:=a9.2.2.2
      have hlt:(y.srcs.g k).at_<((y.logs.g k).n:Int):=by rw [y1,y3];exact hatk
      have h40:=a1.1.2
      cbv
      repeat' first|exact absurd (show false=true by subst hA;assumption) (by decide)|exact absurd (show true=false by subst hA;assumption) (by decide)|apply And.intro|exact True.intro|with_reducible rfl|exact b7 hA rfl|apply c8 hA<;>intro _|exact c6 hA id | (subst hA;exact λh=>h) | (refine c5 hA ?_;decide +kernel) | (refine d8 hA λ_=>⟨Int.natCast_nonneg k,Int.ofNat_lt.2 hky⟩) | (refine b7 hA ?_;subst hA;rfl)|fail
      obtain ⟨hf1,hwr⟩:=src_next hfy (by rw [y3];exact hkl) hlt
      have hvk:∀ ix,ix=k->[eI (IntKind.i64.wrap ((y.srcs.g ix).at_+1)),eI (y.srcs.g ix).wall]=eSrc ⟨(y.srcs.g k).at_+1,(y.srcs.g k).wall⟩:=λix e=>by
        subst e
        rw [hwr];rfl
      refine i8 hA ⟨_,hf1,by (subst hA;rfl),?_,rfl⟩
      (subst hA;repeat' first|apply And.intro|exact True.intro|exact DLe.rfl|exact f8 _ _|exact dle_upd (e:=eSrc) (g:=y.srcs.g) (Nat.zero_add k) (hvk _ (Nat.zero_add k)) |  exact m9 rfl)
    · skip
      obtain ⟨hf1,hwr⟩:=src_next h hkl hatk
      have hvk:∀ ix,ix=k->[eI (IntKind.i64.wrap ((f.srcs.g ix).at_+1)),eI (f.srcs.g ix).wall]=eSrc ⟨(f.srcs.g k).at_+1,(f.srcs.g k).wall⟩:=λix e=>by
        subst e
        rw [hwr];rfl
      refine i8 hA ⟨_,hf1,by (subst hA;rfl),?_,rfl⟩
      (subst hA;repeat' first|apply And.intro|exact True.intro|exact DLe.rfl|exact f8 _ _|exact dle_upd (e:=eSrc) (g:=f.srcs.g) (Nat.zero_add k) (hvk _ (Nat.zero_add k)) |  exact m9 rfl)
end Go.Rk
