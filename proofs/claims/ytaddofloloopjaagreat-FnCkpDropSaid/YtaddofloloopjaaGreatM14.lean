/- What each of this seat's functions answers, at all data, part 14: no condition. -/
import Derived.Test.YtaddofloloopjaaGreatM6
import Derived.Test.YtaddofloloopjaaGreatM8
import Derived.Test.YtaddofloloopjaaGreatM9
import Derived.Test.YtaddofloloopjaaGreatM10
import Derived.Test.YtaddofloloopjaaGreatM11
import Derived.Test.YtaddofloloopjaaGreatM12
import Derived.Test.YtaddofloloopjaaGreatM13
namespace Go.Rk
set_option linter.unusedSimpArgs false
set_option linter.unusedVariables false
open Go.Proofs
set_option maxRecDepth 100000
set_option maxHeartbeats 20000000
def st_cm (f:FloT) (k i:Nat) (a:SinkT):St:=⟨[(7,.c (.d (eI i))),(6,.c (.own 1408 0 a.ready.n 1)),(5,.c (.bp 320 1 0)),(2,.c (.bp 128 1 0)),(4,.c (.bp 256 1 0)),(1,.c (.d (eI (k:Int))))],[(13,1,.nest 4 f.sinks.n (λq=>s0 (f.sinks.g q)) (some (k,[.junk,.junk,.junk,.junk]))),(1408,1,.arr 3 a.ready.n λq=>eTxn (a.ready.g q)),(9002,1,.arr 9 a.panes.n λq=>m6 (a.panes.g q)),(9003,1,.arr 7 a.lates.n λq=>eLat (a.lates.g q)),(320,1,.box [.d (.sl 3 (f.sinks.g k).ready.n λq=>eTxn ((f.sinks.g k).ready.g q)),.d (eI a.n),.own 9002 0 a.panes.n 1,.own 9003 0 a.lates.n 1]),(128,1,.box [.d (eI f.job.srcs),.d (eI f.job.tsks),.d (eI f.job.kind),.d (eI f.job.size),.d (eI f.job.step),.d (eI f.job.late),.d (eI f.job.tell),.d (eB f.job.piece),.d (eI f.job.least),.d (eI f.job.room),.d (.sl 1 f.logs.n λi=>[.sl 5 (f.logs.g i).n λk=>n9 ((f.logs.g i).g k)]),.d (.sl 2 f.srcs.n λi=>eSrc (f.srcs.g i)),.d (.sl 7 f.tasks.n λi=>v9 (f.tasks.g i)),.nown 13 f.sinks.n 1,.d (eI f.ckp.n),.d (eB f.ckp.opn),.d (.sl 1 f.ckp.src.n λi=>[eI (f.ckp.src.g i)]),.d (.sl 1 f.ckp.tsk.n λi=>[eB (f.ckp.tsk.g i)]),.d (.sl 3 f.ckp.snaps.n λi=>d9 (f.ckp.snaps.g i)),.d (eI f.ckp.safe.n),.d (.sl 1 f.ckp.safe.at_.n λi=>[eI (f.ckp.safe.at_.g i)]),.d (.sl 3 f.ckp.safe.snaps.n λi=>d9 (f.ckp.safe.snaps.g i))]),(256,1,.box [.d (eI 0),.d (eI 0),.d (eI 0),.d (eI 0),.d (eI 0),.d (eI 0),.d (eI 0),.d (eB false),.d (eI 0),.d (eI 0),.d (.v c9),.d (.v c9),.d (.v c9),.d (.v c9),.d (eI 0),.d (eB false),.d (.v c9),.d (.v c9),.d (.v c9),.d (eI 0),.d (.v c9),.d (.v c9)])]⟩
theorem x_commit (f:FloT) (B:Int) (i:Int) (h:FInv B f):∃ y:FloT,FInv B y/\d7 Tryz.prog 117 [.agg [.d (eI f.job.srcs),.d (eI f.job.tsks),.d (eI f.job.kind),.d (eI f.job.size),.d (eI f.job.step),.d (eI f.job.late),.d (eI f.job.tell),.d (eB f.job.piece),.d (eI f.job.least),.d (eI f.job.room),.d (.sl 1 f.logs.n λi=>[.sl 5 (f.logs.g i).n λk=>n9 ((f.logs.g i).g k)]),.d (.sl 2 f.srcs.n λi=>eSrc (f.srcs.g i)),.d (.sl 7 f.tasks.n λi=>v9 (f.tasks.g i)),.nown 4 f.sinks.n λi=>s0 (f.sinks.g i),.d (eI f.ckp.n),.d (eB f.ckp.opn),.d (.sl 1 f.ckp.src.n λi=>[eI (f.ckp.src.g i)]),.d (.sl 1 f.ckp.tsk.n λi=>[eB (f.ckp.tsk.g i)]),.d (.sl 3 f.ckp.snaps.n λi=>d9 (f.ckp.snaps.g i)),.d (eI f.ckp.safe.n),.d (.sl 1 f.ckp.safe.at_.n λi=>[eI (f.ckp.safe.at_.g i)]),.d (.sl 3 f.ckp.safe.snaps.n λi=>d9 (f.ckp.safe.snaps.g i))],.c (.d (eI i))] ⟨.one (xd (eFlo y)),[none,none]⟩:=by
  have hj:=h.ok.1.1
  have hs2:=h.ok.2.2.2.2.1
  have hj2:=hj.2.1
  have hnL:f.sinks.n<=2:=by omega
  have wr:IntKind.i64.wrap ((f.sinks.n:Int)-1)=f.sinks.n-1:=IntWalk.i64_in _ (by omega)
  obtain ⟨b3,h3,m3⟩:=c_l1In i 0 ((f.sinks.n:Int)-1)
  by_cases hin:0<=i/\i<(f.sinks.n:Int)
  rotate_left
  · obtain rfl:b3=false:=by
      rw [h3];exact decide_eq_false (λhh=>hin ⟨hh.1,by omega⟩)
    refine u0 (H:=[3,16]) (EX:=EXA) l6 e8 ([none,none]) Tryz.func117 rfl (by kernel_rfl) (by decide) (λ_=>rfl) ?_
    generalize hA:real=A
    generalize hM:d4 Tryz.prog=M
    cbv
    repeat' first|exact absurd (show false=true by subst hA;assumption) (by decide)|exact absurd (show true=false by subst hA;assumption) (by decide)|apply And.intro|exact True.intro|with_reducible rfl|exact b7 hA rfl|apply c8 hA<;>intro _|exact c6 hA id | (subst hA;exact λh=>h) | (refine c5 hA ?_;decide +kernel) | (refine i9 hA hM _ m3 (by subst hA;show [XT.c (.d (eI _)),XT.c (.d (eI 0)),XT.c (.d (eI (IntKind.i64.wrap ((f.sinks.n:Int)-1))))]=_;first | (rw [wr];done) | (rw [wr];rfl)) ?_;cbv) | (refine b7 hA ?_;subst hA;rfl)|fail
    refine i8 hA ⟨f,h,by (subst hA;rfl),?_,rfl⟩
    (subst hA;repeat' first|apply And.intro|exact True.intro|exact DLe.rfl|exact f8 _ _ |  exact m9 rfl)
  obtain ⟨k,rfl⟩:∃ k:Nat,i=(k:Int):=Int.eq_ofNat_of_zero_le hin.1
  have hk:k<f.sinks.n:=by have:=hin.2;omega
  obtain rfl:b3=true:=by rw [h3];exact decide_eq_true ⟨by omega,by omega⟩
  have hso:=h.ok.2.2.2.2.2.2.2 k hk
  have hr12:=hso.1
  have hrL:(f.sinks.g k).ready.n<=maxLen:=(f.sinks.g k).ready.hn
  refine u0 (H:=[3,16]) (EX:=EXA) l6 e8 ([none,none]) Tryz.func117 rfl (by kernel_rfl) (by decide) (λ_=>rfl) ?_
  generalize hA:real=A
  generalize hM:d4 Tryz.prog=M
  cbv
  repeat' first|exact absurd (show false=true by subst hA;assumption) (by decide)|exact absurd (show true=false by subst hA;assumption) (by decide)|apply And.intro|exact True.intro|with_reducible rfl|exact b7 hA rfl|apply c8 hA<;>intro _|exact c6 hA id | (subst hA;exact λh=>h) | (refine c5 hA ?_;decide +kernel) | (refine i9 hA hM _ m3 (by subst hA;show [XT.c (.d (eI _)),XT.c (.d (eI 0)),XT.c (.d (eI (IntKind.i64.wrap ((f.sinks.n:Int)-1))))]=_;first | (rw [wr];done) | (rw [wr];rfl)) ?_;cbv) | (refine b7 hA ?_;subst hA;rfl)|fail
  refine l9 hA ⟨[(2,.c (.bp 128 1 0)),(4,.c (.bp 256 1 0)),(1,.c (.d (eI (k:Int))))],[(13,1,.nest 4 f.sinks.n (λq=>s0 (f.sinks.g q)) (some (k,[.d (.sl 3 (f.sinks.g k).ready.n λq=>eTxn ((f.sinks.g k).ready.g q)),.d (eI (f.sinks.g k).n),.own 9002 0 (f.sinks.g k).panes.n 1,.own 9003 0 (f.sinks.g k).lates.n 1]))),(9002,1,.arr 9 (f.sinks.g k).panes.n λq=>m6 ((f.sinks.g k).panes.g q)),(9003,1,.arr 7 (f.sinks.g k).lates.n λq=>eLat ((f.sinks.g k).lates.g q)),(128,1,.box [.d (eI f.job.srcs),.d (eI f.job.tsks),.d (eI f.job.kind),.d (eI f.job.size),.d (eI f.job.step),.d (eI f.job.late),.d (eI f.job.tell),.d (eB f.job.piece),.d (eI f.job.least),.d (eI f.job.room),.d (.sl 1 f.logs.n λi=>[.sl 5 (f.logs.g i).n λk=>n9 ((f.logs.g i).g k)]),.d (.sl 2 f.srcs.n λi=>eSrc (f.srcs.g i)),.d (.sl 7 f.tasks.n λi=>v9 (f.tasks.g i)),.nown 13 f.sinks.n 1,.d (eI f.ckp.n),.d (eB f.ckp.opn),.d (.sl 1 f.ckp.src.n λi=>[eI (f.ckp.src.g i)]),.d (.sl 1 f.ckp.tsk.n λi=>[eB (f.ckp.tsk.g i)]),.d (.sl 3 f.ckp.snaps.n λi=>d9 (f.ckp.snaps.g i)),.d (eI f.ckp.safe.n),.d (.sl 1 f.ckp.safe.at_.n λi=>[eI (f.ckp.safe.at_.g i)]),.d (.sl 3 f.ckp.safe.snaps.n λi=>d9 (f.ckp.safe.snaps.g i))]),(256,1,.box [.d (eI 0),.d (eI 0),.d (eI 0),.d (eI 0),.d (eI 0),.d (eI 0),.d (eI 0),.d (eB false),.d (eI 0),.d (eI 0),.d (.v c9),.d (.v c9),.d (.v c9),.d (.v c9),.d (eI 0),.d (eB false),.d (.v c9),.d (.v c9),.d (.v c9),.d (eI 0),.d (.v c9),.d (.v c9)])]⟩
    (cov_open 13 9000 1 k (λj=>nbeq j 0) (s0 (f.sinks.g k)) rfl hk rfl ⟨.inl rfl,trivial,.inr (flatR λ_=>flat_Pane _),.inr (flatR λ_=>flat_Lat _),trivial⟩ rfl (s8 9000 (λq=>eTxn ((f.sinks.g k).ready.g q)) rfl trivial (λ_ _ _=>rfl) (c7 ?_ ?_ ?_))) ?_
  iterate 3 focus (subst hA;repeat' first|exact True.intro|exact rfl |  apply And.intro | (intro _ _;rfl) | (intro _ _ _;rfl) | (intro q hq;exact absurd hq (Nat.not_lt_zero q))|exact .inr (b8 rfl)|exact .inl rfl|exact .inr (Nat.le_refl _)|fail)
  cbv
  repeat' first|exact absurd (show false=true by subst hA;assumption) (by decide)|exact absurd (show true=false by subst hA;assumption) (by decide)|apply And.intro|exact True.intro|with_reducible rfl|exact b7 hA rfl|apply c8 hA<;>intro _|exact c6 hA id | (subst hA;exact λh=>h) | (refine c5 hA ?_;decide +kernel) | (refine d8 hA λ_=>⟨Int.natCast_nonneg k,Int.ofNat_lt.2 hk⟩) | (refine b7 hA ?_;subst hA;rfl)|fail
  refine i7 hA (α := { y:Nat × SinkT // y.1<=(f.sinks.g k).ready.n/\CmI (f.sinks.g k) y.1 y.2 }) (λy=>st_cm f k y.1.1 y.1.2) (λy=>(f.sinks.g k).ready.n-y.1.1) ⟨(0,⟨⟨0,λ_=>zTxn,Nat.zero_le _⟩,(f.sinks.g k).n,(f.sinks.g k).panes,(f.sinks.g k).lates⟩),Nat.zero_le _,cm_zero hso⟩ ?_ ?_
  · refine c7 ?_ ?_ ?_
    iterate 3 focus (subst hA;repeat' first|exact True.intro|exact rfl |  apply And.intro | (intro _ _;rfl) | (intro _ _ _;rfl) | (intro q hq;exact absurd hq (Nat.not_lt_zero q))|exact .inr (b8 rfl)|exact .inl rfl|exact .inr (Nat.le_refl _)|fail)
  rintro ⟨⟨i,a⟩,hi,hc⟩
  have hi:i<=(f.sinks.g k).ready.n:=hi
  have hc:CmI (f.sinks.g k) i a:=hc
  have ba:=sink_bd hc.ok
  have ba1:=ba.2.2.1
  have ba2:=ba.2.2.2
  have hap:a.panes.n<=1500:=Int.ofNat_le.1 hc.ok.2.2.1.1
  have hal:a.lates.n<=1500:=Int.ofNat_le.1 hc.ok.2.2.1.2.1
  have hfew:=hc.few
  cbv
  repeat' first|exact absurd (show false=true by subst hA;assumption) (by decide)|exact absurd (show true=false by subst hA;assumption) (by decide)|apply And.intro|exact True.intro|with_reducible rfl|exact b7 hA rfl|apply c8 hA<;>intro _|exact c6 hA id | (subst hA;exact λh=>h) | (refine c5 hA ?_;decide +kernel) | (refine d8 hA λ_ => ?_;have hlt9:i<(f.sinks.g k).ready.n:=(by first|exact f9 hA (by assumption)|exact l5 hA (by assumption));exact ⟨Int.natCast_nonneg i,Int.ofNat_lt.2 hlt9⟩) | (refine b7 hA ?_;subst hA;rfl)|exact f6 hA (show a.ready.n+1<=2000000 by omega) (by decide) | (have hlt9:i<(f.sinks.g k).ready.n:=(by first|exact f9 hA (by assumption)|exact l5 hA (by assumption));have q9:((f.sinks.g k).ready.g i).panes.n<=1500:=Int.ofNat_le.1 (hso.2.2.2 i hlt9).1.2.1;subst hA;exact f6 rfl (Nat.le_trans (Nat.add_le_add hap q9) (by decide)) (by decide)) | (have hlt9:i<(f.sinks.g k).ready.n:=(by first|exact f9 hA (by assumption)|exact l5 hA (by assumption));have q9:((f.sinks.g k).ready.g i).lates.n<=1500:=Int.ofNat_le.1 (hso.2.2.2 i hlt9).1.2.2.1;subst hA;exact f6 rfl (Nat.le_trans (Nat.add_le_add hal q9) (by decide)) (by decide))|fail
  · rename_i hlt hcond
    have hlt':i<(f.sinks.g k).ready.n:=(by first|exact f9 hA (by assumption)|exact l5 hA (by assumption))
    obtain ⟨hcond,e3⟩:=and_t hA hcond
    obtain ⟨hcond,e2⟩:=and_t hA hcond
    obtain ⟨hcond,e1⟩:=and_t hA hcond
    obtain ⟨x,hx⟩:∃ x,x=(f.sinks.g k).ready.g i:=⟨_,rfl⟩
    have bx:=(sink_bd hso).2.1 i hlt'
    rw [<- hx] at bx
    have bx1:=bx.1
    have bx2:=bx.2
    have e1':a.ready.n=0:=by
      clear hcond e2 e3
      subst hA
      have e1:((a.ready.n:Int)==0)=true:=e1
      rw [beq_iff_eq] at e1;omega
    have e2':a.panes.n+((f.sinks.g k).ready.g i).panes.n<=1500:=by
      clear hcond e1 e3
      rw [<- hx]
      subst hA
      have key:∀ z:TxnT,z=x->decide (IntKind.i64.wrap ((a.panes.n:Int)+(z.panes.n:Int))<=1500)=true->a.panes.n+x.panes.n<=1500:=λz e9 h9=>by
        subst e9
        have h9:=of_decide_eq_true h9
        rw [IntWalk.i64_in _ (by omega)] at h9;omega
      exact key _ hx.symm e2
    have e3':a.lates.n+((f.sinks.g k).ready.g i).lates.n<=1500:=by
      clear hcond e1 e2
      rw [<- hx]
      subst hA
      have key:∀ z:TxnT,z=x->decide (IntKind.i64.wrap ((a.lates.n:Int)+(z.lates.n:Int))<=1500)=true->a.lates.n+x.lates.n<=1500:=λz e9 h9=>by
        subst e9
        have h9:=of_decide_eq_true h9
        rw [IntWalk.i64_in _ (by omega)] at h9;omega
      exact key _ hx.symm e3
    clear hcond e1 e2 e3
    refine ⟨⟨(i+1,_),hlt',cm_take (h1:=Nat.le_trans e2' (by decide)) (h2:=Nat.le_trans e3' (by decide)) hso hc hlt' e1' e2' e3'⟩,by simp only;omega,c7 ?_ ?_ ?_⟩
    iterate 3 focus (subst hA;repeat' first|exact True.intro|exact rfl|exact congrArg (λx=>DV.v (.int .i64 x)) (o0 hlt' hrL)|exact (λq _=>app_rows (e:=m6) q)|exact (λq _=>app_rows (e:=eLat) q)|exact (λq _ _=>app_rows (e:=m6) q)|exact (λq _ _=>app_rows (e:=eLat) q) |  apply And.intro | (intro _ _;rfl) | (intro _ _ _;rfl) | (intro q hq;exact absurd hq (Nat.not_lt_zero q))|exact .inr (b8 rfl)|exact .inl rfl|exact .inr (Nat.le_refl _)|fail)
  · rename_i hlt hcond
    have hlt':i<(f.sinks.g k).ready.n:=(by first|exact f9 hA (by assumption)|exact l5 hA (by assumption))
    refine ⟨⟨(i+1,_),hlt',cm_push (hm:=Nat.le_trans (show a.ready.n+1<=13 by omega) (by decide)) hso hc hlt'⟩,by simp only;omega,c7 ?_ ?_ ?_⟩
    iterate 3 focus (subst hA;repeat' first|exact True.intro|exact rfl|exact congrArg (λx=>DV.v (.int .i64 x)) (o0 hlt' hrL)|exact push_rows (R':=λq=>eTxn (if q<a.ready.n then a.ready.g q else (f.sinks.g k).ready.g i)) (λq hq=>congrArg eTxn (if_pos hq).symm) (congrArg eTxn (if_neg (Nat.lt_irrefl _)).symm)|exact (λq hq _=>push_rows (R':=λq=>eTxn (if q<a.ready.n then a.ready.g q else (f.sinks.g k).ready.g i)) (λq hq=>congrArg eTxn (if_pos hq).symm) (congrArg eTxn (if_neg (Nat.lt_irrefl _)).symm) q hq) |  apply And.intro | (intro _ _;rfl) | (intro _ _ _;rfl) | (intro q hq;exact absurd hq (Nat.not_lt_zero q))|exact .inr (b8 rfl)|exact .inl rfl|exact .inr (Nat.le_refl _)|fail)
  rename_i hge
  have hin:i=(f.sinks.g k).ready.n:=by
    subst hA
    have:¬ ((i:Int)<((f.sinks.g k).ready.n:Int)):=of_decide_eq_false hge
    omega
  subst hin
  repeat' first|exact absurd (show false=true by subst hA;assumption) (by decide)|exact absurd (show true=false by subst hA;assumption) (by decide)|apply And.intro|exact True.intro|with_reducible rfl|exact b7 hA rfl|apply c8 hA<;>intro _|exact c6 hA id | (subst hA;exact λh=>h) | (refine c5 hA ?_;decide +kernel) | (refine d8 hA λ_=>⟨Int.natCast_nonneg k,Int.ofNat_lt.2 hk⟩) | (refine b7 hA ?_;subst hA;rfl)|fail
  refine l9 hA ⟨[(2,.c (.bp 128 1 0)),(4,.c (.bp 256 1 0))],[(13,2,.dead),(128,1,.box [.d (eI (sinkF f k a).job.srcs),.d (eI (sinkF f k a).job.tsks),.d (eI (sinkF f k a).job.kind),.d (eI (sinkF f k a).job.size),.d (eI (sinkF f k a).job.step),.d (eI (sinkF f k a).job.late),.d (eI (sinkF f k a).job.tell),.d (eB (sinkF f k a).job.piece),.d (eI (sinkF f k a).job.least),.d (eI (sinkF f k a).job.room),.d (.sl 1 (sinkF f k a).logs.n λi=>[.sl 5 ((sinkF f k a).logs.g i).n λk=>n9 (((sinkF f k a).logs.g i).g k)]),.d (.sl 2 (sinkF f k a).srcs.n λi=>eSrc ((sinkF f k a).srcs.g i)),.d (.sl 7 (sinkF f k a).tasks.n λi=>v9 ((sinkF f k a).tasks.g i)),.d (.sl 4 (sinkF f k a).sinks.n λi=>s0 ((sinkF f k a).sinks.g i)),.d (eI (sinkF f k a).ckp.n),.d (eB (sinkF f k a).ckp.opn),.d (.sl 1 (sinkF f k a).ckp.src.n λi=>[eI ((sinkF f k a).ckp.src.g i)]),.d (.sl 1 (sinkF f k a).ckp.tsk.n λi=>[eB ((sinkF f k a).ckp.tsk.g i)]),.d (.sl 3 (sinkF f k a).ckp.snaps.n λi=>d9 ((sinkF f k a).ckp.snaps.g i)),.d (eI (sinkF f k a).ckp.safe.n),.d (.sl 1 (sinkF f k a).ckp.safe.at_.n λi=>[eI ((sinkF f k a).ckp.safe.at_.g i)]),.d (.sl 3 (sinkF f k a).ckp.safe.snaps.n λi=>d9 ((sinkF f k a).ckp.safe.snaps.g i))]),(256,1,.box [.d (eI 0),.d (eI 0),.d (eI 0),.d (eI 0),.d (eI 0),.d (eI 0),.d (eI 0),.d (eB false),.d (eI 0),.d (eI 0),.d (.v c9),.d (.v c9),.d (.v c9),.d (.v c9),.d (eI 0),.d (eB false),.d (.v c9),.d (.v c9),.d (.v c9),.d (eI 0),.d (.v c9),.d (.v c9)])]⟩
    (p7 1408 rfl (p7 9002 rfl (p7 9003 rfl (s8 13 (λq=>s0 (if q=k then a else f.sinks.g q)) (by rfl) (by exact congrArg (λz=>some (s0 z)) (if_pos rfl).symm) (by exact λq _ hh=>congrArg s0 (if_neg (hh k _ rfl))) (c7 ?_ ?_ ?_))))) ?_
  iterate 3 focus (subst hA;repeat' first|exact True.intro|exact rfl |  apply And.intro | (intro _ _;rfl) | (intro _ _ _;rfl) | (intro q hq;exact absurd hq (Nat.not_lt_zero q))|exact .inr (b8 rfl)|exact .inl rfl|exact .inr (Nat.le_refl _)|fail)
  cbv
  repeat' first|exact absurd (show false=true by subst hA;assumption) (by decide)|exact absurd (show true=false by subst hA;assumption) (by decide)|apply And.intro|exact True.intro|with_reducible rfl|exact b7 hA rfl|apply c8 hA<;>intro _|exact c6 hA id | (subst hA;exact λh=>h) | (refine c5 hA ?_;decide +kernel) | (refine b7 hA ?_;subst hA;rfl)|fail
  have hr:FInv B (sinkF f k a):=finv_sink h hc.ok
  refine i8 hA ⟨_,hr,by (subst hA;rfl),?_,rfl⟩
  (subst hA;repeat' first|apply And.intro|exact True.intro|exact DLe.rfl|exact f8 _ _ |  exact m9 rfl)
set_option maxHeartbeats 2000000
def FullR (s:SinkT) (t:TskT) (safe:Int) (b:Bool):Prop:=b=false->(OpenP s safe->(s.ready.g (s.ready.n-1)).panes.n+t.pend.panes.n<=1500/\(s.ready.g (s.ready.n-1)).lates.n+t.pend.lates.n<=1500)/\(¬ OpenP s safe->s.ready.n≠12)
theorem x_full (f:FloT) (k:Nat) (hk:k<f.tasks.n) (hk2:k<f.sinks.n) (hs:w6 (f.sinks.g k)) (ht:TxnOkP (f.tasks.g k).pend):∃ b,FullR (f.sinks.g k) (f.tasks.g k) f.ckp.safe.n b/\d7 Tryz.prog 131 [xd (eFlo f),.c (.d (eI (k:Int)))] ⟨.one (.c (.d (eB b))),[none,none]⟩:=by
  obtain ⟨⟨o,ob⟩,ho,mo⟩:=x_open (f.sinks.g k) f.ckp.safe.n
  have ho:(ob=true/\OpenP (f.sinks.g k) f.ckp.safe.n/\o=(f.sinks.g k).ready.g ((f.sinks.g k).ready.n-1))\/(ob=false/\¬ OpenP (f.sinks.g k) f.ckp.safe.n):=ho
  refine meets_ex (H:=[]) (EX:=EXA) l6 e8 ([none,none]) Tryz.func131 rfl (by kernel_rfl) (by decide) (λ_=>rfl) ?_
  generalize hA:real=A
  generalize hM:d4 Tryz.prog=M
  cbv
  repeat' first|exact absurd (show false=true by subst hA;assumption) (by decide)|exact absurd (show true=false by subst hA;assumption) (by decide)|apply And.intro|exact True.intro|with_reducible rfl|exact b7 hA rfl|apply c8 hA<;>intro _|exact c6 hA id | (subst hA;exact λh=>h) | (refine c5 hA ?_;decide +kernel) | (refine i9 hA hM _ mo (by (subst hA;first|rfl | (simp only [p6];done) | (simp only [p6];rfl))) ?_;cbv) | (refine d8 hA λ_=>⟨Int.natCast_nonneg k,Int.ofNat_lt.2 hk⟩) | (refine d8 hA λ_=>⟨Int.natCast_nonneg k,Int.ofNat_lt.2 hk2⟩) | (refine b7 hA ?_;subst hA;rfl)|fail
  · rename_i hn
    have hob:ob=false:=by
      subst hA
      have hn:(!ob)=true:=hn
      cases ob with
      | true=>cases hn
      | false=>rfl
    have hno:¬ OpenP (f.sinks.g k) f.ckp.safe.n:=by
      rcases ho with ⟨e,_⟩|⟨_,e⟩
      · rw [hob] at e;cases e
      · exact e
    refine i8 hA ⟨_,λhb=>⟨λh=>(hno h).elim,λ_ => ?_⟩,rfl,rfl⟩
    have hb:=eql_f hA hb
    subst hA
    have hb:((f.sinks.g k).ready.n:Int)≠12:=hb
    omega
  · rename_i hn
    have hob:ob=true:=by
      subst hA
      have hn:(!ob)=false:=hn
      cases ob with
      | true=>rfl
      | false=>cases hn
    obtain ⟨hop,ho2⟩:OpenP (f.sinks.g k) f.ckp.safe.n/\o=(f.sinks.g k).ready.g ((f.sinks.g k).ready.n-1):=by
      rcases ho with ⟨_,e⟩|⟨e,_⟩
      · exact e
      · rw [hob] at e;cases e
    have hto:=(hs.2.2.2 ((f.sinks.g k).ready.n-1) (by have:=hop.1;omega)).1
    rw [<- ho2] at hto
    have b1:=txn_bd hto
    have b2:=txn_bd ht
    refine i8 hA ⟨_,λhb=>⟨λ_ => ?_,λh=>(h hop).elim⟩,rfl,rfl⟩
    obtain ⟨q1,q2⟩:=bite_f hA hb
    have q1:=gtr_f hA q1
    have q2:=gtr_f hA q2
    subst hA
    have q1:IntKind.i64.wrap ((o.panes.n:Int)+((f.tasks.g k).pend.panes.n:Int))<=1500:=q1
    have q2:IntKind.i64.wrap ((o.lates.n:Int)+((f.tasks.g k).pend.lates.n:Int))<=1500:=q2
    have c1:=b1.1
    have c2:=b1.2
    have c3:=b2.1
    have c4:=b2.2
    rw [IntWalk.i64_in _ (by omega)] at q1 q2
    rw [<- ho2]
    omega
theorem leq_f {A:Ar} (hA:real=A) {a b:Int} (h:A.cmp .leq a b=false):b<a:=by
  subst hA
  have:=of_decide_eq_false h
  omega
theorem geq_f {A:Ar} (hA:real=A) {a b:Int} (h:A.cmp .geq a b=false):a<b:=by
  subst hA
  have:=of_decide_eq_false h
  omega
theorem band_t {A:Ar} (hA:real=A) {a b:Bool} (h:A.band a b=true):a=true/\b=true:=by
  subst hA
  have h:(a&&b)=true:=h
  cases a<;>cases b<;>first|exact ⟨rfl,rfl⟩|cases h
theorem cut_last {A:Ar} (hA:real=A) {n:Nat} (hn:n<=maxLen) (h:0<n):A.cut 0 (A.ar .sub .i64 (Int.ofNat n) 1) n:=by
  subst hA
  show (0:Int)<=0/\0<=IntKind.i64.wrap ((n:Int)-1)/\IntKind.i64.wrap ((n:Int)-1)<=(n:Int)
  rw [last_ix h hn];omega
theorem dif_last {n:Nat} (hn:n<=maxLen) (h:0<n):real.add 0 (real.dif (real.ar .sub .i64 (Int.ofNat n) 1) 0)=n-1:=by
  show 0+(IntKind.i64.wrap ((n:Int)-1)-0).toNat=n-1
  rw [last_ix h hn];omega
theorem behind_of {A:Ar} (hA:real=A) {s:SinkT} {x:Int} (h:A.bite (A.cmp .leq x s.n) true (A.bite (A.cmp .gtr (A.int s.ready.n) 0) (A.cmp .geq (s.ready.g (A.add 0 (A.nat (A.ar .sub .i64 (A.int s.ready.n) 1)))).n x) false)=false):s.n<x/\(0<s.ready.n->(s.ready.g (s.ready.n-1)).n<x):=by
  obtain ⟨h1,h2⟩:=bite_f hA h
  refine ⟨leq_f hA h1,λh0 => ?_⟩
  have hg:A.cmp .gtr (A.int s.ready.n) 0=true:=by
    subst hA;exact decide_eq_true (show (s.ready.n:Int)>0 by omega)
  have h3:=and_f hA h2 hg
  rw [last_nat hA s.ready.hn h0] at h3
  have e0:A.add 0 (s.ready.n-1)=s.ready.n-1:=by subst hA;exact Nat.zero_add _
  rw [e0] at h3
  exact geq_f hA h3
theorem x_txnD (x:TxnT) (hb:bdTxn x):d7 Tryz.prog 135 [xd (eTxn x)] ⟨.one (xd (eTxn x)),[none]⟩:=meets_frz (c_sTxnC x hb) rfl
theorem x_joined (s:SinkT) (safe:Int) (x:TxnT) (hs:w6 s) (hx:TxnOkP x) (hroom:OpenP s safe->(s.ready.g (s.ready.n-1)).panes.n+x.panes.n<=1500/\(s.ready.g (s.ready.n-1)).lates.n+x.lates.n<=1500) (hfew:¬ OpenP s safe->s.ready.n≠12) :
    ∃ y:Sl TxnT,w6 ⟨y,s.n,s.panes,s.lates⟩/\d7 Tryz.prog 133 [.agg [.own 3 s.ready.n λi=>eTxn (s.ready.g i),.d (eI s.n),.d (.sl 9 s.panes.n λi=>m6 (s.panes.g i)),.d (.sl 7 s.lates.n λi=>eLat (s.lates.g i))],.c (.d (eI safe)),xd (eTxn x)] ⟨.one (.c (.d (.sl 3 y.n λi=>eTxn (y.g i)))),[none,none,none]⟩:=by
  have hL:s.ready.n<=maxLen:=s.ready.hn
  have hn12:=hs.1
  have hbx:=txn_bd hx
  have mX:=x_txnD x hbx
  by_cases ho:OpenP s safe
  rotate_left
  · have mo:=x_openF s safe ho
    have h12:=hfew ho
    have hm:s.ready.n+1<=maxLen:=Nat.le_trans (show s.ready.n+1<=13 by omega) (by decide)
    refine u0 (H:=[]) (EX:=EXA) l6 e8 ([none,none,none]) Tryz.func133 rfl (by kernel_rfl) (by decide) (λ_=>rfl) ?_
    generalize hA:real=A
    generalize hM:d4 Tryz.prog=M
    cbv
    repeat' first|exact absurd (show false=true by subst hA;assumption) (by decide)|exact absurd (show true=false by subst hA;assumption) (by decide)|apply And.intro|exact True.intro|with_reducible rfl|exact b7 hA rfl|apply c8 hA<;>intro _|exact c6 hA id | (subst hA;exact λh=>h) | (refine c5 hA ?_;decide +kernel) | (refine i9 hA hM _ mo (by (subst hA;first|rfl | (simp only [p6];done) | (simp only [p6];rfl))) ?_;cbv) | (refine i9 hA hM _ mX (by (subst hA;first|rfl | (simp only [p6];done) | (simp only [p6];rfl))) ?_;cbv)|exact f6 hA (show s.ready.n+1<=2000000 by omega) (by decide) | (refine b7 hA ?_;subst hA;rfl)|exact inb_last hA hL (λhg=>pos_of hA hg)|exact inb_last hA hL (λhg=>pos_of hA (band_t hA hg).2)|exact inb_last hA hL (λ_=>ho.1)|fail
    refine i8 hA ⟨s.ready,hs,by (subst hA;rfl),?_,rfl⟩
    (subst hA;repeat' first|apply And.intro|exact True.intro|exact DLe.rfl|exact f8 _ _ |  exact m9 rfl)
    obtain ⟨q1,q2⟩:=behind_of (s:=s) (x:=x.n) hA (by assumption)
    refine i8 hA ⟨⟨s.ready.n+1,λi=>if i<s.ready.n then s.ready.g i else x,hm⟩,sink_new hs hx (by omega) q1 q2,by (subst hA;rfl),?_,rfl⟩
    (subst hA;repeat' first|apply And.intro|exact True.intro|exact DLe.rfl|exact f8 _ _|exact dle_push (e:=eTxn) (g:=s.ready.g) (x:=x) rfl (λ_ _=>rfl) rfl |  exact m9 rfl)
  have mo:=x_openT s safe ho
  obtain ⟨l,hl⟩:∃ l,l=s.ready.g (s.ready.n-1):=⟨_,rfl⟩
  have hr:=hroom ho
  have hto:=(hs.2.2.2 (s.ready.n-1) (by have:=ho.1;omega)).1
  rw [<- hl] at mo hr hto
  have hbl:=txn_bd hto
  have mL:=c_sTxnC l hbl
  have hm1:l.panes.n+x.panes.n<=maxLen:=Nat.le_trans hr.1 (by decide)
  have hm2:l.lates.n+x.lates.n<=maxLen:=Nat.le_trans hr.2 (by decide)
  have hr1:l.panes.n+x.panes.n<=2000000:=by omega
  have hr2:l.lates.n+x.lates.n<=2000000:=by omega
  refine u0 (H:=[4,11]) (EX:=EXA) l6 e8 ([none,none,none]) Tryz.func133 rfl (by kernel_rfl) (by decide) (λ_=>rfl) ?_
  generalize hA:real=A
  generalize hM:d4 Tryz.prog=M
  cbv
  repeat' first|exact absurd (show false=true by subst hA;assumption) (by decide)|exact absurd (show true=false by subst hA;assumption) (by decide)|apply And.intro|exact True.intro|with_reducible rfl|exact b7 hA rfl|apply c8 hA<;>intro _|exact c6 hA id | (subst hA;exact λh=>h) | (refine c5 hA ?_;decide +kernel) | (refine b7 hA ?_;subst hA;rfl)|exact inb_last hA hL (λhg=>pos_of hA hg)|exact inb_last hA hL (λhg=>pos_of hA (band_t hA hg).2)|exact inb_last hA hL (λ_=>ho.1)|fail
  refine i8 hA ⟨s.ready,hs,by (subst hA;rfl),?_,rfl⟩
  (subst hA;repeat' first|apply And.intro|exact True.intro|exact DLe.rfl|exact f8 _ _ |  exact m9 rfl)
  obtain ⟨q1,q2⟩:=behind_of (s:=s) (x:=x.n) hA (by assumption)
  refine l9 hA ⟨[(3,.c (.bp 192 1 0)),(5,.c (.bp 320 1 0)),(7,.c (.d (eI s.ready.n))),(1,.c (.d (eI safe)))],[(192,1,.box ((s0 s).map .d)),(320,1,.box ((eTxn x).map .d)),(0,2,.dead)]⟩ (p7 0 rfl (c7 ?_ ?_ ?_)) ?_
  iterate 3 focus (subst hA;repeat' first|exact True.intro|exact rfl |  apply And.intro | (intro _ _;rfl) | (intro _ _ _;rfl) | (intro q hq;exact absurd hq (Nat.not_lt_zero q))|exact .inr (b8 rfl)|exact .inl rfl|exact .inr (Nat.le_refl _)|fail)
  cbv
  repeat' first|exact absurd (show false=true by subst hA;assumption) (by decide)|exact absurd (show true=false by subst hA;assumption) (by decide)|apply And.intro|exact True.intro|with_reducible rfl|exact b7 hA rfl|apply c8 hA<;>intro _|exact c6 hA id | (subst hA;exact λh=>h) | (refine c5 hA ?_;decide +kernel) | (refine i9 hA hM _ mo (by (subst hA;first|rfl | (simp only [p6];done) | (simp only [p6];rfl))) ?_;cbv) | (refine i9 hA hM _ mL (by (subst hA;first|rfl | (simp only [p6];done) | (simp only [p6];rfl))) ?_;cbv)|exact f6 hA hr1 (by decide)|exact f6 hA hr2 (by decide) | (refine b7 hA ?_;subst hA;rfl)|fail
  obtain ⟨z,hz⟩:∃ z:TxnT,z=⟨x.n,⟨l.panes.n+x.panes.n,λi=>if i<l.panes.n then l.panes.g i else x.panes.g (i-l.panes.n),hm1⟩,⟨l.lates.n+x.lates.n,λi=>if i<l.lates.n then l.lates.g i else x.lates.g (i-l.lates.n),hm2⟩⟩:=⟨_,rfl⟩
  have z1:z.n=x.n:=by rw [hz]
  have z2:DV.sl 9 (real.add l.panes.n x.panes.n) (real.app l.panes.n (λi=>m6 (l.panes.g i)) (λi=>m6 (x.panes.g i)))=DV.sl 9 z.panes.n (λi=>m6 (z.panes.g i)):=by rw [hz];exact sl_app
  have z3:DV.sl 7 (real.add l.lates.n x.lates.n) (real.app l.lates.n (λi=>eLat (l.lates.g i)) (λi=>eLat (x.lates.g i)))=DV.sl 7 z.lates.n (λi=>eLat (z.lates.g i)):=by rw [hz];exact sl_app
  have hzo:TxnOkP z:=by rw [hz];exact txn_join hx hto hr.1 hr.2
  have hnew:=sink_join (hm:=Nat.le_trans (show s.ready.n-1+1<=13 by omega) (by decide)) hs hzo ho.1 (by rw [z1];exact q2 ho.1)
  refine l9 hA ⟨[(3,.c (.bp 192 1 0)),(7,.c (.d (eI s.ready.n))),(10,.c (.bp 640 1 0))],[(192,1,.box ((s0 s).map .d)),(640,1,.box ((eTxn z).map .d)),(0,2,.dead)]⟩ (p7 3329 rfl (p7 3330 rfl (c7 ?_ ?_ ?_))) ?_
  iterate 3 focus (subst hA;repeat' first|exact True.intro|exact rfl|exact z2|exact z3|exact congrArg (λi=>DV.v (.int .i64 i)) z1.symm|exact congrArg (λi=>DV.v (.int .i64 i)) z1 |  apply And.intro | (intro _ _;rfl) | (intro _ _ _;rfl) | (intro q hq;exact absurd hq (Nat.not_lt_zero q))|exact .inr (b8 rfl)|exact .inl rfl|exact .inr (Nat.le_refl _)|fail)
  cbv
  repeat' first|exact absurd (show false=true by subst hA;assumption) (by decide)|exact absurd (show true=false by subst hA;assumption) (by decide)|apply And.intro|exact True.intro|with_reducible rfl|exact b7 hA rfl|apply c8 hA<;>intro _|exact c6 hA id | (subst hA;exact λh=>h) | (refine c5 hA ?_;decide +kernel) | (refine b7 hA ?_;subst hA;rfl)|exact cut_last hA hL ho.1 | (subst hA;exact f6 rfl (show real.add 0 (real.dif (real.ar .sub .i64 (Int.ofNat s.ready.n) 1) 0)+1<=2000000 by rw [dif_last hL ho.1];omega) (by decide)) | (subst hA;exact w9 rfl (show real.add 0 (real.dif (real.ar .sub .i64 (Int.ofNat s.ready.n) 1) 0)<=2000000 by rw [dif_last hL ho.1];omega) (by decide))|fail
  have hpre:∀ (q:Nat->List DV) i,real.app 0 q (real.sub 0 λi=>eTxn (s.ready.g i)) i=eTxn (s.ready.g i):=λq i=>by
    show (if i<0 then q i else eTxn (s.ready.g (0+(i-0))))=_
    rw [if_neg (Nat.not_lt_zero i),Nat.zero_add,Nat.sub_zero]
  refine i8 hA ⟨_,hnew,by (subst hA;rfl),?_,rfl⟩
  (subst hA;repeat' first|apply And.intro|exact True.intro|exact DLe.rfl|exact f8 _ _|exact dle_push (e:=eTxn) (g:=s.ready.g) (x:=z) (dif_last hL ho.1) (λi hi=>hpre (real.rep [eI 0,.v c9,.v c9]) i) rfl |  exact m9 rfl)
def st_mks (t:TskT) (i:Nat):St:=⟨[(4,.c (.d (eI i))),(3,.c (.own 320 0 i 1)),(1,.c (.bp 64 1 0))],[(320,1,.arr 1 i λq=>[eI (t.ins.g q).mark]),(64,1,.box ((v9 t).map .d))]⟩
theorem x_marks (t:TskT) (hn:t.ins.n<=1048576):d7 Tryz.prog 40 [xd (v9 t)] ⟨.one (.c (.d (.sl 1 t.ins.n λi=>[eI (t.ins.g i).mark]))),[none]⟩:=by
  have hnL:t.ins.n<=maxLen:=t.ins.hn
  refine meets_frz (r:=.one (.c (.own 1 t.ins.n λi=>[eI (t.ins.g i).mark]))) ?_ rfl
  refine d5 (H:=[]) (EX:=EXA) l6 e8 Tryz.func40 rfl (by kernel_rfl) (by decide) ?_
  generalize hA:real=A
  generalize hM:d4 Tryz.prog=M
  cbv
  repeat' first|apply And.intro|exact True.intro|with_reducible rfl|exact b7 hA rfl|apply c8 hA<;>intro _|exact c6 hA id | (subst hA;exact λh=>h) | (refine c5 hA ?_;decide +kernel)|fail
  refine i7 hA (α := { i:Nat // i<=t.ins.n }) (λy=>st_mks t y.1) (λy=>t.ins.n-y.1) ⟨0,Nat.zero_le _⟩ ?_ ?_
  · refine c7 ?_ ?_ ?_
    iterate 3 focus (subst hA;repeat' first|exact True.intro|exact rfl |  apply And.intro | (intro _ _;rfl) | (intro _ _ _;rfl) | (intro q hq;exact absurd hq (Nat.not_lt_zero q))|exact .inr (b8 rfl)|exact .inl rfl|exact .inr (Nat.le_refl _)|fail)
  rintro ⟨i,hi⟩
  have hi:i<=t.ins.n:=hi
  cbv
  repeat' first|apply And.intro|exact True.intro|with_reducible rfl|exact b7 hA rfl|apply c8 hA<;>intro _|exact c6 hA id | (subst hA;exact λh=>h) | (refine c5 hA ?_;decide +kernel) | (refine d8 hA λ_ => ?_;have hlt9:i<t.ins.n:=(by first|exact f9 hA (by assumption)|exact l5 hA (by assumption));exact ⟨Int.natCast_nonneg i,Int.ofNat_lt.2 hlt9⟩) | (refine b7 hA ?_;subst hA;rfl)|exact f6 hA (by omega) (by decide)|fail
  · rename_i hlt
    have hlt':i<t.ins.n:=(by first|exact f9 hA (by assumption)|exact l5 hA (by assumption))
    refine ⟨⟨i+1,hlt'⟩,by simp only;omega,c7 ?_ ?_ ?_⟩
    iterate 3 focus (subst hA;repeat' first|exact True.intro|exact rfl|exact congrArg (λx=>DV.v (.int .i64 x)) (o0 hlt' hnL)|exact push_rows (R':=λq=>[eI (t.ins.g q).mark]) (λ_ _=>rfl) rfl |  apply And.intro | (intro _ _;rfl) | (intro _ _ _;rfl) | (intro q hq;exact absurd hq (Nat.not_lt_zero q))|exact .inr (b8 rfl)|exact .inl rfl|exact .inr (Nat.le_refl _)|fail)
  · rename_i hge
    have hin:i=t.ins.n:=by
      subst hA
      have:¬ ((i:Int)<(t.ins.n:Int)):=of_decide_eq_false hge
      omega
    subst hin
    rfl
set_option maxHeartbeats 20000000
def EXTk:FuncId->List Nat × Bool:=λf=>bif nbeq f 133 then ([0],false) else ([],false)
def st_tk0 (f:FloT) (k:Nat) (GT:Nat->TskT) (t:TskT) (txs:Sl TxnT):St:=⟨[(10,.c (.d (eI (0:Nat)))),(7,.c (.bp 448 1 0)),(8,.c (.d (.sl 3 txs.n λq=>eTxn (txs.g q)))),(3,.c (.bp 192 1 0)),(6,.c (.bp 384 1 0)),(1,.c (.d (eI (k:Int))))],[(12,1,.arr 7 f.tasks.n λi=>v9 (GT i)),(17,1,.arr 1 f.ckp.tsk.n λi=>[eB (f.ckp.tsk.g i)]),(18,1,.arr 3 f.ckp.snaps.n λi=>d9 (f.ckp.snaps.g i)),(13,1,.nest 4 f.sinks.n (λq=>s0 (f.sinks.g q)) (some (k,[.own 9000 0 (f.sinks.g k).ready.n 1,.d (eI (f.sinks.g k).n),.d (.sl 9 (f.sinks.g k).panes.n λq=>m6 ((f.sinks.g k).panes.g q)),.d (.sl 7 (f.sinks.g k).lates.n λq=>eLat ((f.sinks.g k).lates.g q))]))),(9000,1,.arr 3 (f.sinks.g k).ready.n λq=>eTxn ((f.sinks.g k).ready.g q)),(192,1,.box [.d (eI f.job.srcs),.d (eI f.job.tsks),.d (eI f.job.kind),.d (eI f.job.size),.d (eI f.job.step),.d (eI f.job.late),.d (eI f.job.tell),.d (eB f.job.piece),.d (eI f.job.least),.d (eI f.job.room),.d (.sl 1 f.logs.n λi=>[.sl 5 (f.logs.g i).n λk=>n9 ((f.logs.g i).g k)]),.d (.sl 2 f.srcs.n λi=>eSrc (f.srcs.g i)),.own 12 0 f.tasks.n 1,.nown 13 f.sinks.n 1,.d (eI f.ckp.n),.d (eB f.ckp.opn),.d (.sl 1 f.ckp.src.n λi=>[eI (f.ckp.src.g i)]),.own 17 0 f.ckp.tsk.n 1,.own 18 0 f.ckp.snaps.n 1,.d (eI f.ckp.safe.n),.d (.sl 1 f.ckp.safe.at_.n λi=>[eI (f.ckp.safe.at_.g i)]),.d (.sl 3 f.ckp.safe.snaps.n λi=>d9 (f.ckp.safe.snaps.g i))]),(384,1,.box [.d (eI 0),.d (eI 0),.d (eI 0),.d (eI 0),.d (eI 0),.d (eI 0),.d (eI 0),.d (eB false),.d (eI 0),.d (eI 0),.d (.v c9),.d (.v c9),.d (.v c9),.d (.v c9),.d (eI 0),.d (eB false),.d (.v c9),.d (.v c9),.d (.v c9),.d (eI 0),.d (.v c9),.d (.v c9)]),(448,1,.box ((v9 t).map .d))]⟩
def st_tk1 (k:Nat) (txs:Sl TxnT) (y:FloT):St:=⟨[(10,.c (.d (eI (1:Nat)))),(8,.c (.d (.sl 3 txs.n λq=>eTxn (txs.g q)))),(3,.c (.bp 192 1 0)),(6,.c (.bp 384 1 0)),(1,.c (.d (eI (k:Int))))],[(12,1,.arr 7 y.tasks.n λi=>v9 (y.tasks.g i)),(17,1,.arr 1 y.ckp.tsk.n λi=>[eB (y.ckp.tsk.g i)]),(18,1,.arr 3 y.ckp.snaps.n λi=>d9 (y.ckp.snaps.g i)),(13,2,.dead),(192,1,.box [.d (eI y.job.srcs),.d (eI y.job.tsks),.d (eI y.job.kind),.d (eI y.job.size),.d (eI y.job.step),.d (eI y.job.late),.d (eI y.job.tell),.d (eB y.job.piece),.d (eI y.job.least),.d (eI y.job.room),.d (.sl 1 y.logs.n λi=>[.sl 5 (y.logs.g i).n λk=>n9 ((y.logs.g i).g k)]),.d (.sl 2 y.srcs.n λi=>eSrc (y.srcs.g i)),.own 12 0 y.tasks.n 1,.d (.sl 4 y.sinks.n λi=>s0 (y.sinks.g i)),.d (eI y.ckp.n),.d (eB y.ckp.opn),.d (.sl 1 y.ckp.src.n λi=>[eI (y.ckp.src.g i)]),.own 17 0 y.ckp.tsk.n 1,.own 18 0 y.ckp.snaps.n 1,.d (eI y.ckp.safe.n),.d (.sl 1 y.ckp.safe.at_.n λi=>[eI (y.ckp.safe.at_.g i)]),.d (.sl 3 y.ckp.safe.snaps.n λi=>d9 (y.ckp.safe.snaps.g i))]),(384,1,.box [.d (eI 0),.d (eI 0),.d (eI 0),.d (eI 0),.d (eI 0),.d (eI 0),.d (eI 0),.d (eB false),.d (eI 0),.d (eI 0),.d (.v c9),.d (.v c9),.d (.v c9),.d (.v c9),.d (eI 0),.d (eB false),.d (.v c9),.d (.v c9),.d (.v c9),.d (eI 0),.d (.v c9),.d (.v c9)])]⟩
theorem x_copyD (s:OpStT) (hn:s.rows.n<=1080000):d7 Tryz.prog 39 [.agg [.d (eI s.mark),.d (.sl 13 s.rows.n λi=>i6 (s.rows.g i))]] ⟨.one (.agg [.d (eI s.mark),.d (.sl 13 s.rows.n λi=>i6 (s.rows.g i))]),[none]⟩:=meets_frz (c_sCopy s.mark s.rows.n hn s.rows.g) rfl
theorem x_task (f:FloT) (B:Int) (hB:0<=B/\B<=880) (i inn:Int) (h:FInv B f):∃ y:FloT,FInv (B+4) y/\d7 Tryz.prog 115 [.agg [.d (eI f.job.srcs),.d (eI f.job.tsks),.d (eI f.job.kind),.d (eI f.job.size),.d (eI f.job.step),.d (eI f.job.late),.d (eI f.job.tell),.d (eB f.job.piece),.d (eI f.job.least),.d (eI f.job.room),.d (.sl 1 f.logs.n λi=>[.sl 5 (f.logs.g i).n λk=>n9 ((f.logs.g i).g k)]),.d (.sl 2 f.srcs.n λi=>eSrc (f.srcs.g i)),.own 7 f.tasks.n λi=>v9 (f.tasks.g i),.nown 4 f.sinks.n λi=>s0 (f.sinks.g i),.d (eI f.ckp.n),.d (eB f.ckp.opn),.d (.sl 1 f.ckp.src.n λi=>[eI (f.ckp.src.g i)]),.own 1 f.ckp.tsk.n λi=>[eB (f.ckp.tsk.g i)],.own 3 f.ckp.snaps.n λi=>d9 (f.ckp.snaps.g i),.d (eI f.ckp.safe.n),.d (.sl 1 f.ckp.safe.at_.n λi=>[eI (f.ckp.safe.at_.g i)]),.d (.sl 3 f.ckp.safe.snaps.n λi=>d9 (f.ckp.safe.snaps.g i))],.c (.d (eI i)),.c (.d (eI inn))] ⟨.one (xd (eFlo y)),[none,none,none]⟩:=by
  have hj:=h.ok.1.1
  have ht2:=h.ok.2.2.2.1
  have hk2:=h.ok.2.2.2.2.1
  have hj2:=hj.2.1
  have hB4:B<=B+4:=by omega
  have hmo:FInv (B+4) f:=finv_mono h hB4
  have hnL:f.tasks.n<=2:=by omega
  have hkt:f.sinks.n=f.tasks.n:=Int.ofNat.inj (hk2.trans ht2.symm)
  have hct:f.ckp.tsk.n=f.tasks.n:=Int.ofNat.inj (h.ok.1.2.2.2.2.2.1.trans ht2.symm)
  have hcs:f.ckp.snaps.n=f.tasks.n:=Int.ofNat.inj (h.ok.1.2.2.2.2.2.2.1.trans ht2.symm)
  have wr:IntKind.i64.wrap ((f.tasks.n:Int)-1)=f.tasks.n-1:=IntWalk.i64_in _ (by omega)
  obtain ⟨b3,h3,m3⟩:=c_l1In i 0 ((f.tasks.n:Int)-1)
  by_cases hin:0<=i/\i<(f.tasks.n:Int)
  rotate_left
  · obtain rfl:b3=false:=by
      rw [h3];exact decide_eq_false (λhh=>hin ⟨hh.1,by omega⟩)
    refine u0 (H:=[12]) (EX:=EXTk) l6 e8 ([none,none,none]) Tryz.func115 rfl (by kernel_rfl) (by decide) (λ_=>rfl) ?_
    generalize hA:real=A
    generalize hM:d4 Tryz.prog=M
    cbv
    repeat' first|exact absurd (show false=true by subst hA;assumption) (by decide)|exact absurd (show true=false by subst hA;assumption) (by decide)|apply And.intro|exact True.intro|with_reducible rfl|exact b7 hA rfl|apply c8 hA<;>intro _|exact c6 hA id | (subst hA;exact λh=>h) | (refine c5 hA ?_;decide +kernel) | (refine i9 hA hM _ m3 (by subst hA;show [XT.c (.d (eI _)),XT.c (.d (eI 0)),XT.c (.d (eI (IntKind.i64.wrap ((f.tasks.n:Int)-1))))]=_;first | (rw [wr];done) | (rw [wr];rfl)) ?_;cbv) | (refine call_exg (S:=λ_:Bool=>True) (out:=λb=>⟨.one (.c (.d (eB b))),[none,none]⟩) hA hM ⟨true,trivial⟩ (λb _ hg => ?_) (λb _ => ?_);(focus (subst hA;exact absurd (show false=true from hg) (by decide)));cbv) | (refine b7 hA ?_;subst hA;rfl)|fail
    refine i8 hA ⟨f,hmo,by (subst hA;rfl),?_,rfl⟩
    (subst hA;repeat' first|apply And.intro|exact True.intro|exact DLe.rfl|exact f8 _ _ |  exact m9 rfl)
  obtain ⟨k,rfl⟩:∃ k:Nat,i=(k:Int):=Int.eq_ofNat_of_zero_le hin.1
  have hk:k<f.tasks.n:=by have:=hin.2;omega
  have hks:k<f.sinks.n:=by rw [hkt];exact hk
  have hkc:k<f.ckp.tsk.n:=by rw [hct];exact hk
  have hkp:k<f.ckp.snaps.n:=by rw [hcs];exact hk
  obtain rfl:b3=true:=by rw [h3];exact decide_eq_true ⟨by omega,by omega⟩
  have hso:=h.ok.2.2.2.2.2.2.2 k hks
  obtain ⟨hto,htw⟩:=h.ok.2.2.2.2.2.2.1 k hk
  have hbd:=h.bt k hk
  have hqw:QW f.ckp.n (f.tasks.g k):=h.qw k hk
  have hfull:=x_full f k hk hks hso hto.2.2.2.1
  have hstep:=x_step f.job (f.tasks.g k) inn B hto hB hbd
  have harg:∀ ix,ix=k->[xd (u7 f.job),xd (v9 (f.tasks.g ix)),.c (.d (eI inn))]=[xd (u7 f.job),xd (v9 (f.tasks.g k)),.c (.d (eI inn))]:=λix e=>by rw [e]
  refine u0 (H:=[12]) (EX:=EXTk) l6 e8 ([none,none,none]) Tryz.func115 rfl (by kernel_rfl) (by decide) (λ_=>rfl) ?_
  generalize hA:real=A
  generalize hM:d4 Tryz.prog=M
  cbv
  repeat' first|exact absurd (show false=true by subst hA;assumption) (by decide)|exact absurd (show true=false by subst hA;assumption) (by decide)|apply And.intro|exact True.intro|with_reducible rfl|exact b7 hA rfl|apply c8 hA<;>intro _|exact c6 hA id | (subst hA;exact λh=>h) | (refine c5 hA ?_;decide +kernel) | (refine i9 hA hM _ m3 (by subst hA;show [XT.c (.d (eI _)),XT.c (.d (eI 0)),XT.c (.d (eI (IntKind.i64.wrap ((f.tasks.n:Int)-1))))]=_;first | (rw [wr];done) | (rw [wr];rfl)) ?_;cbv) | (refine l7 hA hM (hfull) (by (subst hA;first|rfl | (simp only [p6];done) | (simp only [p6];rfl))) ?_;rintro b hb;cbv) | (refine l7 hA hM hstep (by (subst hA;exact harg _ (Nat.zero_add k))) ?_;rintro ⟨⟨t,txs⟩,tb⟩ hy;cbv) | (refine d8 hA λ_=>⟨Int.natCast_nonneg k,Int.ofNat_lt.2 hk⟩) | (refine d8 hA λ_=>⟨Int.natCast_nonneg k,Int.ofNat_lt.2 hks⟩) | (refine b7 hA ?_;subst hA;rfl) | (refine i8 hA ⟨f,hmo,by (subst hA;rfl),?_,rfl⟩;(subst hA;repeat' first|apply And.intro|exact True.intro|exact DLe.rfl|exact f8 _ _ |  exact m9 rfl);done)|fail
  have hbf:b=false:=by
    subst hA
    rename_i hbb
    have hbb:(bif (!true) then true else b)=false:=hbb
    exact hbb
  have hfr:=hb hbf
  obtain ⟨yo,yb,yw,yn,yx⟩:=hy
  have yo:s9 f.job t:=yo
  have yb:Bd (B+4) (n6 t.op):=yb
  have yn:txs.n<=1:=yn
  obtain ⟨yw1,yw2⟩:=yw f.ckp.n htw hqw
  have hF1:FInv (B+4) (taskF f k t):=finv_task h hB4 yo yw1 yb yw2
  obtain ⟨GT,hGT⟩:∃ z,z=(taskF f k t).tasks.g:=⟨_,rfl⟩
  have htr:∀ ix l,ix=k->l=v9 t->∀ q,q<f.tasks.n->real.upd (λq=>v9 (f.tasks.g q)) ix l q=v9 (GT q):=λix l e1 e2 q _=>by
    rw [hGT];exact upd_rows e1 e2 q
  refine i7 hA (α:=Option { y:FloT // FInv (B+4) y }) (λx=>match x with|none=>st_tk0 f k GT t txs|some y=>st_tk1 k txs y.1) (λx=>match x with|none=>1|some _=>0) none ?_ ?_
  · refine cov_open 13 9000 1 k (λj=>nbeq j 0) (s0 (f.sinks.g k)) rfl hks rfl ⟨.inl rfl,trivial,.inr (flatR λ_=>flat_Pane _),.inr (flatR λ_=>flat_Lat _),trivial⟩ rfl (cov_half 9000 (λq=>eTxn ((f.sinks.g k).ready.g q)) rfl trivial (λ_ _ _=>rfl) (p7 9002 rfl (p7 9003 rfl (c7 ?_ ?_ ?_))))
    iterate 3 focus (subst hA;repeat' first|exact True.intro|exact rfl|exact htr _ _ (Nat.zero_add k) rfl|exact (λq hq _=>htr _ _ (Nat.zero_add k) rfl q hq) |  apply And.intro | (intro _ _;rfl) | (intro _ _ _;rfl) | (intro q hq;exact absurd hq (Nat.not_lt_zero q))|exact .inr (b8 rfl)|exact .inl rfl|exact .inr (Nat.le_refl _)|fail)
  rintro (_|⟨y,hy⟩)
  · have hnt:t.op.rows.n<=1080000:=by have:=op_bd yo.1;exact Nat.le_trans this (by decide)
    have hni:t.ins.n<=1048576:=(tsk_bd yo).1
    have mC:=x_copyD t.op hnt
    have mM:=x_marks t hni
    cbv
    repeat' first|exact absurd (show false=true by subst hA;assumption) (by decide)|exact absurd (show true=false by subst hA;assumption) (by decide)|apply And.intro|exact True.intro|with_reducible rfl|exact b7 hA rfl|apply c8 hA<;>intro _|exact c6 hA id | (subst hA;exact λh=>h) | (refine c5 hA ?_;decide +kernel) | (refine d8 hA λ_=>⟨Int.le_refl 0,Int.ofNat_lt.2 (by first|exact f9 hA (by assumption)|exact l5 hA (by assumption))⟩) | (refine d8 hA λ_=>⟨Int.natCast_nonneg k,Int.ofNat_lt.2 hk⟩) | (refine d8 hA λ_=>⟨Int.natCast_nonneg k,Int.ofNat_lt.2 hks⟩) | (refine d8 hA λ_=>⟨Int.natCast_nonneg k,Int.ofNat_lt.2 hkc⟩) | (refine d8 hA λ_=>⟨Int.natCast_nonneg k,Int.ofNat_lt.2 hkp⟩) | (refine b7 hA ?_;subst hA;rfl) | (have hl9:0<txs.n:=(by first|exact f9 hA (by assumption)|exact l5 hA (by assumption));have yx9:=yx 0 hl9;refine l7 hA hM (x_joined (f.sinks.g k) f.ckp.safe.n (txs.g 0) hso yx9.1 (λho=>by have e1:=yx9.2.1;have e2:=yx9.2.2;have e3:=hfr.1 ho;exact ⟨e1▸e3.1,e2▸e3.2⟩) hfr.2) (by (subst hA;first|rfl | (simp only [p6];done) | (simp only [p6];rfl))) ?_;rintro r hr;cbv) | (refine i9 hA hM _ mC (by (subst hA;first|rfl | (simp only [p6];done) | (simp only [p6];rfl))) ?_;cbv) | (refine i9 hA hM _ mM (by (subst hA;first|rfl | (simp only [p6];done) | (simp only [p6];rfl))) ?_;cbv)|fail
    · obtain ⟨GS,hGS⟩:∃ z,z=(sinkF (taskF f k t) k ⟨r,(f.sinks.g k).n,(f.sinks.g k).panes,(f.sinks.g k).lates⟩).sinks.g:=⟨_,rfl⟩
      have hGSk:GS k=⟨r,(f.sinks.g k).n,(f.sinks.g k).panes,(f.sinks.g k).lates⟩:=by rw [hGS];exact if_pos rfl
      have hGSn:∀ q,q≠k->GS q=f.sinks.g q:=λq hq=>by rw [hGS];exact if_neg hq
      have hF2:FInv (B+4) (sinkF (taskF f k t) k ⟨r,(f.sinks.g k).n,(f.sinks.g k).panes,(f.sinks.g k).lates⟩):=finv_sink hF1 hr
      have hop:f.ckp.opn=true:=by
        rename_i hcond
        exact (and_t hA hcond).1
      have hF3:=finv_part (k:=k) (s:=snapOf t) hF2 hop (snapOf_ok yo) yb
      obtain ⟨GK,hGK⟩:∃ z:Nat->Bool,z=λq=>if q=k then true else f.ckp.tsk.g q:=⟨_,rfl⟩
      obtain ⟨GP,hGP⟩:∃ z:Nat->SnapT,z=λq=>if q=k then snapOf t else f.ckp.snaps.g q:=⟨_,rfl⟩
      have hk9:∀ ix l,ix=k->l=[eB true]->∀ q,q<f.ckp.tsk.n->real.upd (λq=>[eB (f.ckp.tsk.g q)]) ix l q=[eB (GK q)]:=λix l e1 e2 q _=>by
        rw [hGK];exact upd_rows (e:=λv=>[eB v]) e1 e2 q
      have hp9:∀ ix l,ix=k->l=d9 (snapOf t)->∀ q,q<f.ckp.snaps.n->real.upd (λq=>d9 (f.ckp.snaps.g q)) ix l q=d9 (GP q):=λix l e1 e2 q _=>by
        rw [hGP];exact upd_rows e1 e2 q
      have hF4:FInv (B+4) ⟨f.job,f.logs,f.srcs,⟨f.tasks.n,GT,f.tasks.hn⟩,⟨f.sinks.n,GS,f.sinks.hn⟩,⟨f.ckp.n,f.ckp.opn,f.ckp.src,⟨f.ckp.tsk.n,GK,f.ckp.tsk.hn⟩,⟨f.ckp.snaps.n,GP,f.ckp.snaps.hn⟩,f.ckp.safe⟩⟩:=by rw [hGT,hGS,hGK,hGP];exact hF3
      refine ⟨some ⟨_,hF4⟩,Nat.zero_lt_one,s8 13 (λq=>s0 (GS q)) (by rfl) (by exact congrArg (λz=>some (s0 z)) hGSk.symm) (by exact λq _ hh=>congrArg s0 (hGSn q (hh k _ rfl))) (c7 ?_ ?_ ?_)⟩
      iterate 3 focus (subst hA;repeat' first|exact True.intro|exact rfl|exact hk9 _ _ (Nat.zero_add k) rfl|exact (λq hq _=>hk9 _ _ (Nat.zero_add k) rfl q hq)|exact hp9 _ _ (Nat.zero_add k) rfl|exact (λq hq _=>hp9 _ _ (Nat.zero_add k) rfl q hq) |  apply And.intro | (intro _ _;rfl) | (intro _ _ _;rfl) | (intro q hq;exact absurd hq (Nat.not_lt_zero q))|exact .inr (b8 rfl)|exact .inl rfl|exact .inr (Nat.le_refl _)|fail)
    · obtain ⟨GS,hGS⟩:∃ z,z=(sinkF (taskF f k t) k ⟨r,(f.sinks.g k).n,(f.sinks.g k).panes,(f.sinks.g k).lates⟩).sinks.g:=⟨_,rfl⟩
      have hGSk:GS k=⟨r,(f.sinks.g k).n,(f.sinks.g k).panes,(f.sinks.g k).lates⟩:=by rw [hGS];exact if_pos rfl
      have hGSn:∀ q,q≠k->GS q=f.sinks.g q:=λq hq=>by rw [hGS];exact if_neg hq
      have hF2:FInv (B+4) (sinkF (taskF f k t) k ⟨r,(f.sinks.g k).n,(f.sinks.g k).panes,(f.sinks.g k).lates⟩):=finv_sink hF1 hr
      have hF4:FInv (B+4) ⟨f.job,f.logs,f.srcs,⟨f.tasks.n,GT,f.tasks.hn⟩,⟨f.sinks.n,GS,f.sinks.hn⟩,f.ckp⟩:=by rw [hGT,hGS];exact hF2
      refine ⟨some ⟨_,hF4⟩,Nat.zero_lt_one,s8 13 (λq=>s0 (GS q)) (by rfl) (by exact congrArg (λz=>some (s0 z)) hGSk.symm) (by exact λq _ hh=>congrArg s0 (hGSn q (hh k _ rfl))) (c7 ?_ ?_ ?_)⟩
      iterate 3 focus (subst hA;repeat' first|exact True.intro|exact rfl |  apply And.intro | (intro _ _;rfl) | (intro _ _ _;rfl) | (intro q hq;exact absurd hq (Nat.not_lt_zero q))|exact .inr (b8 rfl)|exact .inl rfl|exact .inr (Nat.le_refl _)|fail)
    · have hF4:FInv (B+4) ⟨f.job,f.logs,f.srcs,⟨f.tasks.n,GT,f.tasks.hn⟩,f.sinks,f.ckp⟩:=by rw [hGT];exact hF1
      refine l9 hA ⟨[(3,.c (.bp 192 1 0)),(6,.c (.bp 384 1 0))],[(12,1,.arr 7 f.tasks.n λi=>v9 (GT i)),(17,1,.arr 1 f.ckp.tsk.n λi=>[eB (f.ckp.tsk.g i)]),(18,1,.arr 3 f.ckp.snaps.n λi=>d9 (f.ckp.snaps.g i)),(13,2,.dead),(192,1,.box [.d (eI f.job.srcs),.d (eI f.job.tsks),.d (eI f.job.kind),.d (eI f.job.size),.d (eI f.job.step),.d (eI f.job.late),.d (eI f.job.tell),.d (eB f.job.piece),.d (eI f.job.least),.d (eI f.job.room),.d (.sl 1 f.logs.n λi=>[.sl 5 (f.logs.g i).n λk=>n9 ((f.logs.g i).g k)]),.d (.sl 2 f.srcs.n λi=>eSrc (f.srcs.g i)),.own 12 0 f.tasks.n 1,.d (.sl 4 f.sinks.n λi=>s0 (f.sinks.g i)),.d (eI f.ckp.n),.d (eB f.ckp.opn),.d (.sl 1 f.ckp.src.n λi=>[eI (f.ckp.src.g i)]),.own 17 0 f.ckp.tsk.n 1,.own 18 0 f.ckp.snaps.n 1,.d (eI f.ckp.safe.n),.d (.sl 1 f.ckp.safe.at_.n λi=>[eI (f.ckp.safe.at_.g i)]),.d (.sl 3 f.ckp.safe.snaps.n λi=>d9 (f.ckp.safe.snaps.g i))]),(384,1,.box [.d (eI 0),.d (eI 0),.d (eI 0),.d (eI 0),.d (eI 0),.d (eI 0),.d (eI 0),.d (eB false),.d (eI 0),.d (eI 0),.d (.v c9),.d (.v c9),.d (.v c9),.d (.v c9),.d (eI 0),.d (eB false),.d (.v c9),.d (.v c9),.d (.v c9),.d (eI 0),.d (.v c9),.d (.v c9)])]⟩ (p7 9000 rfl (s8 13 (λq=>s0 (f.sinks.g q)) (by rfl) (by rfl) (by exact λ_ _ _=>rfl) (c7 ?_ ?_ ?_))) ?_
      iterate 3 focus (subst hA;repeat' first|exact True.intro|exact rfl |  apply And.intro | (intro _ _;rfl) | (intro _ _ _;rfl) | (intro q hq;exact absurd hq (Nat.not_lt_zero q))|exact .inr (b8 rfl)|exact .inl rfl|exact .inr (Nat.le_refl _)|fail)
      cbv
      repeat' first|exact absurd (show false=true by subst hA;assumption) (by decide)|exact absurd (show true=false by subst hA;assumption) (by decide)|apply And.intro|exact True.intro|with_reducible rfl|exact b7 hA rfl|apply c8 hA<;>intro _|exact c6 hA id | (subst hA;exact λh=>h) | (refine c5 hA ?_;decide +kernel) | (refine b7 hA ?_;subst hA;rfl)|fail
      refine i8 hA ⟨_,hF4,by (subst hA;rfl),?_,rfl⟩
      (subst hA;repeat' first|apply And.intro|exact True.intro|exact DLe.rfl|exact f8 _ _ |  exact m9 rfl)
  · have hno:∀ {A:Ar},real=A->A.cmp .lss (Int.ofNat 1) (A.int txs.n)=true->False:=λhA hh=>by
      subst hA
      have hh:((1:Nat):Int)<(txs.n:Int):=of_decide_eq_true hh
      omega
    cbv
    repeat' first|exact (hno hA (by assumption)).elim|apply And.intro|exact True.intro|with_reducible rfl|exact b7 hA rfl|apply c8 hA<;>intro _|exact c6 hA id | (subst hA;exact λh=>h) | (refine c5 hA ?_;decide +kernel) | (refine b7 hA ?_;subst hA;rfl)|fail
    refine l9 hA ⟨[(3,.c (.bp 192 1 0)),(6,.c (.bp 384 1 0))],[(12,1,.arr 7 y.tasks.n λi=>v9 (y.tasks.g i)),(17,1,.arr 1 y.ckp.tsk.n λi=>[eB (y.ckp.tsk.g i)]),(18,1,.arr 3 y.ckp.snaps.n λi=>d9 (y.ckp.snaps.g i)),(13,2,.dead),(192,1,.box [.d (eI y.job.srcs),.d (eI y.job.tsks),.d (eI y.job.kind),.d (eI y.job.size),.d (eI y.job.step),.d (eI y.job.late),.d (eI y.job.tell),.d (eB y.job.piece),.d (eI y.job.least),.d (eI y.job.room),.d (.sl 1 y.logs.n λi=>[.sl 5 (y.logs.g i).n λk=>n9 ((y.logs.g i).g k)]),.d (.sl 2 y.srcs.n λi=>eSrc (y.srcs.g i)),.own 12 0 y.tasks.n 1,.d (.sl 4 y.sinks.n λi=>s0 (y.sinks.g i)),.d (eI y.ckp.n),.d (eB y.ckp.opn),.d (.sl 1 y.ckp.src.n λi=>[eI (y.ckp.src.g i)]),.own 17 0 y.ckp.tsk.n 1,.own 18 0 y.ckp.snaps.n 1,.d (eI y.ckp.safe.n),.d (.sl 1 y.ckp.safe.at_.n λi=>[eI (y.ckp.safe.at_.g i)]),.d (.sl 3 y.ckp.safe.snaps.n λi=>d9 (y.ckp.safe.snaps.g i))]),(384,1,.box [.d (eI 0),.d (eI 0),.d (eI 0),.d (eI 0),.d (eI 0),.d (eI 0),.d (eI 0),.d (eB false),.d (eI 0),.d (eI 0),.d (.v c9),.d (.v c9),.d (.v c9),.d (.v c9),.d (eI 0),.d (eB false),.d (.v c9),.d (.v c9),.d (.v c9),.d (eI 0),.d (.v c9),.d (.v c9)])]⟩ (c7 ?_ ?_ ?_) ?_
    iterate 3 focus (subst hA;repeat' first|exact True.intro|exact rfl |  apply And.intro | (intro _ _;rfl) | (intro _ _ _;rfl) | (intro q hq;exact absurd hq (Nat.not_lt_zero q))|exact .inr (b8 rfl)|exact .inl rfl|exact .inr (Nat.le_refl _)|fail)
    cbv
    repeat' first|exact absurd (show false=true by subst hA;assumption) (by decide)|exact absurd (show true=false by subst hA;assumption) (by decide)|apply And.intro|exact True.intro|with_reducible rfl|exact b7 hA rfl|apply c8 hA<;>intro _|exact c6 hA id | (subst hA;exact λh=>h) | (refine c5 hA ?_;decide +kernel) | (refine b7 hA ?_;subst hA;rfl)|fail
    refine i8 hA ⟨y,hy,by (subst hA;rfl),?_,rfl⟩
    (subst hA;repeat' first|apply And.intro|exact True.intro|exact DLe.rfl|exact f8 _ _ |  exact m9 rfl)
def EXDo:FuncId->List Nat × Bool:=λf=>bif nbeq f 114 then ([0],false) else bif nbeq f 115 then ([0],false) else bif nbeq f 117 then ([0],false) else bif nbeq f 118 then ([0],false) else ([],false)
theorem x_does (f:FloT) (B:Int) (hB:0<=B/\B<=880) (e1 e2 e3:Int) (h:FInv B f):∃ y:FloT,FInv (B+4) y/\d7 Tryz.prog 103 [.agg [.d (eI f.job.srcs),.d (eI f.job.tsks),.d (eI f.job.kind),.d (eI f.job.size),.d (eI f.job.step),.d (eI f.job.late),.d (eI f.job.tell),.d (eB f.job.piece),.d (eI f.job.least),.d (eI f.job.room),.nown 1 f.logs.n λi=>[.sl 5 (f.logs.g i).n λk=>n9 ((f.logs.g i).g k)],.own 2 f.srcs.n λi=>eSrc (f.srcs.g i),.nown 7 f.tasks.n λi=>v9 (f.tasks.g i),.nown 4 f.sinks.n λi=>s0 (f.sinks.g i),.d (eI f.ckp.n),.d (eB f.ckp.opn),.own 1 f.ckp.src.n λi=>[eI (f.ckp.src.g i)],.own 1 f.ckp.tsk.n λi=>[eB (f.ckp.tsk.g i)],.nown 3 f.ckp.snaps.n λi=>d9 (f.ckp.snaps.g i),.d (eI f.ckp.safe.n),.own 1 f.ckp.safe.at_.n λi=>[eI (f.ckp.safe.at_.g i)],.nown 3 f.ckp.safe.snaps.n λi=>d9 (f.ckp.safe.snaps.g i)],.agg [.d (eI e1),.d (eI e2),.d (eI e3)]] ⟨.one (xd (eFlo y)),[none,none]⟩:=by
  have hB4:B<=B+4:=by omega
  have hmo:FInv (B+4) f:=finv_mono h hB4
  have hb:=ckp_bd h.ok.1
  have xS:=x_src f B e2 h
  have xT:=x_task f B hB e2 e3 h
  have xC:=x_commit f B e2 h
  have xX:=x_crash f B hB.1 h
  obtain ⟨ca,hca⟩:∃ c,c=askP f.job f.ckp:=⟨_,rfl⟩
  obtain ⟨cs,hcs⟩:∃ c,c=saveP f.job f.ckp:=⟨_,rfl⟩
  obtain ⟨cd,hcd⟩:∃ c,c=dropP f.job f.ckp:=⟨_,rfl⟩
  have mA:=c_sCkpAsk f.job f.ckp hb ca hca
  have mS:=c_sCkpSave f.job f.ckp hb cs hcs
  have mD:=x_drop9 f.job f.ckp h.ok.1 cd hcd
  have fA:FInv (B+4) (i4 f ca):=by rw [hca];exact finv_mono (finv_ask h) hB4
  have fS:FInv (B+4) (i4 f cs.1):=by rw [hcs];exact finv_mono (finv_save hB.1 h) hB4
  have fD:FInv (B+4) (i4 f cd):=by rw [hcd];exact finv_mono (finv_drop hB.1 h) hB4
  refine u0 (H:=[3,5,7,9,12,14,16]) (EX:=EXDo) l6 e8 ([none,none]) Tryz.func103 rfl (by kernel_rfl) (by decide) (λ_=>rfl) ?_
  generalize hA:real=A
  generalize hM:d4 Tryz.prog=M
  cbv
  repeat' first|exact absurd (show false=true by subst hA;assumption) (by decide)|exact absurd (show true=false by subst hA;assumption) (by decide)|apply And.intro|exact True.intro|with_reducible rfl|exact b7 hA rfl|apply c8 hA<;>intro _|exact c6 hA id | (subst hA;exact λh=>h) | (refine c5 hA ?_;decide +kernel) | (refine b7 hA ?_;subst hA;rfl)|fail
  · skip
    refine l9 hA ⟨[(2,.c (.bp 128 1 0)),(3,.c (.bp 192 1 0)),(4,.c (.bp 256 1 0))],[(11,1,.arr 2 f.srcs.n λi=>eSrc (f.srcs.g i)),(12,1,.nest 7 f.tasks.n (λi=>v9 (f.tasks.g i)) none),(16,1,.arr 1 f.ckp.src.n λi=>[eI (f.ckp.src.g i)]),(21,2,.dead),(20,2,.dead),(18,2,.dead),(17,2,.dead),(13,2,.dead),(10,2,.dead),(128,1,.box [.d (eI f.job.srcs),.d (eI f.job.tsks),.d (eI f.job.kind),.d (eI f.job.size),.d (eI f.job.step),.d (eI f.job.late),.d (eI f.job.tell),.d (eB f.job.piece),.d (eI f.job.least),.d (eI f.job.room),.d (.sl 1 f.logs.n λi=>[.sl 5 (f.logs.g i).n λk=>n9 ((f.logs.g i).g k)]),.own 11 0 f.srcs.n 1,.nown 12 f.tasks.n 1,.d (.sl 4 f.sinks.n λi=>s0 (f.sinks.g i)),.d (eI f.ckp.n),.d (eB f.ckp.opn),.own 16 0 f.ckp.src.n 1,.d (.sl 1 f.ckp.tsk.n λi=>[eB (f.ckp.tsk.g i)]),.d (.sl 3 f.ckp.snaps.n λi=>d9 (f.ckp.snaps.g i)),.d (eI f.ckp.safe.n),.d (.sl 1 f.ckp.safe.at_.n λi=>[eI (f.ckp.safe.at_.g i)]),.d (.sl 3 f.ckp.safe.snaps.n λi=>d9 (f.ckp.safe.snaps.g i))]),(192,1,.box [.d (eI e1),.d (eI e2),.d (eI e3)]),(256,1,.box [.d (eI 0),.d (eI 0),.d (eI 0),.d (eI 0),.d (eI 0),.d (eI 0),.d (eI 0),.d (eB false),.d (eI 0),.d (eI 0),.d (.v c9),.d (.v c9),.d (.v c9),.d (.v c9),.d (eI 0),.d (eB false),.d (.v c9),.d (.v c9),.d (.v c9),.d (eI 0),.d (.v c9),.d (.v c9)])]⟩ (s8 10 (λi=>[.sl 5 (f.logs.g i).n λk=>n9 ((f.logs.g i).g k)]) (by rfl) (by exact trivial) (by exact λ_ _ _=>rfl) (s8 13 (λi=>s0 (f.sinks.g i)) (by rfl) (by exact trivial) (by exact λ_ _ _=>rfl) (p7 17 (by rfl) (s8 18 (λi=>d9 (f.ckp.snaps.g i)) (by rfl) (by exact trivial) (by exact λ_ _ _=>rfl) (p7 20 (by rfl) (s8 21 (λi=>d9 (f.ckp.safe.snaps.g i)) (by rfl) (by exact trivial) (by exact λ_ _ _=>rfl) (c7 ?_ ?_ ?_))))))) ?_
    iterate 3 focus (subst hA;repeat' first|exact True.intro|exact rfl |  apply And.intro | (intro _ _;rfl) | (intro _ _ _;rfl) | (intro q hq;exact absurd hq (Nat.not_lt_zero q))|exact .inr (b8 rfl)|exact .inl rfl|exact .inr (Nat.le_refl _)|fail)
    cbv
    repeat' first|exact absurd (show false=true by subst hA;assumption) (by decide)|exact absurd (show true=false by subst hA;assumption) (by decide)|apply And.intro|exact True.intro|with_reducible rfl|exact b7 hA rfl|apply c8 hA<;>intro _|exact c6 hA id | (subst hA;exact λh=>h) | (refine c5 hA ?_;decide +kernel) | (refine l7 hA hM (xS) (by (subst hA;first|rfl | (simp only [p6];done) | (simp only [p6];rfl))) ?_;rintro y hy;cbv) | (refine b7 hA ?_;subst hA;rfl)|fail
    refine i8 hA ⟨y,finv_mono hy hB4,by (subst hA;rfl),?_,rfl⟩
    (subst hA;repeat' first|apply And.intro|exact True.intro|exact DLe.rfl|exact f8 _ _ |  exact m9 rfl)
  · skip
    refine l9 hA ⟨[(2,.c (.bp 128 1 0)),(3,.c (.bp 192 1 0)),(4,.c (.bp 256 1 0))],[(12,2,.arr 7 f.tasks.n λi=>v9 (f.tasks.g i)),(13,1,.nest 4 f.sinks.n (λi=>s0 (f.sinks.g i)) none),(17,1,.arr 1 f.ckp.tsk.n λi=>[eB (f.ckp.tsk.g i)]),(18,2,.arr 3 f.ckp.snaps.n λi=>d9 (f.ckp.snaps.g i)),(21,2,.dead),(20,2,.dead),(16,2,.dead),(11,2,.dead),(10,2,.dead),(128,1,.box [.d (eI f.job.srcs),.d (eI f.job.tsks),.d (eI f.job.kind),.d (eI f.job.size),.d (eI f.job.step),.d (eI f.job.late),.d (eI f.job.tell),.d (eB f.job.piece),.d (eI f.job.least),.d (eI f.job.room),.d (.sl 1 f.logs.n λi=>[.sl 5 (f.logs.g i).n λk=>n9 ((f.logs.g i).g k)]),.d (.sl 2 f.srcs.n λi=>eSrc (f.srcs.g i)),.own 12 0 f.tasks.n 2,.nown 13 f.sinks.n 1,.d (eI f.ckp.n),.d (eB f.ckp.opn),.d (.sl 1 f.ckp.src.n λi=>[eI (f.ckp.src.g i)]),.own 17 0 f.ckp.tsk.n 1,.own 18 0 f.ckp.snaps.n 2,.d (eI f.ckp.safe.n),.d (.sl 1 f.ckp.safe.at_.n λi=>[eI (f.ckp.safe.at_.g i)]),.d (.sl 3 f.ckp.safe.snaps.n λi=>d9 (f.ckp.safe.snaps.g i))]),(192,1,.box [.d (eI e1),.d (eI e2),.d (eI e3)]),(256,1,.box [.d (eI 0),.d (eI 0),.d (eI 0),.d (eI 0),.d (eI 0),.d (eI 0),.d (eI 0),.d (eB false),.d (eI 0),.d (eI 0),.d (.v c9),.d (.v c9),.d (.v c9),.d (.v c9),.d (eI 0),.d (eB false),.d (.v c9),.d (.v c9),.d (.v c9),.d (eI 0),.d (.v c9),.d (.v c9)])]⟩ (s8 10 (λi=>[.sl 5 (f.logs.g i).n λk=>n9 ((f.logs.g i).g k)]) (by rfl) (by exact trivial) (by exact λ_ _ _=>rfl) (p7 11 (by rfl) (cov_half 12 (λi=>v9 (f.tasks.g i)) (by rfl) (by exact trivial) (by exact λ_ _ _=>rfl) (p7 16 (by rfl) (cov_half 18 (λi=>d9 (f.ckp.snaps.g i)) (by rfl) (by exact trivial) (by exact λ_ _ _=>rfl) (p7 20 (by rfl) (s8 21 (λi=>d9 (f.ckp.safe.snaps.g i)) (by rfl) (by exact trivial) (by exact λ_ _ _=>rfl) (c7 ?_ ?_ ?_)))))))) ?_
    iterate 3 focus (subst hA;repeat' first|exact True.intro|exact rfl |  apply And.intro | (intro _ _;rfl) | (intro _ _ _;rfl) | (intro q hq;exact absurd hq (Nat.not_lt_zero q))|exact .inr (b8 rfl)|exact .inl rfl|exact .inr (Nat.le_refl _)|fail)
    cbv
    repeat' first|exact absurd (show false=true by subst hA;assumption) (by decide)|exact absurd (show true=false by subst hA;assumption) (by decide)|apply And.intro|exact True.intro|with_reducible rfl|exact b7 hA rfl|apply c8 hA<;>intro _|exact c6 hA id | (subst hA;exact λh=>h) | (refine c5 hA ?_;decide +kernel) | (refine l7 hA hM (xT) (by (subst hA;first|rfl | (simp only [p6];done) | (simp only [p6];rfl))) ?_;rintro y hy;cbv) | (refine b7 hA ?_;subst hA;rfl)|fail
    refine i8 hA ⟨y,hy,by (subst hA;rfl),?_,rfl⟩
    (subst hA;repeat' first|apply And.intro|exact True.intro|exact DLe.rfl|exact f8 _ _ |  exact m9 rfl)
  · skip
    refine l9 hA ⟨[(2,.c (.bp 128 1 0)),(3,.c (.bp 192 1 0)),(4,.c (.bp 256 1 0))],[(21,2,.dead),(20,2,.dead),(18,2,.dead),(17,2,.dead),(16,2,.dead),(13,2,.dead),(12,2,.dead),(11,2,.dead),(10,2,.dead),(128,1,.box [.d (eI f.job.srcs),.d (eI f.job.tsks),.d (eI f.job.kind),.d (eI f.job.size),.d (eI f.job.step),.d (eI f.job.late),.d (eI f.job.tell),.d (eB f.job.piece),.d (eI f.job.least),.d (eI f.job.room),.d (.sl 1 f.logs.n λi=>[.sl 5 (f.logs.g i).n λk=>n9 ((f.logs.g i).g k)]),.d (.sl 2 f.srcs.n λi=>eSrc (f.srcs.g i)),.d (.sl 7 f.tasks.n λi=>v9 (f.tasks.g i)),.d (.sl 4 f.sinks.n λi=>s0 (f.sinks.g i)),.d (eI f.ckp.n),.d (eB f.ckp.opn),.d (.sl 1 f.ckp.src.n λi=>[eI (f.ckp.src.g i)]),.d (.sl 1 f.ckp.tsk.n λi=>[eB (f.ckp.tsk.g i)]),.d (.sl 3 f.ckp.snaps.n λi=>d9 (f.ckp.snaps.g i)),.d (eI f.ckp.safe.n),.d (.sl 1 f.ckp.safe.at_.n λi=>[eI (f.ckp.safe.at_.g i)]),.d (.sl 3 f.ckp.safe.snaps.n λi=>d9 (f.ckp.safe.snaps.g i))]),(192,1,.box [.d (eI e1),.d (eI e2),.d (eI e3)]),(256,1,.box [.d (eI 0),.d (eI 0),.d (eI 0),.d (eI 0),.d (eI 0),.d (eI 0),.d (eI 0),.d (eB false),.d (eI 0),.d (eI 0),.d (.v c9),.d (.v c9),.d (.v c9),.d (.v c9),.d (eI 0),.d (eB false),.d (.v c9),.d (.v c9),.d (.v c9),.d (eI 0),.d (.v c9),.d (.v c9)])]⟩ (s8 10 (λi=>[.sl 5 (f.logs.g i).n λk=>n9 ((f.logs.g i).g k)]) (by rfl) (by exact trivial) (by exact λ_ _ _=>rfl) (p7 11 (by rfl) (s8 12 (λi=>v9 (f.tasks.g i)) (by rfl) (by exact trivial) (by exact λ_ _ _=>rfl) (s8 13 (λi=>s0 (f.sinks.g i)) (by rfl) (by exact trivial) (by exact λ_ _ _=>rfl) (p7 16 (by rfl) (p7 17 (by rfl) (s8 18 (λi=>d9 (f.ckp.snaps.g i)) (by rfl) (by exact trivial) (by exact λ_ _ _=>rfl) (p7 20 (by rfl) (s8 21 (λi=>d9 (f.ckp.safe.snaps.g i)) (by rfl) (by exact trivial) (by exact λ_ _ _=>rfl) (c7 ?_ ?_ ?_)))))))))) ?_
    iterate 3 focus (subst hA;repeat' first|exact True.intro|exact rfl |  apply And.intro | (intro _ _;rfl) | (intro _ _ _;rfl) | (intro q hq;exact absurd hq (Nat.not_lt_zero q))|exact .inr (b8 rfl)|exact .inl rfl|exact .inr (Nat.le_refl _)|fail)
    cbv
    repeat' first|exact absurd (show false=true by subst hA;assumption) (by decide)|exact absurd (show true=false by subst hA;assumption) (by decide)|apply And.intro|exact True.intro|with_reducible rfl|exact b7 hA rfl|apply c8 hA<;>intro _|exact c6 hA id | (subst hA;exact λh=>h) | (refine c5 hA ?_;decide +kernel) | (refine i9 hA hM _ mA (by (subst hA;first|rfl | (simp only [p6];done) | (simp only [p6];rfl))) ?_;cbv) | (refine b7 hA ?_;subst hA;rfl)|fail
    refine i8 hA ⟨i4 f ca,fA,by (subst hA;rfl),?_,rfl⟩
    (subst hA;repeat' first|apply And.intro|exact True.intro|exact DLe.rfl|exact f8 _ _ |  exact m9 rfl)
  · skip
    refine l9 hA ⟨[(2,.c (.bp 128 1 0)),(3,.c (.bp 192 1 0)),(4,.c (.bp 256 1 0))],[(21,2,.dead),(20,2,.dead),(18,2,.dead),(17,2,.dead),(16,2,.dead),(13,2,.dead),(12,2,.dead),(11,2,.dead),(10,2,.dead),(128,1,.box [.d (eI f.job.srcs),.d (eI f.job.tsks),.d (eI f.job.kind),.d (eI f.job.size),.d (eI f.job.step),.d (eI f.job.late),.d (eI f.job.tell),.d (eB f.job.piece),.d (eI f.job.least),.d (eI f.job.room),.d (.sl 1 f.logs.n λi=>[.sl 5 (f.logs.g i).n λk=>n9 ((f.logs.g i).g k)]),.d (.sl 2 f.srcs.n λi=>eSrc (f.srcs.g i)),.d (.sl 7 f.tasks.n λi=>v9 (f.tasks.g i)),.d (.sl 4 f.sinks.n λi=>s0 (f.sinks.g i)),.d (eI f.ckp.n),.d (eB f.ckp.opn),.d (.sl 1 f.ckp.src.n λi=>[eI (f.ckp.src.g i)]),.d (.sl 1 f.ckp.tsk.n λi=>[eB (f.ckp.tsk.g i)]),.d (.sl 3 f.ckp.snaps.n λi=>d9 (f.ckp.snaps.g i)),.d (eI f.ckp.safe.n),.d (.sl 1 f.ckp.safe.at_.n λi=>[eI (f.ckp.safe.at_.g i)]),.d (.sl 3 f.ckp.safe.snaps.n λi=>d9 (f.ckp.safe.snaps.g i))]),(192,1,.box [.d (eI e1),.d (eI e2),.d (eI e3)]),(256,1,.box [.d (eI 0),.d (eI 0),.d (eI 0),.d (eI 0),.d (eI 0),.d (eI 0),.d (eI 0),.d (eB false),.d (eI 0),.d (eI 0),.d (.v c9),.d (.v c9),.d (.v c9),.d (.v c9),.d (eI 0),.d (eB false),.d (.v c9),.d (.v c9),.d (.v c9),.d (eI 0),.d (.v c9),.d (.v c9)])]⟩ (s8 10 (λi=>[.sl 5 (f.logs.g i).n λk=>n9 ((f.logs.g i).g k)]) (by rfl) (by exact trivial) (by exact λ_ _ _=>rfl) (p7 11 (by rfl) (s8 12 (λi=>v9 (f.tasks.g i)) (by rfl) (by exact trivial) (by exact λ_ _ _=>rfl) (s8 13 (λi=>s0 (f.sinks.g i)) (by rfl) (by exact trivial) (by exact λ_ _ _=>rfl) (p7 16 (by rfl) (p7 17 (by rfl) (s8 18 (λi=>d9 (f.ckp.snaps.g i)) (by rfl) (by exact trivial) (by exact λ_ _ _=>rfl) (p7 20 (by rfl) (s8 21 (λi=>d9 (f.ckp.safe.snaps.g i)) (by rfl) (by exact trivial) (by exact λ_ _ _=>rfl) (c7 ?_ ?_ ?_)))))))))) ?_
    iterate 3 focus (subst hA;repeat' first|exact True.intro|exact rfl |  apply And.intro | (intro _ _;rfl) | (intro _ _ _;rfl) | (intro q hq;exact absurd hq (Nat.not_lt_zero q))|exact .inr (b8 rfl)|exact .inl rfl|exact .inr (Nat.le_refl _)|fail)
    cbv
    repeat' first|exact absurd (show false=true by subst hA;assumption) (by decide)|exact absurd (show true=false by subst hA;assumption) (by decide)|apply And.intro|exact True.intro|with_reducible rfl|exact b7 hA rfl|apply c8 hA<;>intro _|exact c6 hA id | (subst hA;exact λh=>h) | (refine c5 hA ?_;decide +kernel) | (refine i9 hA hM _ mS (by (subst hA;first|rfl | (simp only [p6];done) | (simp only [p6];rfl))) ?_;cbv) | (refine b7 hA ?_;subst hA;rfl)|fail
    refine i8 hA ⟨i4 f cs.1,fS,by (subst hA;rfl),?_,rfl⟩
    (subst hA;repeat' first|apply And.intro|exact True.intro|exact DLe.rfl|exact f8 _ _ |  exact m9 rfl)
  · skip
    refine l9 hA ⟨[(2,.c (.bp 128 1 0)),(3,.c (.bp 192 1 0)),(4,.c (.bp 256 1 0))],[(21,2,.dead),(20,2,.dead),(18,2,.dead),(17,2,.dead),(16,2,.dead),(13,2,.dead),(12,2,.dead),(11,2,.dead),(10,2,.dead),(128,1,.box [.d (eI f.job.srcs),.d (eI f.job.tsks),.d (eI f.job.kind),.d (eI f.job.size),.d (eI f.job.step),.d (eI f.job.late),.d (eI f.job.tell),.d (eB f.job.piece),.d (eI f.job.least),.d (eI f.job.room),.d (.sl 1 f.logs.n λi=>[.sl 5 (f.logs.g i).n λk=>n9 ((f.logs.g i).g k)]),.d (.sl 2 f.srcs.n λi=>eSrc (f.srcs.g i)),.d (.sl 7 f.tasks.n λi=>v9 (f.tasks.g i)),.d (.sl 4 f.sinks.n λi=>s0 (f.sinks.g i)),.d (eI f.ckp.n),.d (eB f.ckp.opn),.d (.sl 1 f.ckp.src.n λi=>[eI (f.ckp.src.g i)]),.d (.sl 1 f.ckp.tsk.n λi=>[eB (f.ckp.tsk.g i)]),.d (.sl 3 f.ckp.snaps.n λi=>d9 (f.ckp.snaps.g i)),.d (eI f.ckp.safe.n),.d (.sl 1 f.ckp.safe.at_.n λi=>[eI (f.ckp.safe.at_.g i)]),.d (.sl 3 f.ckp.safe.snaps.n λi=>d9 (f.ckp.safe.snaps.g i))]),(192,1,.box [.d (eI e1),.d (eI e2),.d (eI e3)]),(256,1,.box [.d (eI 0),.d (eI 0),.d (eI 0),.d (eI 0),.d (eI 0),.d (eI 0),.d (eI 0),.d (eB false),.d (eI 0),.d (eI 0),.d (.v c9),.d (.v c9),.d (.v c9),.d (.v c9),.d (eI 0),.d (eB false),.d (.v c9),.d (.v c9),.d (.v c9),.d (eI 0),.d (.v c9),.d (.v c9)])]⟩ (s8 10 (λi=>[.sl 5 (f.logs.g i).n λk=>n9 ((f.logs.g i).g k)]) (by rfl) (by exact trivial) (by exact λ_ _ _=>rfl) (p7 11 (by rfl) (s8 12 (λi=>v9 (f.tasks.g i)) (by rfl) (by exact trivial) (by exact λ_ _ _=>rfl) (s8 13 (λi=>s0 (f.sinks.g i)) (by rfl) (by exact trivial) (by exact λ_ _ _=>rfl) (p7 16 (by rfl) (p7 17 (by rfl) (s8 18 (λi=>d9 (f.ckp.snaps.g i)) (by rfl) (by exact trivial) (by exact λ_ _ _=>rfl) (p7 20 (by rfl) (s8 21 (λi=>d9 (f.ckp.safe.snaps.g i)) (by rfl) (by exact trivial) (by exact λ_ _ _=>rfl) (c7 ?_ ?_ ?_)))))))))) ?_
    iterate 3 focus (subst hA;repeat' first|exact True.intro|exact rfl |  apply And.intro | (intro _ _;rfl) | (intro _ _ _;rfl) | (intro q hq;exact absurd hq (Nat.not_lt_zero q))|exact .inr (b8 rfl)|exact .inl rfl|exact .inr (Nat.le_refl _)|fail)
    cbv
    repeat' first|exact absurd (show false=true by subst hA;assumption) (by decide)|exact absurd (show true=false by subst hA;assumption) (by decide)|apply And.intro|exact True.intro|with_reducible rfl|exact b7 hA rfl|apply c8 hA<;>intro _|exact c6 hA id | (subst hA;exact λh=>h) | (refine c5 hA ?_;decide +kernel) | (refine i9 hA hM _ mD (by (subst hA;first|rfl | (simp only [p6];done) | (simp only [p6];rfl))) ?_;cbv) | (refine b7 hA ?_;subst hA;rfl)|fail
    refine i8 hA ⟨i4 f cd,fD,by (subst hA;rfl),?_,rfl⟩
    (subst hA;repeat' first|apply And.intro|exact True.intro|exact DLe.rfl|exact f8 _ _ |  exact m9 rfl)
  · skip
    refine l9 hA ⟨[(2,.c (.bp 128 1 0)),(3,.c (.bp 192 1 0)),(4,.c (.bp 256 1 0))],[(13,1,.nest 4 f.sinks.n (λi=>s0 (f.sinks.g i)) none),(21,2,.dead),(20,2,.dead),(18,2,.dead),(17,2,.dead),(16,2,.dead),(12,2,.dead),(11,2,.dead),(10,2,.dead),(128,1,.box [.d (eI f.job.srcs),.d (eI f.job.tsks),.d (eI f.job.kind),.d (eI f.job.size),.d (eI f.job.step),.d (eI f.job.late),.d (eI f.job.tell),.d (eB f.job.piece),.d (eI f.job.least),.d (eI f.job.room),.d (.sl 1 f.logs.n λi=>[.sl 5 (f.logs.g i).n λk=>n9 ((f.logs.g i).g k)]),.d (.sl 2 f.srcs.n λi=>eSrc (f.srcs.g i)),.d (.sl 7 f.tasks.n λi=>v9 (f.tasks.g i)),.nown 13 f.sinks.n 1,.d (eI f.ckp.n),.d (eB f.ckp.opn),.d (.sl 1 f.ckp.src.n λi=>[eI (f.ckp.src.g i)]),.d (.sl 1 f.ckp.tsk.n λi=>[eB (f.ckp.tsk.g i)]),.d (.sl 3 f.ckp.snaps.n λi=>d9 (f.ckp.snaps.g i)),.d (eI f.ckp.safe.n),.d (.sl 1 f.ckp.safe.at_.n λi=>[eI (f.ckp.safe.at_.g i)]),.d (.sl 3 f.ckp.safe.snaps.n λi=>d9 (f.ckp.safe.snaps.g i))]),(192,1,.box [.d (eI e1),.d (eI e2),.d (eI e3)]),(256,1,.box [.d (eI 0),.d (eI 0),.d (eI 0),.d (eI 0),.d (eI 0),.d (eI 0),.d (eI 0),.d (eB false),.d (eI 0),.d (eI 0),.d (.v c9),.d (.v c9),.d (.v c9),.d (.v c9),.d (eI 0),.d (eB false),.d (.v c9),.d (.v c9),.d (.v c9),.d (eI 0),.d (.v c9),.d (.v c9)])]⟩ (s8 10 (λi=>[.sl 5 (f.logs.g i).n λk=>n9 ((f.logs.g i).g k)]) (by rfl) (by exact trivial) (by exact λ_ _ _=>rfl) (p7 11 (by rfl) (s8 12 (λi=>v9 (f.tasks.g i)) (by rfl) (by exact trivial) (by exact λ_ _ _=>rfl) (p7 16 (by rfl) (p7 17 (by rfl) (s8 18 (λi=>d9 (f.ckp.snaps.g i)) (by rfl) (by exact trivial) (by exact λ_ _ _=>rfl) (p7 20 (by rfl) (s8 21 (λi=>d9 (f.ckp.safe.snaps.g i)) (by rfl) (by exact trivial) (by exact λ_ _ _=>rfl) (c7 ?_ ?_ ?_))))))))) ?_
    iterate 3 focus (subst hA;repeat' first|exact True.intro|exact rfl |  apply And.intro | (intro _ _;rfl) | (intro _ _ _;rfl) | (intro q hq;exact absurd hq (Nat.not_lt_zero q))|exact .inr (b8 rfl)|exact .inl rfl|exact .inr (Nat.le_refl _)|fail)
    cbv
    repeat' first|exact absurd (show false=true by subst hA;assumption) (by decide)|exact absurd (show true=false by subst hA;assumption) (by decide)|apply And.intro|exact True.intro|with_reducible rfl|exact b7 hA rfl|apply c8 hA<;>intro _|exact c6 hA id | (subst hA;exact λh=>h) | (refine c5 hA ?_;decide +kernel) | (refine l7 hA hM (xC) (by (subst hA;first|rfl | (simp only [p6];done) | (simp only [p6];rfl))) ?_;rintro y hy;cbv) | (refine b7 hA ?_;subst hA;rfl)|fail
    refine i8 hA ⟨y,finv_mono hy hB4,by (subst hA;rfl),?_,rfl⟩
    (subst hA;repeat' first|apply And.intro|exact True.intro|exact DLe.rfl|exact f8 _ _ |  exact m9 rfl)
  · skip
    refine l9 hA ⟨[(2,.c (.bp 128 1 0)),(3,.c (.bp 192 1 0)),(4,.c (.bp 256 1 0))],[(11,1,.arr 2 f.srcs.n λi=>eSrc (f.srcs.g i)),(12,2,.arr 7 f.tasks.n λi=>v9 (f.tasks.g i)),(13,2,.arr 4 f.sinks.n λi=>s0 (f.sinks.g i)),(21,2,.dead),(20,2,.dead),(18,2,.dead),(17,2,.dead),(16,2,.dead),(10,2,.dead),(128,1,.box [.d (eI f.job.srcs),.d (eI f.job.tsks),.d (eI f.job.kind),.d (eI f.job.size),.d (eI f.job.step),.d (eI f.job.late),.d (eI f.job.tell),.d (eB f.job.piece),.d (eI f.job.least),.d (eI f.job.room),.d (.sl 1 f.logs.n λi=>[.sl 5 (f.logs.g i).n λk=>n9 ((f.logs.g i).g k)]),.own 11 0 f.srcs.n 1,.own 12 0 f.tasks.n 2,.own 13 0 f.sinks.n 2,.d (eI f.ckp.n),.d (eB f.ckp.opn),.d (.sl 1 f.ckp.src.n λi=>[eI (f.ckp.src.g i)]),.d (.sl 1 f.ckp.tsk.n λi=>[eB (f.ckp.tsk.g i)]),.d (.sl 3 f.ckp.snaps.n λi=>d9 (f.ckp.snaps.g i)),.d (eI f.ckp.safe.n),.d (.sl 1 f.ckp.safe.at_.n λi=>[eI (f.ckp.safe.at_.g i)]),.d (.sl 3 f.ckp.safe.snaps.n λi=>d9 (f.ckp.safe.snaps.g i))]),(192,1,.box [.d (eI e1),.d (eI e2),.d (eI e3)]),(256,1,.box [.d (eI 0),.d (eI 0),.d (eI 0),.d (eI 0),.d (eI 0),.d (eI 0),.d (eI 0),.d (eB false),.d (eI 0),.d (eI 0),.d (.v c9),.d (.v c9),.d (.v c9),.d (.v c9),.d (eI 0),.d (eB false),.d (.v c9),.d (.v c9),.d (.v c9),.d (eI 0),.d (.v c9),.d (.v c9)])]⟩ (s8 10 (λi=>[.sl 5 (f.logs.g i).n λk=>n9 ((f.logs.g i).g k)]) (by rfl) (by exact trivial) (by exact λ_ _ _=>rfl) (cov_half 12 (λi=>v9 (f.tasks.g i)) (by rfl) (by exact trivial) (by exact λ_ _ _=>rfl) (cov_half 13 (λi=>s0 (f.sinks.g i)) (by rfl) (by exact trivial) (by exact λ_ _ _=>rfl) (p7 16 (by rfl) (p7 17 (by rfl) (s8 18 (λi=>d9 (f.ckp.snaps.g i)) (by rfl) (by exact trivial) (by exact λ_ _ _=>rfl) (p7 20 (by rfl) (s8 21 (λi=>d9 (f.ckp.safe.snaps.g i)) (by rfl) (by exact trivial) (by exact λ_ _ _=>rfl) (c7 ?_ ?_ ?_))))))))) ?_
    iterate 3 focus (subst hA;repeat' first|exact True.intro|exact rfl |  apply And.intro | (intro _ _;rfl) | (intro _ _ _;rfl) | (intro q hq;exact absurd hq (Nat.not_lt_zero q))|exact .inr (b8 rfl)|exact .inl rfl|exact .inr (Nat.le_refl _)|fail)
    cbv
    repeat' first|exact absurd (show false=true by subst hA;assumption) (by decide)|exact absurd (show true=false by subst hA;assumption) (by decide)|apply And.intro|exact True.intro|with_reducible rfl|exact b7 hA rfl|apply c8 hA<;>intro _|exact c6 hA id | (subst hA;exact λh=>h) | (refine c5 hA ?_;decide +kernel) | (refine l7 hA hM (xX) (by (subst hA;first|rfl | (simp only [p6];done) | (simp only [p6];rfl))) ?_;rintro y hy;cbv) | (refine b7 hA ?_;subst hA;rfl)|fail
    refine i8 hA ⟨y,finv_mono hy hB4,by (subst hA;rfl),?_,rfl⟩
    (subst hA;repeat' first|apply And.intro|exact True.intro|exact DLe.rfl|exact f8 _ _ |  exact m9 rfl)
  · skip
    refine i8 hA ⟨f,hmo,by (subst hA;rfl),?_,rfl⟩
    (subst hA;repeat' first|apply And.intro|exact True.intro|exact DLe.rfl|exact f8 _ _ |  exact m9 rfl)
def EXFs:FuncId->List Nat × Bool:=λf=>bif nbeq f 103 then ([0],false) else ([],false)
theorem x_flostep (f:FloT) (B:Int) (hB:0<=B/\B<=880) (e1 e2 e3:Int) (h:FInv B f):∃ y:FloT,FInv (B+4) y/\d7 Tryz.prog 86 [xd (eFlo f),.agg [.d (eI e1),.d (eI e2),.d (eI e3)]] ⟨.one (xd (eFlo y)),[none,none]⟩:=by
  have hbd:=flo_bd h.ok
  obtain ⟨b,hb,mO⟩:=c_sFloOk f hbd
  obtain rfl:b=true:=hb.2 h.ok
  have hts:f.sinks.n=f.tasks.n:=Int.ofNat.inj (h.ok.2.2.2.2.1.trans h.ok.2.2.2.1.symm)
  have mC:=c_sFloC f hbd hts
  have xD:=x_does f B hB e1 e2 e3 h
  refine u0 (H:=[]) (EX:=EXFs) l6 e8 ([none,none]) Tryz.func86 rfl (by kernel_rfl) (by decide) (λ_=>rfl) ?_
  generalize hA:real=A
  generalize hM:d4 Tryz.prog=M
  cbv
  repeat' first|exact absurd (show false=true by subst hA;assumption) (by decide)|exact absurd (show true=false by subst hA;assumption) (by decide)|apply And.intro|exact True.intro|with_reducible rfl|exact b7 hA rfl|apply c8 hA<;>intro _|exact c6 hA id | (subst hA;exact λh=>h) | (refine c5 hA ?_;decide +kernel) | (refine i9 hA hM _ mO (by (subst hA;first|rfl | (simp only [p6];done) | (simp only [p6];rfl))) ?_;cbv) | (refine i9 hA hM _ mC (by (subst hA;first|rfl | (simp only [p6];done) | (simp only [p6];rfl))) ?_;cbv) | (refine l7 hA hM (xD) (by (subst hA;first|rfl | (simp only [p6];done) | (simp only [p6];rfl))) ?_;rintro y hy;cbv) | (refine b7 hA ?_;subst hA;rfl)|fail
  refine i8 hA ⟨y,hy,by (subst hA;rfl),?_,rfl⟩
  (subst hA;repeat' first|apply And.intro|exact True.intro|exact DLe.rfl|exact f8 _ _ |  exact m9 rfl)
def eEv (y:Int × Int × Int):List DV:=[eI y.1,eI y.2.1,eI y.2.2]
def st_pl (m:Nat) (b:Nat->Int) (n:Nat) (style:Int) (i:Nat) (st q:Int) (E:Nat->Int × Int × Int) (g:FloT):St:=⟨[(11,.c (.d (eI i))),(10,.c (.d (eI st))),(9,.c (.d (eI style))),(8,.c (.own 832 0 i 1)),(4,.c (.bp 256 1 0)),(7,.c (.bp 448 1 0)),(2,.c (.d (eI (n:Int)))),(0,.c (.bp 0 1 0))],[(832,1,.arr 3 i λz=>eEv (E z)),(256,1,.box ((eFlo g).map .d)),(448,1,.box [.d (eI 0),.d (eI 0),.d (eI 0),.d (eI 0),.d (eI 0),.d (eI 0),.d (eI 0),.d (eB false),.d (eI 0),.d (eI 0),.d (.v c9),.d (.v c9),.d (.v c9),.d (.v c9),.d (eI 0),.d (eB false),.d (.v c9),.d (.v c9),.d (.v c9),.d (eI 0),.d (.v c9),.d (.v c9)]),(0,1,.box [.d (.sl 1 m λi=>[eU (b i)]),.d (eI q)])]⟩
theorem x_plays (m:Nat) (hm:m<=2000) (b:Nat->Int) (hb:∀ i,0<=b i/\b i<=255) (p:Int) (hp:0<=p/\p<=20000) (f:FloT) (h:FInv 0 f) (n:Nat) (hn:n<=70):∃ y:((Nat × (Nat->Int × Int × Int)) × FloT) × Int,(p<=y.2/\y.2<=p+3000/\FInv 280 y.1.2)/\d7 Tryz.prog 60 [.c (.box [.d (.sl 1 m λi=>[eU (b i)]),.d (eI p)]),xd (eFlo f),.c (.d (eI (n:Int)))] ⟨.tup [.c (.d (.sl 3 y.1.1.1 λz=>eEv (y.1.1.2 z))),xd (eFlo y.1.2)],[some (.box [.d (.sl 1 m λi=>[eU (b i)]),.d (eI y.2)]),none,none]⟩:=by
  refine u0 (H:=[]) (EX:=EXD) l6 e8 ([some (.box [.d (.sl 1 m λi=>[eU (b i)]),.d (eI 0)]),none,none]) Tryz.func60 rfl (by kernel_rfl) (by decide) (λ_=>rfl) ?_
  generalize hA:real=A
  generalize hM:d4 Tryz.prog=M
  cbv
  repeat' first|apply And.intro|exact True.intro|with_reducible rfl|exact b7 hA rfl|apply c8 hA<;>intro _|exact c6 hA id | (subst hA;exact λh=>h) | (refine c5 hA ?_;decide +kernel) | (refine d6 hA hM (m7 m hm b hb _ (by omega) _ (by omega)) ?_;rintro ⟨style,q⟩ ⟨hx0,hx1,hq⟩;dsimp only at hx0 hx1 hq;cbv)|fail
  have hnL:n<=maxLen:=Nat.le_trans hn (by decide)
  refine i7 hA (α := { y:Nat × Int × Int × (Nat->Int × Int × Int) × FloT // y.1<=n/\p<=y.2.2.1/\y.2.2.1<=p+10+25*(y.1:Int)/\FInv (4*(y.1:Int)) y.2.2.2.2 }) (λy=>st_pl m b n style y.1.1 y.1.2.1 y.1.2.2.1 y.1.2.2.2.1 y.1.2.2.2.2) (λy=>n-y.1.1) ⟨(0,22,q,λ_=>(0,0,0),f),Nat.zero_le _,by (show p<=q);omega,by (show q<=p+10+25*0);omega,h⟩ ?_ ?_
  · refine c7 ?_ ?_ ?_
    iterate 3 focus (subst hA;repeat' first|exact True.intro|exact rfl |  apply And.intro | (intro _ _;rfl) | (intro _ _ _;rfl) | (intro q hq;exact absurd hq (Nat.not_lt_zero q))|exact .inr (b8 rfl)|exact .inl rfl|exact .inr (Nat.le_refl _)|fail)
  rintro ⟨⟨i,st,q0,E,g⟩,hi,hq0,hq1,hg⟩
  have hi:i<=n:=hi
  have hq0:p<=q0:=hq0
  have hq1:q0<=p+10+25*(i:Int):=hq1
  have hqb:q0<=p+1760:=by omega
  have hqn:q0+25<=p+10+25*((i+1:Nat):Int):=by omega
  have hg:FInv (4*(i:Int)) g:=hg
  have hB:0<=4*(i:Int)/\4*(i:Int)<=880:=by omega
  have h4:4*(i:Int)+4=4*((i+1:Nat):Int):=by omega
  have h280:4*(i:Int)<=280:=by omega
  have hlss:∀ {A:Ar},real=A->∀ v:Bool,A.bite (A.cmp .lss (Int.ofNat i) (Int.ofNat n)) v false=true->i<n:=λhA v hh=>by
    have hh:=(and_t hA hh).1
    subst hA
    have hh:(i:Int)<(n:Int):=of_decide_eq_true hh
    omega
  clear hq hx0 hx1
  cbv
  all_goals skip
  repeat' first|refine br_t hA (by assumption) ?_|refine br_f hA (by assumption) ?_|apply And.intro|exact True.intro|with_reducible rfl|exact b7 hA rfl|apply c8 hA<;>intro _|exact c6 hA id | (subst hA;exact λh=>h) | (refine c5 hA ?_;decide +kernel)|exact f6 hA (show i+1<=2000000 by omega) (by decide) | (refine d6 hA hM (x_event m hm b hb q0 (by omega) g _ hg) ?_;rintro ⟨⟨e1,e2,e3⟩,q⟩ ⟨hx0,hx1⟩;dsimp only at hx0 hx1;cbv) | (refine d6 hA hM (x_flostep g (4*(i:Int)) hB _ _ _ hg) ?_;rintro g2 hg2;cbv) | (refine d6 hA hM (x_story m hm b hb _ (by omega) _ g _ hg) ?_;rintro ⟨⟨e1,e2,e3⟩,qd⟩ ⟨hx0,hx1⟩;dsimp only at hx0 hx1;cbv) | (refine d6 hA hM (x_given m hm b hb _ (by omega) _ g _ hg) ?_;rintro ⟨⟨e1,e2,e3⟩,qd⟩ ⟨hx0,hx1⟩;dsimp only at hx0 hx1;cbv) | (refine d6 hA hM (x_lively m hm b hb _ (by omega)  g _ hg) ?_;rintro ⟨⟨e1,e2,e3⟩,qd⟩ ⟨hx0,hx1⟩;dsimp only at hx0 hx1;cbv) | (refine d6 hA hM (m7 m hm b hb _ (by omega) 16 (by omega)) ?_;rintro ⟨x,qa⟩ ⟨hx0,hx1,hq⟩;dsimp only at hx0 hx1 hq;cbv) | (refine d6 hA hM (m7 m hm b hb _ (by omega) 20 (by omega)) ?_;rintro ⟨x,qb⟩ ⟨hx0,hx1,hq⟩;dsimp only at hx0 hx1 hq;cbv) | (refine d6 hA hM (m7 m hm b hb _ (by omega) 5 (by omega)) ?_;rintro ⟨x,qc⟩ ⟨hx0,hx1,hq⟩;dsimp only at hx0 hx1 hq;cbv) | (have hlt9:i<n:=hlss hA _ (by assumption);have hlt':i+1<=n:=hlt9;have hg3:FInv (4*((i+1:Nat):Int)) g2:=(h4▸hg2);have hmm:n-(i+1)<n-i:=(by omega);first | (refine ⟨⟨(i+1,st,qd,λz=>if z<i then E z else (e1,e2,e3),g2),hlt',(by (show p<=qd);omega),Int.le_trans (by (show qd<=q0+25);omega) hqn,hg3⟩,hmm,c7 ?_ ?_ ?_⟩;(focus ((subst hA;repeat' first|exact True.intro|exact rfl|exact congrArg (λx=>DV.v (.int .i64 x)) (o0 hlt' hnL)|exact (λz hz=>m8 (A:=real) eEv rfl i E (e1,e2,e3) _ z hz)|exact (λz hz _=>m8 (A:=real) eEv rfl i E (e1,e2,e3) _ z hz) |  apply And.intro | (intro _ _;rfl) | (intro _ _ _;rfl) | (intro q hq;exact absurd hq (Nat.not_lt_zero q))|fail);done));(focus ((subst hA;repeat' first|exact True.intro|exact rfl|exact congrArg (λx=>DV.v (.int .i64 x)) (o0 hlt' hnL)|exact (λz hz=>m8 (A:=real) eEv rfl i E (e1,e2,e3) _ z hz)|exact (λz hz _=>m8 (A:=real) eEv rfl i E (e1,e2,e3) _ z hz) |  apply And.intro | (intro _ _;rfl) | (intro _ _ _;rfl) | (intro q hq;exact absurd hq (Nat.not_lt_zero q))|fail);done));(focus ((subst hA;repeat' first|exact True.intro|exact rfl|exact congrArg (λx=>DV.v (.int .i64 x)) (o0 hlt' hnL) |  apply And.intro | (intro _ _;rfl) | (intro _ _ _;rfl) | (intro q hq;exact absurd hq (Nat.not_lt_zero q))|exact .inr (b8 rfl)|exact .inl rfl|exact .inr (Nat.le_refl _)|fail);done))) | (refine ⟨⟨(i+1,1,qd,λz=>if z<i then E z else (e1,e2,e3),g2),hlt',(by (show p<=qd);omega),Int.le_trans (by (show qd<=q0+25);omega) hqn,hg3⟩,hmm,c7 ?_ ?_ ?_⟩;(focus ((subst hA;repeat' first|exact True.intro|exact rfl|exact congrArg (λx=>DV.v (.int .i64 x)) (o0 hlt' hnL)|exact (λz hz=>m8 (A:=real) eEv rfl i E (e1,e2,e3) _ z hz)|exact (λz hz _=>m8 (A:=real) eEv rfl i E (e1,e2,e3) _ z hz) |  apply And.intro | (intro _ _;rfl) | (intro _ _ _;rfl) | (intro q hq;exact absurd hq (Nat.not_lt_zero q))|fail);done));(focus ((subst hA;repeat' first|exact True.intro|exact rfl|exact congrArg (λx=>DV.v (.int .i64 x)) (o0 hlt' hnL)|exact (λz hz=>m8 (A:=real) eEv rfl i E (e1,e2,e3) _ z hz)|exact (λz hz _=>m8 (A:=real) eEv rfl i E (e1,e2,e3) _ z hz) |  apply And.intro | (intro _ _;rfl) | (intro _ _ _;rfl) | (intro q hq;exact absurd hq (Nat.not_lt_zero q))|fail);done));(focus ((subst hA;repeat' first|exact True.intro|exact rfl|exact congrArg (λx=>DV.v (.int .i64 x)) (o0 hlt' hnL) |  apply And.intro | (intro _ _;rfl) | (intro _ _ _;rfl) | (intro q hq;exact absurd hq (Nat.not_lt_zero q))|exact .inr (b8 rfl)|exact .inl rfl|exact .inr (Nat.le_refl _)|fail);done))) | (refine ⟨⟨(i+1,real.ar .add .i64 st 1,qd,λz=>if z<i then E z else (e1,e2,e3),g2),hlt',(by (show p<=qd);omega),Int.le_trans (by (show qd<=q0+25);omega) hqn,hg3⟩,hmm,c7 ?_ ?_ ?_⟩;(focus ((subst hA;repeat' first|exact True.intro|exact rfl|exact congrArg (λx=>DV.v (.int .i64 x)) (o0 hlt' hnL)|exact (λz hz=>m8 (A:=real) eEv rfl i E (e1,e2,e3) _ z hz)|exact (λz hz _=>m8 (A:=real) eEv rfl i E (e1,e2,e3) _ z hz) |  apply And.intro | (intro _ _;rfl) | (intro _ _ _;rfl) | (intro q hq;exact absurd hq (Nat.not_lt_zero q))|fail);done));(focus ((subst hA;repeat' first|exact True.intro|exact rfl|exact congrArg (λx=>DV.v (.int .i64 x)) (o0 hlt' hnL)|exact (λz hz=>m8 (A:=real) eEv rfl i E (e1,e2,e3) _ z hz)|exact (λz hz _=>m8 (A:=real) eEv rfl i E (e1,e2,e3) _ z hz) |  apply And.intro | (intro _ _;rfl) | (intro _ _ _;rfl) | (intro q hq;exact absurd hq (Nat.not_lt_zero q))|fail);done));(focus ((subst hA;repeat' first|exact True.intro|exact rfl|exact congrArg (λx=>DV.v (.int .i64 x)) (o0 hlt' hnL) |  apply And.intro | (intro _ _;rfl) | (intro _ _ _;rfl) | (intro q hq;exact absurd hq (Nat.not_lt_zero q))|exact .inr (b8 rfl)|exact .inl rfl|exact .inr (Nat.le_refl _)|fail);done))) | (refine ⟨⟨(i+1,st,qc,λz=>if z<i then E z else (e1,e2,e3),g2),hlt',(by (show p<=qc);omega),Int.le_trans (by (show qc<=q0+25);omega) hqn,hg3⟩,hmm,c7 ?_ ?_ ?_⟩;(focus ((subst hA;repeat' first|exact True.intro|exact rfl|exact congrArg (λx=>DV.v (.int .i64 x)) (o0 hlt' hnL)|exact (λz hz=>m8 (A:=real) eEv rfl i E (e1,e2,e3) _ z hz)|exact (λz hz _=>m8 (A:=real) eEv rfl i E (e1,e2,e3) _ z hz) |  apply And.intro | (intro _ _;rfl) | (intro _ _ _;rfl) | (intro q hq;exact absurd hq (Nat.not_lt_zero q))|fail);done));(focus ((subst hA;repeat' first|exact True.intro|exact rfl|exact congrArg (λx=>DV.v (.int .i64 x)) (o0 hlt' hnL)|exact (λz hz=>m8 (A:=real) eEv rfl i E (e1,e2,e3) _ z hz)|exact (λz hz _=>m8 (A:=real) eEv rfl i E (e1,e2,e3) _ z hz) |  apply And.intro | (intro _ _;rfl) | (intro _ _ _;rfl) | (intro q hq;exact absurd hq (Nat.not_lt_zero q))|fail);done));(focus ((subst hA;repeat' first|exact True.intro|exact rfl|exact congrArg (λx=>DV.v (.int .i64 x)) (o0 hlt' hnL) |  apply And.intro | (intro _ _;rfl) | (intro _ _ _;rfl) | (intro q hq;exact absurd hq (Nat.not_lt_zero q))|exact .inr (b8 rfl)|exact .inl rfl|exact .inr (Nat.le_refl _)|fail);done))) | (refine ⟨⟨(i+1,st,qb,λz=>if z<i then E z else (e1,e2,e3),g2),hlt',(by (show p<=qb);omega),Int.le_trans (by (show qb<=q0+25);omega) hqn,hg3⟩,hmm,c7 ?_ ?_ ?_⟩;(focus ((subst hA;repeat' first|exact True.intro|exact rfl|exact congrArg (λx=>DV.v (.int .i64 x)) (o0 hlt' hnL)|exact (λz hz=>m8 (A:=real) eEv rfl i E (e1,e2,e3) _ z hz)|exact (λz hz _=>m8 (A:=real) eEv rfl i E (e1,e2,e3) _ z hz) |  apply And.intro | (intro _ _;rfl) | (intro _ _ _;rfl) | (intro q hq;exact absurd hq (Nat.not_lt_zero q))|fail);done));(focus ((subst hA;repeat' first|exact True.intro|exact rfl|exact congrArg (λx=>DV.v (.int .i64 x)) (o0 hlt' hnL)|exact (λz hz=>m8 (A:=real) eEv rfl i E (e1,e2,e3) _ z hz)|exact (λz hz _=>m8 (A:=real) eEv rfl i E (e1,e2,e3) _ z hz) |  apply And.intro | (intro _ _;rfl) | (intro _ _ _;rfl) | (intro q hq;exact absurd hq (Nat.not_lt_zero q))|fail);done));(focus ((subst hA;repeat' first|exact True.intro|exact rfl|exact congrArg (λx=>DV.v (.int .i64 x)) (o0 hlt' hnL) |  apply And.intro | (intro _ _;rfl) | (intro _ _ _;rfl) | (intro q hq;exact absurd hq (Nat.not_lt_zero q))|exact .inr (b8 rfl)|exact .inl rfl|exact .inr (Nat.le_refl _)|fail);done))) | (refine ⟨⟨(i+1,st,qa,λz=>if z<i then E z else (e1,e2,e3),g2),hlt',(by (show p<=qa);omega),Int.le_trans (by (show qa<=q0+25);omega) hqn,hg3⟩,hmm,c7 ?_ ?_ ?_⟩;(focus ((subst hA;repeat' first|exact True.intro|exact rfl|exact congrArg (λx=>DV.v (.int .i64 x)) (o0 hlt' hnL)|exact (λz hz=>m8 (A:=real) eEv rfl i E (e1,e2,e3) _ z hz)|exact (λz hz _=>m8 (A:=real) eEv rfl i E (e1,e2,e3) _ z hz) |  apply And.intro | (intro _ _;rfl) | (intro _ _ _;rfl) | (intro q hq;exact absurd hq (Nat.not_lt_zero q))|fail);done));(focus ((subst hA;repeat' first|exact True.intro|exact rfl|exact congrArg (λx=>DV.v (.int .i64 x)) (o0 hlt' hnL)|exact (λz hz=>m8 (A:=real) eEv rfl i E (e1,e2,e3) _ z hz)|exact (λz hz _=>m8 (A:=real) eEv rfl i E (e1,e2,e3) _ z hz) |  apply And.intro | (intro _ _;rfl) | (intro _ _ _;rfl) | (intro q hq;exact absurd hq (Nat.not_lt_zero q))|fail);done));(focus ((subst hA;repeat' first|exact True.intro|exact rfl|exact congrArg (λx=>DV.v (.int .i64 x)) (o0 hlt' hnL) |  apply And.intro | (intro _ _;rfl) | (intro _ _ _;rfl) | (intro q hq;exact absurd hq (Nat.not_lt_zero q))|exact .inr (b8 rfl)|exact .inl rfl|exact .inr (Nat.le_refl _)|fail);done))) | (refine ⟨⟨(i+1,st,q,λz=>if z<i then E z else (e1,e2,e3),g2),hlt',(by (show p<=q);omega),Int.le_trans (by (show q<=q0+25);omega) hqn,hg3⟩,hmm,c7 ?_ ?_ ?_⟩;(focus ((subst hA;repeat' first|exact True.intro|exact rfl|exact congrArg (λx=>DV.v (.int .i64 x)) (o0 hlt' hnL)|exact (λz hz=>m8 (A:=real) eEv rfl i E (e1,e2,e3) _ z hz)|exact (λz hz _=>m8 (A:=real) eEv rfl i E (e1,e2,e3) _ z hz) |  apply And.intro | (intro _ _;rfl) | (intro _ _ _;rfl) | (intro q hq;exact absurd hq (Nat.not_lt_zero q))|fail);done));(focus ((subst hA;repeat' first|exact True.intro|exact rfl|exact congrArg (λx=>DV.v (.int .i64 x)) (o0 hlt' hnL)|exact (λz hz=>m8 (A:=real) eEv rfl i E (e1,e2,e3) _ z hz)|exact (λz hz _=>m8 (A:=real) eEv rfl i E (e1,e2,e3) _ z hz) |  apply And.intro | (intro _ _;rfl) | (intro _ _ _;rfl) | (intro q hq;exact absurd hq (Nat.not_lt_zero q))|fail);done));(focus ((subst hA;repeat' first|exact True.intro|exact rfl|exact congrArg (λx=>DV.v (.int .i64 x)) (o0 hlt' hnL) |  apply And.intro | (intro _ _;rfl) | (intro _ _ _;rfl) | (intro q hq;exact absurd hq (Nat.not_lt_zero q))|exact .inr (b8 rfl)|exact .inl rfl|exact .inr (Nat.le_refl _)|fail);done)))) | (refine i8 hA ⟨(((i,E),g),q0),⟨hq0,by (show q0<=p+3000);omega,finv_mono hg h280⟩,by (subst hA;rfl),?_,rfl⟩;(subst hA;repeat' first|apply And.intro|exact True.intro|exact DLe.rfl|exact f8 _ _ |  exact m9 rfl);done) | (refine b7 hA ?_;subst hA;rfl)|fail
theorem x_flow (m:Nat) (hm:m<=2000) (b:Nat->Int) (hb:∀ i,0<=b i/\b i<=255) (p:Int) (hp:0<=p/\p<=10000)  : ∃ y:FloT × Int,(p<=y.2/\y.2<=p+6000/\FInv 280 y.1)/\d7 Tryz.prog 37 [.c (.box [.d (.sl 1 m λi=>[eU (b i)]),.d (eI p)])] ⟨.one (xd (eFlo y.1)),[some (.box [.d (.sl 1 m λi=>[eU (b i)]),.d (eI y.2)])]⟩:=by
  obtain ⟨⟨f,qf⟩,⟨hf0,hf1,hf⟩,mB⟩:=x_begin m hm b hb p ⟨hp.1,Int.le_trans hp.2 (by decide)⟩
  dsimp only at hf0 hf1 hf mB
  refine u0 (H:=[]) (EX:=EXD) l6 e8 ([some (.box [.d (.sl 1 m λi=>[eU (b i)]),.d (eI 0)])]) Tryz.func37 rfl (by kernel_rfl) (by decide) (λ_=>rfl) ?_
  generalize hA:real=A
  generalize hM:d4 Tryz.prog=M
  cbv
  repeat' first|apply And.intro|exact True.intro|with_reducible rfl|exact b7 hA rfl|apply c8 hA<;>intro _|exact c6 hA id | (subst hA;exact λh=>h) | (refine c5 hA ?_;decide +kernel) | (refine f7 hA hM _ mB ?_;cbv) | (refine d6 hA hM (m7 m hm b hb _ (by omega) 70 (by omega)) ?_;rintro ⟨xa,qa⟩ ⟨hxaa,hxab,hqa⟩;dsimp only at hxaa hxab hqa;cbv) | (refine d6 hA hM (m7 m hm b hb _ (by omega) 5 (by omega)) ?_;rintro ⟨xb,qb⟩ ⟨hxba,hxbb,hqb⟩;dsimp only at hxba hxbb hqb;cbv) | (refine d8 hA (λ_ => ?_);(constructor<;>omega)) | (refine b7 hA ?_;subst hA;rfl)|fail
  have hsl:0<=A.sel [0,12,25,40,xa] (A.add 0 (A.nat xb))/\A.sel [0,12,25,40,xa] (A.add 0 (A.nat xb))<=70:=selIx hA (P:=λz=>0<=z/\z<=70) (n:=5) hxba hxbb λq hq=>by
    rcases q with _|_|_|_|_|q
    · exact (by decide:(0:Int)<=0/\(0:Int)<=70)
    · exact (by decide:(0:Int)<=12/\(12:Int)<=70)
    · exact (by decide:(0:Int)<=25/\(25:Int)<=70)
    · exact (by decide:(0:Int)<=40/\(40:Int)<=70)
    · exact ⟨hxaa,by show xa<=70;omega⟩
    · omega
  have hnn:A.sel [0,12,25,40,xa] (A.add 0 (A.nat xb))=(((A.sel [0,12,25,40,xa] (A.add 0 (A.nat xb))).toNat:Nat):Int):=(Int.toNat_of_nonneg hsl.1).symm
  have hn70:(A.sel [0,12,25,40,xa] (A.add 0 (A.nat xb))).toNat<=70:=Int.toNat_le.2 hsl.2
  refine Exists.elim (x_plays m hm b hb qb (by omega) f hf _ hn70) (λy hy => ?_)
  refine i9 hA hM _ hy.2 ?_ ?_
  · subst hA
    exact congrArg (λz=>[_,xd (eFlo f),XT.c (.d (eI z))]) hnn
  have hp0:=hy.1.1
  have hp1:=hy.1.2.1
  have hyF:=hy.1.2.2
  clear hy
  cbv
  repeat' first|apply And.intro|exact True.intro|with_reducible rfl|exact b7 hA rfl|apply c8 hA<;>intro _|exact c6 hA id | (subst hA;exact λh=>h) | (refine c5 hA ?_;decide +kernel) | (refine b7 hA ?_;subst hA;rfl)|fail
  refine i8 hA ⟨(y.1.2,y.2),⟨by (show p<=y.2);omega,by (show y.2<=p+6000);omega,hyF⟩,by (subst hA;rfl),?_,rfl⟩
  (subst hA;repeat' first|apply And.intro|exact True.intro|exact DLe.rfl|exact f8 _ _ |  exact m9 rfl)
set_option maxHeartbeats 1000000
theorem x_add (a:AggT) (v:Int):∃ c:AggT,True/\d7 Tryz.prog 89 [xd (eAgg a),.c (.d (eI v))] ⟨.one (xd (eAgg c)),[none,none]⟩:=⟨_,trivial,c_sAggAdd a v _ rfl⟩
def st_xa (m:Nat) (b:Nat->Int) (n:Int) (k q:Int) (a:AggT):St:=⟨[(6,.c (.d (eI k))),(5,.c (.bp 320 1 0)),(4,.c (.bp 256 1 0)),(1,.c (.d (eI n))),(0,.c (.bp 0 1 0))],[(320,1,.box ((eAgg a).map .d)),(256,1,.box ((eAgg zAgg).map .d)),(0,1,.box [.d (.sl 1 m λi=>[eU (b i)]),.d (eI q)])]⟩
theorem x_agg (m:Nat) (hm:m<=2000) (b:Nat->Int) (hb:∀ i,0<=b i/\b i<=255) (p:Int) (hp:0<=p/\p<=60000) (n:Int) (hn:1<=n/\n<=100):∃ y:AggT × Int,(p<=y.2/\y.2<=p+20)/\d7 Tryz.prog 64 [.c (.box [.d (.sl 1 m λi=>[eU (b i)]),.d (eI p)]),.c (.d (eI n))] ⟨.one (xd (eAgg y.1)),[some (.box [.d (.sl 1 m λi=>[eU (b i)]),.d (eI y.2)]),none]⟩:=by
  refine meets_ex (H:=[]) (EX:=EXD) l6 e8 ([some (.box [.d (.sl 1 m λi=>[eU (b i)]),.d (eI 0)]),none]) Tryz.func64 rfl (by kernel_rfl) (by decide) (λ_=>rfl) ?_
  generalize hA:real=A
  generalize hM:d4 Tryz.prog=M
  cbv
  repeat' first|apply And.intro|exact True.intro|with_reducible rfl|exact b7 hA rfl|apply c8 hA<;>intro _|exact c6 hA id | (subst hA;exact λh=>h) | (refine c5 hA ?_;decide +kernel) | (refine d6 hA hM (m7 m hm b hb _ (by omega) _ (by omega)) ?_;rintro ⟨x,q⟩ ⟨hx0,hx1,hq⟩;dsimp only at hx0 hx1 hq;cbv)|fail
  refine i7 hA (α := { y:Int × Int × AggT // 0<=y.1/\y.1<=5/\p<=y.2.1/\y.2.1+y.1<=p+10 }) (λy=>st_xa m b n y.1.1 y.1.2.1 y.1.2.2) (λy=>y.1.1.toNat) ⟨(x,q,zAgg),hx0,by simp only;omega,by simp only;omega,by simp only;omega⟩ ?_ ?_
  · refine c7 ?_ ?_ ?_
    · cbv;try (subst hA;repeat' first|apply And.intro|exact True.intro|rfl|fail)
    · cbv;try (subst hA;repeat' first|apply And.intro|exact True.intro|rfl | (intro _ _;rfl) | (intro k hk;exact absurd hk (Nat.not_lt_zero k))|fail)
    · cbv;try (subst hA;repeat' first|apply And.intro|exact True.intro|rfl|exact .inr trivial|exact .inl trivial)
  rintro ⟨⟨k,q1,a⟩,hk0,hk1,hq0,hq1⟩
  have hk0:0<=k:=hk0
  have hk1:k<=5:=hk1
  have hq0:p<=q1:=hq0
  have hq1:q1+k<=p+10:=hq1
  cbv
  repeat' first|apply And.intro|exact True.intro|with_reducible rfl|exact b7 hA rfl|apply c8 hA<;>intro _|exact c6 hA id | (subst hA;exact λh=>h) | (refine c5 hA ?_;decide +kernel) | (refine d6 hA hM (m7 m hm b hb _ (by omega) _ (by omega)) ?_;rintro ⟨x,q⟩ ⟨hx0,hx1,hq⟩;dsimp only at hx0 hx1 hq;cbv) | (refine d6 hA hM (x_add _ _) ?_;rintro c -;cbv) | (refine d8 hA (λ_ => ?_);(first|omega | (constructor<;>omega))) | (refine i8 hA ⟨⟨⟨_,_,_,_⟩,_⟩,?_,rfl,rfl⟩;simp only;omega)|fail
  rename_i hgt
  have hgt:k>0:=by subst hA;exact of_decide_eq_true hgt
  obtain ⟨k',hk'⟩:∃ z,z=k-1:=⟨_,rfl⟩
  refine ⟨⟨(k',q,c),show 0<=k' by omega,show k'<=5 by omega,show p<=q by omega,show q+k'<=p+10 by omega⟩,by simp only;omega,c7 ?_ ?_ ?_⟩
  · cbv;subst hA
    have hw:IntKind.i64.wrap (k-1)=k':=by rw [IntWalk.i64_in _ (by omega),hk']
    repeat' first|apply And.intro|exact True.intro|exact congrArg (λx=>DV.v (.int .i64 x)) hw|rfl
  · cbv;try (subst hA;repeat' first|apply And.intro|exact True.intro|rfl)
  · cbv;try (subst hA;repeat' first|apply And.intro|exact True.intro|rfl|exact .inr trivial|exact .inl trivial|exact .inr (Nat.le_refl _))
theorem x_win (m:Nat) (hm:m<=2000) (b:Nat->Int) (hb:∀ i,0<=b i/\b i<=255) (p:Int) (hp:0<=p/\p<=60000) (n:Int) (hn:1<=n/\n<=100):∃ y:WinT × Int,(p<=y.2/\y.2<=p+10)/\d7 Tryz.prog 63 [.c (.box [.d (.sl 1 m λi=>[eU (b i)]),.d (eI p)]),.c (.d (eI n))] ⟨.one (xd (eWin y.1)),[some (.box [.d (.sl 1 m λi=>[eU (b i)]),.d (eI y.2)]),none]⟩:=by
  refine meets_ex (H:=[]) (EX:=EXD) l6 e8 ([some (.box [.d (.sl 1 m λi=>[eU (b i)]),.d (eI 0)]),none]) Tryz.func63 rfl (by kernel_rfl) (by decide) (λ_=>rfl) ?_
  generalize hA:real=A
  generalize hM:d4 Tryz.prog=M
  cbv
  repeat' first|apply And.intro|exact True.intro|with_reducible rfl|exact b7 hA rfl|apply c8 hA<;>intro _|exact c6 hA id | (subst hA;exact λh=>h) | (refine c5 hA ?_;decide +kernel) | (refine d6 hA hM (m7 m hm b hb _ (by omega) _ (by omega)) ?_;rintro ⟨x,q⟩ ⟨hx0,hx1,hq⟩;dsimp only at hx0 hx1 hq;cbv) | (refine d8 hA (λ_ => ?_);(first|omega | (constructor<;>omega))) | (refine i8 hA ⟨⟨⟨_,_⟩,_⟩,?_,rfl,rfl⟩;simp only;omega)|fail
theorem x_bad (m:Nat) (hm:m<=2000) (b:Nat->Int) (hb:∀ i,0<=b i/\b i<=255) (p:Int) (hp:0<=p/\p<=50000) (s:OpStT) (hs:s.rows.n<=300):∃ y:OpStT × Int,(p<=y.2/\y.2<=p+60/\y.1.rows.n<=301)/\d7 Tryz.prog 42 [.c (.box [.d (.sl 1 m λi=>[eU (b i)]),.d (eI p)]),.agg [.d (eI s.mark),.d (.sl 13 s.rows.n λi=>i6 (s.rows.g i))]] ⟨.one (.agg [.d (eI y.1.mark),.own 13 y.1.rows.n λi=>i6 (y.1.rows.g i)]),[some (.box [.d (.sl 1 m λi=>[eU (b i)]),.d (eI y.2)]),none]⟩:=by
  obtain ⟨mk,n,g,hnL⟩:=s
  have hs:n<=300:=hs
  have cC:=c_sCopy mk n (by omega) g
  have hpos:∀ {A:Ar} {v:Bool},real=A->A.bite (A.cmp .eql (A.int n) 0) true v=false->(1:Int)<=n/\(n:Int)<=1000000:=λ{A v} hA h=>by
    subst hA
    have h:(bif ((n:Int)==0) then true else v)=false:=h
    by_cases g:n=0
    · subst g;cases h
    · omega
  refine meets_ex (H:=[20]) (EX:=EXD) l6 e8 ([some (.box [.d (.sl 1 m λi=>[eU (b i)]),.d (eI 0)]),none]) Tryz.func42 rfl (by kernel_rfl) (by decide) (λ_=>rfl) ?_
  generalize hA:real=A
  generalize hM:d4 Tryz.prog=M
  cbv
  repeat' first|apply And.intro|exact True.intro|with_reducible rfl|exact b7 hA rfl|apply c8 hA<;>intro _|exact c6 hA id | (subst hA;exact λh=>h) | (refine c5 hA ?_;decide +kernel) | (refine f7 hA hM _ cC ?_;cbv) | (have hp9:=hpos hA (by assumption);refine l7 hA hM (m7 m hm b hb q (by omega) (n:Int) hp9) ?_ ?_;(focus (subst hA;rfl));rintro ⟨ix,q⟩ ⟨hx0,hx1,hq⟩;dsimp only at hx0 hx1 hq;obtain ⟨i,rfl⟩:=Int.eq_ofNat_of_zero_le hx0;have hin:i<n:=Int.ofNat_lt.1 hx1;cbv) | (have hp9:=hpos hA (by assumption);refine l7 hA hM (m7 m hm b hb p (by omega) (n:Int) hp9) ?_ ?_;(focus (subst hA;rfl));rintro ⟨ix,q⟩ ⟨hx0,hx1,hq⟩;dsimp only at hx0 hx1 hq;obtain ⟨i,rfl⟩:=Int.eq_ofNat_of_zero_le hx0;have hin:i<n:=Int.ofNat_lt.1 hx1;cbv) | (refine d6 hA hM (m7 m hm b hb _ (by omega) _ (by omega)) ?_;rintro ⟨x,q⟩ ⟨hx0,hx1,hq⟩;dsimp only at hx0 hx1 hq;cbv) | (refine d6 hA hM (x_agg m hm b hb _ (by omega) _ (by omega)) ?_;rintro ⟨ag,q⟩ ⟨hq0,hq1⟩;dsimp only at hq0 hq1;cbv) | (refine d6 hA hM (x_win m hm b hb _ (by omega) _ (by omega)) ?_;rintro ⟨wi,q⟩ ⟨hq0,hq1⟩;dsimp only at hq0 hq1;cbv) | (refine d8 hA (λ_ => ?_);first|exact ⟨Int.natCast_nonneg i,Int.ofNat_lt.2 hin⟩|omega | (constructor<;>omega))|exact f6 hA (by omega) (by decide) | (refine i8 hA ⟨⟨⟨_,⟨n,g,hnL⟩⟩,_⟩,?_,rfl,rfl⟩;exact ⟨by simp only;omega,by simp only;omega,show n<=301 by omega⟩)|fail
  · obtain ⟨R,hR⟩:∃ r:Nat->RowT,r=λq=>if q=i then { g q with key:=real.sel [-1,4] (real.add 0 (real.nat x)) } else g q:=⟨_,rfl⟩
    refine l9 hA ⟨[(4,.c (.bp 256 1 0)),(3,.c (.bp 192 1 0)),(0,.c (.bp 0 1 0))],[(449,1,.arr 13 n λq=>i6 (R q)),(256,1,.box [.d (eI 0),.d (.v c9)]),(192,1,.box [.d (eI mk),.own 449 0 n 1]),(0,1,.box [.d (.sl 1 m λi=>[eU (b i)]),.d (eI q)])]⟩ (c7 ?_ ?_ ?_) ?_
    · subst hA;repeat' first|exact True.intro|exact rfl|apply And.intro
    · subst hA
      repeat' first|exact True.intro|exact rfl|apply And.intro | (intro _ _;first|rfl|trivial)
      all_goals
        intro q hq9
        subst hR
        by_cases e:q=i
        · subst e;simp [real];try rfl
        · simp [real,e]
    · subst hA;repeat' first|exact True.intro|exact rfl|apply And.intro|exact .inl rfl|exact .inr (b8 rfl)
    cbv
    repeat' first|apply And.intro|exact True.intro|with_reducible rfl|exact b7 hA rfl|apply c8 hA<;>intro _|exact c6 hA id | (subst hA;exact λh=>h) | (refine c5 hA ?_;decide +kernel) | (refine i8 hA ⟨⟨⟨_,⟨n,R,hnL⟩⟩,_⟩,?_,rfl,rfl⟩;exact ⟨by simp only;omega,by simp only;omega,show n<=301 by omega⟩)|fail
  · obtain ⟨R,hR⟩:∃ r:Nat->RowT,r=λq=>if q=i then { g q with win:=wi } else g q:=⟨_,rfl⟩
    refine l9 hA ⟨[(4,.c (.bp 256 1 0)),(3,.c (.bp 192 1 0)),(0,.c (.bp 0 1 0))],[(449,1,.arr 13 n λq=>i6 (R q)),(256,1,.box [.d (eI 0),.d (.v c9)]),(192,1,.box [.d (eI mk),.own 449 0 n 1]),(0,1,.box [.d (.sl 1 m λi=>[eU (b i)]),.d (eI q)])]⟩ (c7 ?_ ?_ ?_) ?_
    · subst hA;repeat' first|exact True.intro|exact rfl|apply And.intro
    · subst hA
      repeat' first|exact True.intro|exact rfl|apply And.intro | (intro _ _;first|rfl|trivial)
      all_goals
        intro q hq9
        subst hR
        by_cases e:q=i
        · subst e;simp [real];try rfl
        · simp [real,e]
    · subst hA;repeat' first|exact True.intro|exact rfl|apply And.intro|exact .inl rfl|exact .inr (b8 rfl)
    cbv
    repeat' first|apply And.intro|exact True.intro|with_reducible rfl|exact b7 hA rfl|apply c8 hA<;>intro _|exact c6 hA id | (subst hA;exact λh=>h) | (refine c5 hA ?_;decide +kernel) | (refine i8 hA ⟨⟨⟨_,⟨n,R,hnL⟩⟩,_⟩,?_,rfl,rfl⟩;exact ⟨by simp only;omega,by simp only;omega,show n<=301 by omega⟩)|fail
  · obtain ⟨R,hR⟩:∃ r:Nat->RowT,r=λq=>if q=i then { g q with all:=ag } else g q:=⟨_,rfl⟩
    refine l9 hA ⟨[(4,.c (.bp 256 1 0)),(3,.c (.bp 192 1 0)),(0,.c (.bp 0 1 0))],[(449,1,.arr 13 n λq=>i6 (R q)),(256,1,.box [.d (eI 0),.d (.v c9)]),(192,1,.box [.d (eI mk),.own 449 0 n 1]),(0,1,.box [.d (.sl 1 m λi=>[eU (b i)]),.d (eI q)])]⟩ (c7 ?_ ?_ ?_) ?_
    · subst hA;repeat' first|exact True.intro|exact rfl|apply And.intro
    · subst hA
      repeat' first|exact True.intro|exact rfl|apply And.intro | (intro _ _;first|rfl|trivial)
      all_goals
        intro q hq9
        subst hR
        by_cases e:q=i
        · subst e;simp [real];try rfl
        · simp [real,e]
    · subst hA;repeat' first|exact True.intro|exact rfl|apply And.intro|exact .inl rfl|exact .inr (b8 rfl)
    cbv
    repeat' first|apply And.intro|exact True.intro|with_reducible rfl|exact b7 hA rfl|apply c8 hA<;>intro _|exact c6 hA id | (subst hA;exact λh=>h) | (refine c5 hA ?_;decide +kernel) | (refine i8 hA ⟨⟨⟨_,⟨n,R,hnL⟩⟩,_⟩,?_,rfl,rfl⟩;exact ⟨by simp only;omega,by simp only;omega,show n<=301 by omega⟩)|fail
  · obtain ⟨R,hR⟩:∃ r:Nat->RowT,r=λq=>if q=i then { g q with fresh:=ag } else g q:=⟨_,rfl⟩
    refine l9 hA ⟨[(4,.c (.bp 256 1 0)),(3,.c (.bp 192 1 0)),(0,.c (.bp 0 1 0))],[(449,1,.arr 13 n λq=>i6 (R q)),(256,1,.box [.d (eI 0),.d (.v c9)]),(192,1,.box [.d (eI mk),.own 449 0 n 1]),(0,1,.box [.d (.sl 1 m λi=>[eU (b i)]),.d (eI q)])]⟩ (c7 ?_ ?_ ?_) ?_
    · subst hA;repeat' first|exact True.intro|exact rfl|apply And.intro
    · subst hA
      repeat' first|exact True.intro|exact rfl|apply And.intro | (intro _ _;first|rfl|trivial)
      all_goals
        intro q hq9
        subst hR
        by_cases e:q=i
        · subst e;simp [real];try rfl
        · simp [real,e]
    · subst hA;repeat' first|exact True.intro|exact rfl|apply And.intro|exact .inl rfl|exact .inr (b8 rfl)
    cbv
    repeat' first|apply And.intro|exact True.intro|with_reducible rfl|exact b7 hA rfl|apply c8 hA<;>intro _|exact c6 hA id | (subst hA;exact λh=>h) | (refine c5 hA ?_;decide +kernel) | (refine i8 hA ⟨⟨⟨_,⟨n,R,hnL⟩⟩,_⟩,?_,rfl,rfl⟩;exact ⟨by simp only;omega,by simp only;omega,show n<=301 by omega⟩)|fail
  · obtain ⟨R,hR⟩:∃ r:Nat->RowT,r=λq=>if q=i then { g q with told:=real.sel [-1,0,1,1501] (real.add 0 (real.nat x)) } else g q:=⟨_,rfl⟩
    refine l9 hA ⟨[(4,.c (.bp 256 1 0)),(3,.c (.bp 192 1 0)),(0,.c (.bp 0 1 0))],[(449,1,.arr 13 n λq=>i6 (R q)),(256,1,.box [.d (eI 0),.d (.v c9)]),(192,1,.box [.d (eI mk),.own 449 0 n 1]),(0,1,.box [.d (.sl 1 m λi=>[eU (b i)]),.d (eI q)])]⟩ (c7 ?_ ?_ ?_) ?_
    · subst hA;repeat' first|exact True.intro|exact rfl|apply And.intro
    · subst hA
      repeat' first|exact True.intro|exact rfl|apply And.intro | (intro _ _;first|rfl|trivial)
      all_goals
        intro q hq9
        subst hR
        by_cases e:q=i
        · subst e;simp [real];try rfl
        · simp [real,e]
    · subst hA;repeat' first|exact True.intro|exact rfl|apply And.intro|exact .inl rfl|exact .inr (b8 rfl)
    cbv
    repeat' first|apply And.intro|exact True.intro|with_reducible rfl|exact b7 hA rfl|apply c8 hA<;>intro _|exact c6 hA id | (subst hA;exact λh=>h) | (refine c5 hA ?_;decide +kernel) | (refine i8 hA ⟨⟨⟨_,⟨n,R,hnL⟩⟩,_⟩,?_,rfl,rfl⟩;exact ⟨by simp only;omega,by simp only;omega,show n<=301 by omega⟩)|fail
  · obtain ⟨R,hR⟩:∃ r:Nat->RowT,r=λq=>if q=i then { g q with timely:=real.bnot (g q).timely } else g q:=⟨_,rfl⟩
    refine l9 hA ⟨[(4,.c (.bp 256 1 0)),(3,.c (.bp 192 1 0)),(0,.c (.bp 0 1 0))],[(449,1,.arr 13 n λq=>i6 (R q)),(256,1,.box [.d (eI 0),.d (.v c9)]),(192,1,.box [.d (eI mk),.own 449 0 n 1]),(0,1,.box [.d (.sl 1 m λi=>[eU (b i)]),.d (eI q)])]⟩ (c7 ?_ ?_ ?_) ?_
    · subst hA;repeat' first|exact True.intro|exact rfl|apply And.intro
    · subst hA
      repeat' first|exact True.intro|exact rfl|apply And.intro | (intro _ _;first|rfl|trivial)
      all_goals
        intro q hq9
        subst hR
        by_cases e:q=i
        · subst e;simp [real];try rfl
        · simp [real,e]
    · subst hA;repeat' first|exact True.intro|exact rfl|apply And.intro|exact .inl rfl|exact .inr (b8 rfl)
    cbv
    repeat' first|apply And.intro|exact True.intro|with_reducible rfl|exact b7 hA rfl|apply c8 hA<;>intro _|exact c6 hA id | (subst hA;exact λh=>h) | (refine c5 hA ?_;decide +kernel) | (refine i8 hA ⟨⟨⟨_,⟨n,R,hnL⟩⟩,_⟩,?_,rfl,rfl⟩;exact ⟨by simp only;omega,by simp only;omega,show n<=301 by omega⟩)|fail
  · obtain ⟨R,hR⟩:∃ r:Nat->RowT,r=λq=>if q<n then g q else g i:=⟨_,rfl⟩
    refine l9 hA ⟨[(4,.c (.bp 256 1 0)),(3,.c (.bp 192 1 0)),(0,.c (.bp 0 1 0))],[(449,2,.arr 13 (n+1) λq=>i6 (R q)),(256,1,.box [.d (eI 0),.d (.v c9)]),(192,1,.box [.d (eI mk),.own 449 0 (n+1) 2]),(0,1,.box [.d (.sl 1 m λi=>[eU (b i)]),.d (eI q)])]⟩ (c7 ?_ ?_ ?_) ?_
    · subst hA;repeat' first|exact True.intro|exact rfl|apply And.intro
    · subst hA
      repeat' first|exact True.intro|exact rfl|apply And.intro | (intro _ _;first|rfl|trivial)
      all_goals
        intro q hq9
        subst hR
        have e0:real.add 0 (real.nat (Int.ofNat i))=i:=Nat.zero_add i
        refine (m8 i6 rfl n g (g (real.add 0 (real.nat (Int.ofNat i)))) _ q hq9).trans ?_
        rw [e0]
    · subst hA;repeat' first|exact True.intro|exact rfl|apply And.intro|exact .inl rfl|exact .inr (b8 rfl)
    cbv
    repeat' first|apply And.intro|exact True.intro|with_reducible rfl|exact b7 hA rfl|apply c8 hA<;>intro _|exact c6 hA id | (subst hA;exact λh=>h) | (refine c5 hA ?_;decide +kernel) | (refine i8 hA ⟨⟨⟨_,⟨n+1,R,Nat.le_trans (show n+1<=301 by omega) (by decide)⟩⟩,_⟩,?_,rfl,rfl⟩;exact ⟨by simp only;omega,by simp only;omega,show n+1<=301 by omega⟩)|fail
  · obtain ⟨R,hR⟩:∃ r:Nat->RowT,r=λq=>if q=i then { g q with key:=real.sel [-1,4] (real.add 0 (real.nat x)) } else g q:=⟨_,rfl⟩
    refine l9 hA ⟨[(4,.c (.bp 256 1 0)),(3,.c (.bp 192 1 0)),(0,.c (.bp 0 1 0))],[(449,1,.arr 13 n λq=>i6 (R q)),(256,1,.box [.d (eI 0),.d (.v c9)]),(192,1,.box [.d (eI mk),.own 449 0 n 1]),(0,1,.box [.d (.sl 1 m λi=>[eU (b i)]),.d (eI q)])]⟩ (c7 ?_ ?_ ?_) ?_
    · subst hA;repeat' first|exact True.intro|exact rfl|apply And.intro
    · subst hA
      repeat' first|exact True.intro|exact rfl|apply And.intro | (intro _ _;first|rfl|trivial)
      all_goals
        intro q hq9
        subst hR
        by_cases e:q=i
        · subst e;simp [real];try rfl
        · simp [real,e]
    · subst hA;repeat' first|exact True.intro|exact rfl|apply And.intro|exact .inl rfl|exact .inr (b8 rfl)
    cbv
    repeat' first|apply And.intro|exact True.intro|with_reducible rfl|exact b7 hA rfl|apply c8 hA<;>intro _|exact c6 hA id | (subst hA;exact λh=>h) | (refine c5 hA ?_;decide +kernel) | (refine i8 hA ⟨⟨⟨_,⟨n,R,hnL⟩⟩,_⟩,?_,rfl,rfl⟩;exact ⟨by simp only;omega,by simp only;omega,show n<=301 by omega⟩)|fail
  · obtain ⟨R,hR⟩:∃ r:Nat->RowT,r=λq=>if q=i then { g q with win:=wi } else g q:=⟨_,rfl⟩
    refine l9 hA ⟨[(4,.c (.bp 256 1 0)),(3,.c (.bp 192 1 0)),(0,.c (.bp 0 1 0))],[(449,1,.arr 13 n λq=>i6 (R q)),(256,1,.box [.d (eI 0),.d (.v c9)]),(192,1,.box [.d (eI mk),.own 449 0 n 1]),(0,1,.box [.d (.sl 1 m λi=>[eU (b i)]),.d (eI q)])]⟩ (c7 ?_ ?_ ?_) ?_
    · subst hA;repeat' first|exact True.intro|exact rfl|apply And.intro
    · subst hA
      repeat' first|exact True.intro|exact rfl|apply And.intro | (intro _ _;first|rfl|trivial)
      all_goals
        intro q hq9
        subst hR
        by_cases e:q=i
        · subst e;simp [real];try rfl
        · simp [real,e]
    · subst hA;repeat' first|exact True.intro|exact rfl|apply And.intro|exact .inl rfl|exact .inr (b8 rfl)
    cbv
    repeat' first|apply And.intro|exact True.intro|with_reducible rfl|exact b7 hA rfl|apply c8 hA<;>intro _|exact c6 hA id | (subst hA;exact λh=>h) | (refine c5 hA ?_;decide +kernel) | (refine i8 hA ⟨⟨⟨_,⟨n,R,hnL⟩⟩,_⟩,?_,rfl,rfl⟩;exact ⟨by simp only;omega,by simp only;omega,show n<=301 by omega⟩)|fail
  · obtain ⟨R,hR⟩:∃ r:Nat->RowT,r=λq=>if q=i then { g q with all:=ag } else g q:=⟨_,rfl⟩
    refine l9 hA ⟨[(4,.c (.bp 256 1 0)),(3,.c (.bp 192 1 0)),(0,.c (.bp 0 1 0))],[(449,1,.arr 13 n λq=>i6 (R q)),(256,1,.box [.d (eI 0),.d (.v c9)]),(192,1,.box [.d (eI mk),.own 449 0 n 1]),(0,1,.box [.d (.sl 1 m λi=>[eU (b i)]),.d (eI q)])]⟩ (c7 ?_ ?_ ?_) ?_
    · subst hA;repeat' first|exact True.intro|exact rfl|apply And.intro
    · subst hA
      repeat' first|exact True.intro|exact rfl|apply And.intro | (intro _ _;first|rfl|trivial)
      all_goals
        intro q hq9
        subst hR
        by_cases e:q=i
        · subst e;simp [real];try rfl
        · simp [real,e]
    · subst hA;repeat' first|exact True.intro|exact rfl|apply And.intro|exact .inl rfl|exact .inr (b8 rfl)
    cbv
    repeat' first|apply And.intro|exact True.intro|with_reducible rfl|exact b7 hA rfl|apply c8 hA<;>intro _|exact c6 hA id | (subst hA;exact λh=>h) | (refine c5 hA ?_;decide +kernel) | (refine i8 hA ⟨⟨⟨_,⟨n,R,hnL⟩⟩,_⟩,?_,rfl,rfl⟩;exact ⟨by simp only;omega,by simp only;omega,show n<=301 by omega⟩)|fail
  · obtain ⟨R,hR⟩:∃ r:Nat->RowT,r=λq=>if q=i then { g q with fresh:=ag } else g q:=⟨_,rfl⟩
    refine l9 hA ⟨[(4,.c (.bp 256 1 0)),(3,.c (.bp 192 1 0)),(0,.c (.bp 0 1 0))],[(449,1,.arr 13 n λq=>i6 (R q)),(256,1,.box [.d (eI 0),.d (.v c9)]),(192,1,.box [.d (eI mk),.own 449 0 n 1]),(0,1,.box [.d (.sl 1 m λi=>[eU (b i)]),.d (eI q)])]⟩ (c7 ?_ ?_ ?_) ?_
    · subst hA;repeat' first|exact True.intro|exact rfl|apply And.intro
    · subst hA
      repeat' first|exact True.intro|exact rfl|apply And.intro | (intro _ _;first|rfl|trivial)
      all_goals
        intro q hq9
        subst hR
        by_cases e:q=i
        · subst e;simp [real];try rfl
        · simp [real,e]
    · subst hA;repeat' first|exact True.intro|exact rfl|apply And.intro|exact .inl rfl|exact .inr (b8 rfl)
    cbv
    repeat' first|apply And.intro|exact True.intro|with_reducible rfl|exact b7 hA rfl|apply c8 hA<;>intro _|exact c6 hA id | (subst hA;exact λh=>h) | (refine c5 hA ?_;decide +kernel) | (refine i8 hA ⟨⟨⟨_,⟨n,R,hnL⟩⟩,_⟩,?_,rfl,rfl⟩;exact ⟨by simp only;omega,by simp only;omega,show n<=301 by omega⟩)|fail
  · obtain ⟨R,hR⟩:∃ r:Nat->RowT,r=λq=>if q=i then { g q with told:=real.sel [-1,0,1,1501] (real.add 0 (real.nat x)) } else g q:=⟨_,rfl⟩
    refine l9 hA ⟨[(4,.c (.bp 256 1 0)),(3,.c (.bp 192 1 0)),(0,.c (.bp 0 1 0))],[(449,1,.arr 13 n λq=>i6 (R q)),(256,1,.box [.d (eI 0),.d (.v c9)]),(192,1,.box [.d (eI mk),.own 449 0 n 1]),(0,1,.box [.d (.sl 1 m λi=>[eU (b i)]),.d (eI q)])]⟩ (c7 ?_ ?_ ?_) ?_
    · subst hA;repeat' first|exact True.intro|exact rfl|apply And.intro
    · subst hA
      repeat' first|exact True.intro|exact rfl|apply And.intro | (intro _ _;first|rfl|trivial)
      all_goals
        intro q hq9
        subst hR
        by_cases e:q=i
        · subst e;simp [real];try rfl
        · simp [real,e]
    · subst hA;repeat' first|exact True.intro|exact rfl|apply And.intro|exact .inl rfl|exact .inr (b8 rfl)
    cbv
    repeat' first|apply And.intro|exact True.intro|with_reducible rfl|exact b7 hA rfl|apply c8 hA<;>intro _|exact c6 hA id | (subst hA;exact λh=>h) | (refine c5 hA ?_;decide +kernel) | (refine i8 hA ⟨⟨⟨_,⟨n,R,hnL⟩⟩,_⟩,?_,rfl,rfl⟩;exact ⟨by simp only;omega,by simp only;omega,show n<=301 by omega⟩)|fail
  · obtain ⟨R,hR⟩:∃ r:Nat->RowT,r=λq=>if q=i then { g q with timely:=real.bnot (g q).timely } else g q:=⟨_,rfl⟩
    refine l9 hA ⟨[(4,.c (.bp 256 1 0)),(3,.c (.bp 192 1 0)),(0,.c (.bp 0 1 0))],[(449,1,.arr 13 n λq=>i6 (R q)),(256,1,.box [.d (eI 0),.d (.v c9)]),(192,1,.box [.d (eI mk),.own 449 0 n 1]),(0,1,.box [.d (.sl 1 m λi=>[eU (b i)]),.d (eI q)])]⟩ (c7 ?_ ?_ ?_) ?_
    · subst hA;repeat' first|exact True.intro|exact rfl|apply And.intro
    · subst hA
      repeat' first|exact True.intro|exact rfl|apply And.intro | (intro _ _;first|rfl|trivial)
      all_goals
        intro q hq9
        subst hR
        by_cases e:q=i
        · subst e;simp [real];try rfl
        · simp [real,e]
    · subst hA;repeat' first|exact True.intro|exact rfl|apply And.intro|exact .inl rfl|exact .inr (b8 rfl)
    cbv
    repeat' first|apply And.intro|exact True.intro|with_reducible rfl|exact b7 hA rfl|apply c8 hA<;>intro _|exact c6 hA id | (subst hA;exact λh=>h) | (refine c5 hA ?_;decide +kernel) | (refine i8 hA ⟨⟨⟨_,⟨n,R,hnL⟩⟩,_⟩,?_,rfl,rfl⟩;exact ⟨by simp only;omega,by simp only;omega,show n<=301 by omega⟩)|fail
  · obtain ⟨R,hR⟩:∃ r:Nat->RowT,r=λq=>if q<n then g q else g i:=⟨_,rfl⟩
    refine l9 hA ⟨[(4,.c (.bp 256 1 0)),(3,.c (.bp 192 1 0)),(0,.c (.bp 0 1 0))],[(449,2,.arr 13 (n+1) λq=>i6 (R q)),(256,1,.box [.d (eI 0),.d (.v c9)]),(192,1,.box [.d (eI mk),.own 449 0 (n+1) 2]),(0,1,.box [.d (.sl 1 m λi=>[eU (b i)]),.d (eI q)])]⟩ (c7 ?_ ?_ ?_) ?_
    · subst hA;repeat' first|exact True.intro|exact rfl|apply And.intro
    · subst hA
      repeat' first|exact True.intro|exact rfl|apply And.intro | (intro _ _;first|rfl|trivial)
      all_goals
        intro q hq9
        subst hR
        have e0:real.add 0 (real.nat (Int.ofNat i))=i:=Nat.zero_add i
        refine (m8 i6 rfl n g (g (real.add 0 (real.nat (Int.ofNat i)))) _ q hq9).trans ?_
        rw [e0]
    · subst hA;repeat' first|exact True.intro|exact rfl|apply And.intro|exact .inl rfl|exact .inr (b8 rfl)
    cbv
    repeat' first|apply And.intro|exact True.intro|with_reducible rfl|exact b7 hA rfl|apply c8 hA<;>intro _|exact c6 hA id | (subst hA;exact λh=>h) | (refine c5 hA ?_;decide +kernel) | (refine i8 hA ⟨⟨⟨_,⟨n+1,R,Nat.le_trans (show n+1<=301 by omega) (by decide)⟩⟩,_⟩,?_,rfl,rfl⟩;exact ⟨by simp only;omega,by simp only;omega,show n+1<=301 by omega⟩)|fail
end Go.Rk
