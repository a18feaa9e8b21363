/- What each of this seat's functions answers, at all data, part 15: no condition. -/
import Derived.Test.YtaddofloloopjaaGreatM6
import Derived.Test.YtaddofloloopjaaGreatM8
import Derived.Test.YtaddofloloopjaaGreatM9
import Derived.Test.YtaddofloloopjaaGreatM11
import Derived.Test.YtaddofloloopjaaGreatM12
import Derived.Test.YtaddofloloopjaaGreatM14
namespace Go.Rk
set_option linter.unusedSimpArgs false
set_option linter.unusedVariables false
open Go.Proofs
set_option maxRecDepth 100000
set_option maxHeartbeats 20000000
theorem x_badD9 (m:Nat) (hm:m<=2000) (b:Nat->Int) (hb:∀ i,0<=b i/\b i<=255) (p:Int) (hp:0<=p/\p<=50000) (s:OpStT) (hs:s.rows.n<=300):∃ y:OpStT × Int,(p<=y.2/\y.2<=p+60/\y.1.rows.n<=301)/\d7 Tryz.prog 42 [.c (.box [.d (.sl 1 m λi=>[eU (b i)]),.d (eI p)]),.agg [.d (eI s.mark),.d (.sl 13 s.rows.n λi=>i6 (s.rows.g i))]] ⟨.one (.agg [.d (eI y.1.mark),.d (.sl 13 y.1.rows.n λi=>i6 (y.1.rows.g i))]),[some (.box [.d (.sl 1 m λi=>[eU (b i)]),.d (eI y.2)]),none]⟩:=by
  obtain ⟨y,hy,h⟩:=x_bad m hm b hb p hp s hs
  exact ⟨y,hy,meets_frz h rfl⟩
def st_ck (m:Nat) (b:Nat->Int) (f:FloT) (q:Int) (c:CkpT):St:=⟨[(0,.c (.bp 0 1 0)),(1,.c (.d (eI 12))),(4,.c (.bp 256 1 0)),(5,.c (.bp 320 1 0)),(6,.c (.bp 384 1 0)),(7,.c (.bp 448 1 0))],[(0,1,.box [.d (.sl 1 m λi=>[eU (b i)]),.d (eI q)]),(256,1,.box [.d (eI 0),.d (eI 0),.d (eI 0),.d (eI 0),.d (eI 0),.d (eI 0),.d (eI 0),.d (eB false),.d (eI 0),.d (eI 0)]),(320,1,.box [.d (eI 0),.d (eB false),.d (.v c9),.d (.v c9),.d (.v c9),.d (eI 0),.d (.v c9),.d (.v c9)]),(384,1,.box ((eFlo f).map .d)),(448,1,.box [.d (eI c.n),.d (eB c.opn),.own 898 0 c.src.n 1,.own 899 0 c.tsk.n 1,.own 900 0 c.snaps.n 1,.d (eI c.safe.n),.own 902 0 c.safe.at_.n 1,.own 903 0 c.safe.snaps.n 1]),(898,1,.arr 1 c.src.n λi=>[eI (c.src.g i)]),(899,1,.arr 1 c.tsk.n λi=>[eB (c.tsk.g i)]),(900,1,.arr 3 c.snaps.n λi=>d9 (c.snaps.g i)),(902,1,.arr 1 c.safe.at_.n λi=>[eI (c.safe.at_.g i)]),(903,1,.arr 3 c.safe.snaps.n λi=>d9 (c.safe.snaps.g i))]⟩
def st_ck1 (m:Nat) (b:Nat->Int) (f:FloT) (q:Int) (c:CkpT) (i:Nat) (G:Nat->Int):St:=⟨[(8,.c (.d (eI i))),(0,.c (.bp 0 1 0)),(1,.c (.d (eI 12))),(4,.c (.bp 256 1 0)),(5,.c (.bp 320 1 0)),(6,.c (.bp 384 1 0)),(7,.c (.bp 448 1 0))],[(0,1,.box [.d (.sl 1 m λi=>[eU (b i)]),.d (eI q)]),(256,1,.box [.d (eI 0),.d (eI 0),.d (eI 0),.d (eI 0),.d (eI 0),.d (eI 0),.d (eI 0),.d (eB false),.d (eI 0),.d (eI 0)]),(320,1,.box [.d (eI 0),.d (eB false),.d (.v c9),.d (.v c9),.d (.v c9),.d (eI 0),.d (.v c9),.d (.v c9)]),(384,1,.box ((eFlo f).map .d)),(448,1,.box [.d (eI c.n),.d (eB c.opn),.own 898 0 c.src.n 1,.own 899 0 c.tsk.n 1,.own 900 0 c.snaps.n 1,.d (eI c.safe.n),.own 902 0 c.safe.at_.n 1,.own 903 0 c.safe.snaps.n 1]),(898,1,.arr 1 c.src.n λi=>[eI (G i)]),(899,1,.arr 1 c.tsk.n λi=>[eB (c.tsk.g i)]),(900,1,.arr 3 c.snaps.n λi=>d9 (c.snaps.g i)),(902,1,.arr 1 c.safe.at_.n λi=>[eI (c.safe.at_.g i)]),(903,1,.arr 3 c.safe.snaps.n λi=>d9 (c.safe.snaps.g i))]⟩
def st_ck2 (m:Nat) (b:Nat->Int) (f:FloT) (q:Int) (c:CkpT) (G:Nat->Int) (i:Nat) (K:Nat->Bool) (P:Nat->SnapT):St:=⟨[(9,.c (.d (eI i))),(0,.c (.bp 0 1 0)),(1,.c (.d (eI 12))),(4,.c (.bp 256 1 0)),(5,.c (.bp 320 1 0)),(6,.c (.bp 384 1 0)),(7,.c (.bp 448 1 0))],[(0,1,.box [.d (.sl 1 m λi=>[eU (b i)]),.d (eI q)]),(256,1,.box [.d (eI 0),.d (eI 0),.d (eI 0),.d (eI 0),.d (eI 0),.d (eI 0),.d (eI 0),.d (eB false),.d (eI 0),.d (eI 0)]),(320,1,.box [.d (eI 0),.d (eB false),.d (.v c9),.d (.v c9),.d (.v c9),.d (eI 0),.d (.v c9),.d (.v c9)]),(384,1,.box ((eFlo f).map .d)),(448,1,.box [.d (eI c.n),.d (eB c.opn),.own 898 0 c.src.n 1,.own 899 0 c.tsk.n 1,.own 900 0 c.snaps.n 1,.d (eI c.safe.n),.own 902 0 c.safe.at_.n 1,.own 903 0 c.safe.snaps.n 1]),(898,1,.arr 1 c.src.n λi=>[eI (G i)]),(899,1,.arr 1 c.tsk.n λi=>[eB (K i)]),(900,1,.arr 3 c.snaps.n λi=>d9 (P i)),(902,1,.arr 1 c.safe.at_.n λi=>[eI (c.safe.at_.g i)]),(903,1,.arr 3 c.safe.snaps.n λi=>d9 (c.safe.snaps.g i))]⟩
structure CI (c:CkpT):Prop where
  s:1<=c.src.n/\c.src.n<=3
  t:1<=c.tsk.n/\c.tsk.n<=2
  p:c.snaps.n<=2
  pb:∀ i,i<c.snaps.n->bdSnap (c.snaps.g i)
  a:c.safe.at_.n<=3
  f:1<=c.safe.snaps.n/\c.safe.snaps.n<=2
  fb:∀ i,i<c.safe.snaps.n->bdSnap (c.safe.snaps.g i)/\(c.safe.snaps.g i).op.rows.n<=300
theorem ci_bd {c:CkpT} (h:CI c):bdCkp c:=⟨by have:=h.s;omega,by have:=h.t;omega,by have:=h.p;omega,h.pb,by have:=h.a;omega,by have:=h.f;omega,λi hi=>(h.fb i hi).1⟩
theorem ci_of {j:JobT} {c:CkpT} (h:CkpOkP j c):CI c:=by
  have hb:=ckp_bd h
  obtain ⟨hj,⟨_,s2,_,s4,s5⟩,_,_,h5,h6,h7,_,h9⟩:=h
  have hs:=hj.1
  have ht:=hj.2.1
  exact ⟨⟨by omega,by omega⟩,⟨by omega,by omega⟩,by omega,hb.2.2.2.1,by omega,⟨by omega,by omega⟩,λi hi=>⟨snap_bd hj (s5 i hi),(s5 i hi).1.2.2.1⟩⟩
theorem x_ckp (m:Nat) (hm:m<=2000) (b:Nat->Int) (hb:∀ i,0<=b i/\b i<=255) (p:Int) (hp:0<=p/\p<=5000)  : ∃ y:(JobT × CkpT) × Int,(p<=y.2/\y.2<=p+8000/\bdCkp y.1.2)/\d7 Tryz.prog 18 [.c (.box [.d (.sl 1 m λi=>[eU (b i)]),.d (eI p)]),.c (.d (eI 12))] ⟨.tup [xd (u7 y.1.1),xd (eCkp y.1.2)],[some (.box [.d (.sl 1 m λi=>[eU (b i)]),.d (eI y.2)]),none]⟩:=by
  obtain ⟨⟨f,qf⟩,⟨hf0,hf1,hf⟩,mB⟩:=x_flow m hm b hb p ⟨hp.1,Int.le_trans hp.2 (by decide)⟩
  dsimp only at hf0 hf1 hf mB
  obtain ⟨h1,h2,h3⟩:=finv_sizes hf
  have hok:=hf.ok.1
  have hci:=ci_of hok
  have hbf:=ckp_bd hok
  have mC:=c_sCkpO f.ckp hbf
  have hsn:f.ckp.src.n=f.srcs.n:=Int.ofNat.inj (hok.2.2.2.2.1.trans hf.ok.2.2.1.symm)
  have htn:f.ckp.tsk.n=f.tasks.n:=Int.ofNat.inj (hok.2.2.2.2.2.1.trans hf.ok.2.2.2.1.symm)
  have hpn:f.ckp.snaps.n=f.tasks.n:=Int.ofNat.inj (hok.2.2.2.2.2.2.1.trans hf.ok.2.2.2.1.symm)
  have hsL:f.ckp.src.n<=maxLen:=f.ckp.src.hn
  have htL:f.ckp.tsk.n<=maxLen:=f.ckp.tsk.hn
  refine u0 (H:=[3,13]) (EX:=EXD) l6 e8 ([some (.box [.d (.sl 1 m λi=>[eU (b i)]),.d (eI 0)]),none]) Tryz.func18 rfl (by kernel_rfl) (by decide) (λ_=>rfl) ?_
  generalize hA:real=A
  generalize hM:d4 Tryz.prog=M
  cbv
  repeat' first|apply And.intro|exact True.intro|with_reducible rfl|exact b7 hA rfl|apply c8 hA<;>intro _|exact c6 hA id | (subst hA;exact λh=>h) | (refine c5 hA ?_;decide +kernel) | (refine f7 hA hM _ mB ?_;cbv) | (refine f7 hA hM _ mC ?_;cbv) | (refine b7 hA ?_;subst hA;rfl)|fail
  refine l9 hA (st_ck m b f qf f.ckp) (cov_half 900 (λi=>d9 (f.ckp.snaps.g i)) (by rfl) (by exact trivial) (by exact λ_ _ _=>rfl) (cov_half 903 (λi=>d9 (f.ckp.safe.snaps.g i)) (by rfl) (by exact trivial) (by exact λ_ _ _=>rfl) (c7 ?_ ?_ ?_))) ?_
  iterate 3 focus (subst hA;repeat' first|exact True.intro|exact rfl |  apply And.intro | (intro _ _;rfl) | (intro _ _ _;rfl) | (intro q hq;exact absurd hq (Nat.not_lt_zero q))|exact .inr (b8 rfl)|exact .inl rfl|exact .inr (Nat.le_refl _)|fail)
  cbv
  repeat' first|apply And.intro|exact True.intro|with_reducible rfl|exact b7 hA rfl|apply c8 hA<;>intro _|exact c6 hA id | (subst hA;exact λh=>h) | (refine c5 hA ?_;decide +kernel) | (refine d6 hA hM (m7 m hm b hb _ (by omega) 3 (by omega)) ?_;rintro ⟨xa,qa⟩ ⟨hxaa,hxab,hqa⟩;dsimp only at hxaa hxab hqa;cbv) | (refine b7 hA ?_;subst hA;rfl)|fail
  · refine i7 hA (α := { y:Nat × (Nat->Int) // y.1<=f.ckp.src.n }) (λy=>st_ck1 m b f qa f.ckp y.1.1 y.1.2) (λy=>f.ckp.src.n-y.1.1) ⟨(0,f.ckp.src.g),Nat.zero_le _⟩ ?_ ?_
    · refine c7 ?_ ?_ ?_
      iterate 3 focus (subst hA;repeat' first|exact True.intro|exact rfl |  apply And.intro | (intro _ _;rfl) | (intro _ _ _;rfl) | (intro q hq;exact absurd hq (Nat.not_lt_zero q))|exact .inr (b8 rfl)|exact .inl rfl|exact .inr (Nat.le_refl _)|fail)
    rintro ⟨⟨i,G⟩,hi⟩
    have hi:i<=f.ckp.src.n:=hi
    cbv
    repeat' first|apply And.intro|exact True.intro|with_reducible rfl|exact b7 hA rfl|apply c8 hA<;>intro _|exact c6 hA id | (subst hA;exact λh=>h) | (refine c5 hA ?_;decide +kernel) | (refine d8 hA λ_ => ?_;have hlt9:i<f.ckp.src.n:=(by first|exact f9 hA (by assumption)|exact l5 hA (by assumption));exact ⟨Int.natCast_nonneg i,Int.ofNat_lt.2 hlt9⟩) | (refine d8 hA λ_ => ?_;have hlt9:i<f.ckp.src.n:=(by first|exact f9 hA (by assumption)|exact l5 hA (by assumption));exact ⟨Int.natCast_nonneg i,Int.ofNat_lt.2 (Nat.lt_of_lt_of_eq hlt9 hsn)⟩) | (refine b7 hA ?_;subst hA;rfl)|fail
    · have hlt':i<f.ckp.src.n:=(by first|exact f9 hA (by assumption)|exact l5 hA (by assumption))
      obtain ⟨G',hG'⟩:∃ r:Nat->Int,r=λq=>if q=i then (f.srcs.g i).at_ else G q:=⟨_,rfl⟩
      have hrow:∀ ix l,ix=i->l=[eI (f.srcs.g i).at_]->∀ q,q<f.ckp.src.n->real.upd (λq=>[eI (G q)]) ix l q=[eI (G' q)]:=λix l e1 e2 q _=>by
        rw [hG'];exact upd_rows (e:=λv=>[eI v]) e1 e2 q
      refine ⟨⟨(i+1,G'),hlt'⟩,by simp only;omega,c7 ?_ ?_ ?_⟩
      iterate 3 focus (subst hA;repeat' first|exact True.intro|exact rfl|exact congrArg (λx=>DV.v (.int .i64 x)) (o0 hlt' hsL)|exact hrow _ _ (Nat.zero_add i) rfl|exact (λq hq _=>hrow _ _ (Nat.zero_add i) rfl q hq) |  apply And.intro | (intro _ _;rfl) | (intro _ _ _;rfl) | (intro q hq;exact absurd hq (Nat.not_lt_zero q))|exact .inr (b8 rfl)|exact .inl rfl|exact .inr (Nat.le_refl _)|fail)
    have hin:i=f.ckp.src.n:=by
      rename_i hge
      subst hA
      have:¬ ((i:Int)<(f.ckp.src.n:Int)):=of_decide_eq_false hge
      omega
    subst hin
    clear hi
    repeat' first|apply And.intro|exact True.intro|with_reducible rfl|exact b7 hA rfl|apply c8 hA<;>intro _|exact c6 hA id | (subst hA;exact λh=>h) | (refine c5 hA ?_;decide +kernel) | (refine b7 hA ?_;subst hA;rfl)|fail
    refine i7 hA (α := { y:Nat × (Nat->Bool) × (Nat->SnapT) // y.1<=f.ckp.tsk.n/\∀ q,q<f.ckp.snaps.n->bdSnap (y.2.2 q) }) (λy=>st_ck2 m b f qa f.ckp G y.1.1 y.1.2.1 y.1.2.2) (λy=>f.ckp.tsk.n-y.1.1) ⟨(0,f.ckp.tsk.g,f.ckp.snaps.g),Nat.zero_le _,hci.pb⟩ ?_ ?_
    · refine c7 ?_ ?_ ?_
      iterate 3 focus (subst hA;repeat' first|exact True.intro|exact rfl |  apply And.intro | (intro _ _;rfl) | (intro _ _ _;rfl) | (intro q hq;exact absurd hq (Nat.not_lt_zero q))|exact .inr (b8 rfl)|exact .inl rfl|exact .inr (Nat.le_refl _)|fail)
    rintro ⟨⟨i,K,P⟩,hi,hP⟩
    have hi:i<=f.ckp.tsk.n:=hi
    have hP:∀ q,q<f.ckp.snaps.n->bdSnap (P q):=hP
    cbv
    repeat' first|apply And.intro|exact True.intro|with_reducible rfl|exact b7 hA rfl|apply c8 hA<;>intro _|exact c6 hA id | (subst hA;exact λh=>h) | (refine c5 hA ?_;decide +kernel) | (refine d8 hA λ_ => ?_;have hlt9:i<f.ckp.tsk.n:=(by first|exact f9 hA (by assumption)|exact l5 hA (by assumption));exact ⟨Int.natCast_nonneg i,Int.ofNat_lt.2 (hlt9)⟩) | (refine d8 hA λ_ => ?_;have hlt9:i<f.ckp.tsk.n:=(by first|exact f9 hA (by assumption)|exact l5 hA (by assumption));exact ⟨Int.natCast_nonneg i,Int.ofNat_lt.2 (Nat.lt_of_lt_of_eq hlt9 htn)⟩) | (refine d8 hA λ_ => ?_;have hlt9:i<f.ckp.tsk.n:=(by first|exact f9 hA (by assumption)|exact l5 hA (by assumption));exact ⟨Int.natCast_nonneg i,Int.ofNat_lt.2 (Nat.lt_of_lt_of_eq hlt9 (htn.trans hpn.symm))⟩) | (have hlt9:i<f.ckp.tsk.n:=(by first|exact f9 hA (by assumption)|exact l5 hA (by assumption));have ht9:=(hf.ok.2.2.2.2.2.2.1 i (Nat.lt_of_lt_of_eq hlt9 htn)).1;refine i9 hA hM _ (x_copyD (f.tasks.g i).op (Nat.le_trans (op_bd ht9.1) (by decide))) (by (subst hA;rfl)) ?_;cbv) | (have hlt9:i<f.ckp.tsk.n:=(by first|exact f9 hA (by assumption)|exact l5 hA (by assumption));have ht9:=(hf.ok.2.2.2.2.2.2.1 i (Nat.lt_of_lt_of_eq hlt9 htn)).1;refine i9 hA hM _ (x_marks (f.tasks.g i) (tsk_bd ht9).1) (by (subst hA;rfl)) ?_;cbv) | (refine b7 hA ?_;subst hA;rfl)|fail
    · have hlt':i<f.ckp.tsk.n:=(by first|exact f9 hA (by assumption)|exact l5 hA (by assumption))
      have ht9:=(hf.ok.2.2.2.2.2.2.1 i (Nat.lt_of_lt_of_eq hlt' htn)).1
      obtain ⟨K',hK'⟩:∃ r:Nat->Bool,r=λq=>if q=i then true else K q:=⟨_,rfl⟩
      obtain ⟨P',hP'⟩:∃ r:Nat->SnapT,r=λq=>if q=i then snapOf (f.tasks.g i) else P q:=⟨_,rfl⟩
      have hk9:∀ ix l,ix=i->l=[eB true]->∀ q,q<f.ckp.tsk.n->real.upd (λq=>[eB (K q)]) ix l q=[eB (K' q)]:=λix l e1 e2 q _=>by
        rw [hK'];exact upd_rows (e:=λv=>[eB v]) e1 e2 q
      have hp9:∀ ix l,ix=i->l=d9 (snapOf (f.tasks.g i))->∀ q,q<f.ckp.snaps.n->real.upd (λq=>d9 (P q)) ix l q=d9 (P' q):=λix l e1 e2 q _=>by
        rw [hP'];exact upd_rows e1 e2 q
      have hPn:∀ q,q<f.ckp.snaps.n->bdSnap (P' q):=λq hq=>by
        rw [hP']
        show bdSnap (if q=i then snapOf (f.tasks.g i) else P q)
        by_cases e:q=i
        · rw [if_pos e];exact ⟨op_bd ht9.1,(tsk_bd ht9).1⟩
        · rw [if_neg e];exact hP q hq
      refine ⟨⟨(i+1,K',P'),hlt',hPn⟩,by simp only;omega,c7 ?_ ?_ ?_⟩
      iterate 3 focus (subst hA;repeat' first|exact True.intro|exact rfl|exact congrArg (λx=>DV.v (.int .i64 x)) (o0 hlt' htL)|exact hk9 _ _ (Nat.zero_add i) rfl|exact (λq hq _=>hk9 _ _ (Nat.zero_add i) rfl q hq)|exact hp9 _ _ (Nat.zero_add i) rfl|exact (λq hq _=>hp9 _ _ (Nat.zero_add i) rfl q hq) |  apply And.intro | (intro _ _;rfl) | (intro _ _ _;rfl) | (intro q hq;exact absurd hq (Nat.not_lt_zero q))|exact .inr (b8 rfl)|exact .inl rfl|exact .inr (Nat.le_refl _)|fail)
    clear hi
    obtain ⟨c,hc⟩:∃ c:CkpT,c=⟨f.ckp.n,f.ckp.opn,⟨f.ckp.src.n,G,f.ckp.src.hn⟩,⟨f.ckp.tsk.n,K,f.ckp.tsk.hn⟩,⟨f.ckp.snaps.n,P,f.ckp.snaps.hn⟩,f.ckp.safe⟩:=⟨_,rfl⟩
    have hcc:CI c:=by rw [hc];exact ⟨hci.s,hci.t,hci.p,hP,hci.a,hci.f,hci.fb⟩
    repeat' first|apply And.intro|exact True.intro|with_reducible rfl|exact b7 hA rfl|apply c8 hA<;>intro _|exact c6 hA id | (subst hA;exact λh=>h) | (refine c5 hA ?_;decide +kernel) | (refine b7 hA ?_;subst hA;rfl)|fail
    refine l9 hA (st_ck m b f qa ⟨f.ckp.n,f.ckp.opn,⟨f.ckp.src.n,G,f.ckp.src.hn⟩,⟨f.ckp.tsk.n,K,f.ckp.tsk.hn⟩,⟨f.ckp.snaps.n,P,f.ckp.snaps.hn⟩,f.ckp.safe⟩) (c7 ?_ ?_ ?_) ?_
    iterate 3 focus (subst hA;repeat' first|exact True.intro|exact rfl |  apply And.intro | (intro _ _;rfl) | (intro _ _ _;rfl) | (intro q hq;exact absurd hq (Nat.not_lt_zero q))|exact .inr (b8 rfl)|exact .inl rfl|exact .inr (Nat.le_refl _)|fail)
    rw [<- hc]
    cbv
    clear hf
    have hbd:=ci_bd hcc
    have hs1:=hcc.s
    have ht1:=hcc.t
    have hf2:=hcc.f
    have hbo:=(hcc.fb 0 hf2.1).2
    have hsM:c.src.n+1<=maxLen:=Nat.le_trans (show c.src.n+1<=4 by omega) (by decide)
    repeat' first|refine br_t hA (by assumption) ?_|refine br_f hA (by assumption) ?_|apply And.intro|exact True.intro|with_reducible rfl|exact b7 hA rfl|apply c8 hA<;>intro _|exact c6 hA id | (subst hA;exact λh=>h) | (refine c5 hA ?_;decide +kernel) | (refine d6 hA hM (m7 m hm b hb _ (by omega) 12 (by omega)) ?_;rintro ⟨xc,q12⟩ ⟨hxca,hxcb,hq12⟩;dsimp only at hxca hxcb hq12;cbv) | (refine d6 hA hM (m7 m hm b hb _ (by omega) 8 (by omega)) ?_;rintro ⟨xd,q8⟩ ⟨hxda,hxdb,hq8⟩;dsimp only at hxda hxdb hq8;cbv) | (refine d6 hA hM (m7 m hm b hb _ (by omega) 3 (by omega)) ?_;rintro ⟨xe,q3⟩ ⟨hxea,hxeb,hq3⟩;dsimp only at hxea hxeb hq3;cbv) | (refine d6 hA hM (m7 m hm b hb _ (by omega) 4 (by omega)) ?_;rintro ⟨xf,q4⟩ ⟨hxfa,hxfb,hq4⟩;dsimp only at hxfa hxfb hq4;cbv) | (refine d6 hA hM (x_anyJob m hm b hb _ (by omega) 1 (by omega)) ?_;rintro ⟨ja,qj⟩ ⟨hqj0,hqj1⟩;dsimp only at hqj0 hqj1;cbv) | (refine l7 hA hM (x_badD9 m hm b hb q8 (by omega) (c.safe.snaps.g 0).op hbo) (by (subst hA;rfl)) ?_;rintro ⟨so,qb⟩ ⟨hqb0,hqb1,hso⟩;dsimp only at hqb0 hqb1 hso;cbv) | (refine d8 hA λ_=>⟨Int.le_refl 0,Int.ofNat_lt.2 hs1.1⟩) | (refine d8 hA λ_=>⟨Int.le_refl 0,Int.ofNat_lt.2 ht1.1⟩) | (refine d8 hA λ_=>⟨Int.le_refl 0,Int.ofNat_lt.2 hf2.1⟩) | (refine d8 hA (λ_ => ?_);(constructor<;>omega))|exact f6 hA (show c.src.n+1<=2000000 by omega) (by decide) | (refine b7 hA ?_;subst hA;rfl)|fail
    · skip
      refine i8 hA ⟨((f.job,c),q12),⟨by (show p<=q12);omega,by (show q12<=p+8000);omega,hbd⟩,by (subst hA;rfl),?_,rfl⟩
      (subst hA;repeat' first|apply And.intro|exact True.intro|exact DLe.rfl|exact f8 _ _ |  exact m9 rfl)
    · skip
      refine i8 hA ⟨((ja,c),qj),⟨by (show p<=qj);omega,by (show qj<=p+8000);omega,hbd⟩,by (subst hA;rfl),?_,rfl⟩
      (subst hA;repeat' first|apply And.intro|exact True.intro|exact DLe.rfl|exact f8 _ _ |  exact m9 rfl)
    · skip
      refine i8 hA ⟨((f.job,⟨A.sel [-1,900,901] (A.add 0 (A.nat xe)),c.opn,c.src,c.tsk,c.snaps,c.safe⟩),q3),⟨by (show p<=q3);omega,by (show q3<=p+8000);omega,hbd⟩,by (subst hA;rfl),?_,rfl⟩
      (subst hA;repeat' first|apply And.intro|exact True.intro|exact DLe.rfl|exact f8 _ _ |  exact m9 rfl)
    · skip
      refine i8 hA ⟨((f.job,⟨c.n,A.bnot c.opn,c.src,c.tsk,c.snaps,c.safe⟩),q8),⟨by (show p<=q8);omega,by (show q8<=p+8000);omega,hbd⟩,by (subst hA;rfl),?_,rfl⟩
      (subst hA;repeat' first|apply And.intro|exact True.intro|exact DLe.rfl|exact f8 _ _ |  exact m9 rfl)
    · skip
      refine i8 hA ⟨((f.job,⟨c.n,c.opn,⟨c.src.n+1,λq=>if q<c.src.n then c.src.g q else 0,hsM⟩,c.tsk,c.snaps,c.safe⟩),q8),⟨by (show p<=q8);omega,by (show q8<=p+8000);omega,⟨by (show c.src.n+1<=1048576);omega,hbd.2⟩⟩,by (subst hA;rfl),?_,rfl⟩
      (subst hA;repeat' first|apply And.intro|exact True.intro|exact DLe.rfl|exact f8 _ _|exact dle_push (e:=λv=>[eI v]) (g:=c.src.g) (x:=0) rfl (λ_ _=>rfl) rfl |  exact m9 rfl)
    · skip
      refine i8 hA ⟨((f.job,⟨c.n,c.opn,⟨c.src.n,λq=>if q=0 then A.sel [-2,41,3,-1] (A.add 0 (A.nat xf)) else c.src.g q,c.src.hn⟩,c.tsk,c.snaps,c.safe⟩),q4),⟨by (show p<=q4);omega,by (show q4<=p+8000);omega,hbd⟩,by (subst hA;rfl),?_,rfl⟩
      (subst hA;repeat' first|apply And.intro|exact True.intro|exact DLe.rfl|exact f8 _ _|exact dle_upd (e:=λv=>[eI v]) (g:=c.src.g) rfl rfl |  exact m9 rfl)
    · skip
      refine i8 hA ⟨((f.job,⟨c.n,c.opn,c.src,⟨c.tsk.n,λq=>if q=0 then A.bnot (c.tsk.g 0) else c.tsk.g q,c.tsk.hn⟩,c.snaps,c.safe⟩),q8),⟨by (show p<=q8);omega,by (show q8<=p+8000);omega,hbd⟩,by (subst hA;rfl),?_,rfl⟩
      (subst hA;repeat' first|apply And.intro|exact True.intro|exact DLe.rfl|exact f8 _ _|exact dle_upd (e:=λv=>[eB v]) (g:=c.tsk.g) rfl rfl |  exact m9 rfl)
    · skip
      refine i8 hA ⟨((f.job,⟨c.n,c.opn,c.src,c.tsk,c.snaps,⟨A.sel [-1,c.n,A.ar .add .i64 c.n 1] (A.add 0 (A.nat xe)),c.safe.at_,c.safe.snaps⟩⟩),q3),⟨by (show p<=q3);omega,by (show q3<=p+8000);omega,hbd⟩,by (subst hA;rfl),?_,rfl⟩
      (subst hA;repeat' first|apply And.intro|exact True.intro|exact DLe.rfl|exact f8 _ _ |  exact m9 rfl)
    have hb9:∀ i,i<c.safe.snaps.n->bdSnap (if i=0 then (⟨so,(c.safe.snaps.g 0).marks⟩:SnapT) else c.safe.snaps.g i):=λi hi=>by
      by_cases e:i=0
      · rw [if_pos e];exact ⟨by (show so.rows.n<=1048576);omega,(hbd.2.2.2.2.2.2 0 hf2.1).2⟩
      · rw [if_neg e];exact hbd.2.2.2.2.2.2 i hi
    refine i8 hA ⟨((f.job,⟨c.n,c.opn,c.src,c.tsk,c.snaps,⟨c.safe.n,c.safe.at_,⟨c.safe.snaps.n,λq=>if q=0 then ⟨so,(c.safe.snaps.g 0).marks⟩ else c.safe.snaps.g q,c.safe.snaps.hn⟩⟩⟩),qb),⟨by (show p<=qb);omega,by (show qb<=p+8000);omega,⟨hbd.1,hbd.2.1,hbd.2.2.1,hbd.2.2.2.1,hbd.2.2.2.2.1,hbd.2.2.2.2.2.1,hb9⟩⟩,by (subst hA;rfl),?_,rfl⟩
    (subst hA;repeat' first|apply And.intro|exact True.intro|exact DLe.rfl|exact f8 _ _|exact dle_upd (e:=d9) (g:=c.safe.snaps.g) rfl rfl |  exact m9 rfl)
  refine l9 hA (st_ck m b f qa f.ckp) (c7 ?_ ?_ ?_) ?_
  iterate 3 focus (subst hA;repeat' first|exact True.intro|exact rfl |  apply And.intro | (intro _ _;rfl) | (intro _ _ _;rfl) | (intro q hq;exact absurd hq (Nat.not_lt_zero q))|exact .inr (b8 rfl)|exact .inl rfl|exact .inr (Nat.le_refl _)|fail)
  obtain ⟨c,hc⟩:∃ c:CkpT,c=f.ckp:=⟨_,rfl⟩
  have hcc:CI c:=by rw [hc];exact hci
  rw [<- hc]
  cbv
  clear hf
  have hbd:=ci_bd hcc
  have hs1:=hcc.s
  have ht1:=hcc.t
  have hf2:=hcc.f
  have hbo:=(hcc.fb 0 hf2.1).2
  have hsM:c.src.n+1<=maxLen:=Nat.le_trans (show c.src.n+1<=4 by omega) (by decide)
  repeat' first|refine br_t hA (by assumption) ?_|refine br_f hA (by assumption) ?_|apply And.intro|exact True.intro|with_reducible rfl|exact b7 hA rfl|apply c8 hA<;>intro _|exact c6 hA id | (subst hA;exact λh=>h) | (refine c5 hA ?_;decide +kernel) | (refine d6 hA hM (m7 m hm b hb _ (by omega) 12 (by omega)) ?_;rintro ⟨xc,q12⟩ ⟨hxca,hxcb,hq12⟩;dsimp only at hxca hxcb hq12;cbv) | (refine d6 hA hM (m7 m hm b hb _ (by omega) 8 (by omega)) ?_;rintro ⟨xd,q8⟩ ⟨hxda,hxdb,hq8⟩;dsimp only at hxda hxdb hq8;cbv) | (refine d6 hA hM (m7 m hm b hb _ (by omega) 3 (by omega)) ?_;rintro ⟨xe,q3⟩ ⟨hxea,hxeb,hq3⟩;dsimp only at hxea hxeb hq3;cbv) | (refine d6 hA hM (m7 m hm b hb _ (by omega) 4 (by omega)) ?_;rintro ⟨xf,q4⟩ ⟨hxfa,hxfb,hq4⟩;dsimp only at hxfa hxfb hq4;cbv) | (refine d6 hA hM (x_anyJob m hm b hb _ (by omega) 1 (by omega)) ?_;rintro ⟨ja,qj⟩ ⟨hqj0,hqj1⟩;dsimp only at hqj0 hqj1;cbv) | (refine l7 hA hM (x_badD9 m hm b hb q8 (by omega) (c.safe.snaps.g 0).op hbo) (by (subst hA;rfl)) ?_;rintro ⟨so,qb⟩ ⟨hqb0,hqb1,hso⟩;dsimp only at hqb0 hqb1 hso;cbv) | (refine d8 hA λ_=>⟨Int.le_refl 0,Int.ofNat_lt.2 hs1.1⟩) | (refine d8 hA λ_=>⟨Int.le_refl 0,Int.ofNat_lt.2 ht1.1⟩) | (refine d8 hA λ_=>⟨Int.le_refl 0,Int.ofNat_lt.2 hf2.1⟩) | (refine d8 hA (λ_ => ?_);(constructor<;>omega))|exact f6 hA (show c.src.n+1<=2000000 by omega) (by decide) | (refine b7 hA ?_;subst hA;rfl)|fail
  · skip
    refine i8 hA ⟨((f.job,c),q12),⟨by (show p<=q12);omega,by (show q12<=p+8000);omega,hbd⟩,by (subst hA;rfl),?_,rfl⟩
    (subst hA;repeat' first|apply And.intro|exact True.intro|exact DLe.rfl|exact f8 _ _ |  exact m9 rfl)
  · skip
    refine i8 hA ⟨((ja,c),qj),⟨by (show p<=qj);omega,by (show qj<=p+8000);omega,hbd⟩,by (subst hA;rfl),?_,rfl⟩
    (subst hA;repeat' first|apply And.intro|exact True.intro|exact DLe.rfl|exact f8 _ _ |  exact m9 rfl)
  · skip
    refine i8 hA ⟨((f.job,⟨A.sel [-1,900,901] (A.add 0 (A.nat xe)),c.opn,c.src,c.tsk,c.snaps,c.safe⟩),q3),⟨by (show p<=q3);omega,by (show q3<=p+8000);omega,hbd⟩,by (subst hA;rfl),?_,rfl⟩
    (subst hA;repeat' first|apply And.intro|exact True.intro|exact DLe.rfl|exact f8 _ _ |  exact m9 rfl)
  · skip
    refine i8 hA ⟨((f.job,⟨c.n,A.bnot c.opn,c.src,c.tsk,c.snaps,c.safe⟩),q8),⟨by (show p<=q8);omega,by (show q8<=p+8000);omega,hbd⟩,by (subst hA;rfl),?_,rfl⟩
    (subst hA;repeat' first|apply And.intro|exact True.intro|exact DLe.rfl|exact f8 _ _ |  exact m9 rfl)
  · skip
    refine i8 hA ⟨((f.job,⟨c.n,c.opn,⟨c.src.n+1,λq=>if q<c.src.n then c.src.g q else 0,hsM⟩,c.tsk,c.snaps,c.safe⟩),q8),⟨by (show p<=q8);omega,by (show q8<=p+8000);omega,⟨by (show c.src.n+1<=1048576);omega,hbd.2⟩⟩,by (subst hA;rfl),?_,rfl⟩
    (subst hA;repeat' first|apply And.intro|exact True.intro|exact DLe.rfl|exact f8 _ _|exact dle_push (e:=λv=>[eI v]) (g:=c.src.g) (x:=0) rfl (λ_ _=>rfl) rfl |  exact m9 rfl)
  · skip
    refine i8 hA ⟨((f.job,⟨c.n,c.opn,⟨c.src.n,λq=>if q=0 then A.sel [-2,41,3,-1] (A.add 0 (A.nat xf)) else c.src.g q,c.src.hn⟩,c.tsk,c.snaps,c.safe⟩),q4),⟨by (show p<=q4);omega,by (show q4<=p+8000);omega,hbd⟩,by (subst hA;rfl),?_,rfl⟩
    (subst hA;repeat' first|apply And.intro|exact True.intro|exact DLe.rfl|exact f8 _ _|exact dle_upd (e:=λv=>[eI v]) (g:=c.src.g) rfl rfl |  exact m9 rfl)
  · skip
    refine i8 hA ⟨((f.job,⟨c.n,c.opn,c.src,⟨c.tsk.n,λq=>if q=0 then A.bnot (c.tsk.g 0) else c.tsk.g q,c.tsk.hn⟩,c.snaps,c.safe⟩),q8),⟨by (show p<=q8);omega,by (show q8<=p+8000);omega,hbd⟩,by (subst hA;rfl),?_,rfl⟩
    (subst hA;repeat' first|apply And.intro|exact True.intro|exact DLe.rfl|exact f8 _ _|exact dle_upd (e:=λv=>[eB v]) (g:=c.tsk.g) rfl rfl |  exact m9 rfl)
  · skip
    refine i8 hA ⟨((f.job,⟨c.n,c.opn,c.src,c.tsk,c.snaps,⟨A.sel [-1,c.n,A.ar .add .i64 c.n 1] (A.add 0 (A.nat xe)),c.safe.at_,c.safe.snaps⟩⟩),q3),⟨by (show p<=q3);omega,by (show q3<=p+8000);omega,hbd⟩,by (subst hA;rfl),?_,rfl⟩
    (subst hA;repeat' first|apply And.intro|exact True.intro|exact DLe.rfl|exact f8 _ _ |  exact m9 rfl)
  have hb9:∀ i,i<c.safe.snaps.n->bdSnap (if i=0 then (⟨so,(c.safe.snaps.g 0).marks⟩:SnapT) else c.safe.snaps.g i):=λi hi=>by
    by_cases e:i=0
    · rw [if_pos e];exact ⟨by (show so.rows.n<=1048576);omega,(hbd.2.2.2.2.2.2 0 hf2.1).2⟩
    · rw [if_neg e];exact hbd.2.2.2.2.2.2 i hi
  refine i8 hA ⟨((f.job,⟨c.n,c.opn,c.src,c.tsk,c.snaps,⟨c.safe.n,c.safe.at_,⟨c.safe.snaps.n,λq=>if q=0 then ⟨so,(c.safe.snaps.g 0).marks⟩ else c.safe.snaps.g q,c.safe.snaps.hn⟩⟩⟩),qb),⟨by (show p<=qb);omega,by (show qb<=p+8000);omega,⟨hbd.1,hbd.2.1,hbd.2.2.1,hbd.2.2.2.1,hbd.2.2.2.2.1,hbd.2.2.2.2.2.1,hb9⟩⟩,by (subst hA;rfl),?_,rfl⟩
  (subst hA;repeat' first|apply And.intro|exact True.intro|exact DLe.rfl|exact f8 _ _|exact dle_upd (e:=d9) (g:=c.safe.snaps.g) rfl rfl |  exact m9 rfl)
set_option maxHeartbeats 4000000
theorem c_frZ:d7 Tryz.prog 7 [xd (eCkp zCkp),.agg [.d (eI 0),.d (eB false),.d (.v c9),.d (.v c9),.d (.v c9),.d (eI 0),.d (.v c9),.d (.v c9)]] ⟨.one (.c (.d (eB true))),[none,none]⟩:=
  meets_args (c_frCkp zCkp) ⟨(by repeat' first|exact True.intro|exact DLe.rfl|apply And.intro),⟨DLe.rfl,DLe.rfl,f8 _ _,f8 _ _,f8 _ _,DLe.rfl,f8 _ _,f8 _ _,trivial⟩,trivial⟩
end Go.Rk
