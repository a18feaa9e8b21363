/- What each of this seat's functions answers, at all data, part 12: no condition. -/
import Derived.Test.YtaddofloloopjaaGreatM6
import Derived.Test.YtaddofloloopjaaGreatM8
import Derived.Test.YtaddofloloopjaaGreatM9
import Derived.Test.YtaddofloloopjaaGreatM10
import Derived.Test.YtaddofloloopjaaGreatM11
namespace Go.Rk
set_option linter.unusedSimpArgs false
set_option linter.unusedVariables false
structure FInv (B:Int) (f:FloT):Prop where
  ok:FloOkP f
  bt:∀ i,i<f.tasks.n->Bd B (n6 (f.tasks.g i).op)
  bs:∀ i,i<f.ckp.snaps.n->Bd B (n6 (f.ckp.snaps.g i).op)
  bf:∀ i,i<f.ckp.safe.snaps.n->Bd B (n6 (f.ckp.safe.snaps.g i).op)
  qw:∀ i,i<f.tasks.n->∀ c,c<(f.tasks.g i).ins.n->∀ p,p<((f.tasks.g i).ins.g c).queue.n->(((f.tasks.g i).ins.g c).queue.g p).kind=3->(((f.tasks.g i).ins.g c).queue.g p).n<=f.ckp.n
  sr:∀ i,i<f.ckp.src.n->f.ckp.src.g i<=((f.logs.g i).n:Int)
theorem finv_mono {B C:Int} {f:FloT} (h:FInv B f) (hc:B<=C):FInv C f:=⟨h.ok,λi hi=>bd_mono (h.bt i hi) hc,λi hi=>bd_mono (h.bs i hi) hc,λi hi=>bd_mono (h.bf i hi) hc,h.qw,h.sr⟩
def i4 (f:FloT) (c:CkpT):FloT:=⟨f.job,f.logs,f.srcs,f.tasks,f.sinks,c⟩
theorem finv_ckp {B:Int} {f:FloT} {c:CkpT} (h:FInv B f) (hc:CkpOkP f.job c) (hn:f.ckp.n<=c.n) (ha:∀ i,i<f.logs.n->c.safe.at_.g i<=((f.logs.g i).n:Int)) (hs:∀ i,i<c.snaps.n->Bd B (n6 (c.snaps.g i).op)) (hf:∀ i,i<c.safe.snaps.n->Bd B (n6 (c.safe.snaps.g i).op)) (hr:∀ i,i<c.src.n->c.src.g i<=((f.logs.g i).n:Int)):FInv B (i4 f c):=by
  obtain ⟨⟨_,h2,h3,h4,h5,h6,h7,h8⟩,b1,_,_,b4,_⟩:=h
  refine ⟨⟨hc,h2,h3,h4,h5,λi hi => ?_,λi hi=>⟨(h7 i hi).1,?_⟩,h8⟩,b1,hs,hf,λi hi q hq p hp e=>Int.le_trans (b4 i hi q hq p hp e) hn,hr⟩
  · obtain ⟨a1,a2,a3,a4⟩:=h6 i hi
    exact ⟨a1,a2,ha i hi,⟨a4.1,Int.le_trans a4.2 hn⟩⟩
  · exact Int.le_trans (h7 i hi).2 hn
theorem bd_zS {B:Int} (hB:0<=B):Bd B (n6 zSnp.op):=bd_nil hB
theorem finv_ask {B:Int} {f:FloT} (h:FInv B f):FInv B (i4 f (askP f.job f.ckp)):=by
  have hok:=h.ok.1
  have e:askP f.job f.ckp=asks f.ckp:=by unfold askP;rw [if_pos hok]
  have hk:=ask_ok hok
  rw [e] at hk ⊢
  rw [asks_if] at hk ⊢
  refine finv_ckp h hk ?_ (λi hi=>(h.ok.2.2.2.2.2.1 i hi).2.2.1) h.bs h.bf h.sr
  show f.ckp.n<=if f.ckp.opn=false/\f.ckp.n<900 then f.ckp.n+1 else f.ckp.n
  split<;>omega
theorem finv_idle {B:Int} {f:FloT} {x:CkpT} (hB:0<=B) (h:FInv B f) (hj:t9 f.job) (hk:CkpOkP f.job (idleP f.job hj x)) (hn:f.ckp.n<=x.n) (ha:∀ i,i<f.logs.n->x.safe.at_.g i<=((f.logs.g i).n:Int)) (hf:∀ i,i<x.safe.snaps.n->Bd B (n6 (x.safe.snaps.g i).op)):FInv B (i4 f (idleP f.job hj x)):=
  finv_ckp h hk hn ha (λ_ _=>bd_zS hB) hf λi _=>by
    show (-1:Int)<=((f.logs.g i).n:Int)
    omega
theorem finv_drop {B:Int} {f:FloT} (hB:0<=B) (h:FInv B f):FInv B (i4 f (dropP f.job f.ckp)):=by
  have hok:=h.ok.1
  have hk:=drop_ok hok
  have e:dropP f.job f.ckp=idleP f.job (ckpJob hok) f.ckp:=dif_pos hok
  rw [e] at hk ⊢
  exact finv_idle hB h _ hk (Int.le_refl _) (λi hi=>(h.ok.2.2.2.2.2.1 i hi).2.2.1) h.bf
theorem finv_save {B:Int} {f:FloT} (hB:0<=B) (h:FInv B f):FInv B (i4 f (saveP f.job f.ckp).1):=by
  have hok:=h.ok.1
  have hk:=save_ok hok
  by_cases c:ReadyP f.ckp
  · have e:(saveP f.job f.ckp).1=idleP f.job (ckpJob hok) ⟨f.ckp.n,f.ckp.opn,f.ckp.src,f.ckp.tsk,f.ckp.snaps,⟨f.ckp.n,f.ckp.src,f.ckp.snaps⟩⟩:=by
      unfold saveP;rw [dif_pos hok,if_pos c]
    rw [e] at hk ⊢
    refine finv_idle hB h _ hk (Int.le_refl _) (λi hi => ?_) h.bs
    have h5:=hok.2.2.2.2.1
    have h2:=h.ok.2.1
    exact h.sr i (by omega)
  · have e:(saveP f.job f.ckp).1=f.ckp:=by unfold saveP;rw [dif_pos hok,if_neg c]
    rw [e]
    exact h
theorem putT_ok {j:JobT} {t:TskT} {k:Nat} {x:ItmT} {hm:(t.ins.g k).queue.n+1<=maxLen} (h:s9 j t) (hk:k<t.ins.n) (hr:((t.ins.g k).queue.n:Int)<j.room) (hx:ItmOkP x):s9 j (putT t k x hm):=
  tsk_chan h hk (putI_ok (h.2.2.2.2.2.1 k hk) hr hx) rfl rfl
def sendF (f:FloT) (k:Nat) (sel:Nat->Bool) (x:ItmT):FloT:=
  ⟨f.job,f.logs,f.srcs,⟨f.tasks.n,λi=>if h:sel i=true/\((f.tasks.g i).ins.g k).queue.n+1<=maxLen then putT (f.tasks.g i) k x h.2 else f.tasks.g i,f.tasks.hn⟩,f.sinks,f.ckp⟩
theorem sendF_at {f:FloT} {k:Nat} {sel:Nat->Bool} {x:ItmT} (i:Nat):((sendF f k sel x).tasks.g i=f.tasks.g i)\/(sel i=true/\∃ hm,(sendF f k sel x).tasks.g i=putT (f.tasks.g i) k x hm):=by
  show ((if h:sel i=true/\((f.tasks.g i).ins.g k).queue.n+1<=maxLen then putT (f.tasks.g i) k x h.2 else f.tasks.g i)=f.tasks.g i)\/_
  by_cases h:sel i=true/\((f.tasks.g i).ins.g k).queue.n+1<=maxLen
  · exact .inr ⟨h.1,h.2,dif_pos h⟩
  · exact .inl (dif_neg h)
theorem finv_send {B:Int} {f:FloT} {k:Nat} {sel:Nat->Bool} {x:ItmT} (h:FInv B f) (hk:(k:Int)<f.job.srcs) (hx:ItmOkP x) (hw:x.kind=3->x.n<=f.ckp.n)
    (hr:∀ i,i<f.tasks.n->sel i=true->(((f.tasks.g i).ins.g k).queue.n:Int)<f.job.room):FInv B (sendF f k sel x):=by
  obtain ⟨⟨h1,h2,h3,h4,h5,h6,h7,h8⟩,b1,b2,b3,b4,b5⟩:=h
  refine ⟨⟨h1,h2,h3,h4,h5,h6,λi hi => ?_,h8⟩,λi hi => ?_,b2,b3,λi hi c hc p hp e => ?_,b5⟩
  · show s9 f.job ((sendF f k sel x).tasks.g i)/\((sendF f k sel x).tasks.g i).wall<=f.ckp.n
    have hi:i<f.tasks.n:=hi
    rcases sendF_at (f:=f) (k:=k) (sel:=sel) (x:=x) i with e|⟨hs,hm,e⟩
    · rw [e];exact h7 i hi
    · rw [e]
      have ht:=(h7 i hi).1
      have hn:=ht.2.1
      exact ⟨putT_ok ht (by omega) (hr i hi hs) hx,(h7 i hi).2⟩
  · have hi:i<f.tasks.n:=hi
    rcases sendF_at (f:=f) (k:=k) (sel:=sel) (x:=x) i with e|⟨hs,hm,e⟩
    · rw [e];exact b1 i hi
    · rw [e];exact b1 i hi
  · have hi:i<f.tasks.n:=hi
    show _<=f.ckp.n
    rcases sendF_at (f:=f) (k:=k) (sel:=sel) (x:=x) i with e2|⟨hs,hm,e2⟩
    · rw [e2] at hc hp e ⊢;exact b4 i hi c hc p hp e
    · rw [e2] at hc hp e ⊢
      have hc:c<(f.tasks.g i).ins.n:=hc
      have eq:((putT (f.tasks.g i) k x hm).ins.g c)=if c=k then putI ((f.tasks.g i).ins.g k) x hm else (f.tasks.g i).ins.g c:=rfl
      rw [eq] at hp e ⊢
      by_cases z:c=k
      · rw [if_pos z] at hp e ⊢
        have hp:p<((f.tasks.g i).ins.g k).queue.n+1:=hp
        have e:(if p<((f.tasks.g i).ins.g k).queue.n then ((f.tasks.g i).ins.g k).queue.g p else x).kind=3:=e
        show (if p<((f.tasks.g i).ins.g k).queue.n then ((f.tasks.g i).ins.g k).queue.g p else x).n<=f.ckp.n
        by_cases q:p<((f.tasks.g i).ins.g k).queue.n
        · rw [if_pos q] at e ⊢;subst z;exact b4 i hi c hc p q e
        · rw [if_neg q] at e ⊢;exact hw e
      · rw [if_neg z] at hp e ⊢;exact b4 i hi c hc p hp e
def srcF (f:FloT) (k:Nat) (s:SrcT):FloT:=⟨f.job,f.logs,⟨f.srcs.n,λi=>if i=k then s else f.srcs.g i,f.srcs.hn⟩,f.tasks,f.sinks,f.ckp⟩
theorem finv_src {B:Int} {f:FloT} {k:Nat} {s:SrcT} (h:FInv B f) (ha:0<=s.at_/\s.at_<=((f.logs.g k).n:Int)) (hw:0<=s.wall/\s.wall<=f.ckp.n):FInv B (srcF f k s):=by
  obtain ⟨⟨h1,h2,h3,h4,h5,h6,h7,h8⟩,b1,b2,b3,b4,b5⟩:=h
  refine ⟨⟨h1,h2,h3,h4,h5,λi hi => ?_,h7,h8⟩,b1,b2,b3,b4,b5⟩
  obtain ⟨a1,a2,a3,a4⟩:=h6 i hi
  show LogOkP (f.logs.g i)/\(0<=(if i=k then s else f.srcs.g i).at_/\(if i=k then s else f.srcs.g i).at_<=((f.logs.g i).n:Int))/\f.ckp.safe.at_.g i<=((f.logs.g i).n:Int)/\(0<=(if i=k then s else f.srcs.g i).wall/\(if i=k then s else f.srcs.g i).wall<=f.ckp.n)
  by_cases e:i=k
  · rw [if_pos e,e];rw [e] at a1 a3;exact ⟨a1,ha,a3,hw⟩
  · rw [if_neg e];exact ⟨a1,a2,a3,a4⟩
def noteC (c:CkpT) (k:Nat) (v:Int):CkpT:=⟨c.n,c.opn,⟨c.src.n,λi=>if i=k then v else c.src.g i,c.src.hn⟩,c.tsk,c.snaps,c.safe⟩
theorem finv_note {B:Int} {f:FloT} {k:Nat} {v:Int} (h:FInv B f) (ho:f.ckp.opn=true) (hv : -1<=v/\v<=40) (hl:v<=((f.logs.g k).n:Int)):FInv B (i4 f (noteC f.ckp k v)):=by
  have hok:=h.ok.1
  obtain ⟨h1,h2,h3,h4,h5,h6,h7,h8,h9⟩:=hok
  refine finv_ckp h ⟨h1,h2,h3,h4,h5,h6,h7,λi hi => ?_,h9⟩ (Int.le_refl _) (λi hi=>(h.ok.2.2.2.2.2.1 i hi).2.2.1) h.bs h.bf λi hi => ?_
  · show SrcP f.ckp.opn (if i=k then v else f.ckp.src.g i)
    by_cases e:i=k
    · rw [if_pos e];exact ⟨hv,.inl ho⟩
    · rw [if_neg e];exact h8 i hi
  · show (if i=k then v else f.ckp.src.g i)<=((f.logs.g i).n:Int)
    by_cases e:i=k
    · rw [if_pos e,e];exact hl
    · rw [if_neg e];exact h.sr i hi
def taskF (f:FloT) (k:Nat) (t:TskT):FloT:=⟨f.job,f.logs,f.srcs,⟨f.tasks.n,λi=>if i=k then t else f.tasks.g i,f.tasks.hn⟩,f.sinks,f.ckp⟩
def QW (n:Int) (t:TskT):Prop:=∀ c,c<t.ins.n->∀ p,p<(t.ins.g c).queue.n->((t.ins.g c).queue.g p).kind=3->((t.ins.g c).queue.g p).n<=n
theorem finv_task {B C:Int} {f:FloT} {k:Nat} {t:TskT} (h:FInv B f) (hBC:B<=C) (ht:s9 f.job t) (hw:t.wall<=f.ckp.n) (hb:Bd C (n6 t.op)) (hq:QW f.ckp.n t):FInv C (taskF f k t):=by
  obtain ⟨⟨h1,h2,h3,h4,h5,h6,h7,h8⟩,b1,b2,b3,b4,b5⟩:=finv_mono h hBC
  refine ⟨⟨h1,h2,h3,h4,h5,h6,λi hi => ?_,h8⟩,λi hi => ?_,b2,b3,λi hi c hc p hp e => ?_,b5⟩
  · show s9 f.job (if i=k then t else f.tasks.g i)/\(if i=k then t else f.tasks.g i).wall<=f.ckp.n
    by_cases z:i=k
    · rw [if_pos z];exact ⟨ht,hw⟩
    · rw [if_neg z];exact h7 i hi
  · show Bd C (n6 (if i=k then t else f.tasks.g i).op)
    by_cases z:i=k
    · rw [if_pos z];exact hb
    · rw [if_neg z];exact b1 i hi
  · have eq:(taskF f k t).tasks.g i=if i=k then t else f.tasks.g i:=rfl
    rw [eq] at hc hp e ⊢
    by_cases z:i=k
    · rw [if_pos z] at hc hp e ⊢;exact hq c hc p hp e
    · rw [if_neg z] at hc hp e ⊢;exact b4 i hi c hc p hp e
def sinkF (f:FloT) (k:Nat) (s:SinkT):FloT:=⟨f.job,f.logs,f.srcs,f.tasks,⟨f.sinks.n,λi=>if i=k then s else f.sinks.g i,f.sinks.hn⟩,f.ckp⟩
theorem finv_sink {B:Int} {f:FloT} {k:Nat} {s:SinkT} (h:FInv B f) (hs:w6 s):FInv B (sinkF f k s):=by
  obtain ⟨⟨h1,h2,h3,h4,h5,h6,h7,h8⟩,b1,b2,b3,b4,b5⟩:=h
  refine ⟨⟨h1,h2,h3,h4,h5,h6,h7,λi hi => ?_⟩,b1,b2,b3,b4,b5⟩
  show w6 (if i=k then s else f.sinks.g i)
  by_cases z:i=k
  · rw [if_pos z];exact hs
  · rw [if_neg z];exact h8 i hi
def partC (c:CkpT) (k:Nat) (s:SnapT):CkpT:=⟨c.n,c.opn,c.src,⟨c.tsk.n,λi=>if i=k then true else c.tsk.g i,c.tsk.hn⟩,⟨c.snaps.n,λi=>if i=k then s else c.snaps.g i,c.snaps.hn⟩,c.safe⟩
theorem finv_part {B:Int} {f:FloT} {k:Nat} {s:SnapT} (h:FInv B f) (ho:f.ckp.opn=true) (hs:SnapOkP f.job s) (hb:Bd B (n6 s.op)):FInv B (i4 f (partC f.ckp k s)):=by
  obtain ⟨h1,h2,h3,h4,h5,h6,h7,h8,h9⟩:=h.ok.1
  refine finv_ckp h ⟨h1,h2,h3,h4,h5,h6,h7,h8,λi hi => ?_⟩ (Int.le_refl _) (λi hi=>(h.ok.2.2.2.2.2.1 i hi).2.2.1) (λi hi => ?_) h.bf h.sr
  · show TkP f.job f.ckp.opn (if i=k then true else f.ckp.tsk.g i) (if i=k then s else f.ckp.snaps.g i)
    by_cases z:i=k
    · rw [if_pos z,if_pos z];exact ⟨λ_=>⟨ho,hs⟩,λe=>by cases e⟩
    · rw [if_neg z,if_neg z];exact h9 i hi
  · show Bd B (n6 (if i=k then s else f.ckp.snaps.g i).op)
    by_cases z:i=k
    · rw [if_pos z];exact hb
    · rw [if_neg z];exact h.bs i hi
def snapOf (t:TskT):SnapT:=⟨t.op,⟨t.ins.n,λi=>(t.ins.g i).mark,t.ins.hn⟩⟩
theorem snapOf_ok {j:JobT} {t:TskT} (h:s9 j t):SnapOkP j (snapOf t):=⟨h.1,⟨h.2.1,λi hi=>(h.2.2.2.2.2.1 i hi).2.1⟩,h.2.2.2.2.2.2.2⟩
theorem tsk_anew {j:JobT} {s:SnapT} {w:Int} (h:SnapOkP j s) (hw:0<=w/\w<=900):s9 j ⟨(tskT s.op s.marks).ins,(tskT s.op s.marks).op,w,(tskT s.op s.marks).pend⟩:=by
  have ht:=(tskT_ok h.1 h.2.1).2 h.2.2
  obtain ⟨h1,h2,h3,h4,h5,h6,h7,h8⟩:=ht
  exact ⟨h1,h2,hw,h4,h5,h6,h7,h8⟩
theorem qw_pop {n:Int} {t:TskT} {k:Nat} (h:QW n t) (hk:k<t.ins.n):QW n (setC t k (popC (t.ins.g k))):=λc hc p hp e=>by
  have hc:c<t.ins.n:=hc
  have eq:(setC t k (popC (t.ins.g k))).ins.g c=if c=k then popC (t.ins.g k) else t.ins.g c:=rfl
  rw [eq] at hp e ⊢
  by_cases z:c=k
  · rw [if_pos z] at hp e ⊢
    have hp:p<(t.ins.g k).queue.n-1:=hp
    exact h k hk (p+1) (by omega) e
  · rw [if_neg z] at hp e ⊢;exact h c hc p hp e
def w8 (c:TskInT) (b:Bool):TskInT:=⟨c.queue,c.mark,b⟩
def freeT (t:TskT):TskT:=insT t λi=>w8 (t.ins.g i) false
def holdT (t:TskT) (k:Nat):TskT:=insT t λi=>if i=k then w8 (t.ins.g k) true else t.ins.g i
def withW (t:TskT) (n:Int):TskT:=⟨t.ins,t.op,n,t.pend⟩
def zTxn:TxnT:=⟨0,⟨0,λ_=>zPan,Nat.zero_le _⟩,⟨0,λ_=>zLat,Nat.zero_le _⟩⟩
def heldN (t:TskT):Nat:=cntB (λi=>(t.ins.g i).held) t.ins.n
def p4 (t:TskT) (k:Nat) (n:Int):TskT:=holdT (if t.wall<n then withW (freeT t) n else t) k
def wallT (t:TskT) (k:Nat) (n:Int):TskT × Option TxnT:=
  if n<t.wall then (t,none)
  else if heldN (p4 t k n)<t.ins.n then (p4 t k n,none)
  else (⟨(freeT (p4 t k n)).ins,t.op,(p4 t k n).wall,zTxn⟩,some ⟨n,t.pend.panes,t.pend.lates⟩)
theorem wallOne_same (t:TskT) (k:Nat) (n:Int):(p4 t k n).ins.n=t.ins.n/\(p4 t k n).op=t.op/\(p4 t k n).pend=t.pend/\(∀ i,((p4 t k n).ins.g i).queue=(t.ins.g i).queue/\((p4 t k n).ins.g i).mark=(t.ins.g i).mark)/\(p4 t k n).wall=if t.wall<n then n else t.wall:=by
  unfold p4
  by_cases c:t.wall<n
  · rw [if_pos c,if_pos c]
    refine ⟨rfl,rfl,rfl,λi => ?_,rfl⟩
    show (if i=k then w8 (w8 (t.ins.g k) false) true else w8 (t.ins.g i) false).queue=_/\(if i=k then w8 (w8 (t.ins.g k) false) true else w8 (t.ins.g i) false).mark=_
    by_cases e:i=k
    · rw [if_pos e,e];exact ⟨rfl,rfl⟩
    · rw [if_neg e];exact ⟨rfl,rfl⟩
  · rw [if_neg c,if_neg c]
    refine ⟨rfl,rfl,rfl,λi => ?_,rfl⟩
    show (if i=k then w8 (t.ins.g k) true else t.ins.g i).queue=_/\(if i=k then w8 (t.ins.g k) true else t.ins.g i).mark=_
    by_cases e:i=k
    · rw [if_pos e,e];exact ⟨rfl,rfl⟩
    · rw [if_neg e];exact ⟨rfl,rfl⟩
theorem txn_zero:TxnOkP zTxn:=⟨⟨Int.le_refl _,(by decide:(0:Int)<=900)⟩,(by decide:((0:Nat):Int)<=1500),(by decide:((0:Nat):Int)<=1500),λi hi=>absurd hi (Nat.not_lt_zero i),λi hi=>absurd hi (Nat.not_lt_zero i)⟩
theorem wall_ok {j:JobT} {t:TskT} {k:Nat} {n:Int} (h:s9 j t) (hn:0<=n/\n<=900):s9 j (wallT t k n).1/\(wallT t k n).1.op=t.op/\(∀ m,t.wall<=m->n<=m->(wallT t k n).1.wall<=m)/\(∀ m,QW m t->QW m (wallT t k n).1)/\∀ x,(wallT t k n).2=some x->TxnOkP x/\x.n=n/\x.panes=t.pend.panes/\x.lates=t.pend.lates:=by
  obtain ⟨s1,s2,s3,s4,s5⟩:=wallOne_same t k n
  have hpos:0<t.ins.n:=by
    have:=h.2.2.2.2.2.2.1
    omega
  have hwl:0<=(p4 t k n).wall/\(p4 t k n).wall<=900:=by
    have:=h.2.2.1
    rw [s5];split<;>omega
  have hwm:∀ m,t.wall<=m->n<=m->(p4 t k n).wall<=m:=λm h1 h2=>by rw [s5];split<;>omega
  have hq:∀ (g:Nat->TskInT),(∀ i,(g i).queue=(t.ins.g i).queue)->∀ m,QW m t->QW m (insT t g):=λg hg m hm c hc p hp e=>by
    have e1:=hg c
    have hp:p<(g c).queue.n:=hp
    have e:((g c).queue.g p).kind=3:=e
    show ((g c).queue.g p).n<=m
    rw [e1] at hp e ⊢
    exact hm c hc p hp e
  unfold wallT
  by_cases c1:n<t.wall
  · rw [if_pos c1]
    exact ⟨h,rfl,λm h1 _=>h1,λm hm=>hm,λx hx=>by cases hx⟩
  · rw [if_neg c1]
    by_cases c2:heldN (p4 t k n)<t.ins.n
    · rw [if_pos c2]
      refine ⟨?_,s2,hwm,λm hm => ?_,λx hx=>by cases hx⟩
      · have:=tsk_held (g:=(p4 t k n).ins.g) (wall:=(p4 t k n).wall) (pend:=t.pend) h hwl (λi _=>s4 i) (by unfold heldN at c2;rw [s1] at c2;exact c2) h.2.2.2.1 h.2.2.2.2.1
        have e:p4 t k n=⟨⟨t.ins.n,(p4 t k n).ins.g,t.ins.hn⟩,t.op,(p4 t k n).wall,t.pend⟩:=by
          unfold p4 holdT insT
          split<;>rfl
        rw [e];exact this
      · have:=hq (p4 t k n).ins.g (λi=>(s4 i).1) m hm
        intro c hc p hp e
        rw [s1] at hc
        exact this c hc p hp e
    · rw [if_neg c2]
      refine ⟨?_,rfl,hwm,λm hm => ?_,λx hx => ?_⟩
      · have h0:cntB (λi=>(w8 ((p4 t k n).ins.g i) false).held) t.ins.n<t.ins.n:=by
          show cntB (λ_=>false) t.ins.n<t.ins.n
          rw [cntB_false];exact hpos
        have:=tsk_held (g:=λi=>w8 ((p4 t k n).ins.g i) false) (wall:=(p4 t k n).wall) (pend:=zTxn) h hwl (λi _=>s4 i) h0 txn_zero rfl
        have e:(freeT (p4 t k n)).ins=⟨t.ins.n,λi=>w8 ((p4 t k n).ins.g i) false,t.ins.hn⟩:=by
          unfold freeT p4 holdT insT
          split<;>rfl
        show s9 j ⟨(freeT (p4 t k n)).ins,t.op,(p4 t k n).wall,zTxn⟩
        rw [e];exact this
      · have:=hq (λi=>w8 ((p4 t k n).ins.g i) false) (λi=>(s4 i).1) m hm
        intro c hc p hp e
        have hc:c<(p4 t k n).ins.n:=hc
        rw [s1] at hc
        exact this c hc p hp e
      · cases hx
        exact ⟨⟨hn,h.2.2.2.1.2⟩,rfl,rfl,rfl⟩
theorem lst_mem2 {α:Type} {z : α} {l:List α} {n:Nat} {g:Nat -> α} (h:Lst z l n g) {i:Nat} (hi:i<n):g i∈l:=by
  have hl:i<l.length:=by rw [<- h.1];exact hi
  rw [h.2 i hi,List.getD_eq_getElem?_getD,List.getElem?_eq_getElem hl]
  exact List.getElem_mem hl
theorem late_ok {j:JobT} {s:OpStT} {x:ItmT} {l:LatT} (h:l∈(w5 j s x).2.2.2):LatOkP l:=by
  obtain ⟨h1,h2,h3,h4,_⟩:=take_lates h
  have ht:=recP_t h2
  have hw:=winsL_ok h1.1 ht h4
  obtain ⟨a1,a2,a3,i,a4⟩:=winsL_mem h4
  refine ⟨⟨by rw [h3];exact h2.1,by rw [h3];exact h2.2⟩,hw,?_⟩
  have hb:=hw
  unfold WinOkP at hb
  rw [h3,IntWalk.i64_in _ (by omega)]
  omega
theorem rec_ok {j:JobT} {t:TskT} {x:ItmT} {B:Int} {y:Int × List RowT × List PaneT × List LatT} (h:s9 j t) (hx:RecP x) (h280:t.op.rows.n<=280) (hp:t.pend.panes.n<=1200) (hl:t.pend.lates.n<=1480) (hB:0<=B/\B<=880) (hb:Bd B (n6 t.op)) (hy:y=w5 j t.op x)
    {k:Nat} {G:Nat->RowT} (hG:Lst u6 y.2.1 k G) (hk:k<=maxLen) {c:Nat} {P:Nat->PaneT} (hP:Lst zPan y.2.2.1 c P) {d:Nat} {Q:Nat->LatT} (hQ:Lst zLat y.2.2.2 d Q) {hm1:t.pend.panes.n+c<=maxLen} {hm2:t.pend.lates.n+d<=maxLen} :
    s9 j ⟨t.ins,⟨y.1,⟨k,G,hk⟩⟩,t.wall,⟨t.pend.n,appS t.pend.panes c P hm1,appS t.pend.lates d Q hm2⟩⟩/\Bd (B+4) (n6 ⟨y.1,⟨k,G,hk⟩⟩):=by
  obtain ⟨a1,a2,a3,a4⟩:=take_stays2 hy h.1 hx h280 hB hb hG hk
  have hfew:=take_few (j:=j) (x:=x) h280
  rw [<- hy] at hfew
  have hc:=hP.1
  have hd:=hQ.1
  refine ⟨tsk_op h a1 a2 (txn_app h.2.2.2.1 (by omega) (by omega) (λi hi=>a4 _ (lst_mem2 hP hi)) λi hi => ?_) h.2.2.2.2.1,a3⟩
  have:=lst_mem2 hQ hi
  rw [hy] at this
  exact late_ok this
def markI (c:TskInT) (m:Int):TskInT:=⟨c.queue,if c.mark<m then m else c.mark,c.held⟩
def markCh (t:TskT) (k:Nat) (m:Int):Nat->TskInT:=λi=>if i=k then markI (t.ins.g k) m else t.ins.g i
theorem markT_ok {j:JobT} {t:TskT} {k:Nat} {m low B:Int} {y:Int × List RowT × List PaneT} (h:s9 j t) (hm:0<=m/\m<=1000) (h280:t.op.rows.n<=280) (hp:t.pend.panes.n<=1200) (hB:0<=B) (hb:Bd B (n6 t.op)) (hk:k<t.ins.n)
    (hlow:LowP 1000 t.ins.n (λi=>(markCh t k m i).mark) low) (hy:y=opMarkL j t.op low) {q:Nat} {G:Nat->RowT} (hG:Lst u6 y.2.1 q G) (hq:q<=maxLen) {c:Nat} {P:Nat->PaneT} (hP:Lst zPan y.2.2 c P) {hm1:t.pend.panes.n+c<=maxLen} {hm2:t.pend.lates.n+0<=maxLen} {Q:Nat->LatT} :
    s9 j ⟨⟨t.ins.n,markCh t k m,t.ins.hn⟩,⟨y.1,⟨q,G,hq⟩⟩,t.wall,⟨t.pend.n,appS t.pend.panes c P hm1,appS t.pend.lates 0 Q hm2⟩⟩/\Bd (B+1) (n6 ⟨y.1,⟨q,G,hq⟩⟩):=by
  have hrise:∀ i,i<t.ins.n->(t.ins.g i).mark<=(markCh t k m i).mark:=λi hi=>by
    unfold markCh
    by_cases e:i=k
    · rw [if_pos e,e]
      show (t.ins.g k).mark<=if (t.ins.g k).mark<m then m else (t.ins.g k).mark
      split<;>omega
    · rw [if_neg e];exact Int.le_refl _
  obtain ⟨l1,l2,l3⟩:=low_rise h hrise hlow
  obtain ⟨a1,a2,a3⟩:=mark_stays2 hy h.1 ⟨l2,l3⟩ hB hb hG hq
  have e1:y.1=low:=by rw [hy];exact mark_eq h.1 ⟨l2,l3⟩ l1
  have hpan:=mark_pan (j:=j) (s:=t.op) (m:=low)
  rw [<- hy] at hpan
  have hc:=hP.1
  have hlat:=h.2.2.2.1.2.2.1
  refine ⟨tsk_marks h (λi hi => ?_) hlow a1 e1 (txn_app h.2.2.2.1 (by omega) (by omega) (λi hi=>a3 _ (lst_mem2 hP hi)) λi hi=>absurd hi (Nat.not_lt_zero i)) h.2.2.2.2.1,a2⟩
  have hi6:=h.2.2.2.2.2.1 i hi
  unfold markCh
  by_cases e:i=k
  · rw [if_pos e]
    rw [e] at hi6
    refine ⟨⟨hi6.1,?_,hi6.2.2⟩,by rw [e];rfl⟩
    have:=hi6.2.1
    show 0<=(if (t.ins.g k).mark<m then m else (t.ins.g k).mark)/\(if (t.ins.g k).mark<m then m else (t.ins.g k).mark)<=1000
    split<;>omega
  · rw [if_neg e];exact ⟨hi6,rfl⟩
structure CmI (s:SinkT) (k:Nat) (a:SinkT):Prop where
  ok:w6 a
  few:a.ready.n<=k
  low:∀ i,k<=i->i<s.ready.n->a.n<(s.ready.g i).n/\(0<a.ready.n->(a.ready.g (a.ready.n-1)).n<(s.ready.g i).n)
theorem rd_rise {m:Int} {g:Nat->TxnT} {n:Nat} (h:∀ i,i<n->RdI m g i) {i:Nat}:∀ {k:Nat},i<k->k<n->(g i).n<(g k).n
  | 0,hi,_=>absurd hi (Nat.not_lt_zero i)
  | k+1,hi,hk=>by
    have h1:=rd_two h hk
    by_cases e:i=k
    · rw [e];exact h1
    · have h2:=rd_rise h (i:=i) (k:=k) (by omega) (by omega)
      omega
theorem cm_zero {s:SinkT} (h:w6 s) {g:Nat->TxnT} {h0:0<=maxLen}:CmI s 0 ⟨⟨0,g,h0⟩,s.n,s.panes,s.lates⟩:=
  ⟨⟨Nat.zero_le _,h.2.1,h.2.2.1,λi hi=>absurd hi (Nat.not_lt_zero i)⟩,Nat.le_refl _,λi _ hi=>⟨(rd_get h.2.2.2 hi).2,λh0=>absurd h0 (Nat.lt_irrefl 0)⟩⟩
theorem cm_skip {s a:SinkT} {k:Nat} (h:CmI s k a):CmI s (k+1) a:=⟨h.ok,by have:=h.few;omega,λi hi=>h.low i (by omega)⟩
theorem cm_push {s a:SinkT} {k:Nat} {hm:a.ready.n+1<=maxLen} (hs:w6 s) (h:CmI s k a) (hk:k<s.ready.n):CmI s (k+1) ⟨⟨a.ready.n+1,λi=>if i<a.ready.n then a.ready.g i else s.ready.g k,hm⟩,a.n,a.panes,a.lates⟩:=by
  have h12:=hs.1
  have hf:=h.few
  obtain ⟨l1,l2⟩:=h.low k (Nat.le_refl k) hk
  refine ⟨sink_new h.ok (rd_get hs.2.2.2 hk).1 (by omega) l1 l2,by show a.ready.n+1<=k+1;omega,λi hi hi2=>⟨(h.low i (by omega) hi2).1,λ_ => ?_⟩⟩
  show (if a.ready.n+1-1<a.ready.n then a.ready.g (a.ready.n+1-1) else s.ready.g k).n<(s.ready.g i).n
  rw [if_neg (by omega)]
  exact rd_rise hs.2.2.2 (by omega) hi2
theorem cm_take {s a:SinkT} {k:Nat} {h1:a.panes.n+(s.ready.g k).panes.n<=maxLen} {h2:a.lates.n+(s.ready.g k).lates.n<=maxLen} (hs:w6 s) (h:CmI s k a) (hk:k<s.ready.n) (h0:a.ready.n=0) (hp:a.panes.n+(s.ready.g k).panes.n<=1500) (hl:a.lates.n+(s.ready.g k).lates.n<=1500) :
    CmI s (k+1) ⟨a.ready,(s.ready.g k).n,appS a.panes (s.ready.g k).panes.n (s.ready.g k).panes.g h1,appS a.lates (s.ready.g k).lates.n (s.ready.g k).lates.g h2⟩:=by
  have hx:=(rd_get hs.2.2.2 hk).1
  have ha:=h.ok.2.2.1
  refine ⟨⟨by show a.ready.n<=12;omega,hx.1,⟨?_,?_,appS_all ha.2.2.1 hx.2.2.2.1,appS_all ha.2.2.2 hx.2.2.2.2⟩,λi hi => ?_⟩,by show a.ready.n<=k+1;omega,λi hi hi2=>⟨rd_rise hs.2.2.2 (by omega) hi2,λhc => ?_⟩⟩
  · show ((a.panes.n+(s.ready.g k).panes.n:Nat):Int)<=1500;omega
  · show ((a.lates.n+(s.ready.g k).lates.n:Nat):Int)<=1500;omega
  · have hi:i<a.ready.n:=hi
    omega
  · have hc:0<a.ready.n:=hc
    omega
def zOpS:OpStT:=⟨0,zSlR⟩
def zSink:SinkT:=⟨⟨0,λ_=>zTxn,Nat.zero_le _⟩,0,⟨0,λ_=>zPan,Nat.zero_le _⟩,⟨0,λ_=>zLat,Nat.zero_le _⟩⟩
def newF (j:JobT) (logs:Sl (Sl ItmT)) (a b:Nat) (ha:a<=3) (hb:b<=2):FloT:=
  ⟨j,logs,⟨logs.n,λ_=>⟨0,0⟩,logs.hn⟩,⟨b,λ_=>tskT zOpS ⟨a,λ_=>0,t8 ha⟩,t8 (Nat.le_trans hb (by decide))⟩,⟨b,λ_=>zSink,t8 (Nat.le_trans hb (by decide))⟩,newC a b ha hb⟩
theorem sink_zero:w6 zSink:=⟨Nat.zero_le _,⟨Int.le_refl _,(by decide:(0:Int)<=900)⟩,⟨(by decide:((0:Nat):Int)<=1500),(by decide:((0:Nat):Int)<=1500),λi hi=>absurd hi (Nat.not_lt_zero i),λi hi=>absurd hi (Nat.not_lt_zero i)⟩,λi hi=>absurd hi (Nat.not_lt_zero i)⟩
theorem newF_inv {j:JobT} (hj:t9 j) {logs:Sl (Sl ItmT)} {a b:Nat} (ha1:1<=a) (ha:a<=3) (hb:b<=2) (ja:(a:Int)=j.srcs) (jb:(b:Int)=j.tsks) (hl:(logs.n:Int)=j.srcs) (hok:∀ i,i<logs.n->LogOkP (logs.g i)):FInv 0 (newF j logs a b ha hb):=by
  have hop:OpOkP j zOpS:=⟨hj,⟨Int.le_refl _,(by decide:(0:Int)<=1000)⟩,Nat.zero_le _,λi hi=>absurd hi (Nat.not_lt_zero i)⟩
  have hms:MarksP j ⟨a,λ_=>0,t8 ha⟩:=⟨ja,λ_ _=>⟨Int.le_refl _,(by decide:(0:Int)<=1000)⟩⟩
  have hlow:LowP 1000 a (λ_=>0) 0:=⟨by decide,λ_ _=>Int.le_refl _,.inr ⟨0,ha1,rfl⟩⟩
  have hts:s9 j (tskT zOpS ⟨a,λ_=>0,t8 ha⟩):=(tskT_ok hop hms).2 hlow
  refine ⟨⟨newC_ok hj ha1 ha hb ja jb,hl,hl,jb,jb,λi hi=>⟨hok i hi,⟨Int.le_refl _,?_⟩,?_,⟨Int.le_refl _,Int.le_refl _⟩⟩,λi hi=>⟨hts,Int.le_refl _⟩,λi hi=>sink_zero⟩,λi hi=>bd_nil (Int.le_refl _),λi hi=>bd_nil (Int.le_refl _),λi hi=>bd_nil (Int.le_refl _),λi hi c hc p hp=>absurd hp (Nat.not_lt_zero p),λi hi => ?_⟩
  · show (0:Int)<=((logs.g i).n:Int);omega
  · show (0:Int)<=((logs.g i).n:Int);omega
  · show (-1:Int)<=((logs.g i).n:Int);omega
theorem in_bd {j:JobT} {c:TskInT} (hj:t9 j) (h:InOkP j c):bdTskIn c:=by
  have h1:=h.1
  have h2:=hj.2.2.2.2.2.2.2.2.2
  show c.queue.n<=1048576
  omega
theorem txn_bd {x:TxnT} (h:TxnOkP x):bdTxn x:=by
  have h1:=h.2.1
  have h2:=h.2.2.1
  exact ⟨by omega,by omega⟩
theorem op_bd {j:JobT} {s:OpStT} (h:OpOkP j s):bdOpSt s:=by
  have:=h.2.2.1
  show s.rows.n<=1048576
  omega
theorem tsk_bd {j:JobT} {t:TskT} (h:s9 j t):bdTsk t:=by
  have hj:=h.1.1
  have h2:=h.2.1
  have hs:=hj.1
  exact ⟨by omega,λi hi=>in_bd hj (h.2.2.2.2.2.1 i hi),op_bd h.1,txn_bd h.2.2.2.1⟩
theorem sink_bd {s:SinkT} (h:w6 s):bdSink s:=by
  have h1:=h.1
  have h2:=h.2.2.1.1
  have h3:=h.2.2.1.2.1
  exact ⟨by omega,λi hi=>txn_bd (h.2.2.2 i hi).1,by omega,by omega⟩
theorem snap_bd {j:JobT} {s:SnapT} (hj:t9 j) (h:SnapOkP j s):bdSnap s:=by
  have h1:=h.2.1.1
  have hs:=hj.1
  exact ⟨op_bd h.1,by omega⟩
theorem ckp_bd {j:JobT} {c:CkpT} (h:CkpOkP j c):bdCkp c:=by
  obtain ⟨hj,⟨_,s2,_,s4,s5⟩,_,_,h5,h6,h7,_,h9⟩:=h
  have hs:=hj.1
  have ht:=hj.2.1
  refine ⟨by omega,by omega,by omega,λi hi => ?_,by omega,by omega,λi hi=>snap_bd hj (s5 i hi)⟩
  have hi2:i<c.tsk.n:=by omega
  cases e:c.tsk.g i with
  | true=>exact snap_bd hj ((h9 i hi2).1 e).2
  | false=>
    obtain ⟨_,e2,e3⟩:=(h9 i hi2).2 e
    exact ⟨by show (c.snaps.g i).op.rows.n<=1048576;omega,by omega⟩
theorem flo_bd {f:FloT} (h:FloOkP f):bdFlo f:=by
  obtain ⟨h1,h2,h3,h4,h5,h6,h7,h8⟩:=h
  have hs:=h1.1.1
  have ht:=h1.1.2.1
  refine ⟨by omega,λi hi => ?_,by omega,by omega,λi hi=>tsk_bd (h7 i hi).1,by omega,λi hi=>sink_bd (h8 i hi),ckp_bd h1⟩
  have:=(h6 i hi).1.1.2
  omega
def anewT (s:SnapT) (w:Int):TskT:=⟨(tskT s.op s.marks).ins,(tskT s.op s.marks).op,w,(tskT s.op s.marks).pend⟩
def crashF (f:FloT) (G1:Nat->SrcT) (GT:Nat->TskT) (GS:Nat->SinkT):FloT:=⟨f.job,f.logs,⟨f.srcs.n,G1,f.srcs.hn⟩,⟨f.tasks.n,GT,f.tasks.hn⟩,⟨f.sinks.n,GS,f.sinks.hn⟩,f.ckp⟩
theorem finv_crash {B:Int} {f:FloT} {G1:Nat->SrcT} {GT:Nat->TskT} {GS:Nat->SinkT} (h:FInv B f) (h1:∀ i,i<f.srcs.n->G1 i=⟨f.ckp.safe.at_.g i,f.ckp.n⟩) (h2:∀ i,i<f.tasks.n->GT i=anewT (f.ckp.safe.snaps.g i) f.ckp.n) (h3:∀ i,i<f.sinks.n->w6 (GS i)):FInv B (crashF f G1 GT GS):=by
  obtain ⟨⟨o1,o2,o3,o4,o5,o6,o7,o8⟩,b1,b2,b3,b4,b5⟩:=h
  have hso:=o1.2.1
  have hn0:0<=f.ckp.n/\f.ckp.n<=900:=by
    have:=o1.2.2.1
    have:=hso.1
    omega
  have hsn:f.ckp.safe.snaps.n=f.tasks.n:=Int.ofNat.inj (hso.2.2.2.1.trans o4.symm)
  have hsa:f.ckp.safe.at_.n=f.logs.n:=Int.ofNat.inj (hso.2.1.trans o2.symm)
  have hls:f.logs.n=f.srcs.n:=Int.ofNat.inj (o2.trans o3.symm)
  refine ⟨⟨o1,o2,o3,o4,o5,λi hi => ?_,λi hi => ?_,h3⟩,λi hi => ?_,b2,b3,λi hi c hc p hp e => ?_,b5⟩
  · have hi:i<f.logs.n:=hi
    obtain ⟨a1,a2,a3,a4⟩:=o6 i hi
    refine ⟨a1,?_,a3,?_⟩
    · show 0<=(G1 i).at_/\(G1 i).at_<=((f.logs.g i).n:Int)
      rw [h1 i (by omega)]
      exact ⟨(hso.2.2.1 i (by omega)).1,a3⟩
    · show 0<=(G1 i).wall/\(G1 i).wall<=f.ckp.n
      rw [h1 i (by omega)]
      exact ⟨hn0.1,Int.le_refl _⟩
  · have hi:i<f.tasks.n:=hi
    show s9 f.job (GT i)/\(GT i).wall<=f.ckp.n
    rw [h2 i hi]
    exact ⟨tsk_anew (hso.2.2.2.2 i (by omega)) hn0,Int.le_refl _⟩
  · have hi:i<f.tasks.n:=hi
    show Bd B (n6 (GT i).op)
    rw [h2 i hi]
    exact b3 i (by omega)
  · have hi:i<f.tasks.n:=hi
    have eq:(crashF f G1 GT GS).tasks.g i=GT i:=rfl
    rw [eq,h2 i hi] at hp
    exact absurd hp (Nat.not_lt_zero p)
end Go.Rk
namespace Go.Rk
set_option linter.unusedSimpArgs false
set_option linter.unusedVariables false
open Go.Proofs
set_option maxRecDepth 100000
set_option maxHeartbeats 20000000
def st_lgs (m:Nat) (b:Nat->Int) (j:JobT) (i:Nat) (q:Int) (L:Nat->Sl ItmT):St:=⟨[(6,.c (.d (eI i))),(5,.c (.own 448 0 i 1)),(3,.c (.bp 192 1 0)),(0,.c (.bp 0 1 0))],[(448,1,.arr 1 i λz=>[.sl 5 (L z).n λk=>n9 ((L z).g k)]),(192,1,.box ((u7 j).map .d)),(0,1,.box [.d (.sl 1 m λi=>[eU (b i)]),.d (eI q)])]⟩
theorem x_logD (m:Nat) (hm:m<=2000) (b:Nat->Int) (hb:∀ i,0<=b i/\b i<=255) (p:Int) (hp:0<=p/\p<=100000) (n:Nat) (hn:n<=27):∃ y:Sl ItmT × Int,(p<=y.2/\y.2<=p+400/\LogOkP y.1)/\d7 Tryz.prog 108 [.c (.box [.d (.sl 1 m λi=>[eU (b i)]),.d (eI p)]),.c (.d (eI n))] ⟨.one (.c (.d (.sl 5 y.1.n λi=>n9 (y.1.g i)))),[some (.box [.d (.sl 1 m λi=>[eU (b i)]),.d (eI y.2)]),none]⟩:=by
  obtain ⟨y,hy,h⟩:=x_log m hm b hb p hp n hn
  exact ⟨y,hy,meets_frz h rfl⟩
theorem x_logs (m:Nat) (hm:m<=2000) (b:Nat->Int) (hb:∀ i,0<=b i/\b i<=255) (p:Int) (hp:0<=p/\p<=50000) (j:JobT) (hj:t9 j):∃ y:(Sl (Sl ItmT)) × Int,(p<=y.2/\y.2<=p+2000/\(y.1.n:Int)=j.srcs/\∀ i,i<y.1.n->LogOkP (y.1.g i))/\d7 Tryz.prog 88 [.c (.box [.d (.sl 1 m λi=>[eU (b i)]),.d (eI p)]),xd (u7 j)] ⟨.one (.c (.d (.sl 1 y.1.n λi=>[.sl 5 (y.1.g i).n λk=>n9 ((y.1.g i).g k)]))),[some (.box [.d (.sl 1 m λi=>[eU (b i)]),.d (eI y.2)]),none]⟩:=by
  have hs:=hj.1
  obtain ⟨a,ha⟩:∃ a:Nat,a=j.srcs.toNat:=⟨_,rfl⟩
  have ja:(a:Int)=j.srcs:=by rw [ha];exact Int.toNat_of_nonneg (by omega)
  have ha3:a<=3:=by omega
  refine u0 (H:=[]) (EX:=EXD) l6 e8 ([some (.box [.d (.sl 1 m λi=>[eU (b i)]),.d (eI 0)]),none]) Tryz.func88 rfl (by kernel_rfl) (by decide) (λ_=>rfl) ?_
  generalize hA:real=A
  generalize hM:d4 Tryz.prog=M
  cbv
  repeat' first|apply And.intro|exact True.intro|with_reducible rfl|exact b7 hA rfl|apply c8 hA<;>intro _|exact c6 hA id | (subst hA;exact λh=>h) | (refine c5 hA ?_;decide +kernel)|fail
  refine i7 hA (α := { y:Nat × Int × (Nat->Sl ItmT) // y.1<=a/\p<=y.2.1/\y.2.1<=p+500*(y.1:Int)/\∀ z,z<y.1->LogOkP (y.2.2 z) }) (λy=>st_lgs m b j y.1.1 y.1.2.1 y.1.2.2) (λy=>a-y.1.1) ⟨(0,p,λ_=>⟨0,λ_=>zItm,Nat.zero_le _⟩),Nat.zero_le _,Int.le_refl _,by (show p<=p+500*0);omega,λz hz=>absurd hz (Nat.not_lt_zero z)⟩ ?_ ?_
  · refine c7 ?_ ?_ ?_
    iterate 3 focus (subst hA;repeat' first|exact True.intro|exact rfl |  apply And.intro | (intro _ _;rfl) | (intro _ _ _;rfl) | (intro q hq;exact absurd hq (Nat.not_lt_zero q))|exact .inr (b8 rfl)|exact .inl rfl|exact .inr (Nat.le_refl _)|fail)
  rintro ⟨⟨i,q1,L⟩,hi,hq0,hq1,hL⟩
  have hi:i<=a:=hi
  have hq0:p<=q1:=hq0
  have hq1:q1<=p+500*(i:Int):=hq1
  have hqb:q1<=p+1500:=by omega
  have hqn:q1+500<=p+500*((i+1:Nat):Int):=by omega
  have hL:∀ z,z<i->LogOkP (L z):=hL
  cbv
  repeat' first|apply And.intro|exact True.intro|with_reducible rfl|exact b7 hA rfl|apply c8 hA<;>intro _|exact c6 hA id | (subst hA;exact λh=>h) | (refine c5 hA ?_;decide +kernel) | (obtain ⟨xn,rfl⟩:=Int.eq_ofNat_of_zero_le hx0;refine d6 hA hM (x_logD m hm b hb _ (by omega) xn (by omega)) ?_;rintro ⟨l,q2⟩ ⟨hq2,hq3,hlo⟩;dsimp only at hq2 hq3 hlo;cbv) | (refine d6 hA hM (m7 m hm b hb _ (by omega) _ (by omega)) ?_;rintro ⟨x,q⟩ ⟨hx0,hx1,hq⟩;dsimp only at hx0 hx1 hq;cbv)|exact f6 hA (show i+1<=2000000 by omega) (by decide) | (refine b7 hA ?_;subst hA;rfl)|fail
  · rename_i hlt
    have hlt':i<a:=by
      subst hA
      have hlt:(i:Int)<j.srcs:=of_decide_eq_true hlt
      omega
    have hiL:a<=maxLen:=Nat.le_trans ha3 (by decide)
    refine ⟨⟨(i+1,q2,λz=>if z<i then L z else l),hlt',by (show p<=q2);omega,Int.le_trans (by (show q2<=q1+500);omega) hqn,λz hz => ?_⟩,by simp only;omega,c7 ?_ ?_ ?_⟩
    · show LogOkP (if z<i then L z else l)
      by_cases e:z<i
      · rw [if_pos e];exact hL z e
      · rw [if_neg e];exact hlo
    iterate 3 focus (subst hA;repeat' first|exact True.intro|exact rfl|exact congrArg (λx=>DV.v (.int .i64 x)) (o0 hlt' hiL)|exact push_rows (R':=λz=>[.sl 5 (if z<i then L z else l).n λk=>n9 ((if z<i then L z else l).g k)]) (λz hz=>congrArg (λy:Sl ItmT=>[DV.sl 5 y.n λk=>n9 (y.g k)]) (if_pos hz).symm) (congrArg (λy:Sl ItmT=>[DV.sl 5 y.n λk=>n9 (y.g k)]) (if_neg (Nat.lt_irrefl _)).symm) |  apply And.intro | (intro _ _;rfl) | (intro _ _ _;rfl) | (intro q hq;exact absurd hq (Nat.not_lt_zero q))|exact .inr (b8 rfl)|exact .inl rfl|exact .inr (Nat.le_refl _)|fail)
  · rename_i hge
    have hin:i=a:=by
      subst hA
      have:¬ ((i:Int)<j.srcs):=of_decide_eq_false hge
      omega
    have hiM:i<=maxLen:=Nat.le_trans hi (Nat.le_trans ha3 (by decide))
    refine i8 hA ⟨(⟨i,L,hiM⟩,q1),⟨hq0,by (show q1<=p+2000);omega,by (show (i:Int)=j.srcs);omega,hL⟩,by (subst hA;rfl),?_,rfl⟩
    (subst hA;repeat' first|apply And.intro|exact True.intro|exact DLe.rfl|exact f8 _ _ |  exact m9 rfl)
set_option maxHeartbeats 2000000
def st_skc (s:SinkT) (i:Nat):St:=⟨[(4,.c (.d (eI i))),(1,.c (.bp 64 1 0)),(3,.c (.bp 192 1 0)),(2,.c (.bp 128 1 0))],[(192,1,.box [.nown 8000 i 1,.d (eI s.n),.own 448 0 s.panes.n 1,.own 704 0 s.lates.n 1]),(448,1,.arr 9 s.panes.n λi=>m6 (s.panes.g i)),(704,1,.arr 7 s.lates.n λi=>eLat (s.lates.g i)),(8000,1,.nest 3 i (λj=>eTxn (s.ready.g j)) none),(128,1,.box [.d (.v c9),.d (eI 0),.d (.v c9),.d (.v c9)]),(64,1,.box ((s0 s).map .d))]⟩
theorem c_sSinkC (s:SinkT) (hb:bdSink s):d7 Tryz.prog 120 [xd (s0 s)] ⟨.one (.agg [.nown 3 s.ready.n λi=>eTxn (s.ready.g i),.d (eI s.n),.own 9 s.panes.n λi=>m6 (s.panes.g i),.own 7 s.lates.n λi=>eLat (s.lates.g i)]),[none]⟩:=by
  have hb1:s.panes.n<=1048576:=hb.2.2.1
  have hb2:s.lates.n<=1048576:=hb.2.2.2
  have hn:s.ready.n<=1048576:=hb.1
  have hn2:s.ready.n<=maxLen:=s.ready.hn
  refine d5 (H:=[]) (EX:=EXA) l6 e8 Tryz.func120 rfl (by kernel_rfl) (by decide) ?_
  generalize hA:real=A
  generalize hM:d4 Tryz.prog=M
  cbv
  repeat' first|apply And.intro|exact True.intro|with_reducible rfl|exact b7 hA rfl|apply c8 hA<;>intro _|exact c6 hA id | (subst hA;exact λh=>h) | (refine c5 hA ?_;decide +kernel)|exact room_z hA (Nat.le_trans hb1 (by decide)) (by decide)|exact f6 hA (Nat.le_trans hb1 (by decide)) (by decide)|exact w9 hA (Nat.le_trans hb1 (by decide)) (by decide)|exact room_z hA (Nat.le_trans hb2 (by decide)) (by decide)|exact f6 hA (Nat.le_trans hb2 (by decide)) (by decide)|exact w9 hA (Nat.le_trans hb2 (by decide)) (by decide)|fail
  refine i7 hA (α := { i:Nat // i<=s.ready.n }) (λx=>st_skc s x.1) (λx=>s.ready.n-x.1) ⟨0,Nat.zero_le _⟩ ?_ ?_
  · refine cov_promCN 192 8000 1 3 (λj=>eTxn (s.ready.g j)) [] [.d (eI s.n),.own 448 0 (A.add 0 s.panes.n) 2,.own 704 0 (A.add 0 s.lates.n) 2] rfl rfl rfl (c7 ?_ ?_ ?_)
    iterate 3 focus (subst hA;repeat' first|exact True.intro|exact rfl|exact Nat.zero_add _|exact (Nat.zero_add _).symm|apply And.intro | (intro _ _;rfl) | (intro _ _ _;rfl) | (intro q hq;exact absurd hq (Nat.not_lt_zero q)) | (intro q hq;show (if q<0 then _ else m6 (s.panes.g (q-0)))=_;rw [if_neg (Nat.not_lt_zero q)];rfl) | (intro q hq;show (if q<0 then _ else eLat (s.lates.g (q-0)))=_;rw [if_neg (Nat.not_lt_zero q)];rfl)|exact .inr (b8 rfl)|exact .inl rfl|exact .inr (Nat.le_refl _))
  rintro ⟨i,hi⟩
  have hi:i<=s.ready.n:=hi
  cbv
  repeat' first|apply And.intro|exact True.intro|with_reducible rfl|exact b7 hA rfl|apply c8 hA<;>intro _|exact c6 hA id | (subst hA;exact λh=>h) | (refine c5 hA ?_;decide +kernel) | (refine d8 hA λ_ => ?_;have hlt9:i<s.ready.n:=(by first|exact f9 hA (by assumption)|exact l5 hA (by assumption));exact ⟨Int.natCast_nonneg i,Int.ofNat_lt.2 hlt9⟩) | (refine inb_lt hA ?_;exact (by first|exact f9 hA (by assumption)|exact l5 hA (by assumption))) | (refine f6 hA (Nat.le_trans (Nat.succ_le_of_lt (by first|exact f9 hA (by assumption)|exact l5 hA (by assumption))) (Nat.le_trans hn (by decide))) (by decide))|exact w9 hA (by omega) (by decide) | (have hl9:i<s.ready.n:=(by first|exact f9 hA (by assumption)|exact l5 hA (by assumption));refine i9 hA hM _ (c_sTxnC (s.ready.g i) (hb.2.1 i hl9)) (by subst hA;rfl) ?_;cbv) | (refine b7 hA ?_;subst hA;rfl)|fail
  · rename_i hlt
    have hlt':i<s.ready.n:=(by first|exact f9 hA (by assumption)|exact l5 hA (by assumption))
    refine ⟨⟨i+1,hlt'⟩,by simp only;omega,cov_close 8000 (λj=>eTxn (s.ready.g j)) (eTxn (s.ready.g i)) [(30*64+1,1),(30*64+2,1)] rfl ?_ rfl rfl (λk _ _=>rfl) (c7 ?_ ?_ ?_)⟩
    · subst hA;exact (close_v (close_own rfl (λ_ _=>rfl) (flatR λ_=>flat_Pane _) (close_own rfl (λ_ _=>rfl) (flatR λ_=>flat_Lat _) close_end)))
    iterate 3 focus (subst hA;repeat' first|exact True.intro|exact rfl|exact congrArg (λx=>DV.v (.int .i64 x)) (o0 hlt' hn2) |  apply And.intro | (intro _ _;rfl) | (intro _ _ _;rfl) | (intro q hq;exact absurd hq (Nat.not_lt_zero q))|exact .inr (b8 rfl)|exact .inl rfl|exact .inr (Nat.le_refl _))
  · rename_i hge
    have hin:i=s.ready.n:=by
      subst hA
      have:¬ ((i:Int)<(s.ready.n:Int)):=of_decide_eq_false hge
      omega
    subst hin
    rfl
theorem c_sCkpO (x:CkpT) (hb:bdCkp x):d7 Tryz.prog 22 [xd (eCkp x)] ⟨.one (.agg [.d (eI x.n),.d (eB x.opn),.own 1 x.src.n λi=>[eI (x.src.g i)],.own 1 x.tsk.n λi=>[eB (x.tsk.g i)],.nown 3 x.snaps.n λi=>d9 (x.snaps.g i),.d (eI x.safe.n),.own 1 x.safe.at_.n λi=>[eI (x.safe.at_.g i)],.nown 3 x.safe.snaps.n λi=>d9 (x.safe.snaps.g i)]),[none]⟩:=by
  have b1:x.src.n<=1048576:=hb.1
  have b2:x.tsk.n<=1048576:=hb.2.1
  have b3:x.safe.at_.n<=1048576:=hb.2.2.2.2.1
  have c1:=c_sSnaps x.snaps.n hb.2.2.1 x.snaps.g hb.2.2.2.1
  have c2:=c_sSnaps x.safe.snaps.n hb.2.2.2.2.2.1 x.safe.snaps.g hb.2.2.2.2.2.2
  refine d5 (H:=[]) (EX:=EXA) l6 e8 Tryz.func22 rfl (by kernel_rfl) (by decide) ?_
  generalize hA:real=A
  generalize hM:d4 Tryz.prog=M
  cbv
  repeat' first|apply And.intro|exact True.intro|with_reducible rfl|exact b7 hA rfl|apply c8 hA<;>intro _|exact c6 hA id | (subst hA;exact λh=>h) | (refine c5 hA ?_;decide +kernel) | (refine f7 hA hM _ c1 ?_;cbv) | (refine f7 hA hM _ c2 ?_;cbv)|exact room_z hA (Nat.le_trans b1 (by decide)) (by decide)|exact f6 hA (Nat.le_trans b1 (by decide)) (by decide)|exact w9 hA (Nat.le_trans b1 (by decide)) (by decide)|exact room_z hA (Nat.le_trans b2 (by decide)) (by decide)|exact f6 hA (Nat.le_trans b2 (by decide)) (by decide)|exact w9 hA (Nat.le_trans b2 (by decide)) (by decide)|exact room_z hA (Nat.le_trans b3 (by decide)) (by decide)|exact f6 hA (Nat.le_trans b3 (by decide)) (by decide)|exact w9 hA (Nat.le_trans b3 (by decide)) (by decide)|fail
  all_goals (subst hA
             have e0:∀ k,real.add 0 k=k:=λk=>Nat.zero_add k
             have ea:∀ (z row:Nat->List DV),real.app 0 z row=row:=λz row=>funext λi=>by
               show (if i<0 then z i else row (i-0))=row i
               rw [if_neg (Nat.not_lt_zero i)];rfl
             simp only [e0,ea]
             first|done|rfl)
def st_fc1 (x:FloT) (i:Nat):St:=⟨[(4,.c (.d (eI i))),(1,.c (.bp 64 1 0)),(3,.c (.bp 192 1 0)),(2,.c (.bp 128 1 0))],[(192,1,.box [.d (eI x.job.srcs),.d (eI x.job.tsks),.d (eI x.job.kind),.d (eI x.job.size),.d (eI x.job.step),.d (eI x.job.late),.d (eI x.job.tell),.d (eB x.job.piece),.d (eI x.job.least),.d (eI x.job.room),.nown 8000 i 1,.own 512 0 x.srcs.n 1,.d (.v c9),.d (.v c9),.d (eI x.ckp.n),.d (eB x.ckp.opn),.own 898 0 x.ckp.src.n 1,.own 899 0 x.ckp.tsk.n 1,.nown 900 x.ckp.snaps.n 1,.d (eI x.ckp.safe.n),.own 902 0 x.ckp.safe.at_.n 1,.nown 903 x.ckp.safe.snaps.n 1]),(128,1,.box [.d (eI 0),.d (eI 0),.d (eI 0),.d (eI 0),.d (eI 0),.d (eI 0),.d (eI 0),.d (eB false),.d (eI 0),.d (eI 0),.d (.v c9),.d (.v c9),.d (.v c9),.d (.v c9),.d (eI 0),.d (eB false),.d (.v c9),.d (.v c9),.d (.v c9),.d (eI 0),.d (.v c9),.d (.v c9)]),(64,1,.box ((eFlo x).map .d)),(512,1,.arr 2 x.srcs.n λi=>eSrc (x.srcs.g i)),(898,1,.arr 1 x.ckp.src.n λi=>[eI (x.ckp.src.g i)]),(899,1,.arr 1 x.ckp.tsk.n λi=>[eB (x.ckp.tsk.g i)]),(900,1,.nest 3 x.ckp.snaps.n (λi=>d9 (x.ckp.snaps.g i)) none),(902,1,.arr 1 x.ckp.safe.at_.n λi=>[eI (x.ckp.safe.at_.g i)]),(903,1,.nest 3 x.ckp.safe.snaps.n (λi=>d9 (x.ckp.safe.snaps.g i)) none),(8000,1,.nest 1 i (λi=>[.sl 5 (x.logs.g i).n λk=>n9 ((x.logs.g i).g k)]) none)]⟩
def st_fc2 (x:FloT) (i:Nat):St:=⟨[(5,.c (.d (eI i))),(1,.c (.bp 64 1 0)),(3,.c (.bp 192 1 0)),(2,.c (.bp 128 1 0))],[(192,1,.box [.d (eI x.job.srcs),.d (eI x.job.tsks),.d (eI x.job.kind),.d (eI x.job.size),.d (eI x.job.step),.d (eI x.job.late),.d (eI x.job.tell),.d (eB x.job.piece),.d (eI x.job.least),.d (eI x.job.room),.nown 8000 x.logs.n 1,.own 512 0 x.srcs.n 1,.nown 8001 i 1,.nown 8002 i 1,.d (eI x.ckp.n),.d (eB x.ckp.opn),.own 898 0 x.ckp.src.n 1,.own 899 0 x.ckp.tsk.n 1,.nown 900 x.ckp.snaps.n 1,.d (eI x.ckp.safe.n),.own 902 0 x.ckp.safe.at_.n 1,.nown 903 x.ckp.safe.snaps.n 1]),(128,1,.box [.d (eI 0),.d (eI 0),.d (eI 0),.d (eI 0),.d (eI 0),.d (eI 0),.d (eI 0),.d (eB false),.d (eI 0),.d (eI 0),.d (.v c9),.d (.v c9),.d (.v c9),.d (.v c9),.d (eI 0),.d (eB false),.d (.v c9),.d (.v c9),.d (.v c9),.d (eI 0),.d (.v c9),.d (.v c9)]),(64,1,.box ((eFlo x).map .d)),(512,1,.arr 2 x.srcs.n λi=>eSrc (x.srcs.g i)),(898,1,.arr 1 x.ckp.src.n λi=>[eI (x.ckp.src.g i)]),(899,1,.arr 1 x.ckp.tsk.n λi=>[eB (x.ckp.tsk.g i)]),(900,1,.nest 3 x.ckp.snaps.n (λi=>d9 (x.ckp.snaps.g i)) none),(902,1,.arr 1 x.ckp.safe.at_.n λi=>[eI (x.ckp.safe.at_.g i)]),(903,1,.nest 3 x.ckp.safe.snaps.n (λi=>d9 (x.ckp.safe.snaps.g i)) none),(8000,1,.nest 1 x.logs.n (λi=>[.sl 5 (x.logs.g i).n λk=>n9 ((x.logs.g i).g k)]) none),(8001,1,.nest 7 i (λj=>v9 (x.tasks.g j)) none),(8002,1,.nest 4 i (λj=>s0 (x.sinks.g j)) none)]⟩
theorem c_sFloC (x:FloT) (hb:bdFlo x) (hts:x.sinks.n=x.tasks.n):d7 Tryz.prog 104 [xd (eFlo x)] ⟨.one (.agg [.d (eI x.job.srcs),.d (eI x.job.tsks),.d (eI x.job.kind),.d (eI x.job.size),.d (eI x.job.step),.d (eI x.job.late),.d (eI x.job.tell),.d (eB x.job.piece),.d (eI x.job.least),.d (eI x.job.room),.nown 1 x.logs.n λi=>[.sl 5 (x.logs.g i).n λk=>n9 ((x.logs.g i).g k)],.own 2 x.srcs.n λi=>eSrc (x.srcs.g i),.nown 7 x.tasks.n λi=>v9 (x.tasks.g i),.nown 4 x.sinks.n λi=>s0 (x.sinks.g i),.d (eI x.ckp.n),.d (eB x.ckp.opn),.own 1 x.ckp.src.n λi=>[eI (x.ckp.src.g i)],.own 1 x.ckp.tsk.n λi=>[eB (x.ckp.tsk.g i)],.nown 3 x.ckp.snaps.n λi=>d9 (x.ckp.snaps.g i),.d (eI x.ckp.safe.n),.own 1 x.ckp.safe.at_.n λi=>[eI (x.ckp.safe.at_.g i)],.nown 3 x.ckp.safe.snaps.n λi=>d9 (x.ckp.safe.snaps.g i)]),[none]⟩:=by
  have hn1:x.logs.n<=1048576:=hb.1
  have hn3:x.srcs.n<=1048576:=hb.2.2.1
  have hn4:x.tasks.n<=1048576:=hb.2.2.2.1
  have hL1:x.logs.n<=maxLen:=x.logs.hn
  have hL4:x.tasks.n<=maxLen:=x.tasks.hn
  have c1:=c_sCkpO x.ckp hb.2.2.2.2.2.2.2
  refine d5 (H:=[]) (EX:=EXA) l6 e8 Tryz.func104 rfl (by kernel_rfl) (by decide) ?_
  generalize hA:real=A
  generalize hM:d4 Tryz.prog=M
  cbv
  repeat' first|apply And.intro|exact True.intro|with_reducible rfl|exact b7 hA rfl|apply c8 hA<;>intro _|exact c6 hA id | (subst hA;exact λh=>h) | (refine c5 hA ?_;decide +kernel) | (refine f7 hA hM _ c1 ?_;cbv)|exact room_z hA (Nat.le_trans hn3 (by decide)) (by decide)|exact f6 hA (Nat.le_trans hn3 (by decide)) (by decide)|exact w9 hA (Nat.le_trans hn3 (by decide)) (by decide)|fail
  refine i7 hA (α := { i:Nat // i<=x.logs.n }) (λy=>st_fc1 x y.1) (λy=>x.logs.n-y.1) ⟨0,Nat.zero_le _⟩ ?_ ?_
  · refine cov_promCN 192 8000 1 1 (λi=>[.sl 5 (x.logs.g i).n λk=>n9 ((x.logs.g i).g k)]) [.d (eI x.job.srcs),.d (eI x.job.tsks),.d (eI x.job.kind),.d (eI x.job.size),.d (eI x.job.step),.d (eI x.job.late),.d (eI x.job.tell),.d (eB x.job.piece),.d (eI x.job.least),.d (eI x.job.room)] [.own 512 0 (A.add 0 x.srcs.n) 2,.d (.v c9),.d (.v c9),.d (eI x.ckp.n),.d (eB x.ckp.opn),.own 898 0 x.ckp.src.n 1,.own 899 0 x.ckp.tsk.n 1,.nown 900 x.ckp.snaps.n 1,.d (eI x.ckp.safe.n),.own 902 0 x.ckp.safe.at_.n 1,.nown 903 x.ckp.safe.snaps.n 1] rfl rfl rfl (c7 ?_ ?_ ?_)
    iterate 3 focus (subst hA;repeat' first|exact True.intro|exact rfl|exact Nat.zero_add _|exact (Nat.zero_add _).symm|apply And.intro | (intro _ _;rfl) | (intro _ _ _;rfl) | (intro q hq;exact absurd hq (Nat.not_lt_zero q)) | (intro q hq;show (if q<0 then _ else eSrc (x.srcs.g (q-0)))=_;rw [if_neg (Nat.not_lt_zero q)];rfl)|exact .inr (b8 rfl)|exact .inl rfl|exact .inr (Nat.le_refl _))
  rintro ⟨i,hi⟩
  have hi:i<=x.logs.n:=hi
  cbv
  repeat' first|apply And.intro|exact True.intro|with_reducible rfl|exact b7 hA rfl|apply c8 hA<;>intro _|exact c6 hA id | (subst hA;exact λh=>h) | (refine c5 hA ?_;decide +kernel) | (refine d8 hA λ_ => ?_;have hlt9:i<x.logs.n:=(by first|exact f9 hA (by assumption)|exact l5 hA (by assumption));exact ⟨Int.natCast_nonneg i,Int.ofNat_lt.2 hlt9⟩) | (refine inb_lt hA ?_;exact (by first|exact f9 hA (by assumption)|exact l5 hA (by assumption))) | (refine f6 hA (Nat.le_trans (Nat.succ_le_of_lt (by first|exact f9 hA (by assumption)|exact l5 hA (by assumption))) (Nat.le_trans hn1 (by decide))) (by decide)) | (have hl9:i<x.logs.n:=(by first|exact f9 hA (by assumption)|exact l5 hA (by assumption));subst hA;exact room_z rfl (Nat.le_trans (hb.2.1 i hl9) (by decide)) (by decide)) | (refine b7 hA ?_;subst hA;rfl)|fail
  · rename_i hlt
    have hlt':i<x.logs.n:=(by first|exact f9 hA (by assumption)|exact l5 hA (by assumption))
    have hn2:=hL1
    refine ⟨⟨i+1,hlt'⟩,by simp only;omega,cov_close 8000 (λi=>[.sl 5 (x.logs.g i).n λk=>n9 ((x.logs.g i).g k)]) [.sl 5 (x.logs.g i).n λk=>n9 ((x.logs.g i).g k)] [(1600,2)] rfl ?_ rfl rfl (λk _ _=>rfl) (c7 ?_ ?_ ?_)⟩
    · subst hA;exact (close_ownE (Nat.zero_add _) rfl (λq _=>(show (if q<0 then _ else n9 ((x.logs.g i).g (q-0)))=_ by rw [if_neg (Nat.not_lt_zero q)];rfl)) (flatR λ_=>flat_Itm _) close_end)
    iterate 3 focus (subst hA;repeat' first|exact True.intro|exact rfl|exact congrArg (λx=>DV.v (.int .i64 x)) (o0 hlt' hn2) |  apply And.intro | (intro _ _;rfl) | (intro _ _ _;rfl) | (intro q hq;exact absurd hq (Nat.not_lt_zero q))|exact .inr (b8 rfl)|exact .inl rfl|exact .inr (Nat.le_refl _))
  have hin:i=x.logs.n:=by
    rename_i hge
    subst hA
    have:¬ ((i:Int)<(x.logs.n:Int)):=of_decide_eq_false hge
    omega
  subst hin
  refine i7 hA (α := { i:Nat // i<=x.tasks.n }) (λy=>st_fc2 x y.1) (λy=>x.tasks.n-y.1) ⟨0,Nat.zero_le _⟩ ?_ ?_
  · refine cov_promCN 192 8001 1 7 (λj=>v9 (x.tasks.g j)) [.d (eI x.job.srcs),.d (eI x.job.tsks),.d (eI x.job.kind),.d (eI x.job.size),.d (eI x.job.step),.d (eI x.job.late),.d (eI x.job.tell),.d (eB x.job.piece),.d (eI x.job.least),.d (eI x.job.room),.nown 8000 x.logs.n 1,.own 512 0 x.srcs.n 1] [.d (.v c9),.d (eI x.ckp.n),.d (eB x.ckp.opn),.own 898 0 x.ckp.src.n 1,.own 899 0 x.ckp.tsk.n 1,.nown 900 x.ckp.snaps.n 1,.d (eI x.ckp.safe.n),.own 902 0 x.ckp.safe.at_.n 1,.nown 903 x.ckp.safe.snaps.n 1] rfl rfl rfl
      (cov_promCN 192 8002 1 4 (λj=>s0 (x.sinks.g j)) [.d (eI x.job.srcs),.d (eI x.job.tsks),.d (eI x.job.kind),.d (eI x.job.size),.d (eI x.job.step),.d (eI x.job.late),.d (eI x.job.tell),.d (eB x.job.piece),.d (eI x.job.least),.d (eI x.job.room),.nown 8000 x.logs.n 1,.own 512 0 x.srcs.n 1,.nown 8001 0 1] [.d (eI x.ckp.n),.d (eB x.ckp.opn),.own 898 0 x.ckp.src.n 1,.own 899 0 x.ckp.tsk.n 1,.nown 900 x.ckp.snaps.n 1,.d (eI x.ckp.safe.n),.own 902 0 x.ckp.safe.at_.n 1,.nown 903 x.ckp.safe.snaps.n 1] rfl rfl rfl (c7 ?_ ?_ ?_))
    iterate 3 focus (subst hA;repeat' first|exact True.intro|exact rfl|exact Nat.zero_add _|exact (Nat.zero_add _).symm|apply And.intro | (intro _ _;rfl) | (intro _ _ _;rfl) | (intro q hq;exact absurd hq (Nat.not_lt_zero q)) | (intro q hq;show (if q<0 then _ else eSrc (x.srcs.g (q-0)))=_;rw [if_neg (Nat.not_lt_zero q)];rfl)|exact .inr (b8 rfl)|exact .inl rfl|exact .inr (Nat.le_refl _))
  rintro ⟨k,hk⟩
  have hk:k<=x.tasks.n:=hk
  cbv
  repeat' first|apply And.intro|exact True.intro|with_reducible rfl|exact b7 hA rfl|apply c8 hA<;>intro _|exact c6 hA id | (subst hA;exact λh=>h) | (refine c5 hA ?_;decide +kernel) | (refine d8 hA λ_ => ?_;have hlt9:k<x.tasks.n:=(by first|exact f9 hA (by assumption)|exact l5 hA (by assumption));exact ⟨Int.natCast_nonneg k,Int.ofNat_lt.2 hlt9⟩) | (refine inb_lt hA ?_;exact (by first|exact f9 hA (by assumption)|exact l5 hA (by assumption))) | (refine f6 hA (Nat.le_trans (Nat.succ_le_of_lt (by first|exact f9 hA (by assumption)|exact l5 hA (by assumption))) (Nat.le_trans hn4 (by decide))) (by decide)) | (refine d8 hA λ_ => ?_;have hlt9:k<x.tasks.n:=(by first|exact f9 hA (by assumption)|exact l5 hA (by assumption));exact ⟨Int.natCast_nonneg k,by (show (k:Int)<(x.sinks.n:Int));omega⟩) | (refine inb_lt hA ?_;have hlt9:k<x.tasks.n:=(by first|exact f9 hA (by assumption)|exact l5 hA (by assumption));(show k<x.sinks.n);omega) | (have hl9:k<x.tasks.n:=(by first|exact f9 hA (by assumption)|exact l5 hA (by assumption));refine i9 hA hM _ (c_sTskC (x.tasks.g k) (hb.2.2.2.2.1 k hl9)) (by subst hA;rfl) ?_;cbv) | (have hl9:k<x.tasks.n:=(by first|exact f9 hA (by assumption)|exact l5 hA (by assumption));refine i9 hA hM _ (c_sSinkC (x.sinks.g k) (hb.2.2.2.2.2.2.1 k (by omega))) (by subst hA;rfl) ?_;cbv) | (refine b7 hA ?_;subst hA;rfl)|fail
  · rename_i hlt
    have hlt':k<x.tasks.n:=(by first|exact f9 hA (by assumption)|exact l5 hA (by assumption))
    have hn2:=hL4
    refine ⟨⟨k+1,hlt'⟩,by simp only;omega,cov_close 8001 (λj=>v9 (x.tasks.g j)) (v9 (x.tasks.g k)) [(3136,1),(3138,1),(3141,1),(3142,1)] rfl ?_ rfl rfl (λk _ _=>rfl)
      (cov_close 8002 (λj=>s0 (x.sinks.g j)) (s0 (x.sinks.g k)) [(3840,1),(3842,1),(3843,1)] rfl ?_ rfl rfl (λk _ _=>rfl) (c7 ?_ ?_ ?_))⟩
    · subst hA;exact (close_nown rfl (λ_ _=>NsLe.rfl) (close_v (close_own rfl (λ_ _=>rfl) (flatR λ_=>flat_Row _) (close_v (close_v (close_own rfl (λ_ _=>rfl) (flatR λ_=>flat_Pane _) (close_own rfl (λ_ _=>rfl) (flatR λ_=>flat_Lat _) close_end)))))))
    · subst hA;exact (close_nown rfl (λ_ _=>NsLe.rfl) (close_v (close_own rfl (λ_ _=>rfl) (flatR λ_=>flat_Pane _) (close_own rfl (λ_ _=>rfl) (flatR λ_=>flat_Lat _) close_end))))
    iterate 3 focus (subst hA;repeat' first|exact True.intro|exact rfl|exact congrArg (λx=>DV.v (.int .i64 x)) (o0 hlt' hn2) |  apply And.intro | (intro _ _;rfl) | (intro _ _ _;rfl) | (intro q hq;exact absurd hq (Nat.not_lt_zero q))|exact .inr (b8 rfl)|exact .inl rfl|exact .inr (Nat.le_refl _))
  · rename_i hge
    have hin:k=x.tasks.n:=by
      subst hA
      have:¬ ((k:Int)<(x.tasks.n:Int)):=of_decide_eq_false hge
      omega
    subst hin
    subst hA
    exact congrArg (λz=>XA.one (.agg [.d (eI x.job.srcs),.d (eI x.job.tsks),.d (eI x.job.kind),.d (eI x.job.size),.d (eI x.job.step),.d (eI x.job.late),.d (eI x.job.tell),.d (eB x.job.piece),.d (eI x.job.least),.d (eI x.job.room),.nown 1 x.logs.n λi=>[.sl 5 (x.logs.g i).n λk=>n9 ((x.logs.g i).g k)],.own 2 x.srcs.n λi=>eSrc (x.srcs.g i),.nown 7 x.tasks.n λi=>v9 (x.tasks.g i),.nown 4 z λi=>s0 (x.sinks.g i),.d (eI x.ckp.n),.d (eB x.ckp.opn),.own 1 x.ckp.src.n λi=>[eI (x.ckp.src.g i)],.own 1 x.ckp.tsk.n λi=>[eB (x.ckp.tsk.g i)],.nown 3 x.ckp.snaps.n λi=>d9 (x.ckp.snaps.g i),.d (eI x.ckp.safe.n),.own 1 x.ckp.safe.at_.n λi=>[eI (x.ckp.safe.at_.g i)],.nown 3 x.ckp.safe.snaps.n λi=>d9 (x.ckp.safe.snaps.g i)])) hts.symm
def WallR (j:JobT) (t:TskT) (n:Int) (y:TskT × Sl TxnT):Prop:=s9 j y.1/\y.1.op=t.op/\(∀ m,t.wall<=m->n<=m->y.1.wall<=m)/\(∀ m,QW m t->QW m y.1)/\y.2.n<=1/\∀ i,i<y.2.n->TxnOkP (y.2.g i)/\(y.2.g i).n=n/\(y.2.g i).panes=t.pend.panes/\(y.2.g i).lates=t.pend.lates
theorem wallR_none {j:JobT} {t:TskT} {k:Nat} {n:Int} {t':TskT} (h:s9 j t) (hn:0<=n/\n<=900) (e:wallT t k n=(t',none)):WallR j t n (t',⟨0,λ_=>zTxn,Nat.zero_le _⟩):=by
  have hw:=wall_ok (k:=k) h hn
  rw [e] at hw
  exact ⟨hw.1,hw.2.1,hw.2.2.1,hw.2.2.2.1,Nat.zero_le _,λi hi=>absurd hi (Nat.not_lt_zero i)⟩
theorem wallR_some {j:JobT} {t:TskT} {k:Nat} {n:Int} {t':TskT} {x:TxnT} (h:s9 j t) (hn:0<=n/\n<=900) (e:wallT t k n=(t',some x)):WallR j t n (t',⟨1,λ_=>x,t8 (by decide)⟩):=by
  have hw:=wall_ok (k:=k) h hn
  rw [e] at hw
  exact ⟨hw.1,hw.2.1,hw.2.2.1,hw.2.2.2.1,Nat.le_refl _,λi _=>hw.2.2.2.2 x rfl⟩
def st_w1 (t:TskT) (k:Nat) (n w:Int) (i:Nat) (G:Nat->TskInT):St:=⟨[(8,.c (.d (eI i))),(3,.c (.bp 192 1 0)),(6,.c (.bp 384 1 0)),(1,.c (.d (eI (k:Int)))),(2,.c (.d (eI n)))],[(0,1,.arr 3 t.ins.n λq=>l8 (G q)),(2,1,.arr 13 t.op.rows.n λi=>i6 (t.op.rows.g i)),(5,1,.arr 9 t.pend.panes.n λi=>m6 (t.pend.panes.g i)),(6,1,.arr 7 t.pend.lates.n λi=>eLat (t.pend.lates.g i)),(384,1,.box [.d (.v c9),.d (eI 0),.d (.v c9),.d (eI 0),.d (eI 0),.d (.v c9),.d (.v c9)]),(192,1,.box [.own 0 0 t.ins.n 1,.d (eI t.op.mark),.own 2 0 t.op.rows.n 1,.d (eI w),.d (eI t.pend.n),.own 5 0 t.pend.panes.n 1,.own 6 0 t.pend.lates.n 1])]⟩
def st_w2 (t:TskT) (k:Nat) (n w:Int) (i:Nat) (G:Nat->TskInT):St:=⟨[(9,.c (.d (eI i))),(3,.c (.bp 192 1 0)),(6,.c (.bp 384 1 0)),(1,.c (.d (eI (k:Int)))),(2,.c (.d (eI n)))],[(0,1,.arr 3 t.ins.n λq=>l8 (G q)),(2,1,.arr 13 t.op.rows.n λi=>i6 (t.op.rows.g i)),(5,1,.arr 9 t.pend.panes.n λi=>m6 (t.pend.panes.g i)),(6,1,.arr 7 t.pend.lates.n λi=>eLat (t.pend.lates.g i)),(384,1,.box [.d (.v c9),.d (eI 0),.d (.v c9),.d (eI 0),.d (eI 0),.d (.v c9),.d (.v c9)]),(192,1,.box [.own 0 0 t.ins.n 1,.d (eI t.op.mark),.own 2 0 t.op.rows.n 1,.d (eI w),.d (eI t.pend.n),.own 5 0 t.pend.panes.n 1,.own 6 0 t.pend.lates.n 1])]⟩
def st_w0 (t:TskT) (k:Nat) (n w:Int) (G:Nat->TskInT):St:=⟨[(3,.c (.bp 192 1 0)),(6,.c (.bp 384 1 0)),(1,.c (.d (eI (k:Int)))),(2,.c (.d (eI n)))],[(0,1,.arr 3 t.ins.n λq=>l8 (G q)),(2,1,.arr 13 t.op.rows.n λi=>i6 (t.op.rows.g i)),(5,1,.arr 9 t.pend.panes.n λi=>m6 (t.pend.panes.g i)),(6,1,.arr 7 t.pend.lates.n λi=>eLat (t.pend.lates.g i)),(384,1,.box [.d (.v c9),.d (eI 0),.d (.v c9),.d (eI 0),.d (eI 0),.d (.v c9),.d (.v c9)]),(192,1,.box [.own 0 0 t.ins.n 1,.d (eI t.op.mark),.own 2 0 t.op.rows.n 1,.d (eI w),.d (eI t.pend.n),.own 5 0 t.pend.panes.n 1,.own 6 0 t.pend.lates.n 1])]⟩
theorem x_wall (j:JobT) (t:TskT) (k:Nat) (n:Int) (h:s9 j t) (hk:k<t.ins.n) (hn:0<=n/\n<=900):∃ y:TskT × Sl TxnT,WallR j t n y/\d7 Tryz.prog 138 [.agg [.own 3 t.ins.n λi=>l8 (t.ins.g i),.d (eI t.op.mark),.own 13 t.op.rows.n λi=>i6 (t.op.rows.g i),.d (eI t.wall),.d (eI t.pend.n),.own 9 t.pend.panes.n λi=>m6 (t.pend.panes.g i),.own 7 t.pend.lates.n λi=>eLat (t.pend.lates.g i)],.c (.d (eI (k:Int))),.c (.d (eI n))] ⟨.tup [xd (v9 y.1),.c (.d (.sl 3 y.2.n λi=>eTxn (y.2.g i)))],[none,none,none]⟩:=by
  have hnL:t.ins.n<=maxLen:=t.ins.hn
  by_cases hnw:n<t.wall
  · have ew:wallT t k n=(t,none):=by unfold wallT;rw [if_pos hnw]
    have no:∀ {A:Ar},real=A->A.cmp .lss n t.wall=false->False:=λhA h=>by subst hA;exact absurd hnw (of_decide_eq_false h)
    refine u0 (H:=[9,10,19]) (EX:=EXA) l6 e8 ([none,none,none]) Tryz.func138 rfl (by kernel_rfl) (by decide) (λ_=>rfl) ?_
    generalize hA:real=A
    generalize hM:d4 Tryz.prog=M
    cbv
    repeat' first|exact (no hA (by assumption)).elim|apply And.intro|exact True.intro|with_reducible rfl|exact b7 hA rfl|apply c8 hA<;>intro _|exact c6 hA id | (subst hA;exact λh=>h) | (refine c5 hA ?_;decide +kernel)|fail
    refine i8 hA ⟨(_,⟨0,λ_=>zTxn,Nat.zero_le _⟩),wallR_none h hn ew,by (subst hA;rfl),?_,rfl⟩
    (subst hA;repeat' first|apply And.intro|exact True.intro|exact DLe.rfl|exact f8 _ _|exact dle_none rfl rfl |  exact m9 rfl)
  have no1:∀ {A:Ar},real=A->A.cmp .lss n t.wall=true->False:=λhA h=>by subst hA;exact absurd (of_decide_eq_true h) hnw
  by_cases hgt:t.wall<n
  · have no2:∀ {A:Ar},real=A->A.cmp .gtr n t.wall=false->False:=λhA h=>by subst hA;exact absurd hgt (of_decide_eq_false h)
    have w13:p4 t k n=⟨⟨t.ins.n,λq=>if q=k then w8 (w8 (t.ins.g k) false) true else w8 (t.ins.g q) false,t.ins.hn⟩,t.op,n,t.pend⟩:=by unfold p4;rw [if_pos hgt];rfl
    refine u0 (H:=[9,10,19]) (EX:=EXA) l6 e8 ([none,none,none]) Tryz.func138 rfl (by kernel_rfl) (by decide) (λ_=>rfl) ?_
    generalize hA:real=A
    generalize hM:d4 Tryz.prog=M
    cbv
    repeat' first|exact (no1 hA (by assumption)).elim|exact (no2 hA (by assumption)).elim|apply And.intro|exact True.intro|with_reducible rfl|exact b7 hA rfl|apply c8 hA<;>intro _|exact c6 hA id | (subst hA;exact λh=>h) | (refine c5 hA ?_;decide +kernel)|fail
    refine i7 hA (α := { y:Nat × (Nat->TskInT) // y.1<=t.ins.n/\∀ q,q<t.ins.n->y.2 q=if q<y.1 then w8 (t.ins.g q) false else t.ins.g q }) (λy=>st_w1 t k n t.wall y.1.1 y.1.2) (λy=>t.ins.n-y.1.1) ⟨(0,t.ins.g),Nat.zero_le _,λq _=>(if_neg (Nat.not_lt_zero q)).symm⟩ ?_ ?_
    · refine c7 ?_ ?_ ?_
      iterate 3 focus (subst hA;repeat' first|exact True.intro|exact rfl |  apply And.intro | (intro _ _;rfl) | (intro _ _ _;rfl) | (intro q hq;exact absurd hq (Nat.not_lt_zero q))|exact .inr (b8 rfl)|exact .inl rfl|exact .inr (Nat.le_refl _)|fail)
    rintro ⟨⟨i,G⟩,hi,hG⟩
    have hi:i<=t.ins.n:=hi
    have hG:∀ q,q<t.ins.n->G q=if q<i then w8 (t.ins.g q) false else t.ins.g q:=hG
    cbv
    repeat' first|apply And.intro|exact True.intro|with_reducible rfl|exact b7 hA rfl|apply c8 hA<;>intro _|exact c6 hA id | (subst hA;exact λh=>h) | (refine c5 hA ?_;decide +kernel) | (refine d8 hA λ_ => ?_;have hlt9:i<t.ins.n:=(by first|exact f9 hA (by assumption)|exact l5 hA (by assumption));exact ⟨Int.natCast_nonneg i,Int.ofNat_lt.2 hlt9⟩) | (refine b7 hA ?_;subst hA;rfl)|fail
    · rename_i hlt
      have hlt':i<t.ins.n:=(by first|exact f9 hA (by assumption)|exact l5 hA (by assumption))
      have hGi:G i=t.ins.g i:=by rw [hG i hlt',if_neg (Nat.lt_irrefl i)]
      have hstep:∀ q,q<t.ins.n->real.upd (λq=>l8 (G q)) i [.sl 5 (G i).queue.n λp=>n9 ((G i).queue.g p),eI (G i).mark,eB false] q=l8 (if q=i then w8 (t.ins.g i) false else G q):=λq _=>by
        show (if q=i then _ else l8 (G q))=l8 (if q=i then w8 (t.ins.g i) false else G q)
        by_cases e:q=i
        · rw [if_pos e,if_pos e,hGi];rfl
        · rw [if_neg e,if_neg e]
      obtain ⟨G',hG'⟩:∃ r:Nat->TskInT,r=λq=>if q=i then w8 (t.ins.g i) false else G q:=⟨_,rfl⟩
      have hnew:∀ q,q<t.ins.n->G' q=if q<i+1 then w8 (t.ins.g q) false else t.ins.g q:=λq hq=>by
        rw [hG']
        show (if q=i then w8 (t.ins.g i) false else G q)=_
        by_cases e:q=i
        · rw [if_pos e,e,if_pos (Nat.lt_succ_self i)]
        · rw [if_neg e,hG q hq]
          by_cases e2:q<i
          · rw [if_pos e2,if_pos (by omega)]
          · rw [if_neg e2,if_neg (by omega)]
      have hrw:∀ ix,ix=i->∀ q,q<t.ins.n->real.upd (λq=>l8 (G q)) ix [.sl 5 (G ix).queue.n λp=>n9 ((G ix).queue.g p),eI (G ix).mark,eB false] q=l8 (G' q):=λix hix q hq=>by subst hix;rw [hG'];exact hstep q hq
      refine ⟨⟨(i+1,G'),hlt',hnew⟩,by simp only;omega,c7 ?_ ?_ ?_⟩
      iterate 3 focus (subst hA;repeat' first|exact True.intro|exact rfl|exact congrArg (λx=>DV.v (.int .i64 x)) (o0 hlt' hnL)|exact hrw _ (Nat.zero_add i)|exact (λq hq _=>hrw _ (Nat.zero_add i) q hq) |  apply And.intro | (intro _ _;rfl) | (intro _ _ _;rfl) | (intro q hq;exact absurd hq (Nat.not_lt_zero q))|exact .inr (b8 rfl)|exact .inl rfl|exact .inr (Nat.le_refl _)|fail)
    rename_i hge
    have hin:i=t.ins.n:=by
      subst hA
      have:¬ ((i:Int)<(t.ins.n:Int)):=of_decide_eq_false hge
      omega
    subst hin
    have hGn:∀ q,q<t.ins.n->G q=w8 (t.ins.g q) false:=λq hq=>by rw [hG q hq,if_pos hq]
    have hGn2:∀ q,q<t.ins.n->l8 (G q)=l8 (w8 (t.ins.g q) false):=λq hq=>by rw [hGn q hq]
    repeat' first|apply And.intro|exact True.intro|with_reducible rfl|exact b7 hA rfl|apply c8 hA<;>intro _|exact c6 hA id | (subst hA;exact λh=>h) | (refine c5 hA ?_;decide +kernel) | (refine b7 hA ?_;subst hA;rfl)|fail
    obtain ⟨G0,hG0⟩:∃ r:Nat->TskInT,r=λq=>w8 (t.ins.g q) false:=⟨_,rfl⟩
    have hrow:∀ q,q<t.ins.n->l8 (G q)=l8 (G0 q):=λq hq=>by rw [hGn q hq,hG0]
    refine l9 hA (st_w0 t k n n G0) (c7 ?_ ?_ ?_) ?_
    iterate 3 focus (subst hA;repeat' first|exact True.intro|exact rfl|exact hrow|exact (λq hq _=>hrow q hq) |  apply And.intro | (intro _ _;rfl) | (intro _ _ _;rfl) | (intro q hq;exact absurd hq (Nat.not_lt_zero q))|exact .inr (b8 rfl)|exact .inl rfl|exact .inr (Nat.le_refl _)|fail)
    clear hrow hGn2 hGn hG hi
    cbv
    repeat' first|apply And.intro|exact True.intro|with_reducible rfl|exact b7 hA rfl|apply c8 hA<;>intro _|exact c6 hA id | (subst hA;exact λh=>h) | (refine c5 hA ?_;decide +kernel) | (refine d8 hA λ_=>⟨Int.natCast_nonneg k,Int.ofNat_lt.2 hk⟩) | (refine b7 hA ?_;subst hA;rfl)|fail
    obtain ⟨H,hH⟩:∃ r:Nat->TskInT,r=λq=>if q=k then w8 (G0 k) true else G0 q:=⟨_,rfl⟩
    have hst:∀ ix,ix=k->∀ q,q<t.ins.n->real.upd (λq=>l8 (G0 q)) ix [.sl 5 (G0 ix).queue.n λp=>n9 ((G0 ix).queue.g p),eI (G0 ix).mark,eB true] q=l8 (H q):=λix hix q _=>by
      subst hix
      rw [hH]
      show (if q=ix then _ else l8 (G0 q))=l8 (if q=ix then w8 (G0 ix) true else G0 q)
      by_cases e:q=ix
      · rw [if_pos e,if_pos e];rfl
      · rw [if_neg e,if_neg e]
    refine l9 hA (st_w0 t k n n H) (c7 ?_ ?_ ?_) ?_
    iterate 3 focus (subst hA;repeat' first|exact True.intro|exact rfl|exact hst _ (Nat.zero_add k)|exact (λq hq _=>hst _ (Nat.zero_add k) q hq) |  apply And.intro | (intro _ _;rfl) | (intro _ _ _;rfl) | (intro q hq;exact absurd hq (Nat.not_lt_zero q))|exact .inr (b8 rfl)|exact .inl rfl|exact .inr (Nat.le_refl _)|fail)
    have hwo:p4 t k n=⟨⟨t.ins.n,H,t.ins.hn⟩,t.op,n,t.pend⟩:=by rw [hH];rw [hG0];exact w13
    obtain ⟨x,hx,mx⟩:=c_sTskHeld ⟨⟨t.ins.n,H,t.ins.hn⟩,t.op,n,t.pend⟩
    have hx2:x=((heldN (p4 t k n):Nat):Int):=by
      rw [hx,hwo];rfl
    cbv
    repeat' first|apply And.intro|exact True.intro|with_reducible rfl|exact b7 hA rfl|apply c8 hA<;>intro _|exact c6 hA id | (subst hA;exact λh=>h) | (refine c5 hA ?_;decide +kernel) | (refine i9 hA hM _ mx (by (subst hA;first|rfl | (simp only [p6];done) | (simp only [p6];rfl))) ?_;cbv) | (refine b7 hA ?_;subst hA;rfl)|fail
    · rename_i hc
      have hc2:heldN (p4 t k n)<t.ins.n:=by
        subst hA
        have hc:decide (x<(t.ins.n:Int))=true:=hc
        rw [hx2] at hc
        exact Int.ofNat_lt.1 (of_decide_eq_true hc)
      have ew:wallT t k n=(p4 t k n,none):=by unfold wallT;rw [if_neg hnw,if_pos hc2]
      rw [hwo] at ew
      refine i8 hA ⟨(_,⟨0,λ_=>zTxn,Nat.zero_le _⟩),wallR_none h hn ew,by (subst hA;rfl),?_,rfl⟩
      (subst hA;repeat' first|apply And.intro|exact True.intro|exact DLe.rfl|exact f8 _ _|exact dle_none rfl rfl |  exact m9 rfl)
    rename_i hc
    have hc2:¬ heldN (p4 t k n)<t.ins.n:=by
      subst hA
      have hc:decide (x<(t.ins.n:Int))=false:=hc
      rw [hx2] at hc
      exact λh9=>of_decide_eq_false hc (Int.ofNat_lt.2 h9)
    refine i7 hA (α := { y:Nat × (Nat->TskInT) // y.1<=t.ins.n/\∀ q,q<t.ins.n->y.2 q=if q<y.1 then w8 (H q) false else H q }) (λy=>st_w2 t k n n y.1.1 y.1.2) (λy=>t.ins.n-y.1.1) ⟨(0,H),Nat.zero_le _,λq _=>(if_neg (Nat.not_lt_zero q)).symm⟩ ?_ ?_
    · refine c7 ?_ ?_ ?_
      iterate 3 focus (subst hA;repeat' first|exact True.intro|exact rfl |  apply And.intro | (intro _ _;rfl) | (intro _ _ _;rfl) | (intro q hq;exact absurd hq (Nat.not_lt_zero q))|exact .inr (b8 rfl)|exact .inl rfl|exact .inr (Nat.le_refl _)|fail)
    rintro ⟨⟨i,G⟩,hi,hG⟩
    have hi:i<=t.ins.n:=hi
    have hG:∀ q,q<t.ins.n->G q=if q<i then w8 (H q) false else H q:=hG
    cbv
    repeat' first|apply And.intro|exact True.intro|with_reducible rfl|exact b7 hA rfl|apply c8 hA<;>intro _|exact c6 hA id | (subst hA;exact λh=>h) | (refine c5 hA ?_;decide +kernel) | (refine d8 hA λ_ => ?_;have hlt9:i<t.ins.n:=(by first|exact f9 hA (by assumption)|exact l5 hA (by assumption));exact ⟨Int.natCast_nonneg i,Int.ofNat_lt.2 hlt9⟩) | (refine b7 hA ?_;subst hA;rfl)|fail
    · rename_i hlt
      have hlt':i<t.ins.n:=(by first|exact f9 hA (by assumption)|exact l5 hA (by assumption))
      have hGi:G i=H i:=by rw [hG i hlt',if_neg (Nat.lt_irrefl i)]
      have hstep:∀ q,q<t.ins.n->real.upd (λq=>l8 (G q)) i [.sl 5 (G i).queue.n λp=>n9 ((G i).queue.g p),eI (G i).mark,eB false] q=l8 (if q=i then w8 (H i) false else G q):=λq _=>by
        show (if q=i then _ else l8 (G q))=l8 (if q=i then w8 (H i) false else G q)
        by_cases e:q=i
        · rw [if_pos e,if_pos e,hGi];rfl
        · rw [if_neg e,if_neg e]
      obtain ⟨G',hG'⟩:∃ r:Nat->TskInT,r=λq=>if q=i then w8 (H i) false else G q:=⟨_,rfl⟩
      have hnew:∀ q,q<t.ins.n->G' q=if q<i+1 then w8 (H q) false else H q:=λq hq=>by
        rw [hG']
        show (if q=i then w8 (H i) false else G q)=_
        by_cases e:q=i
        · rw [if_pos e,e,if_pos (Nat.lt_succ_self i)]
        · rw [if_neg e,hG q hq]
          by_cases e2:q<i
          · rw [if_pos e2,if_pos (by omega)]
          · rw [if_neg e2,if_neg (by omega)]
      have hrw:∀ ix,ix=i->∀ q,q<t.ins.n->real.upd (λq=>l8 (G q)) ix [.sl 5 (G ix).queue.n λp=>n9 ((G ix).queue.g p),eI (G ix).mark,eB false] q=l8 (G' q):=λix hix q hq=>by subst hix;rw [hG'];exact hstep q hq
      refine ⟨⟨(i+1,G'),hlt',hnew⟩,by simp only;omega,c7 ?_ ?_ ?_⟩
      iterate 3 focus (subst hA;repeat' first|exact True.intro|exact rfl|exact congrArg (λx=>DV.v (.int .i64 x)) (o0 hlt' hnL)|exact hrw _ (Nat.zero_add i)|exact (λq hq _=>hrw _ (Nat.zero_add i) q hq) |  apply And.intro | (intro _ _;rfl) | (intro _ _ _;rfl) | (intro q hq;exact absurd hq (Nat.not_lt_zero q))|exact .inr (b8 rfl)|exact .inl rfl|exact .inr (Nat.le_refl _)|fail)
    rename_i hge
    have hin:i=t.ins.n:=by
      subst hA
      have:¬ ((i:Int)<(t.ins.n:Int)):=of_decide_eq_false hge
      omega
    subst hin
    have hGn:∀ q,q<t.ins.n->G q=w8 (H q) false:=λq hq=>by rw [hG q hq,if_pos hq]
    have hGn2:∀ q,q<t.ins.n->l8 (G q)=l8 (w8 (H q) false):=λq hq=>by rw [hGn q hq]
    repeat' first|apply And.intro|exact True.intro|with_reducible rfl|exact b7 hA rfl|apply c8 hA<;>intro _|exact c6 hA id | (subst hA;exact λh=>h) | (refine c5 hA ?_;decide +kernel) | (refine b7 hA ?_;subst hA;rfl)|fail
    refine l9 hA ⟨[(10,.c (.bp 640 1 0)),(3,.c (.bp 192 1 0)),(6,.c (.bp 384 1 0))],[(0,1,.arr 3 t.ins.n λq=>l8 (G q)),(2,1,.arr 13 t.op.rows.n λi=>i6 (t.op.rows.g i)),(5,2,.dead),(6,2,.dead),(384,1,.box [.d (.v c9),.d (eI 0),.d (.v c9),.d (eI 0),.d (eI 0),.d (.v c9),.d (.v c9)]),(192,1,.box [.own 0 0 t.ins.n 1,.d (eI t.op.mark),.own 2 0 t.op.rows.n 1,.d (eI n),.d (eI 0),.d (.v c9),.d (.v c9)]),(640,1,.box [.d (eI n),.d (.sl 9 t.pend.panes.n λi=>m6 (t.pend.panes.g i)),.d (.sl 7 t.pend.lates.n λi=>eLat (t.pend.lates.g i))])]⟩ (p7 5 rfl (p7 6 rfl (c7 ?_ ?_ ?_))) ?_
    iterate 3 focus (subst hA;repeat' first|exact True.intro|exact rfl |  apply And.intro | (intro _ _;rfl) | (intro _ _ _;rfl) | (intro q hq;exact absurd hq (Nat.not_lt_zero q))|exact .inr (b8 rfl)|exact .inl rfl|exact .inr (Nat.le_refl _)|fail)
    have ew:wallT t k n=(⟨⟨t.ins.n,λq=>w8 (H q) false,t.ins.hn⟩,t.op,n,zTxn⟩,some ⟨n,t.pend.panes,t.pend.lates⟩):=by unfold wallT;rw [if_neg hnw,if_neg hc2,hwo];rfl
    cbv
    repeat' first|apply And.intro|exact True.intro|with_reducible rfl|exact b7 hA rfl|apply c8 hA<;>intro _|exact c6 hA id | (subst hA;exact λh=>h) | (refine c5 hA ?_;decide +kernel) | (refine b7 hA ?_;subst hA;rfl)|fail
    refine i8 hA ⟨(_,⟨1,λ_=>_,t8 (by decide)⟩),wallR_some h hn ew,by (subst hA;rfl),?_,rfl⟩
    (subst hA;repeat' first|apply And.intro|exact True.intro|exact DLe.rfl|exact f8 _ _|exact dle_app1 rfl|exact dle_rows hGn2 |  exact m9 rfl)
  have no2:∀ {A:Ar},real=A->A.cmp .gtr n t.wall=true->False:=λhA h=>by subst hA;exact absurd (of_decide_eq_true h) hgt
  have w13:p4 t k n=⟨⟨t.ins.n,λq=>if q=k then w8 (t.ins.g k) true else t.ins.g q,t.ins.hn⟩,t.op,t.wall,t.pend⟩:=by unfold p4;rw [if_neg hgt];rfl
  refine u0 (H:=[9,10,19]) (EX:=EXA) l6 e8 ([none,none,none]) Tryz.func138 rfl (by kernel_rfl) (by decide) (λ_=>rfl) ?_
  generalize hA:real=A
  generalize hM:d4 Tryz.prog=M
  cbv
  repeat' first|exact (no1 hA (by assumption)).elim|exact (no2 hA (by assumption)).elim|apply And.intro|exact True.intro|with_reducible rfl|exact b7 hA rfl|apply c8 hA<;>intro _|exact c6 hA id | (subst hA;exact λh=>h) | (refine c5 hA ?_;decide +kernel)|fail
  refine l9 hA (st_w0 t k n t.wall t.ins.g) (c7 ?_ ?_ ?_) ?_
  iterate 3 focus (subst hA;repeat' first|exact True.intro|exact rfl |  apply And.intro | (intro _ _;rfl) | (intro _ _ _;rfl) | (intro q hq;exact absurd hq (Nat.not_lt_zero q))|exact .inr (b8 rfl)|exact .inl rfl|exact .inr (Nat.le_refl _)|fail)
  cbv
  repeat' first|apply And.intro|exact True.intro|with_reducible rfl|exact b7 hA rfl|apply c8 hA<;>intro _|exact c6 hA id | (subst hA;exact λh=>h) | (refine c5 hA ?_;decide +kernel) | (refine d8 hA λ_=>⟨Int.natCast_nonneg k,Int.ofNat_lt.2 hk⟩) | (refine b7 hA ?_;subst hA;rfl)|fail
  obtain ⟨H,hH⟩:∃ r:Nat->TskInT,r=λq=>if q=k then w8 (t.ins.g k) true else t.ins.g q:=⟨_,rfl⟩
  have hst:∀ ix,ix=k->∀ q,q<t.ins.n->real.upd (λq=>l8 (t.ins.g q)) ix [.sl 5 (t.ins.g ix).queue.n λp=>n9 ((t.ins.g ix).queue.g p),eI (t.ins.g ix).mark,eB true] q=l8 (H q):=λix hix q _=>by
    subst hix
    rw [hH]
    show (if q=ix then _ else l8 (t.ins.g q))=l8 (if q=ix then w8 (t.ins.g ix) true else t.ins.g q)
    by_cases e:q=ix
    · rw [if_pos e,if_pos e];rfl
    · rw [if_neg e,if_neg e]
  refine l9 hA (st_w0 t k n t.wall H) (c7 ?_ ?_ ?_) ?_
  iterate 3 focus (subst hA;repeat' first|exact True.intro|exact rfl|exact hst _ (Nat.zero_add k)|exact (λq hq _=>hst _ (Nat.zero_add k) q hq) |  apply And.intro | (intro _ _;rfl) | (intro _ _ _;rfl) | (intro q hq;exact absurd hq (Nat.not_lt_zero q))|exact .inr (b8 rfl)|exact .inl rfl|exact .inr (Nat.le_refl _)|fail)
  have hwo:p4 t k n=⟨⟨t.ins.n,H,t.ins.hn⟩,t.op,t.wall,t.pend⟩:=by rw [hH];exact w13
  obtain ⟨x,hx,mx⟩:=c_sTskHeld ⟨⟨t.ins.n,H,t.ins.hn⟩,t.op,t.wall,t.pend⟩
  have hx2:x=((heldN (p4 t k n):Nat):Int):=by
    rw [hx,hwo];rfl
  cbv
  repeat' first|apply And.intro|exact True.intro|with_reducible rfl|exact b7 hA rfl|apply c8 hA<;>intro _|exact c6 hA id | (subst hA;exact λh=>h) | (refine c5 hA ?_;decide +kernel) | (refine i9 hA hM _ mx (by (subst hA;first|rfl | (simp only [p6];done) | (simp only [p6];rfl))) ?_;cbv) | (refine b7 hA ?_;subst hA;rfl)|fail
  · rename_i hc
    have hc2:heldN (p4 t k n)<t.ins.n:=by
      subst hA
      have hc:decide (x<(t.ins.n:Int))=true:=hc
      rw [hx2] at hc
      exact Int.ofNat_lt.1 (of_decide_eq_true hc)
    have ew:wallT t k n=(p4 t k n,none):=by unfold wallT;rw [if_neg hnw,if_pos hc2]
    rw [hwo] at ew
    refine i8 hA ⟨(_,⟨0,λ_=>zTxn,Nat.zero_le _⟩),wallR_none h hn ew,by (subst hA;rfl),?_,rfl⟩
    (subst hA;repeat' first|apply And.intro|exact True.intro|exact DLe.rfl|exact f8 _ _|exact dle_none rfl rfl |  exact m9 rfl)
  rename_i hc
  have hc2:¬ heldN (p4 t k n)<t.ins.n:=by
    subst hA
    have hc:decide (x<(t.ins.n:Int))=false:=hc
    rw [hx2] at hc
    exact λh9=>of_decide_eq_false hc (Int.ofNat_lt.2 h9)
  refine i7 hA (α := { y:Nat × (Nat->TskInT) // y.1<=t.ins.n/\∀ q,q<t.ins.n->y.2 q=if q<y.1 then w8 (H q) false else H q }) (λy=>st_w2 t k n t.wall y.1.1 y.1.2) (λy=>t.ins.n-y.1.1) ⟨(0,H),Nat.zero_le _,λq _=>(if_neg (Nat.not_lt_zero q)).symm⟩ ?_ ?_
  · refine c7 ?_ ?_ ?_
    iterate 3 focus (subst hA;repeat' first|exact True.intro|exact rfl |  apply And.intro | (intro _ _;rfl) | (intro _ _ _;rfl) | (intro q hq;exact absurd hq (Nat.not_lt_zero q))|exact .inr (b8 rfl)|exact .inl rfl|exact .inr (Nat.le_refl _)|fail)
  rintro ⟨⟨i,G⟩,hi,hG⟩
  have hi:i<=t.ins.n:=hi
  have hG:∀ q,q<t.ins.n->G q=if q<i then w8 (H q) false else H q:=hG
  cbv
  repeat' first|apply And.intro|exact True.intro|with_reducible rfl|exact b7 hA rfl|apply c8 hA<;>intro _|exact c6 hA id | (subst hA;exact λh=>h) | (refine c5 hA ?_;decide +kernel) | (refine d8 hA λ_ => ?_;have hlt9:i<t.ins.n:=(by first|exact f9 hA (by assumption)|exact l5 hA (by assumption));exact ⟨Int.natCast_nonneg i,Int.ofNat_lt.2 hlt9⟩) | (refine b7 hA ?_;subst hA;rfl)|fail
  · rename_i hlt
    have hlt':i<t.ins.n:=(by first|exact f9 hA (by assumption)|exact l5 hA (by assumption))
    have hGi:G i=H i:=by rw [hG i hlt',if_neg (Nat.lt_irrefl i)]
    have hstep:∀ q,q<t.ins.n->real.upd (λq=>l8 (G q)) i [.sl 5 (G i).queue.n λp=>n9 ((G i).queue.g p),eI (G i).mark,eB false] q=l8 (if q=i then w8 (H i) false else G q):=λq _=>by
      show (if q=i then _ else l8 (G q))=l8 (if q=i then w8 (H i) false else G q)
      by_cases e:q=i
      · rw [if_pos e,if_pos e,hGi];rfl
      · rw [if_neg e,if_neg e]
    obtain ⟨G',hG'⟩:∃ r:Nat->TskInT,r=λq=>if q=i then w8 (H i) false else G q:=⟨_,rfl⟩
    have hnew:∀ q,q<t.ins.n->G' q=if q<i+1 then w8 (H q) false else H q:=λq hq=>by
      rw [hG']
      show (if q=i then w8 (H i) false else G q)=_
      by_cases e:q=i
      · rw [if_pos e,e,if_pos (Nat.lt_succ_self i)]
      · rw [if_neg e,hG q hq]
        by_cases e2:q<i
        · rw [if_pos e2,if_pos (by omega)]
        · rw [if_neg e2,if_neg (by omega)]
    have hrw:∀ ix,ix=i->∀ q,q<t.ins.n->real.upd (λq=>l8 (G q)) ix [.sl 5 (G ix).queue.n λp=>n9 ((G ix).queue.g p),eI (G ix).mark,eB false] q=l8 (G' q):=λix hix q hq=>by subst hix;rw [hG'];exact hstep q hq
    refine ⟨⟨(i+1,G'),hlt',hnew⟩,by simp only;omega,c7 ?_ ?_ ?_⟩
    iterate 3 focus (subst hA;repeat' first|exact True.intro|exact rfl|exact congrArg (λx=>DV.v (.int .i64 x)) (o0 hlt' hnL)|exact hrw _ (Nat.zero_add i)|exact (λq hq _=>hrw _ (Nat.zero_add i) q hq) |  apply And.intro | (intro _ _;rfl) | (intro _ _ _;rfl) | (intro q hq;exact absurd hq (Nat.not_lt_zero q))|exact .inr (b8 rfl)|exact .inl rfl|exact .inr (Nat.le_refl _)|fail)
  rename_i hge
  have hin:i=t.ins.n:=by
    subst hA
    have:¬ ((i:Int)<(t.ins.n:Int)):=of_decide_eq_false hge
    omega
  subst hin
  have hGn:∀ q,q<t.ins.n->G q=w8 (H q) false:=λq hq=>by rw [hG q hq,if_pos hq]
  have hGn2:∀ q,q<t.ins.n->l8 (G q)=l8 (w8 (H q) false):=λq hq=>by rw [hGn q hq]
  repeat' first|apply And.intro|exact True.intro|with_reducible rfl|exact b7 hA rfl|apply c8 hA<;>intro _|exact c6 hA id | (subst hA;exact λh=>h) | (refine c5 hA ?_;decide +kernel) | (refine b7 hA ?_;subst hA;rfl)|fail
  refine l9 hA ⟨[(10,.c (.bp 640 1 0)),(3,.c (.bp 192 1 0)),(6,.c (.bp 384 1 0))],[(0,1,.arr 3 t.ins.n λq=>l8 (G q)),(2,1,.arr 13 t.op.rows.n λi=>i6 (t.op.rows.g i)),(5,2,.dead),(6,2,.dead),(384,1,.box [.d (.v c9),.d (eI 0),.d (.v c9),.d (eI 0),.d (eI 0),.d (.v c9),.d (.v c9)]),(192,1,.box [.own 0 0 t.ins.n 1,.d (eI t.op.mark),.own 2 0 t.op.rows.n 1,.d (eI t.wall),.d (eI 0),.d (.v c9),.d (.v c9)]),(640,1,.box [.d (eI n),.d (.sl 9 t.pend.panes.n λi=>m6 (t.pend.panes.g i)),.d (.sl 7 t.pend.lates.n λi=>eLat (t.pend.lates.g i))])]⟩ (p7 5 rfl (p7 6 rfl (c7 ?_ ?_ ?_))) ?_
  iterate 3 focus (subst hA;repeat' first|exact True.intro|exact rfl |  apply And.intro | (intro _ _;rfl) | (intro _ _ _;rfl) | (intro q hq;exact absurd hq (Nat.not_lt_zero q))|exact .inr (b8 rfl)|exact .inl rfl|exact .inr (Nat.le_refl _)|fail)
  have ew:wallT t k n=(⟨⟨t.ins.n,λq=>w8 (H q) false,t.ins.hn⟩,t.op,t.wall,zTxn⟩,some ⟨n,t.pend.panes,t.pend.lates⟩):=by unfold wallT;rw [if_neg hnw,if_neg hc2,hwo];rfl
  cbv
  repeat' first|apply And.intro|exact True.intro|with_reducible rfl|exact b7 hA rfl|apply c8 hA<;>intro _|exact c6 hA id | (subst hA;exact λh=>h) | (refine c5 hA ?_;decide +kernel) | (refine b7 hA ?_;subst hA;rfl)|fail
  refine i8 hA ⟨(_,⟨1,λ_=>_,t8 (by decide)⟩),wallR_some h hn ew,by (subst hA;rfl),?_,rfl⟩
  (subst hA;repeat' first|apply And.intro|exact True.intro|exact DLe.rfl|exact f8 _ _|exact dle_app1 rfl|exact dle_rows hGn2 |  exact m9 rfl)
theorem qw_mark {n:Int} {t:TskT} {k:Nat} {m:Int} (h:QW n t):∀ c,c<t.ins.n->∀ p,p<(markCh t k m c).queue.n->((markCh t k m c).queue.g p).kind=3->((markCh t k m c).queue.g p).n<=n:=λc hc p hp e=>by
  unfold markCh at hp e ⊢
  by_cases z:c=k
  · rw [if_pos z] at hp e ⊢;subst z;exact h c hc p hp e
  · rw [if_neg z] at hp e ⊢;exact h c hc p hp e
def EXI:FuncId->List Nat × Bool:=λf=>bif nbeq f 138 then ([0],false) else bif nbeq f 139 then ([1],false) else bif nbeq f 140 then ([],true) else ([],false)
def ItemR (j:JobT) (t:TskT) (x:ItmT) (B:Int) (y:TskT × Sl TxnT):Prop:=s9 j y.1/\Bd (B+4) (n6 y.1.op)/\(∀ m,t.wall<=m->(x.kind=3->x.n<=m)->y.1.wall<=m)/\(∀ m,QW m t->QW m y.1)/\y.2.n<=1/\∀ i,i<y.2.n->TxnOkP (y.2.g i)/\(y.2.g i).panes=t.pend.panes/\(y.2.g i).lates=t.pend.lates
theorem x_l7Mark (j:JobT) (s:OpStT) (m:Int) (hok:OpOkP j s) (hm:0<=m/\m<=1000) (y:Int × List RowT × List PaneT) (hy:y=opMarkL j s m):∃ (k:Nat) (G:Nat->RowT) (c:Nat) (P:Nat->PaneT),Lst u6 y.2.1 k G/\Lst zPan y.2.2 c P /\
    d7 Tryz.prog 139 [xd (u7 j),.agg [.d (eI s.mark),.own 13 s.rows.n λi=>i6 (s.rows.g i)],.c (.d (eI m))] ⟨.tup [.agg [.d (eI y.1),.d (.sl 13 k λi=>i6 (G i))],.c (.d (.sl 9 c λi=>m6 (P i)))],[none,none,none]⟩:=by
  have hn:s.rows.n<=1080000:=Nat.le_trans hok.2.2.1 (by decide)
  by_cases h:m<=s.mark
  · have e:opMarkL j s m=(s.mark,(List.range s.rows.n).map s.rows.g,[]):=by
      unfold opMarkL;rw [if_neg (λhh=>hh ⟨hok,hm⟩),if_pos h]
    subst hy;rw [e]
    exact ⟨s.rows.n,s.rows.g,0,λ_=>zPan,lst_of u6 _ _,⟨rfl,λk hk=>absurd hk (Nat.not_lt_zero k)⟩,meets_frz (m_l7Mark0 j s.mark m s.rows.n hn s.rows.g h λ_=>zPan) rfl⟩
  · have e:opMarkL j s m=(m,keepN (λi=>markR m (s.rows.g i)) (overB j.late m) s.rows.n,tellN j.piece m s.rows.g s.rows.n):=by
      unfold opMarkL;rw [if_neg (λhh=>hh ⟨hok,hm⟩),if_neg h]
    subst hy;rw [e]
    obtain ⟨k,G,hG⟩:=lst_ex u6 (keepN (λi=>markR m (s.rows.g i)) (overB j.late m) s.rows.n)
    obtain ⟨c,P,hP⟩:=lst_ex zPan (tellN j.piece m s.rows.g s.rows.n)
    exact ⟨k,G,c,P,hG,hP,meets_frz (m_l7Mark1 j s.mark m s.rows.n hn s.rows.g (by omega) k G hG c P hP) rfl⟩
theorem low_ex (z:Int) (n:Nat) (g:Nat->Int):∃ x,LowP z n g x:=by
  induction n with
  | zero=>exact ⟨z,Int.le_refl z,λi hi=>absurd hi (Nat.not_lt_zero i),.inl rfl⟩
  | succ n ih=>
    obtain ⟨x,h1,h2,h3⟩:=ih
    by_cases h:g n<x
    · exact ⟨g n,by omega,λi hi=>by
        by_cases e:i<n
        · have:=h2 i e;omega
        · have:i=n:=by omega
          subst this;exact Int.le_refl _,.inr ⟨n,Nat.lt_succ_self n,rfl⟩⟩
    · refine ⟨x,h1,λi hi => ?_,h3.imp id λ⟨i,hi,e⟩=>⟨i,Nat.lt_succ_of_lt hi,e⟩⟩
      by_cases e:i<n
      · exact h2 i e
      · have:i=n:=by omega
        subst this;omega
theorem x_item8 (j:JobT) (t:TskT) (k:Nat) (x:ItmT) (B:Int) (h:s9 j t) (hk:k<t.ins.n) (hx:ItmOkP x) (h280:t.op.rows.n<=280) (hpp:t.pend.panes.n<=1200) (hpl:t.pend.lates.n<=1480) (hB:0<=B/\B<=880) (hb:Bd B (n6 t.op)) :
    ∃ y:TskT × Sl TxnT,ItemR j t x B y/\d7 Tryz.prog 137 [xd (u7 j),.agg [.own 3 t.ins.n λi=>l8 (t.ins.g i),.d (eI t.op.mark),.own 13 t.op.rows.n λi=>i6 (t.op.rows.g i),.d (eI t.wall),.d (eI t.pend.n),.own 9 t.pend.panes.n λi=>m6 (t.pend.panes.g i),.own 7 t.pend.lates.n λi=>eLat (t.pend.lates.g i)],.c (.d (eI (k:Int))),xd (n9 x)] ⟨.tup [xd (v9 y.1),.c (.d (.sl 3 y.2.n λi=>eTxn (y.2.g i)))],[none,none,none,none]⟩:=by
  have hnL:t.ins.n<=maxLen:=t.ins.hn
  by_cases k3:x.kind=3
  · have hxn:0<=x.n/\x.n<=900:=by
      rcases hx with hx|hx|hx<;>omega
    have yes:∀ {A:Ar},real=A->A.cmp .eql x.kind 3=false->False:=λhA h=>by
      subst hA
      have h:(x.kind==3)=false:=h
      rw [k3] at h;cases h
    refine u0 (H:=[]) (EX:=EXI) l6 e8 ([none,none,none,none]) Tryz.func137 rfl (by kernel_rfl) (by decide) (λ_=>rfl) ?_
    generalize hA:real=A
    generalize hM:d4 Tryz.prog=M
    cbv
    repeat' first|exact (yes hA (by assumption)).elim|apply And.intro|exact True.intro|with_reducible rfl|exact b7 hA rfl|apply c8 hA<;>intro _|exact c6 hA id | (subst hA;exact λh=>h) | (refine c5 hA ?_;decide +kernel) | (refine d6 hA hM (x_wall j t k x.n h hk hxn) ?_;rintro ⟨y1,y2⟩ hy;cbv)|fail
    have hr:ItemR j t x B (y1,y2):=⟨hy.1,by rw [hy.2.1];exact bd_mono hb (by omega),λm h1 h2=>hy.2.2.1 m h1 (h2 k3),hy.2.2.2.1,hy.2.2.2.2.1,λi hi=>⟨(hy.2.2.2.2.2 i hi).1,(hy.2.2.2.2.2 i hi).2.2⟩⟩
    refine i8 hA ⟨(y1,y2),hr,by (subst hA;rfl),?_,rfl⟩
    (subst hA;repeat' first|apply And.intro|exact True.intro|exact DLe.rfl|exact f8 _ _ |  exact m9 rfl)
  have no3:∀ {A:Ar},real=A->A.cmp .eql x.kind 3=true->False:=λhA h=>by
    subst hA
    have h:(x.kind==3)=true:=h
    rw [beq_iff_eq] at h;exact k3 h
  by_cases k1:x.kind=1
  · have hrec:RecP x:=⟨k1,hx⟩
    have no2:∀ {A:Ar},real=A->A.cmp .eql x.kind 2=true->False:=λhA h=>by
      subst hA
      have h:(x.kind==2)=true:=h
      rw [beq_iff_eq] at h;omega
    obtain ⟨y,hy⟩:∃ y,y=w5 j t.op x:=⟨_,rfl⟩
    have ey:w5 j t.op x=(t.op.mark,takeL j t.op.mark x (x1 j x.t) (n6 t.op)):=by
      unfold w5;rw [if_pos ⟨h.1,hrec,h280⟩]
    obtain ⟨kk,G,hG⟩:=lst_ex u6 y.2.1
    obtain ⟨c,P,hP⟩:=lst_ex zPan y.2.2.1
    obtain ⟨d,Q,hQ⟩:=lst_ex zLat y.2.2.2
    have hfew:=take_few (j:=j) (x:=x) h280
    have hrw:=opTakeL_rows j t.op x
    rw [<- hy] at hfew hrw
    have hkk:kk<=maxLen:=by rw [hG.1];exact Nat.le_trans (Nat.le_trans hrw (Nat.add_le_add_right h280 20)) (by decide)
    have hc:c<=288:=by rw [hP.1];exact hfew.1
    have hd:d<=4:=by rw [hQ.1];exact hfew.2
    have hm1:t.pend.panes.n+c<=maxLen:=Nat.le_trans (show _<=1488 by omega) (by decide)
    have hm2:t.pend.lates.n+d<=maxLen:=Nat.le_trans (show _<=1488 by omega) (by decide)
    have hr1:t.pend.panes.n+c<=2000000:=by omega
    have hr2:t.pend.lates.n+d<=2000000:=by omega
    have hok:=rec_ok h hrec h280 hpp hpl hB hb hy hG hkk hP hQ (hm1:=hm1) (hm2:=hm2)
    have hmk:y.1=t.op.mark:=by rw [hy,ey]
    have hG2:Lst u6 (takeL j t.op.mark x (x1 j x.t) (n6 t.op)).1 kk G:=by rw [hy,ey] at hG;exact hG
    have hP2:Lst zPan (takeL j t.op.mark x (x1 j x.t) (n6 t.op)).2.1 c P:=by rw [hy,ey] at hP;exact hP
    have hQ2:Lst zLat (takeL j t.op.mark x (x1 j x.t) (n6 t.op)).2.2 d Q:=by rw [hy,ey] at hQ;exact hQ
    have cT:=c_l7Take j t.op.mark (n6 t.op) t.op.rows.n t.op.rows.g (lst_of u6 _ _) (by omega) x h.1.1 (recP_t hrec) kk G hG2 c P hP2 d Q hQ2
    rw [hmk] at hok
    refine u0 (H:=[]) (EX:=EXI) l6 e8 ([none,none,none,none]) Tryz.func137 rfl (by kernel_rfl) (by decide) (λ_=>rfl) ?_
    generalize hA:real=A
    generalize hM:d4 Tryz.prog=M
    cbv
    repeat' first|exact (no3 hA (by assumption)).elim|exact (no2 hA (by assumption)).elim|apply And.intro|exact True.intro|with_reducible rfl|exact b7 hA rfl|apply c8 hA<;>intro _|exact c6 hA id | (subst hA;exact λh=>h) | (refine c5 hA ?_;decide +kernel) | (refine i9 hA hM _ cT (by (subst hA;first|rfl | (simp only [p6];done) | (simp only [p6];rfl))) ?_;cbv) | (refine b7 hA ?_;subst hA;rfl)|exact f6 hA hr1 (by decide)|exact f6 hA hr2 (by decide)|fail
    have hr:ItemR j t x B (⟨t.ins,⟨t.op.mark,⟨kk,G,hkk⟩⟩,t.wall,⟨t.pend.n,appS t.pend.panes c P hm1,appS t.pend.lates d Q hm2⟩⟩,⟨0,λ_=>zTxn,Nat.zero_le _⟩):=⟨hok.1,hok.2,λm h1 _=>h1,λm hq=>hq,Nat.zero_le _,λi hi=>absurd hi (Nat.not_lt_zero i)⟩
    refine i8 hA ⟨_,hr,by (subst hA;rfl),?_,rfl⟩
    (subst hA;repeat' first|apply And.intro|exact True.intro|exact DLe.rfl|exact f8 _ _|exact dle_none rfl rfl|exact dle_appG (e:=m6) (g:=t.pend.panes.g) (P:=P) (λ_ _=>rfl) (λ_ _=>rfl)|exact dle_appG (e:=eLat) (g:=t.pend.lates.g) (P:=Q) (λ_ _=>rfl) (λ_ _=>rfl) |  exact m9 rfl)
  have k2:x.kind=2:=by rcases hx with hx|hx|hx<;>omega
  have yes2:∀ {A:Ar},real=A->A.cmp .eql x.kind 2=false->False:=λhA h=>by
    subst hA
    have h:(x.kind==2)=false:=h
    rw [k2] at h;cases h
  have hxt:0<=x.t/\x.t<=1000:=by rcases hx with hx|hx|hx<;>omega
  obtain ⟨G,hG⟩:∃ r,r=markCh t k x.t:=⟨_,rfl⟩
  obtain ⟨low,hlow⟩:=low_ex 1000 t.ins.n λi=>(G i).mark
  have hrise:∀ i,i<t.ins.n->(t.ins.g i).mark<=(G i).mark:=λi hi=>by
    rw [hG];unfold markCh
    by_cases e:i=k
    · rw [if_pos e,e]
      show (t.ins.g k).mark<=if (t.ins.g k).mark<x.t then x.t else (t.ins.g k).mark
      split<;>omega
    · rw [if_neg e];exact Int.le_refl _
  have hl2:=low_rise h hrise hlow
  have cL:=c_sTskLow ⟨⟨t.ins.n,G,t.ins.hn⟩,t.op,t.wall,t.pend⟩ low hlow
  obtain ⟨yM,hyM⟩:∃ y,y=opMarkL j t.op low:=⟨_,rfl⟩
  obtain ⟨kk,GR,c,P,hGR,hP,cM⟩:=x_l7Mark j t.op low h.1 hl2.2 yM hyM
  have hlen:=opMarkL_len j t.op low
  rw [<- hyM] at hlen
  have hkk:kk<=maxLen:=by rw [hGR.1];exact Nat.le_trans (Nat.le_trans hlen.1 h280) (by decide)
  have hc:c<=280:=by rw [hP.1];exact Nat.le_trans hlen.2 h280
  have hm1:t.pend.panes.n+c<=maxLen:=Nat.le_trans (show _<=1488 by omega) (by decide)
  have hm2:t.pend.lates.n+0<=maxLen:=t.pend.lates.hn
  have hr1:t.pend.panes.n+c<=2000000:=by omega
  have hr2:t.pend.lates.n+0<=2000000:=by omega
  have hlow2:LowP 1000 t.ins.n (λi=>(markCh t k x.t i).mark) low:=by rw [<- hG];exact hlow
  have hok:=markT_ok h hxt h280 hpp hB.1 hb hk hlow2 hyM hGR hkk hP (hm1:=hm1) (hm2:=hm2) (Q:=λ_=>zLat)
  rw [<- hG] at hok
  have hrow:∀ ix,ix=k->∀ q,q<t.ins.n->real.upd (λq=>l8 (t.ins.g q)) ix [.sl 5 (t.ins.g ix).queue.n λp=>n9 ((t.ins.g ix).queue.g p),eI (if (t.ins.g ix).mark<x.t then x.t else (t.ins.g ix).mark),eB (t.ins.g ix).held] q=l8 (G q):=λix hix q _=>by
    subst hix
    rw [hG]
    show (if q=ix then _ else l8 (t.ins.g q))=l8 (if q=ix then markI (t.ins.g ix) x.t else t.ins.g q)
    by_cases e:q=ix
    · rw [if_pos e,if_pos e];rfl
    · rw [if_neg e,if_neg e]
  refine u0 (H:=[13]) (EX:=EXI) l6 e8 ([none,none,none,none]) Tryz.func137 rfl (by kernel_rfl) (by decide) (λ_=>rfl) ?_
  generalize hA:real=A
  generalize hM:d4 Tryz.prog=M
  cbv
  repeat' first|exact (no3 hA (by assumption)).elim|exact (yes2 hA (by assumption)).elim|apply And.intro|exact True.intro|with_reducible rfl|exact b7 hA rfl|apply c8 hA<;>intro _|exact c6 hA id | (subst hA;exact λh=>h) | (refine c5 hA ?_;decide +kernel) | (refine d8 hA λ_=>⟨Int.natCast_nonneg k,Int.ofNat_lt.2 hk⟩) | (refine b7 hA ?_;subst hA;rfl)|fail
  · have hlt:(t.ins.g k).mark<x.t:=by
      subst hA
      rename_i hg
      have hgg:∀ ix,ix=k->decide (x.t>(t.ins.g ix).mark)=true->(t.ins.g k).mark<x.t:=λix hix hh=>by
        subst hix
        exact of_decide_eq_true hh
      exact hgg _ (Nat.zero_add k) hg
    have hrow2:∀ ix,ix=k->∀ q,q<t.ins.n->real.upd (λq=>l8 (t.ins.g q)) ix [.sl 5 (t.ins.g ix).queue.n λp=>n9 ((t.ins.g ix).queue.g p),eI x.t,eB (t.ins.g ix).held] q=l8 (G q):=λix hix q hq=>by
      have:=hrow ix hix q hq
      subst hix
      rw [if_pos hlt] at this;exact this
    refine l9 hA ⟨[(11,.c (.own 1152 0 0 1)),(4,.c (.bp 256 1 0)),(5,.c (.bp 320 1 0)),(7,.c (.bp 448 1 0)),(8,.c (.bp 512 1 0))],[(10,1,.arr 3 t.ins.n λi=>l8 (G i)),(12,1,.arr 13 t.op.rows.n λi=>i6 (t.op.rows.g i)),(15,1,.arr 9 t.pend.panes.n λi=>m6 (t.pend.panes.g i)),(16,1,.arr 7 t.pend.lates.n λi=>eLat (t.pend.lates.g i)),(1152,1,.arr 7 0 λi=>eLat zLat),(256,1,.box [.d (eI j.srcs),.d (eI j.tsks),.d (eI j.kind),.d (eI j.size),.d (eI j.step),.d (eI j.late),.d (eI j.tell),.d (eB j.piece),.d (eI j.least),.d (eI j.room)]),(448,1,.box [.d (eI x.kind),.d (eI x.t),.d (eI x.key),.d (eI x.v),.d (eI x.n)]),(512,1,.box [.d (.v c9),.d (eI 0),.d (.v c9),.d (eI 0),.d (eI 0),.d (.v c9),.d (.v c9)]),(320,1,.box [.own 10 0 t.ins.n 1,.d (eI t.op.mark),.own 12 0 t.op.rows.n 1,.d (eI t.wall),.d (eI t.pend.n),.own 15 0 t.pend.panes.n 1,.own 16 0 t.pend.lates.n 1])]⟩ (c7 ?_ ?_ ?_) ?_
    iterate 3 focus (subst hA;repeat' first|exact True.intro|exact rfl|exact hrow2 _ (Nat.zero_add k)|exact (λq hq _=>hrow2 _ (Nat.zero_add k) q hq) |  apply And.intro | (intro _ _;rfl) | (intro _ _ _;rfl) | (intro q hq;exact absurd hq (Nat.not_lt_zero q))|exact .inr (b8 rfl)|exact .inl rfl|exact .inr (Nat.le_refl _)|fail)
    cbv
    repeat' first|apply And.intro|exact True.intro|with_reducible rfl|exact b7 hA rfl|apply c8 hA<;>intro _|exact c6 hA id | (subst hA;exact λh=>h) | (refine c5 hA ?_;decide +kernel) | (refine i9 hA hM _ cL (by (subst hA;first|rfl | (simp only [p6];done) | (simp only [p6];rfl))) ?_;cbv) | (refine i9 hA hM _ cM (by (subst hA;first|rfl | (simp only [p6];done) | (simp only [p6];rfl))) ?_;cbv) | (refine b7 hA ?_;subst hA;rfl)|exact f6 hA hr1 (by decide)|exact f6 hA hr2 (by decide)|fail
    have hr:ItemR j t x B (⟨⟨t.ins.n,G,t.ins.hn⟩,⟨yM.1,⟨kk,GR,hkk⟩⟩,t.wall,⟨t.pend.n,appS t.pend.panes c P hm1,appS t.pend.lates 0 (λ_=>zLat) hm2⟩⟩,⟨0,λ_=>zTxn,Nat.zero_le _⟩):=⟨hok.1,bd_mono hok.2 (by omega),λm h1 _=>h1,λm hq c hc p hp e=>by rw [hG] at hc hp e ⊢;exact qw_mark hq c hc p hp e,Nat.zero_le _,λi hi=>absurd hi (Nat.not_lt_zero i)⟩
    refine i8 hA ⟨_,hr,by (subst hA;rfl),?_,rfl⟩
    (subst hA;repeat' first|apply And.intro|exact True.intro|exact DLe.rfl|exact f8 _ _|exact dle_none rfl rfl|exact dle_appG (e:=m6) (g:=t.pend.panes.g) (P:=P) (λ_ _=>rfl) (λ_ _=>rfl)|exact dle_appG (e:=eLat) (g:=t.pend.lates.g) (P:=λ_=>zLat) (λ_ _=>rfl) (λi hi=>absurd hi (Nat.not_lt_zero i)) |  exact m9 rfl)
  · have hge:¬ (t.ins.g k).mark<x.t:=by
      subst hA
      rename_i hg
      have hgg:∀ ix,ix=k->decide (x.t>(t.ins.g ix).mark)=false->¬ (t.ins.g k).mark<x.t:=λix hix hh=>by
        subst hix
        exact of_decide_eq_false hh
      exact hgg _ (Nat.zero_add k) hg
    have hrow2:∀ q,q<t.ins.n->l8 (t.ins.g q)=l8 (G q):=λq hq=>by
      have:=hrow k rfl q hq
      rw [if_neg hge] at this
      rw [<- this]
      show l8 (t.ins.g q)=if q=k then _ else l8 (t.ins.g q)
      by_cases e:q=k
      · rw [if_pos e,e];rfl
      · rw [if_neg e]
    refine l9 hA ⟨[(11,.c (.own 1152 0 0 1)),(4,.c (.bp 256 1 0)),(5,.c (.bp 320 1 0)),(7,.c (.bp 448 1 0)),(8,.c (.bp 512 1 0))],[(10,1,.arr 3 t.ins.n λi=>l8 (G i)),(12,1,.arr 13 t.op.rows.n λi=>i6 (t.op.rows.g i)),(15,1,.arr 9 t.pend.panes.n λi=>m6 (t.pend.panes.g i)),(16,1,.arr 7 t.pend.lates.n λi=>eLat (t.pend.lates.g i)),(1152,1,.arr 7 0 λi=>eLat zLat),(256,1,.box [.d (eI j.srcs),.d (eI j.tsks),.d (eI j.kind),.d (eI j.size),.d (eI j.step),.d (eI j.late),.d (eI j.tell),.d (eB j.piece),.d (eI j.least),.d (eI j.room)]),(448,1,.box [.d (eI x.kind),.d (eI x.t),.d (eI x.key),.d (eI x.v),.d (eI x.n)]),(512,1,.box [.d (.v c9),.d (eI 0),.d (.v c9),.d (eI 0),.d (eI 0),.d (.v c9),.d (.v c9)]),(320,1,.box [.own 10 0 t.ins.n 1,.d (eI t.op.mark),.own 12 0 t.op.rows.n 1,.d (eI t.wall),.d (eI t.pend.n),.own 15 0 t.pend.panes.n 1,.own 16 0 t.pend.lates.n 1])]⟩ (c7 ?_ ?_ ?_) ?_
    iterate 3 focus (subst hA;repeat' first|exact True.intro|exact rfl|exact hrow2|exact (λq hq _=>hrow2 q hq) |  apply And.intro | (intro _ _;rfl) | (intro _ _ _;rfl) | (intro q hq;exact absurd hq (Nat.not_lt_zero q))|exact .inr (b8 rfl)|exact .inl rfl|exact .inr (Nat.le_refl _)|fail)
    cbv
    repeat' first|apply And.intro|exact True.intro|with_reducible rfl|exact b7 hA rfl|apply c8 hA<;>intro _|exact c6 hA id | (subst hA;exact λh=>h) | (refine c5 hA ?_;decide +kernel) | (refine i9 hA hM _ cL (by (subst hA;first|rfl | (simp only [p6];done) | (simp only [p6];rfl))) ?_;cbv) | (refine i9 hA hM _ cM (by (subst hA;first|rfl | (simp only [p6];done) | (simp only [p6];rfl))) ?_;cbv) | (refine b7 hA ?_;subst hA;rfl)|exact f6 hA hr1 (by decide)|exact f6 hA hr2 (by decide)|fail
    have hr:ItemR j t x B (⟨⟨t.ins.n,G,t.ins.hn⟩,⟨yM.1,⟨kk,GR,hkk⟩⟩,t.wall,⟨t.pend.n,appS t.pend.panes c P hm1,appS t.pend.lates 0 (λ_=>zLat) hm2⟩⟩,⟨0,λ_=>zTxn,Nat.zero_le _⟩):=⟨hok.1,bd_mono hok.2 (by omega),λm h1 _=>h1,λm hq c hc p hp e=>by rw [hG] at hc hp e ⊢;exact qw_mark hq c hc p hp e,Nat.zero_le _,λi hi=>absurd hi (Nat.not_lt_zero i)⟩
    refine i8 hA ⟨_,hr,by (subst hA;rfl),?_,rfl⟩
    (subst hA;repeat' first|apply And.intro|exact True.intro|exact DLe.rfl|exact f8 _ _|exact dle_none rfl rfl|exact dle_appG (e:=m6) (g:=t.pend.panes.g) (P:=P) (λ_ _=>rfl) (λ_ _=>rfl)|exact dle_appG (e:=eLat) (g:=t.pend.lates.g) (P:=λ_=>zLat) (λ_ _=>rfl) (λi hi=>absurd hi (Nat.not_lt_zero i)) |  exact m9 rfl)
def EXS:FuncId->List Nat × Bool:=λf=>bif nbeq f 137 then ([1],false) else ([],false)
theorem bite_f {A:Ar} (hA:real=A) {a b:Bool} (h:A.bite a true b=false):a=false/\b=false:=by
  subst hA
  have h:(bif a then true else b)=false:=h
  cases a with
  | true=>cases h
  | false=>exact ⟨rfl,h⟩
theorem gtr_f {A:Ar} (hA:real=A) {a b:Int} (h:A.cmp .gtr a b=false):a<=b:=by
  subst hA
  have:=of_decide_eq_false h
  omega
theorem eql_f {A:Ar} (hA:real=A) {a b:Int} (h:A.cmp .eql a b=false):a≠b:=by
  subst hA
  have h:(a==b)=false:=h
  intro e
  rw [e,beq_self_eq_true] at h;cases h
def StepR (j:JobT) (t:TskT) (B:Int) (y:(TskT × Sl TxnT) × Bool):Prop:=s9 j y.1.1/\Bd (B+4) (n6 y.1.1.op)/\(∀ m,t.wall<=m->QW m t->y.1.1.wall<=m/\QW m y.1.1)/\y.1.2.n<=1/\∀ i,i<y.1.2.n->TxnOkP (y.1.2.g i)/\(y.1.2.g i).panes=t.pend.panes/\(y.1.2.g i).lates=t.pend.lates
theorem stepR_same {j:JobT} {t:TskT} {B:Int} (h:s9 j t) (hb:Bd B (n6 t.op)) (b:Bool):StepR j t B ((t,⟨0,λ_=>zTxn,Nat.zero_le _⟩),b):=⟨h,bd_mono hb (by omega),λm h1 h2=>⟨h1,h2⟩,Nat.zero_le _,λi hi=>absurd hi (Nat.not_lt_zero i)⟩
theorem x_step (j:JobT) (t:TskT) (c:Int) (B:Int) (h:s9 j t) (hB:0<=B/\B<=880) (hb:Bd B (n6 t.op)) :
    ∃ y:(TskT × Sl TxnT) × Bool,StepR j t B y/\d7 Tryz.prog 132 [xd (u7 j),xd (v9 t),.c (.d (eI c))] ⟨.tup [xd (v9 y.1.1),.c (.d (.sl 3 y.1.2.n λi=>eTxn (y.1.2.g i))),.c (.d (eB y.2))],[none,none,none]⟩:=by
  have hbd:=tsk_bd h
  have hnL:(t.ins.n:Int)<=1048576:=by have:=hbd.1;omega
  have hcp:=c_sTskC t hbd
  obtain ⟨b1,h1,m1⟩:=c_sTskOk j t
  obtain rfl:b1=true:=h1.2 h
  have wr:IntKind.i64.wrap ((t.ins.n:Int)-1)=t.ins.n-1:=IntWalk.i64_in _ (by omega)
  obtain ⟨b3,h3,m3⟩:=c_l1In c 0 ((t.ins.n:Int)-1)
  by_cases hin:0<=c/\c<(t.ins.n:Int)
  rotate_left
  · obtain rfl:b3=false:=by
      rw [h3];exact decide_eq_false (λhh=>hin ⟨hh.1,by omega⟩)
    refine u0 (H:=[4]) (EX:=EXS) l6 e8 ([none,none,none]) Tryz.func132 rfl (by kernel_rfl) (by decide) (λ_=>rfl) ?_
    generalize hA:real=A
    generalize hM:d4 Tryz.prog=M
    cbv
    repeat' first|exact absurd (show false=true by subst hA;assumption) (by decide)|exact absurd (show true=false by subst hA;assumption) (by decide)|apply And.intro|exact True.intro|with_reducible rfl|exact b7 hA rfl|apply c8 hA<;>intro _|exact c6 hA id | (subst hA;exact λh=>h) | (refine c5 hA ?_;decide +kernel) | (refine f7 hA hM _ m1 ?_;cbv) | (refine f7 hA hM _ hcp ?_;cbv)|fail
    refine l9 hA ⟨[(2,.c (.d (eI c))),(3,.c (.bp 192 1 0)),(6,.c (.bp 384 1 0)),(9,.c (.bp 576 1 0))],[(192,1,.box [.d (eI j.srcs),.d (eI j.tsks),.d (eI j.kind),.d (eI j.size),.d (eI j.step),.d (eI j.late),.d (eI j.tell),.d (eB j.piece),.d (eI j.least),.d (eI j.room)]),(384,1,.box [.d (.v c9),.d (eI 0),.d (.v c9),.d (eI 0),.d (eI 0),.d (.v c9),.d (.v c9)]),(1218,1,.arr 13 t.op.rows.n λi=>i6 (t.op.rows.g i)),(1221,1,.arr 9 t.pend.panes.n λi=>m6 (t.pend.panes.g i)),(1222,1,.arr 7 t.pend.lates.n λi=>eLat (t.pend.lates.g i)),(576,1,.box [.own 1216 0 t.ins.n 2,.d (eI t.op.mark),.own 1218 0 t.op.rows.n 1,.d (eI t.wall),.d (eI t.pend.n),.own 1221 0 t.pend.panes.n 1,.own 1222 0 t.pend.lates.n 1]),(1216,2,.arr 3 t.ins.n λi=>l8 (t.ins.g i))]⟩ (cov_half 1216 (λi=>l8 (t.ins.g i)) rfl trivial (λ_ _ _=>rfl) (c7 ?_ ?_ ?_)) ?_
    iterate 3 focus (subst hA;repeat' first|exact True.intro|exact rfl |  apply And.intro | (intro _ _;rfl) | (intro _ _ _;rfl) | (intro q hq;exact absurd hq (Nat.not_lt_zero q))|exact .inr (b8 rfl)|exact .inl rfl|exact .inr (Nat.le_refl _)|fail)
    cbv
    repeat' first|exact absurd (show false=true by subst hA;assumption) (by decide)|exact absurd (show true=false by subst hA;assumption) (by decide)|apply And.intro|exact True.intro|with_reducible rfl|exact b7 hA rfl|apply c8 hA<;>intro _|exact c6 hA id | (subst hA;exact λh=>h) | (refine c5 hA ?_;decide +kernel) | (refine i9 hA hM _ m3 (by subst hA;show [XT.c (.d (eI _)),XT.c (.d (eI 0)),XT.c (.d (eI (IntKind.i64.wrap ((t.ins.n:Int)-1))))]=_;first | (rw [wr];done) | (rw [wr];rfl)) ?_;cbv) | (refine d8 hA λhg => ?_;subst hA;exact absurd (show false=true from hg) (by decide)) | (refine b7 hA ?_;subst hA;rfl)|fail
    refine i8 hA ⟨((t,⟨0,λ_=>zTxn,Nat.zero_le _⟩),false),stepR_same h hb false,by (subst hA;rfl),?_,rfl⟩
    (subst hA;repeat' first|apply And.intro|exact True.intro|exact DLe.rfl|exact f8 _ _|exact dle_none rfl rfl |  exact m9 rfl)
  obtain ⟨k,rfl⟩:∃ k:Nat,c=(k:Int):=Int.eq_ofNat_of_zero_le hin.1
  have hk:k<t.ins.n:=by have:=hin.2;omega
  obtain rfl:b3=true:=by rw [h3];exact decide_eq_true ⟨by omega,by omega⟩
  refine u0 (H:=[4,5,6,8]) (EX:=EXS) l6 e8 ([none,none,none]) Tryz.func132 rfl (by kernel_rfl) (by decide) (λ_=>rfl) ?_
  generalize hA:real=A
  generalize hM:d4 Tryz.prog=M
  cbv
  repeat' first|exact absurd (show false=true by subst hA;assumption) (by decide)|exact absurd (show true=false by subst hA;assumption) (by decide)|apply And.intro|exact True.intro|with_reducible rfl|exact b7 hA rfl|apply c8 hA<;>intro _|exact c6 hA id | (subst hA;exact λh=>h) | (refine c5 hA ?_;decide +kernel) | (refine f7 hA hM _ m1 ?_;cbv) | (refine f7 hA hM _ hcp ?_;cbv)|fail
  refine l9 hA ⟨[(2,.c (.d (eI (k:Int)))),(3,.c (.bp 192 1 0)),(6,.c (.bp 384 1 0)),(9,.c (.bp 576 1 0))],[(192,1,.box [.d (eI j.srcs),.d (eI j.tsks),.d (eI j.kind),.d (eI j.size),.d (eI j.step),.d (eI j.late),.d (eI j.tell),.d (eB j.piece),.d (eI j.least),.d (eI j.room)]),(384,1,.box [.d (.v c9),.d (eI 0),.d (.v c9),.d (eI 0),.d (eI 0),.d (.v c9),.d (.v c9)]),(1218,1,.arr 13 t.op.rows.n λi=>i6 (t.op.rows.g i)),(1221,1,.arr 9 t.pend.panes.n λi=>m6 (t.pend.panes.g i)),(1222,1,.arr 7 t.pend.lates.n λi=>eLat (t.pend.lates.g i)),(576,1,.box [.nown 1216 t.ins.n 1,.d (eI t.op.mark),.own 1218 0 t.op.rows.n 1,.d (eI t.wall),.d (eI t.pend.n),.own 1221 0 t.pend.panes.n 1,.own 1222 0 t.pend.lates.n 1]),(1216,1,.nest 3 t.ins.n (λi=>l8 (t.ins.g i)) (some (k,[.own 9000 0 (t.ins.g k).queue.n 1,.d (eI (t.ins.g k).mark),.d (eB (t.ins.g k).held)]))),(9000,1,.arr 5 (t.ins.g k).queue.n λp=>n9 ((t.ins.g k).queue.g p))]⟩ (cov_open 1216 9000 1 k (λ_=>false) [.sl 5 (t.ins.g k).queue.n λp=>n9 ((t.ins.g k).queue.g p),eI (t.ins.g k).mark,eB (t.ins.g k).held] rfl hk rfl ⟨.inr (flatR λ_=>flat_Itm _),trivial,trivial,trivial⟩ rfl (c7 ?_ ?_ ?_)) ?_
  iterate 3 focus (subst hA;repeat' first|exact True.intro|exact rfl |  apply And.intro | (intro _ _;rfl) | (intro _ _ _;rfl) | (intro q hq;exact absurd hq (Nat.not_lt_zero q))|exact .inr (b8 rfl)|exact .inl rfl|exact .inr (Nat.le_refl _)|fail)
  cbv
  repeat' first|exact absurd (show false=true by subst hA;assumption) (by decide)|exact absurd (show true=false by subst hA;assumption) (by decide)|apply And.intro|exact True.intro|with_reducible rfl|exact b7 hA rfl|apply c8 hA<;>intro _|exact c6 hA id | (subst hA;exact λh=>h) | (refine c5 hA ?_;decide +kernel) | (refine i9 hA hM _ m3 (by subst hA;show [XT.c (.d (eI _)),XT.c (.d (eI 0)),XT.c (.d (eI (IntKind.i64.wrap ((t.ins.n:Int)-1))))]=_;first | (rw [wr];done) | (rw [wr];rfl)) ?_;cbv) | (refine d8 hA λ_=>⟨Int.natCast_nonneg k,Int.ofNat_lt.2 hk⟩) | (refine b7 hA ?_;subst hA;rfl)|fail
  · refine l9 hA ⟨[(6,.c (.bp 384 1 0)),(9,.c (.bp 576 1 0))],[(384,1,.box [.d (.v c9),.d (eI 0),.d (.v c9),.d (eI 0),.d (eI 0),.d (.v c9),.d (.v c9)]),(1218,1,.arr 13 t.op.rows.n λi=>i6 (t.op.rows.g i)),(1221,1,.arr 9 t.pend.panes.n λi=>m6 (t.pend.panes.g i)),(1222,1,.arr 7 t.pend.lates.n λi=>eLat (t.pend.lates.g i)),(576,1,.box [.nown 1216 t.ins.n 1,.d (eI t.op.mark),.own 1218 0 t.op.rows.n 1,.d (eI t.wall),.d (eI t.pend.n),.own 1221 0 t.pend.panes.n 1,.own 1222 0 t.pend.lates.n 1]),(1216,1,.nest 3 t.ins.n (λi=>l8 (t.ins.g i)) none)]⟩ (cov_close 1216 (λi=>l8 (t.ins.g i)) [.sl 5 (t.ins.g k).queue.n λp=>n9 ((t.ins.g k).queue.g p),eI (t.ins.g k).mark,eB (t.ins.g k).held] [(9000,1)] rfl ?_ rfl rfl (λi _ hne=>rfl) (c7 ?_ ?_ ?_)) ?_
    · subst hA;exact close_own rfl (λ_ _=>rfl) (flatR λ_=>flat_Itm _) (close_v (close_v close_end))
    iterate 3 focus (subst hA;repeat' first|exact True.intro|exact rfl |  apply And.intro | (intro _ _;rfl) | (intro _ _ _;rfl) | (intro q hq;exact absurd hq (Nat.not_lt_zero q))|exact .inr (b8 rfl)|exact .inl rfl|exact .inr (Nat.le_refl _)|fail)
    cbv
    repeat' first|exact absurd (show false=true by subst hA;assumption) (by decide)|exact absurd (show true=false by subst hA;assumption) (by decide)|apply And.intro|exact True.intro|with_reducible rfl|exact b7 hA rfl|apply c8 hA<;>intro _|exact c6 hA id | (subst hA;exact λh=>h) | (refine c5 hA ?_;decide +kernel) | (refine b7 hA ?_;subst hA;rfl)|fail
    refine i8 hA ⟨((t,⟨0,λ_=>zTxn,Nat.zero_le _⟩),false),stepR_same h hb false,by (subst hA;rfl),?_,rfl⟩
    (subst hA;repeat' first|apply And.intro|exact True.intro|exact DLe.rfl|exact f8 _ _|exact dle_none rfl rfl |  exact m9 rfl)
  rename_i hcond
  obtain ⟨hcond,e5⟩:=bite_f hA hcond
  obtain ⟨hcond,e4⟩:=bite_f hA hcond
  obtain ⟨hcond,e3⟩:=bite_f hA hcond
  obtain ⟨hcond,e2⟩:=bite_f hA hcond
  have e5:=gtr_f hA e5
  have e4:=gtr_f hA e4
  have e3:=gtr_f hA e3
  have e2:=eql_f hA e2
  have q1:=op_bd h.1
  have q2:=(txn_bd h.2.2.2.1).1
  have q3:=(txn_bd h.2.2.2.1).2
  have hr280:t.op.rows.n<=280:=by
    clear hcond
    subst hA
    have e3:IntKind.i64.wrap ((t.op.rows.n:Int)+20)<=300:=e3
    have q1:t.op.rows.n<=1048576:=q1
    rw [IntWalk.i64_in _ (by omega)] at e3;omega
  have hp1200:t.pend.panes.n<=1200:=by
    clear hcond
    subst hA
    have e4:IntKind.i64.wrap ((t.pend.panes.n:Int)+300)<=1500:=e4
    rw [IntWalk.i64_in _ (by omega)] at e4;omega
  have hl1480:t.pend.lates.n<=1480:=by
    clear hcond
    subst hA
    have e5:IntKind.i64.wrap ((t.pend.lates.n:Int)+20)<=1500:=e5
    rw [IntWalk.i64_in _ (by omega)] at e5;omega
  have hq0:0<(t.ins.g k).queue.n:=by
    clear hcond
    subst hA
    have e2:((t.ins.g k).queue.n:Int)≠0:=e2
    omega
  have hki:=h.2.2.2.2.2.1 k hk
  have hqm:(t.ins.g k).queue.n<=1048576:=hbd.2.1 k hk
  have hxo:ItmOkP ((t.ins.g k).queue.g 0):=hki.2.2 0 hq0
  have ht2:s9 j (setC t k (popC (t.ins.g k))):=tsk_chan h hk (popC_ok hki) rfl rfl
  obtain ⟨G2,hG2⟩:∃ r:Nat->TskInT,r=λi=>if i=k then popC (t.ins.g k) else t.ins.g i:=⟨_,rfl⟩
  have hse:setC t k (popC (t.ins.g k))=⟨⟨t.ins.n,G2,t.ins.hn⟩,t.op,t.wall,t.pend⟩:=by rw [hG2];rfl
  rw [hse] at ht2
  have hc:=x_item8 j ⟨⟨t.ins.n,G2,t.ins.hn⟩,t.op,t.wall,t.pend⟩ k ((t.ins.g k).queue.g 0) B ht2 hk hxo hr280 hp1200 hl1480 hB hb
  refine l9 hA ⟨[(2,.c (.d (eI (k:Int)))),(3,.c (.bp 192 1 0)),(6,.c (.bp 384 1 0)),(9,.c (.bp 576 1 0))],[(192,1,.box [.d (eI j.srcs),.d (eI j.tsks),.d (eI j.kind),.d (eI j.size),.d (eI j.step),.d (eI j.late),.d (eI j.tell),.d (eB j.piece),.d (eI j.least),.d (eI j.room)]),(384,1,.box [.d (.v c9),.d (eI 0),.d (.v c9),.d (eI 0),.d (eI 0),.d (.v c9),.d (.v c9)]),(1218,1,.arr 13 t.op.rows.n λi=>i6 (t.op.rows.g i)),(1221,1,.arr 9 t.pend.panes.n λi=>m6 (t.pend.panes.g i)),(1222,1,.arr 7 t.pend.lates.n λi=>eLat (t.pend.lates.g i)),(576,1,.box [.nown 1216 t.ins.n 1,.d (eI t.op.mark),.own 1218 0 t.op.rows.n 1,.d (eI t.wall),.d (eI t.pend.n),.own 1221 0 t.pend.panes.n 1,.own 1222 0 t.pend.lates.n 1]),(1216,1,.nest 3 t.ins.n (λi=>l8 (t.ins.g i)) (some (k,[.own 9000 0 (t.ins.g k).queue.n 1,.d (eI (t.ins.g k).mark),.d (eB (t.ins.g k).held)]))),(9000,1,.arr 5 (t.ins.g k).queue.n λp=>n9 ((t.ins.g k).queue.g p))]⟩ (c7 ?_ ?_ ?_) ?_
  iterate 3 focus (subst hA;repeat' first|exact True.intro|exact rfl |  apply And.intro | (intro _ _;rfl) | (intro _ _ _;rfl) | (intro q hq;exact absurd hq (Nat.not_lt_zero q))|exact .inr (b8 rfl)|exact .inl rfl|exact .inr (Nat.le_refl _)|fail)
  cbv
  repeat' first|exact absurd (show false=true by subst hA;assumption) (by decide)|exact absurd (show true=false by subst hA;assumption) (by decide)|apply And.intro|exact True.intro|with_reducible rfl|exact b7 hA rfl|apply c8 hA<;>intro _|exact c6 hA id | (subst hA;exact λh=>h) | (refine c5 hA ?_;decide +kernel) | (refine d8 hA λ_=>⟨Int.natCast_nonneg k,Int.ofNat_lt.2 hk⟩) | (refine d8 hA λ_=>⟨Int.le_refl 0,Int.ofNat_lt.2 hq0⟩) | (refine b7 hA ?_;subst hA;rfl) | (subst hA;refine ⟨(by decide:(0:Int)<=1),?_,Int.le_refl _⟩;(show (1:Int)<=((t.ins.g k).queue.n:Int));omega) | (subst hA;exact f6 rfl (show 0+((((t.ins.g k).queue.n:Int)-1).toNat)<=2000000 by omega) (by decide))|fail
  have hqe:real.add 0 (real.dif (Int.ofNat (t.ins.g k).queue.n) 1)=(t.ins.g k).queue.n-1:=by
    show 0+(((t.ins.g k).queue.n:Int)-1).toNat=_
    omega
  have hclq:∀ (z:Nat->List DV) q,q<(t.ins.g k).queue.n-1->real.app 0 z (real.sub (0+1) (λp=>n9 ((t.ins.g k).queue.g p))) q=n9 ((t.ins.g k).queue.g (q+1)):=λz q _=>by
    show (if q<0 then z q else n9 ((t.ins.g k).queue.g (0+1+(q-0))))=_
    rw [if_neg (Nat.not_lt_zero q)]
    exact congrArg (λz=>n9 ((t.ins.g k).queue.g z)) (by omega)
  have hGk:G2 k=popC (t.ins.g k):=by rw [hG2];exact if_pos rfl
  have hGn:∀ i,i≠k->G2 i=t.ins.g i:=λi hi=>by rw [hG2];exact if_neg hi
  refine l9 hA ⟨[(2,.c (.d (eI (k:Int)))),(3,.c (.bp 192 1 0)),(6,.c (.bp 384 1 0)),(9,.c (.bp 576 1 0)),(10,.c (.bp 640 1 0))],[(192,1,.box [.d (eI j.srcs),.d (eI j.tsks),.d (eI j.kind),.d (eI j.size),.d (eI j.step),.d (eI j.late),.d (eI j.tell),.d (eB j.piece),.d (eI j.least),.d (eI j.room)]),(384,1,.box [.d (.v c9),.d (eI 0),.d (.v c9),.d (eI 0),.d (eI 0),.d (.v c9),.d (.v c9)]),(640,1,.box [.d (eI ((t.ins.g k).queue.g 0).kind),.d (eI ((t.ins.g k).queue.g 0).t),.d (eI ((t.ins.g k).queue.g 0).key),.d (eI ((t.ins.g k).queue.g 0).v),.d (eI ((t.ins.g k).queue.g 0).n)]),(1218,1,.arr 13 t.op.rows.n λi=>i6 (t.op.rows.g i)),(1221,1,.arr 9 t.pend.panes.n λi=>m6 (t.pend.panes.g i)),(1222,1,.arr 7 t.pend.lates.n λi=>eLat (t.pend.lates.g i)),(576,1,.box [.own 1216 0 t.ins.n 2,.d (eI t.op.mark),.own 1218 0 t.op.rows.n 1,.d (eI t.wall),.d (eI t.pend.n),.own 1221 0 t.pend.panes.n 1,.own 1222 0 t.pend.lates.n 1]),(1216,2,.arr 3 t.ins.n λi=>l8 (G2 i))]⟩
    (cov_close 1216 (λi=>l8 (G2 i)) (l8 (popC (t.ins.g k))) [(5248,2)] rfl ?_ rfl (congrArg l8 hGk) (λi _ hne=>congrArg l8 (hGn i hne))
      (cov_half 1216 (λi=>l8 (G2 i)) rfl trivial (λ_ _ _=>rfl) (c7 ?_ ?_ ?_))) ?_
  · subst hA;exact close_ownE hqe rfl (λq hq=>hclq (real.rep (n9 zItm)) q hq) (flatR λ_=>flat_Itm _) (close_v (close_v close_end))
  iterate 3 focus (subst hA;repeat' first|exact True.intro|exact rfl |  apply And.intro | (intro _ _;rfl) | (intro _ _ _;rfl) | (intro q hq;exact absurd hq (Nat.not_lt_zero q))|exact .inr (b8 rfl)|exact .inl rfl|exact .inr (Nat.le_refl _)|fail)
  cbv
  repeat' first|exact absurd (show false=true by subst hA;assumption) (by decide)|exact absurd (show true=false by subst hA;assumption) (by decide)|apply And.intro|exact True.intro|with_reducible rfl|exact b7 hA rfl|apply c8 hA<;>intro _|exact c6 hA id | (subst hA;exact λh=>h) | (refine c5 hA ?_;decide +kernel) | (refine d6 hA hM hc ?_;rintro ⟨y1,y2⟩ hy;cbv) | (refine b7 hA ?_;subst hA;rfl)|fail
  have hr:StepR j t B ((y1,y2),true):=⟨hy.1,hy.2.1,λm g1 g2=>⟨hy.2.2.1 m g1 (λe=>g2 k hk 0 hq0 e),hy.2.2.2.1 m (by rw [<- hse];exact qw_pop g2 hk)⟩,hy.2.2.2.2.1,hy.2.2.2.2.2⟩
  refine i8 hA ⟨((y1,y2),true),hr,by (subst hA;rfl),?_,rfl⟩
  (subst hA;repeat' first|apply And.intro|exact True.intro|exact DLe.rfl|exact f8 _ _ |  exact m9 rfl)
end Go.Rk
