/- What each of this seat's functions answers, at all data, part 10: no condition. -/
import Derived.Test.YtaddofloloopjaaGreatM5
import Derived.Test.YtaddofloloopjaaGreatM6
import Derived.Test.YtaddofloloopjaaGreatM8
import Derived.Test.YtaddofloloopjaaGreatM9
namespace Go.Rk
set_option linter.unusedSimpArgs false
set_option linter.unusedVariables false
open Go.Proofs
set_option maxRecDepth 100000
set_option maxHeartbeats 1000000
def st_l4 (j:JobT) (t sp f:Int) (n:Nat) (row:Nat->List DV):St:=⟨[(6,.c (.d (eI f))),(1,.c (.d (eI t))),(2,.c (.bp 128 1 0)),(5,.c (.own 2368 0 n 1))],[(128,1,.box ((u7 j).map .d)),(2368,1,.arr 2 n row)]⟩
set_option maxRecDepth 100000 in
theorem m_l4Of1 (j:JobT) (t:Int) (hs:1<=j.size) (hk:j.kind=1) (row:Nat->List DV) (hrow:row=real.app 1 (real.rep [eI (IntKind.i64.wrap (t-t.tmod j.size)),eI (IntKind.i64.wrap (IntKind.i64.wrap (t-t.tmod j.size)+j.size))]) (real.rep [eI 0,eI 0])):d7 Tryz.prog 142 [xd (u7 j),.c (.d (eI t))] ⟨.one (.c (.own 2 1 row)),[none,none]⟩:=by
  refine d5 (H:=[]) (EX:=EXA) l6 e8 Tryz.func142 rfl (by kernel_rfl) (by decide) ?_
  generalize hA:real=A
  generalize hM:d4 Tryz.prog=M
  cbv
  repeat' first|apply And.intro|exact True.intro|with_reducible rfl|exact b7 hA rfl|apply c8 hA<;>intro _|exact c6 hA id | (subst hA;exact λh=>h) | (refine c5 hA ?_;decide +kernel)|exact nz_of hA (show j.size≠0 by omega)|fail
  · subst hA;rw [hrow];rfl
  · exfalso
    rename_i h1 h2
    subst hA
    have h:(j.kind==1)=false:=h1
    rw [hk] at h
    cases h
  · exfalso
    rename_i h1 h2
    subst hA
    have h:(j.kind==1)=false:=h1
    rw [hk] at h
    cases h
set_option maxRecDepth 100000 in
theorem m_l4Of3 (j:JobT) (t:Int) (hs:1<=j.size) (hk:j.kind=3) (row:Nat->List DV) (hrow:row=real.app 1 (real.rep [eI t,eI (IntKind.i64.wrap (t+j.size))]) (real.rep [eI 0,eI 0])):d7 Tryz.prog 142 [xd (u7 j),.c (.d (eI t))] ⟨.one (.c (.own 2 1 row)),[none,none]⟩:=by
  refine d5 (H:=[]) (EX:=EXA) l6 e8 Tryz.func142 rfl (by kernel_rfl) (by decide) ?_
  generalize hA:real=A
  generalize hM:d4 Tryz.prog=M
  cbv
  repeat' first|apply And.intro|exact True.intro|with_reducible rfl|exact b7 hA rfl|apply c8 hA<;>intro _|exact c6 hA id | (subst hA;exact λh=>h) | (refine c5 hA ?_;decide +kernel)|exact nz_of hA (show j.size≠0 by omega)|fail
  · exfalso
    rename_i h1
    subst hA
    have h:(j.kind==1)=true:=h1
    rw [hk] at h
    cases h
  · subst hA;rw [hrow];rfl
  · exfalso
    rename_i h1 h2
    subst hA
    have h:(j.kind==3)=false:=h2
    rw [hk] at h
    cases h
set_option maxRecDepth 100000 in
theorem m_l4Of2 (j:JobT) (t:Int) (hsz:1<=j.size/\j.size<=20) (hsp:1<=j.step) (hsp2:j.step<=20) (hk:j.kind=2) (ht:0<=t/\t<=60) (n:Nat) (g:Nat->WinT) (hl:Tells zWin eWin (x1 j t) n (λi=>eWin (g i))):d7 Tryz.prog 142 [xd (u7 j),.c (.d (eI t))] ⟨.one (.c (.own 2 n λi=>eWin (g i))),[none,none]⟩:=by
  refine d5 (H:=[12]) (EX:=EXA) l6 e8 Tryz.func142 rfl (by kernel_rfl) (by decide) ?_
  generalize hA:real=A
  generalize hM:d4 Tryz.prog=M
  cbv
  repeat' first|apply And.intro|exact True.intro|with_reducible rfl|exact b7 hA rfl|apply c8 hA<;>intro _|exact c6 hA id | (subst hA;exact λh=>h) | (refine c5 hA ?_;decide +kernel)|exact nz_of hA (show j.size≠0 by omega)|fail
  · exfalso
    rename_i h1
    subst hA
    have h:(j.kind==1)=true:=h1
    rw [hk] at h
    cases h
  · exfalso
    rename_i h1 h2
    subst hA
    have h:(j.kind==3)=true:=h2
    rw [hk] at h
    cases h
  have hf0:(0:Int)=0:=rfl
  have hs0:j.step=j.step:=rfl
  have hall:[]++slideF j.size j.step t 100 0=x1 j t:=by unfold x1 winStep winFrom;rw [if_neg (by omega),if_pos hk,if_neg (by omega),if_pos hk];rfl
  refine i7 hA (α := { q:Int × Nat × (Nat->List DV) × List WinT // (0<=q.1/\q.1<=80)/\Tells zWin eWin q.2.2.2 q.2.1 q.2.2.1/\q.2.2.2++slideF j.size j.step t 100 q.1=x1 j t }) (λy=>st_l4 j t j.step y.1.1 y.1.2.1 y.1.2.2.1) (λy=>(61-y.1.1).toNat) ⟨(0,0,λ_=>[],[]),⟨by simp only;omega,by simp only;omega⟩,⟨rfl,λk h=>absurd h (Nat.not_lt_zero k)⟩,hall⟩ ?_ ?_
  · refine c7 ?_ ?_ ?_
    · cbv;try (subst hA;repeat' first|apply And.intro|exact True.intro|exact congrArg (λx=>DV.v (.int .i64 x)) hf0|exact congrArg (λx=>DV.v (.int .i64 x)) hs0|rfl)
    · cbv;try (subst hA;repeat' first|apply And.intro|exact True.intro|rfl|exact (λ_ _=>rfl) | (intro k hk;exact absurd hk (Nat.not_lt_zero k)))
    · cbv
  rintro ⟨⟨f,n1,row,l⟩,hf,hT,hw⟩
  have hf:0<=f/\f<=80:=hf
  have hT:Tells zWin eWin l n1 row:=hT
  have hw:l++slideF j.size j.step t 100 f=x1 j t:=hw
  have hn1:n1<=100:=by
    have:=congrArg List.length hw
    rw [List.length_append] at this
    have:=winsL_len j t
    have:=hT.1
    omega
  have hws:IntKind.i64.wrap (f+j.size)=f+j.size:=IntWalk.i64_in _ (by omega)
  have hwp:IntKind.i64.wrap (f+j.step)=f+j.step:=IntWalk.i64_in _ (by omega)
  cbv
  repeat' first|apply And.intro|exact True.intro|with_reducible rfl|exact b7 hA rfl|apply c8 hA<;>intro _|exact c6 hA id | (subst hA;exact λh=>h) | (refine c5 hA ?_;decide +kernel)|exact room_add hA (by omega) (by decide)|fail
  · rename_i hlt hin
    have hlt:f<=t:=by subst hA;exact of_decide_eq_true hlt
    have hin:t<f+j.size:=by
      subst hA
      have h:t<IntKind.i64.wrap (f+j.size):=of_decide_eq_true hin
      rw [hws] at h;exact h
    have hg:=slideF_go (size:=j.size) (step:=j.step) (t:=t) (f:=f) hsp hf.1 ht.2 hlt
    rw [if_pos hin] at hg
    refine ⟨⟨(f+j.step,n1+1,λk=>if k<n1 then row k else eWin ⟨f,f+j.size⟩,l ++ [⟨f,f+j.size⟩]),⟨by simp only;omega,by simp only;omega⟩,tells_snoc hT (λk _=>rfl),by rw [List.append_assoc,<- hw,hg]⟩,by simp only;omega,c7 ?_ ?_ ?_⟩
    · cbv
      subst hA
      repeat' first|apply And.intro|exact True.intro|exact congrArg (λx=>DV.v (.int .i64 x)) hwp|rfl | (intro k hk;exact t7 rfl _ _ _ _ k hk)
    · cbv
      subst hA
      repeat' first|apply And.intro|exact True.intro|rfl | (intro k hk;exact (t7 rfl _ _ _ _ k hk).trans (congrArg (λx=>if k<n1 then row k else [eI f,eI x]) hws))
    · cbv
  · rename_i hlt hin
    have hlt:f<=t:=by subst hA;exact of_decide_eq_true hlt
    have hin:¬ t<f+j.size:=by
      subst hA
      have h:¬ t<IntKind.i64.wrap (f+j.size):=of_decide_eq_false hin
      rw [hws] at h;exact h
    have hg:=slideF_go (size:=j.size) (step:=j.step) (t:=t) (f:=f) hsp hf.1 ht.2 hlt
    rw [if_neg hin] at hg
    refine ⟨⟨(f+j.step,n1,row,l),⟨by simp only;omega,by simp only;omega⟩,hT,by rw [<- hw,hg];rfl⟩,by simp only;omega,c7 ?_ ?_ ?_⟩
    · cbv
      subst hA
      repeat' first|apply And.intro|exact True.intro|exact congrArg (λx=>DV.v (.int .i64 x)) hwp|rfl | (intro k hk;exact t7 rfl _ _ _ _ k hk)
    · cbv;try (subst hA;repeat' first|apply And.intro|exact True.intro|rfl | (intro _ _;rfl))
    · cbv
  · rename_i hlt
    have hlt:¬ f<=t:=by subst hA;exact of_decide_eq_false hlt
    rw [slideF_end hlt,List.append_nil] at hw
    subst hw
    have hnn:n1=n:=hT.1.trans hl.1.symm
    subst hnn
    refine l9 hA ⟨[(5,.c (.own 2368 0 n1 1))],[(2368,1,.arr 2 n1 λi=>eWin (g i))]⟩ (c7 ?_ ?_ ?_) ?_
    · cbv
    · cbv
      exact ⟨λq hq=>(hT.2 q hq).trans (hl.2 q hq).symm,trivial⟩
    · cbv
    · cbv
      repeat' first|apply And.intro|exact True.intro|with_reducible rfl|exact b7 hA rfl|apply c8 hA<;>intro _|exact c6 hA id | (subst hA;exact λh=>h) | (refine c5 hA ?_;decide +kernel)|fail
theorem c_l4Of (j:JobT) (t:Int) (hj:t9 j) (ht:0<=t/\t<=60) (n:Nat) (g:Nat->WinT) (hl:Tells zWin eWin (x1 j t) n (λi=>eWin (g i))):d7 Tryz.prog 142 [xd (u7 j),.c (.d (eI t))] ⟨.one (.c (.own 2 n λi=>eWin (g i))),[none,none]⟩:=by
  have hsz:1<=j.size/\j.size<=20:=hj.2.2.2.1
  have hst:=hj.2.2.2.2.1
  have hkk:1<=j.kind/\j.kind<=3:=hj.2.2.1
  by_cases k2:j.kind=2
  · exact m_l4Of2 j t hsz (by omega) (by omega) k2 ht n g hl
  have a:=Int.tmod_nonneg j.size ht.1
  have b:=Int.tmod_lt_of_pos t (show 0<j.size by omega)
  by_cases k1:j.kind=1
  · have e:=winsL_fixed k1 hsz.1 ht.1 ht.2
    rw [e] at hl
    have hn:n=1:=hl.1
    subst hn
    refine meets_rows (λi hi => ?_) (m_l4Of1 j t hsz.1 k1 _ rfl)
    have hi0:i=0:=Nat.lt_one_iff.1 hi
    subst hi0
    refine Eq.trans ?_ (hl.2 0 hi).symm
    show [eI (IntKind.i64.wrap (t-t.tmod j.size)),eI (IntKind.i64.wrap (IntKind.i64.wrap (t-t.tmod j.size)+j.size))]=[eI (t-t.tmod j.size),eI (t-t.tmod j.size+j.size)]
    rw [IntWalk.i64_in (t-t.tmod j.size) (by omega),IntWalk.i64_in (t-t.tmod j.size+j.size) (by omega)]
  · have k3:j.kind=3:=by omega
    have e:=winsL_sess k3 hsz.1 ht.1 ht.2
    rw [e] at hl
    have hn:n=1:=hl.1
    subst hn
    refine meets_rows (λi hi => ?_) (m_l4Of3 j t hsz.1 k3 _ rfl)
    have hi0:i=0:=Nat.lt_one_iff.1 hi
    subst hi0
    refine Eq.trans ?_ (hl.2 0 hi).symm
    show [eI t,eI (IntKind.i64.wrap (t+j.size))]=[eI t,eI (t+j.size)]
    rw [IntWalk.i64_in (t+j.size) (by omega)]
theorem c_l7Pane (j:JobT) (r:RowT) (kind:Int) (p:PaneT) (hp:p=paneP j.piece r kind):d7 Tryz.prog 141 [xd (u7 j),xd (i6 r),.c (.d (eI kind))] ⟨.one (xd (m6 p)),[none,none,none]⟩:=by
  obtain ⟨j0,j1,j2,j3,j4,j5,j6,pc,j8,j9⟩:=j
  obtain ⟨k0,⟨k1,k2⟩,⟨k3,k4,k5,k6⟩,⟨k7,k8,k9,k10⟩,k11,k12⟩:=r
  refine d5 (H:=[]) (EX:=EXA) l6 e8 Tryz.func141 rfl (by kernel_rfl) (by decide) ?_
  generalize hA:real=A
  generalize hM:d4 Tryz.prog=M
  cbv
  repeat' first|apply And.intro|exact True.intro|with_reducible rfl|exact b7 hA rfl|apply c8 hA<;>intro _|exact c6 hA id | (subst hA;exact λh=>h) | (refine c5 hA ?_;decide +kernel)|fail
  all_goals (subst hp;subst hA;rename_i hpc;dsimp only [paneP];first|rw [if_pos hpc]|rw [if_neg (by rw [hpc];simp)])
def st_lp (n:Nat) (g:Nat->RowT) (r:RowT) (i:Nat) (dn:Bool) (c:Nat) (G:Nat->RowT):St:=⟨[(7,.c (.d (eI i))),(6,.c (.d (eB dn))),(5,.c (.own 576 0 c 1)),(0,.c (.d (.sl 13 n λi=>i6 (g i)))),(3,.c (.bp 192 1 0))],[(192,1,.box ((i6 r).map .d)),(576,1,.arr 13 c λi=>i6 (G i))]⟩
theorem c_l7Put (l:List RowT) (n:Nat) (g:Nat->RowT) (hl:Lst u6 l n g) (hn:n<=1080000) (r:RowT) (n1:Nat) (G1:Nat->RowT) (h1:Lst u6 (rPut r l) n1 G1):d7 Tryz.prog 148 [.c (.d (.sl 13 n λi=>i6 (g i))),xd (i6 r)] ⟨.one (.c (.own 13 n1 λi=>i6 (G1 i))),[none,none]⟩:=by
  have hnL:n<=maxLen:=Nat.le_trans hn (by decide)
  refine d5 (H:=[14]) (EX:=EXA) l6 e8 Tryz.func148 rfl (by kernel_rfl) (by decide) ?_
  generalize hA:real=A
  generalize hM:d4 Tryz.prog=M
  cbv
  repeat' first|apply And.intro|exact True.intro|with_reducible rfl|exact b7 hA rfl|apply c8 hA<;>intro _|exact c6 hA id | (subst hA;exact λh=>h) | (refine c5 hA ?_;decide +kernel)|fail
  refine i7 hA (α := { y:Nat × Bool × Nat × (Nat->RowT) // y.1<=n/\∃ out,PutAt r (l.take y.1) y.2.1 out/\Lst u6 out y.2.2.1 y.2.2.2 }) (λy=>st_lp n g r y.1.1 y.1.2.1 y.1.2.2.1 y.1.2.2.2) (λy=>n-y.1.1) ⟨(0,false,0,λ_=>u6),Nat.zero_le _,[],.inl ⟨rfl,rfl,λq hq=>by simp at hq⟩,rfl,λk h=>absurd h (Nat.not_lt_zero k)⟩ ?_ ?_
  · refine c7 ?_ ?_ ?_
    · (subst hA;(repeat' first|exact True.intro|exact rfl|apply And.intro))
    · (subst hA;(repeat' first|exact True.intro|exact rfl|apply And.intro | (intro _ _;first|rfl|trivial) | (intro q hq;exact absurd hq (Nat.not_lt_zero q))))
    · (subst hA;(repeat' first|exact True.intro|exact rfl|apply And.intro|exact .inl rfl|exact .inr (b8 rfl)))
  rintro ⟨⟨i,dn,c,G⟩,hi,out,hp,hG⟩
  have hi:i<=n:=hi
  have hp:PutAt r (l.take i) dn out:=hp
  have hG:Lst u6 out c G:=hG
  have hcl:c<=i+1:=by
    rw [hG.1]
    refine Nat.le_trans (putAt_len hp) ?_
    rw [List.length_take];omega
  have eq0:A.nat (Int.ofNat i)=i:=by subst hA;exact Int.toNat_natCast i
  cbv
  repeat' first|apply And.intro|exact True.intro|with_reducible rfl|exact b7 hA rfl|apply c8 hA<;>intro _|exact c6 hA id | (subst hA;exact λh=>h) | (refine c5 hA ?_;decide +kernel) | (refine d6 hA hM (c_l5A _ _ _ _ _ _) (λ_ _ => ?_);cbv) | (refine inb_lt hA ?_;first|exact f9 hA (by assumption)|exact l5 hA (by assumption))|exact f6 hA (by omega) (by decide)|exact room_add3 hA (by omega) (by decide)|exact flat_row hA _ _|fail
  · rename_i hlt hs
    have hlt':i<n:=by first|exact f9 hA hlt|exact l5 hA hlt
    have htk:=lst_take hl hlt'
    have hsm:IsR r.key r.win (g i):=by
      rw [<- eq0]
      subst hA
      simp only [real,u5,Bool.and_eq_true,decide_eq_true_eq,beq_iff_eq] at hs
      unfold IsR
      simp_all
    refine ⟨⟨(i+1,dn,c,G),hlt',out,by dsimp only;rw [htk];exact putAt_same hp hsm,hG⟩,by dsimp only;omega,c7 ?_ ?_ ?_⟩
    · (subst hA;(repeat' first|exact True.intro|exact rfl|apply And.intro|exact congrArg (λx=>DV.v (.int .i64 x)) (o0 hlt' hnL)))
    · (subst hA;(repeat' first|exact True.intro|exact rfl|apply And.intro | (intro _ _;first|rfl|trivial)))
    · (subst hA;(repeat' first|exact True.intro|exact rfl|apply And.intro|exact .inl rfl|exact .inr (b8 rfl)))
  · rename_i hlt hs b hb hh
    have hlt':i<n:=by first|exact f9 hA hlt|exact l5 hA hlt
    have htk:=lst_take hl hlt'
    have hsm:¬ IsR r.key r.win (g i):=by
      rw [<- eq0]
      subst hA
      simp only [real,u5,Bool.and_eq_true,Bool.and_eq_false_iff,decide_eq_false_iff_not,beq_eq_false_iff_ne,ne_eq] at hs
      intro hI
      unfold IsR at hI
      rcases hs with h|h|h|h<;>simp_all
    have hh2:dn=false/\RA r (g i):=by
      rw [<- eq0]
      subst hA
      have hh:(bif !dn then b else false)=true:=hh
      cases dn with
      | true=>cases hh
      | false=>exact ⟨rfl,hb.1 hh⟩
    obtain ⟨hdn,hra⟩:=hh2
    subst hdn
    refine ⟨⟨(i+1,true,c+1+1,λq=>if q<c+1 then (if q<c then G q else r) else g i),hlt',(out ++ [r]) ++ [g i],by dsimp only;rw [htk];exact putAt_hit hp hsm hra,lst_snoc (lst_snoc hG)⟩,by dsimp only;omega,c7 ?_ ?_ ?_⟩
    · (subst hA;(repeat' first|exact True.intro|exact rfl|apply And.intro|exact congrArg (λx=>DV.v (.int .i64 x)) (o0 hlt' hnL)))
    · (subst hA;(repeat' first|exact True.intro|exact rfl|apply And.intro | (intro _ _;first|rfl|trivial) | (intro q hq;exact push2_if i6 c G r (g i) (λ_=>i6 u6) (λ_=>i6 u6) q hq)))
    · (subst hA;(repeat' first|exact True.intro|exact rfl|apply And.intro|exact .inl rfl|exact .inr (b8 rfl)))
  · rename_i hlt hs b hb hh
    have hlt':i<n:=by first|exact f9 hA hlt|exact l5 hA hlt
    have htk:=lst_take hl hlt'
    have hsm:¬ IsR r.key r.win (g i):=by
      rw [<- eq0]
      subst hA
      simp only [real,u5,Bool.and_eq_true,Bool.and_eq_false_iff,decide_eq_false_iff_not,beq_eq_false_iff_ne,ne_eq] at hs
      intro hI
      unfold IsR at hI
      rcases hs with h|h|h|h<;>simp_all
    have hh2:¬ (dn=false/\RA r (g i)):=by
      rw [<- eq0]
      subst hA
      have hh:(bif !dn then b else false)=false:=hh
      rintro ⟨rfl,hr⟩
      have:=hb.2 hr
      rw [this] at hh;cases hh
    refine ⟨⟨(i+1,dn,c+1,λq=>if q<c then G q else g i),hlt',out ++ [g i],by dsimp only;rw [htk];exact putAt_on hp hsm hh2,lst_snoc hG⟩,by dsimp only;omega,c7 ?_ ?_ ?_⟩
    · (subst hA;(repeat' first|exact True.intro|exact rfl|apply And.intro|exact congrArg (λx=>DV.v (.int .i64 x)) (o0 hlt' hnL)))
    · (subst hA;(repeat' first|exact True.intro|exact rfl|apply And.intro | (intro _ _;first|rfl|trivial) | (intro q hq;exact m8 (A:=real) i6 rfl c G (g i) (λ_=>i6 u6) q hq)))
    · (subst hA;(repeat' first|exact True.intro|exact rfl|apply And.intro|exact .inl rfl|exact .inr (b8 rfl)))
  · rename_i hge hdd
    have hin:n=i:=by first | (have:=ge2_of hA hge;omega) | (have:=ge_of hA hge;omega)
    have hp9:PutAt r l dn out:=by rw [<- lst_all hl,hin];exact hp
    have hG9:Lst u6 out c G:=hG
    have hd9:dn=false:=bnot_t hA hdd
    have he:=putAt_end hp9
    rw [hd9] at he
    have he:rPut r l=out ++ [r]:=he
    rw [he] at h1
    have hcc:c+1=n1:=by
      have:=h1.1
      have:=hG9.1
      simp at *
      omega
    subst hcc
    have hrow:∀ q,q<c+1->(if q<c then G q else r)=G1 q:=λq hq=>((lst_snoc (x:=r) hG9).2 q hq).trans (h1.2 q hq).symm
    refine l9 hA ⟨[(5,.c (.own 576 0 (c+1) 1))],[(576,1,.arr 13 (c+1) λi=>i6 (G1 i))]⟩ (c7 ?_ ?_ ?_) ?_
    · (subst hA;(repeat' first|exact True.intro|exact rfl|apply And.intro))
    · (subst hA;(repeat' first|exact True.intro|exact rfl|apply And.intro | (intro _ _;first|rfl|trivial) | (intro q hq;exact (m8 (A:=real) i6 rfl c G r (λ_=>i6 u6) q hq).trans (congrArg i6 (hrow q hq)))))
    · (subst hA;(repeat' first|exact True.intro|exact rfl|apply And.intro|exact .inl rfl|exact .inr (b8 rfl)))
    cbv
    repeat' first|apply And.intro|exact True.intro|with_reducible rfl|exact b7 hA rfl|apply c8 hA<;>intro _|exact c6 hA id | (subst hA;exact λh=>h) | (refine c5 hA ?_;decide +kernel)|fail
  · rename_i hge hdd
    have hin:n=i:=by first | (have:=ge2_of hA hge;omega) | (have:=ge_of hA hge;omega)
    have hp9:PutAt r l dn out:=by rw [<- lst_all hl,hin];exact hp
    have hG9:Lst u6 out c G:=hG
    have hd9:dn=true:=bnot_f hA hdd
    have he:=putAt_end hp9
    rw [hd9] at he
    have he:rPut r l=out:=he
    rw [he] at h1
    have hcc:c=n1:=by
      have:=h1.1
      have:=hG9.1
      simp at *
      omega
    subst hcc
    have hrow:∀ q,q<c->G q=G1 q:=λq hq=>(hG9.2 q hq).trans (h1.2 q hq).symm
    refine l9 hA ⟨[(5,.c (.own 576 0 (c) 1))],[(576,1,.arr 13 (c) λi=>i6 (G1 i))]⟩ (c7 ?_ ?_ ?_) ?_
    · (subst hA;(repeat' first|exact True.intro|exact rfl|apply And.intro))
    · (subst hA;(repeat' first|exact True.intro|exact rfl|apply And.intro | (intro _ _;first|rfl|trivial) | (intro q hq;exact congrArg i6 (hrow q hq))))
    · (subst hA;(repeat' first|exact True.intro|exact rfl|apply And.intro|exact .inl rfl|exact .inr (b8 rfl)))
    cbv
    repeat' first|apply And.intro|exact True.intro|with_reducible rfl|exact b7 hA rfl|apply c8 hA<;>intro _|exact c6 hA id | (subst hA;exact λh=>h) | (refine c5 hA ?_;decide +kernel)|fail
def st_rf (mk:Int) (n:Nat) (g:Nat->RowT) (k:Int) (w:WinT) (i:Nat):St:=⟨[(8,.c (.d (eI i))),(1,.c (.d (eI k))),(3,.c (.bp 192 1 0)),(5,.c (.bp 320 1 0)),(6,.c (.bp 384 1 0)),(7,.c (.d (eB false)))],[(192,1,.box [.d (eI mk),.d (.sl 13 n λi=>i6 (g i))]),(320,1,.box ((eWin w).map .d)),(384,1,.box ((i6 u6).map .d))]⟩
theorem c_sFindR (mk:Int) (l:List RowT) (n:Nat) (g:Nat->RowT) (hl:Lst u6 l n g) (hn:n<=1080000) (k:Int) (w:WinT) (r:RowT) (hr:r=(rFind k w l).getD u6) (b:Bool) (hb:b=(rFind k w l).isSome):d7 Tryz.prog 147 [.agg [.d (eI mk),.d (.sl 13 n λi=>i6 (g i))],.c (.d (eI k)),xd (eWin w)] ⟨.tup [xd (i6 r),.c (.d (eB b))],[none,none,none]⟩:=by
  have hnL:n<=maxLen:=Nat.le_trans hn (by decide)
  refine d5 (H:=[]) (EX:=EXA) l6 e8 Tryz.func147 rfl (by kernel_rfl) (by decide) ?_
  generalize hA:real=A
  generalize hM:d4 Tryz.prog=M
  cbv
  repeat' first|apply And.intro|exact True.intro|with_reducible rfl|exact b7 hA rfl|apply c8 hA<;>intro _|exact c6 hA id | (subst hA;exact λh=>h) | (refine c5 hA ?_;decide +kernel)|fail
  refine i7 hA (α := { i:Nat // i<=n/\∀ q,q<i->¬ IsR k w (g q) }) (λy=>st_rf mk n g k w y.1) (λy=>n-y.1) ⟨0,Nat.zero_le _,λq h=>absurd h (Nat.not_lt_zero q)⟩ ?_ ?_
  · refine c7 ?_ ?_ ?_
    · (subst hA;(repeat' first|exact True.intro|exact rfl|apply And.intro))
    · (subst hA;(repeat' first|exact True.intro|exact rfl|apply And.intro | (intro _ _;first|rfl|trivial)))
    · (subst hA;(repeat' first|exact True.intro|exact rfl|apply And.intro|exact .inl rfl|exact .inr (b8 rfl)))
  rintro ⟨i,hi,hk⟩
  have hi:i<=n:=hi
  have eq0:A.nat (Int.ofNat i)=i:=by subst hA;exact Int.toNat_natCast i
  cbv
  repeat' first|apply And.intro|exact True.intro|with_reducible rfl|exact b7 hA rfl|apply c8 hA<;>intro _|exact c6 hA id | (subst hA;exact λh=>h) | (refine c5 hA ?_;decide +kernel) | (refine inb_lt hA ?_;first|exact f9 hA (by assumption)|exact l5 hA (by assumption))|fail
  · rename_i hlt hs
    have hlt':i<n:=by first|exact f9 hA hlt|exact l5 hA hlt
    have hsm:IsR k w (g i):=by
      rw [<- eq0]
      subst hA
      simp only [real,u5,Bool.and_eq_true,decide_eq_true_eq,beq_iff_eq] at hs
      unfold IsR
      simp_all
    rw [rfind_some hl hlt' hsm hk] at hr hb
    have hr:r=g i:=hr
    have hb:b=true:=hb
    subst hr hb
    subst hA
    rfl
  · rename_i hlt hs
    have hlt':i<n:=by first|exact f9 hA hlt|exact l5 hA hlt
    have hsm:¬ IsR k w (g i):=by
      rw [<- eq0]
      subst hA
      simp only [real,u5,Bool.and_eq_true,Bool.and_eq_false_iff,decide_eq_false_iff_not,beq_eq_false_iff_ne,ne_eq] at hs
      intro hI
      unfold IsR at hI
      rcases hs with h|h|h|h<;>simp_all
    refine ⟨⟨i+1,hlt',λq hq => ?_⟩,by dsimp only;omega,c7 ?_ ?_ ?_⟩
    · by_cases e:q=i
      · rw [e];exact hsm
      · exact hk q (by have hq:q<i+1:=hq;omega)
    · (subst hA;(repeat' first|exact True.intro|exact rfl|apply And.intro|exact congrArg (λx=>DV.v (.int .i64 x)) (o0 hlt' hnL)))
    · (subst hA;(repeat' first|exact True.intro|exact rfl|apply And.intro | (intro _ _;first|rfl|trivial)))
    · (subst hA;(repeat' first|exact True.intro|exact rfl|apply And.intro|exact .inl rfl|exact .inr (b8 rfl)))
  · rename_i hge
    have hin:n=i:=by first | (have:=ge2_of hA hge;omega) | (have:=ge_of hA hge;omega)
    rw [rfind_none hl λq hq=>hk q (by omega)] at hr hb
    have hr:r=u6:=hr
    have hb:b=false:=hb
    subst hr hb
    rfl
theorem c_l7Tell (j:JobT) (mk:Int) (l:List RowT) (n:Nat) (g:Nat->RowT) (hl:Lst u6 l n g) (hn:n<=1080000) (r:RowT) (t:RowT × List PaneT) (ht:t=tellS j mk r) (n1:Nat) (G1:Nat->RowT) (h1:Lst u6 (rPut t.1 l) n1 G1) (c:Nat) (P:Nat->PaneT) (hP:Lst zPan t.2 c P):d7 Tryz.prog 146 [xd (u7 j),.agg [.d (eI mk),.d (.sl 13 n λi=>i6 (g i))],xd (i6 r)] ⟨.tup [.agg [.d (eI mk),.own 13 n1 λi=>i6 (G1 i)],.c (.own 9 c λi=>m6 (P i))],[none,none,none]⟩:=by
  have cP:=c_l7Put l n g hl hn t.1 n1 G1 h1
  unfold tellS at ht
  by_cases hm:mk<r.win.e
  · rw [if_pos hm] at ht
    subst ht
    have hc0:c=0:=hP.1
    subst hc0
    have cP:d7 Tryz.prog 148 [.c (.d (.sl 13 n λi=>i6 (g i))),xd (i6 r)] ⟨.one (.c (.own 13 n1 λi=>i6 (G1 i))),[none,none]⟩:=cP
    refine meets_up (res:=.tup [.agg [.d (eI mk),.own 13 n1 λi=>i6 (G1 i)],.c (.own 9 0 (real.rep (m6 zPan)))]) ⟨⟨UpV.refl _,UpV.refl _,trivial⟩,UpV.row λi hi=>absurd hi (Nat.not_lt_zero i),trivial⟩ ?_
    have no:∀ {A:Ar},real=A->A.cmp .lss mk r.win.e=false->False:=λhA h=>by
      subst hA
      exact of_decide_eq_false h hm
    refine d5 (H:=[]) (EX:=EXA) l6 e8 Tryz.func146 rfl (by kernel_rfl) (by decide) ?_
    generalize hA:real=A
    generalize hM:d4 Tryz.prog=M
    cbv
    repeat' first|exact (no hA (by assumption)).elim|apply And.intro|exact True.intro|with_reducible rfl|exact b7 hA rfl|apply c8 hA<;>intro _|exact c6 hA id | (subst hA;exact λh=>h) | (refine c5 hA ?_;decide +kernel) | (refine f7 hA hM _ cP ?_;cbv)|exact flat_row hA _ _|fail
    all_goals (subst hA;rfl)
  · rw [if_neg hm] at ht
    subst ht
    have hc1:c=1:=hP.1
    subst hc1
    have hP0:P 0=paneP j.piece r (kindT r):=hP.2 0 (by omega)
    have cP:d7 Tryz.prog 148 [.c (.d (.sl 13 n λi=>i6 (g i))),xd (i6 (toldR r))] ⟨.one (.c (.own 13 n1 λi=>i6 (G1 i))),[none,none]⟩:=cP
    obtain ⟨p,hp⟩:∃ p,p=paneP j.piece r (kindT r):=⟨_,rfl⟩
    refine meets_up (res:=.tup [.agg [.d (eI mk),.own 13 n1 λi=>i6 (G1 i)],.c (.own 9 1 (real.app 1 (real.rep (m6 p)) (real.rep (m6 zPan))))]) ⟨⟨UpV.refl _,UpV.refl _,trivial⟩,UpV.row λi hi=>(by rw [show i=0 by omega,hP0,hp];rfl),trivial⟩ ?_
    have no:∀ {A:Ar},real=A->A.cmp .lss mk r.win.e=true->False:=λhA h=>by
      subst hA
      exact hm (of_decide_eq_true h)
    have cN2:=λ(h:r.timely=true)=>c_l7Pane j r 2 p (by rw [hp,show kindT r=2 from if_pos h])
    have cN1:=λ(h:¬ r.timely=true)=>c_l7Pane j r 1 p (by rw [hp,show kindT r=1 from if_neg h])
    refine d5 (H:=[]) (EX:=EXA) l6 e8 Tryz.func146 rfl (by kernel_rfl) (by decide) ?_
    generalize hA:real=A
    generalize hM:d4 Tryz.prog=M
    cbv
    repeat' first|exact (no hA (by assumption)).elim|apply And.intro|exact True.intro|with_reducible rfl|exact b7 hA rfl|apply c8 hA<;>intro _|exact c6 hA id | (subst hA;exact λh=>h) | (refine c5 hA ?_;decide +kernel) | (refine i9 hA hM _ cP (by subst hA;rfl) ?_;cbv)|exact flat_row hA _ _|fail
    · rename_i h
      have h9:¬ r.timely=true:=by rw [show r.timely=false from bnot_t hA h];simp
      refine f7 hA hM _ (cN1 h9) ?_
      cbv
      repeat' first|apply And.intro|exact True.intro|with_reducible rfl|exact b7 hA rfl|apply c8 hA<;>intro _|exact c6 hA id | (subst hA;exact λh=>h) | (refine c5 hA ?_;decide +kernel) | (refine i9 hA hM _ cP (by subst hA;rfl) ?_;cbv)|exact flat_row hA _ _|fail
      all_goals (subst hA;rfl)
    · rename_i h
      have h9:r.timely=true:=bnot_f hA h
      refine f7 hA hM _ (cN2 h9) ?_
      cbv
      repeat' first|apply And.intro|exact True.intro|with_reducible rfl|exact b7 hA rfl|apply c8 hA<;>intro _|exact c6 hA id | (subst hA;exact λh=>h) | (refine c5 hA ?_;decide +kernel) | (refine i9 hA hM _ cP (by subst hA;rfl) ?_;cbv)|exact flat_row hA _ _|fail
      all_goals (subst hA;rfl)
theorem c_l7Into (j:JobT) (mk:Int) (l:List RowT) (n:Nat) (g:Nat->RowT) (hl:Lst u6 l n g) (hn:n<=1080000) (x:ItmT) (w:WinT) :
    (∀ q,intoL j mk x.key x.v w l=some q->∀ n1 G1,Lst u6 q.1 n1 G1->∀ c P,Lst zPan q.2 c P->d7 Tryz.prog 144 [xd (u7 j),.agg [.d (eI mk),.d (.sl 13 n λi=>i6 (g i))],xd (n9 x),xd (eWin w)] ⟨.tup [.agg [.d (eI mk),.d (.sl 13 n1 λi=>i6 (G1 i))],.c (.d (.sl 9 c λi=>m6 (P i))),.c (.d (eB true))],[none,none,none,none]⟩) /\
    (intoL j mk x.key x.v w l=none->∀ n1 G1,n1=n->G1=g->∀ c P,c=0->P=(λ_=>zPan)->d7 Tryz.prog 144 [xd (u7 j),.agg [.d (eI mk),.d (.sl 13 n λi=>i6 (g i))],xd (n9 x),xd (eWin w)] ⟨.tup [.agg [.d (eI mk),.d (.sl 13 n1 λi=>i6 (G1 i))],.c (.d (.sl 9 c λi=>m6 (P i))),.c (.d (eB false))],[none,none,none,none]⟩):=by
  unfold intoL
  refine ⟨λq hq n1 G1 h1 c P hP => ?_,λhq n1 G1 e1 e2 c P e3 e4 => ?_⟩
  · split at hq
    · cases hq
    · rename_i hov
      obtain ⟨t,ht⟩:∃ t,t=tellS j mk (addR ((rFind x.key w l).getD (nrow x.key w)) x.v):=⟨_,rfl⟩
      rw [<- ht] at hq
      cases hq
      have h1:Lst u6 (rPut t.1 l) n1 G1:=h1
      have hP:Lst zPan t.2 c P:=hP
      obtain ⟨r0,hr0⟩:∃ r0,r0=(rFind x.key w l).getD u6:=⟨_,rfl⟩
      obtain ⟨b0,hb0⟩:∃ b0,b0=(rFind x.key w l).isSome:=⟨_,rfl⟩
      have cF:=c_sFindR mk l n g hl hn x.key w r0 hr0 b0 hb0
      obtain ⟨ra,hra⟩:∃ ra,ra=aggAdd r0.all x.v:=⟨_,rfl⟩
      obtain ⟨rb,hrb⟩:∃ ra,ra=aggAdd r0.fresh x.v:=⟨_,rfl⟩
      have cA:=c_sAggAdd r0.all x.v ra hra
      have cB:=c_sAggAdd r0.fresh x.v rb hrb
      have hrr:addR ((rFind x.key w l).getD (nrow x.key w)) x.v=⟨x.key,w,ra,rb,r0.told,r0.timely⟩:=by
        cases h:rFind x.key w l with
        | none=>rw [h] at hr0;rw [hra,hrb,hr0];rfl
        | some r=>
          have his:IsR x.key w r:=by have:=getD_is (k:=x.key) (w:=w) (l:=l);rw [h] at this;exact this
          rw [h] at hr0
          have e1:=(isR_eq his).1
          have e2:=(isR_eq his).2
          rw [hra,hrb,hr0,<- e1,<- e2];rfl
      rw [hrr] at ht
      have cT:=c_l7Tell j mk l n g hl hn ⟨x.key,w,ra,rb,r0.told,r0.timely⟩ t ht n1 G1 h1 c P hP
      have no:∀ {A:Ar},real=A->A.cmp .geq mk (A.ar .add .i64 w.e j.late)=true->False:=λhA h=>by
        subst hA
        exact hov (of_decide_eq_true h)
      refine meets_frz (r:=.tup [.agg [.d (eI mk),.own 13 n1 λi=>i6 (G1 i)],.c (.own 9 c λi=>m6 (P i)),.c (.d (eB true))]) ?_ rfl
      refine d5 (H:=[]) (EX:=EXA) l6 e8 Tryz.func144 rfl (by kernel_rfl) (by decide) ?_
      generalize hA:real=A
      generalize hM:d4 Tryz.prog=M
      cbv
      repeat' first|exact (no hA (by assumption)).elim|apply And.intro|exact True.intro|with_reducible rfl|exact b7 hA rfl|apply c8 hA<;>intro _|exact c6 hA id | (subst hA;exact λh=>h) | (refine c5 hA ?_;decide +kernel) | (refine f7 hA hM _ cF ?_;cbv) | (refine f7 hA hM _ cA ?_;cbv) | (refine f7 hA hM _ cB ?_;cbv) | (refine f7 hA hM _ cT ?_;cbv)|exact flat_row hA _ _|exact flat_pane hA _ _|fail
  · split at hq
    · rename_i hov
      subst e1 e2 e3 e4
      have no:∀ {A:Ar},real=A->A.cmp .geq mk (A.ar .add .i64 w.e j.late)=false->False:=λhA h=>by
        subst hA
        exact of_decide_eq_false h hov
      refine meets_frz (r:=.tup [.agg [.d (eI mk),.d (.sl 13 n1 λi=>i6 (G1 i))],.c (.own 9 0 λi=>m6 zPan),.c (.d (eB false))]) ?_ rfl
      refine meets_up (res:=.tup [.agg [.d (eI mk),.d (.sl 13 n1 λi=>i6 (G1 i))],.c (.own 9 0 (real.rep (m6 zPan))),.c (.d (eB false))]) ⟨⟨UpV.refl _,UpV.refl _,trivial⟩,UpV.row λi hi=>absurd hi (Nat.not_lt_zero i),UpV.refl _,trivial⟩ ?_
      refine d5 (H:=[]) (EX:=EXA) l6 e8 Tryz.func144 rfl (by kernel_rfl) (by decide) ?_
      generalize hA:real=A
      generalize hM:d4 Tryz.prog=M
      cbv
      repeat' first|exact (no hA (by assumption)).elim|apply And.intro|exact True.intro|with_reducible rfl|exact b7 hA rfl|apply c8 hA<;>intro _|exact c6 hA id | (subst hA;exact λh=>h) | (refine c5 hA ?_;decide +kernel)|fail
      all_goals (subst hA;rfl)
    · cases hq
def st_ls1 (j:JobT) (mk:Int) (n:Nat) (g:Nat->RowT) (x:ItmT) (w:WinT) (i kr:Nat) (Gr:Nat->RowT) (ko:Nat) (Go:Nat->RowT) (sp:WinT):St:=⟨[(14,.c (.d (eI i))),(7,.c (.bp 448 1 0)),(12,.c (.own 1920 0 kr 1)),(13,.c (.own 1984 0 ko 1)),(4,.c (.bp 256 1 0)),(5,.c (.bp 320 1 0)),(6,.c (.bp 384 1 0)),(8,.c (.bp 512 1 0)),(11,.c (.bp 704 1 0))],[(256,1,.box ((u7 j).map .d)),(320,1,.box [.d (eI mk),.d (.sl 13 n λi=>i6 (g i))]),(384,1,.box ((n9 x).map .d)),(448,1,.box ((eWin w).map .d)),(512,1,.box [.d (eI 0),.d (.v c9)]),(704,1,.box ((i6 ⟨x.key,sp,agg1 x.v,agg1 x.v,0,false⟩).map .d)),(1920,1,.arr 13 kr λi=>i6 (Gr i)),(1984,1,.arr 13 ko λi=>i6 (Go i))]⟩
def st_ls2 (j:JobT) (mk:Int) (n:Nat) (g:Nat->RowT) (x:ItmT) (w:WinT) (kr:Nat) (Gr:Nat->RowT) (ko:Nat) (Go:Nat->RowT) (sp:WinT) (i:Nat) (a:AggT) (c:Nat) (P:Nat->PaneT):St:=⟨[(16,.c (.d (eI i))),(12,.c (.own 1920 0 kr 1)),(13,.c (.own 1984 0 ko 1)),(15,.c (.own 7424 0 c 1)),(4,.c (.bp 256 1 0)),(5,.c (.bp 320 1 0)),(6,.c (.bp 384 1 0)),(8,.c (.bp 512 1 0)),(11,.c (.bp 704 1 0))],[(256,1,.box ((u7 j).map .d)),(320,1,.box [.d (eI mk),.d (.sl 13 n λi=>i6 (g i))]),(384,1,.box ((n9 x).map .d)),(448,1,.box ((eWin w).map .d)),(512,1,.box [.d (eI 0),.d (.v c9)]),(704,1,.box ((i6 ⟨x.key,sp,a,agg1 x.v,0,false⟩).map .d)),(1920,1,.arr 13 kr λi=>i6 (Gr i)),(1984,1,.arr 13 ko λi=>i6 (Go i)),(7424,1,.arr 9 c λi=>m6 (P i))]⟩
theorem m_lsG (j:JobT) (mk:Int) (l:List RowT) (n:Nat) (g:Nat->RowT) (hl:Lst u6 l n g) (hn:n<=500000) (x:ItmT) (w:WinT) (sp:WinT) (hsp:sp=spanL w (s6 x.key w l)) (hov:w64 (sp.e+j.late)<=mk) (P:Nat->PaneT):d7 Tryz.prog 143 [xd (u7 j),.agg [.d (eI mk),.d (.sl 13 n λi=>i6 (g i))],xd (n9 x),xd (eWin w)]
    ⟨.tup [.agg [.d (eI mk),.d (.sl 13 n λi=>i6 (g i))],.c (.d (.sl 9 0 λi=>m6 (P i))),.c (.d (eB false))],[none,none,none,none]⟩:=by
  have hnL:n<=maxLen:=Nat.le_trans (show n<=1080000 by omega) (by decide)
  have cA:=c_sAggAdd zAgg x.v (agg1 x.v) rfl
  have no:∀ {A:Ar},real=A->A.cmp .geq mk (A.ar .add .i64 sp.e j.late)=false->False:=λhA h=>by
    subst hA
    exact of_decide_eq_false h hov
  refine meets_frz (r:=.tup [.agg [.d (eI mk),.d (.sl 13 n λi=>i6 (g i))],.c (.own 9 0 λi=>m6 (P i)),.c (.d (eB false))]) ?_ rfl
  refine meets_up (res:=.tup [.agg [.d (eI mk),.d (.sl 13 n λi=>i6 (g i))],.c (.own 9 0 (real.rep (m6 zPan))),.c (.d (eB false))]) ⟨⟨UpV.refl _,UpV.refl _,trivial⟩,UpV.row λi hi=>absurd hi (Nat.not_lt_zero i),UpV.refl _,trivial⟩ ?_
  refine d5 (H:=[11]) (EX:=EXA) l6 e8 Tryz.func143 rfl (by kernel_rfl) (by decide) ?_
  generalize hA:real=A
  generalize hM:d4 Tryz.prog=M
  cbv
  repeat' first|apply And.intro|exact True.intro|with_reducible rfl|exact b7 hA rfl|apply c8 hA<;>intro _|exact c6 hA id | (subst hA;exact λh=>h) | (refine c5 hA ?_;decide +kernel) | (refine f7 hA hM _ cA ?_;cbv)|fail
  refine i7 hA (α := { y:Nat × (Nat × (Nat->RowT)) × (Nat × (Nat->RowT)) × WinT // y.1<=n/\Lst u6 (restL x.key w (l.take y.1)) y.2.1.1 y.2.1.2/\Lst u6 (s6 x.key w (l.take y.1)) y.2.2.1.1 y.2.2.1.2/\y.2.2.2=spanL w (s6 x.key w (l.take y.1)) }) (λy=>st_ls1 j mk n g x w y.1.1 y.1.2.1.1 y.1.2.1.2 y.1.2.2.1.1 y.1.2.2.1.2 y.1.2.2.2) (λy=>n-y.1.1) ⟨(0,(0,λ_=>u6),(0,λ_=>u6),w),Nat.zero_le _,⟨rfl,λk h=>absurd h (Nat.not_lt_zero k)⟩,⟨rfl,λk h=>absurd h (Nat.not_lt_zero k)⟩,rfl⟩ ?_ ?_
  · refine c7 ?_ ?_ ?_
    · (subst hA;(repeat' first|exact True.intro|exact rfl|apply And.intro))
    · (subst hA;(repeat' first|exact True.intro|exact rfl|apply And.intro | (intro _ _;first|rfl|trivial) | (intro q hq;exact absurd hq (Nat.not_lt_zero q))))
    · (subst hA;(repeat' first|exact True.intro|exact rfl|apply And.intro|exact .inl rfl|exact .inr (b8 rfl)))
  rintro ⟨⟨u,⟨kr,Gr⟩,⟨ko,Go⟩,s1⟩,hu,hr,ho,hs1⟩
  have hu:u<=n:=hu
  have hr:Lst u6 (restL x.key w (l.take u)) kr Gr:=hr
  have ho:Lst u6 (s6 x.key w (l.take u)) ko Go:=ho
  have hs1:s1=spanL w (s6 x.key w (l.take u)):=hs1
  have hkr:kr<=u:=by
    rw [hr.1]
    refine Nat.le_trans (restL_len _ _ _) ?_
    rw [List.length_take];omega
  have hko:ko<=u:=by
    rw [ho.1]
    refine Nat.le_trans (oldL_len _ _ _) ?_
    rw [List.length_take];omega
  obtain ⟨s2,hs2⟩:∃ z,z=winSpan s1 (g u).win:=⟨_,rfl⟩
  have cS:=λq (e:q=u)=>c_sWinSpan s1 (g q).win s2 (by rw [e];exact hs2)
  have eq0:A.nat (Int.ofNat u)=u:=by subst hA;exact Int.toNat_natCast u
  have hso:u<n->s6 x.key w (l.take (u+1))=s6 x.key w (l.take u)++if tchR x.key w (g u)=true then [g u] else []:=λh=>by rw [lst_take hl h,oldL_snoc]
  have hsr:u<n->restL x.key w (l.take (u+1))=restL x.key w (l.take u)++if tchR x.key w (g u)=true then [] else [g u]:=λh=>by rw [lst_take hl h,restL_snoc]
  cbv
  repeat' first|apply And.intro|exact True.intro|with_reducible rfl|exact b7 hA rfl|apply c8 hA<;>intro _|exact c6 hA id | (subst hA;exact λh=>h) | (refine c5 hA ?_;decide +kernel) | (refine f7 hA hM _ (cS _ eq0) ?_;cbv) | (refine d6 hA hM (c_sTouchP _ _ _ _) (λ_ _ => ?_);cbv) | (refine inb_lt hA ?_;first|exact f9 hA (by assumption)|exact l5 hA (by assumption))|exact f6 hA (by omega) (by decide)|exact flat_row hA _ _|fail
  · rename_i hlt b hb hc
    have hlt':u<n:=by first|exact f9 hA hlt|exact l5 hA hlt
    have ht:tchR x.key w (g u)=true:=by
      rw [<- eq0]
      subst hA
      unfold tchR
      rw [decide_eq_true_eq]
      have hb:b=true↔((g (real.nat (Int.ofNat u))).win.s<w.e/\w.s<(g (real.nat (Int.ofNat u))).win.e):=hb
      have hc:(bif ((g (real.nat (Int.ofNat u))).key==x.key) then b else false)=true:=hc
      cases hk:((g (real.nat (Int.ofNat u))).key==x.key) with
      | false=>rw [hk] at hc;cases hc
      | true=>rw [hk] at hc;exact ⟨by simpa using hk,hb.1 hc⟩
    refine ⟨⟨(u+1,(kr,Gr),(ko+1,λq=>if q<ko then Go q else g u),s2),hlt',?_,?_,?_⟩,by dsimp only;omega,c7 ?_ ?_ ?_⟩
    · dsimp only;rw [hsr hlt',if_pos ht,List.append_nil];exact hr
    · dsimp only;rw [hso hlt',if_pos ht];exact lst_snoc ho
    · dsimp only;rw [hso hlt',if_pos ht,spanL_app,<- hs1];exact hs2
    · (subst hA;(repeat' first|exact True.intro|exact rfl|apply And.intro|exact congrArg (λx=>DV.v (.int .i64 x)) (o0 hlt' hnL)))
    · (subst hA;(repeat' first|exact True.intro|exact rfl|apply And.intro | (intro _ _;first|rfl|trivial) | (intro q hq;exact m8 (A:=real) i6 rfl ko Go (g u) (λ_=>i6 u6) q hq)))
    · (subst hA;(repeat' first|exact True.intro|exact rfl|apply And.intro|exact .inl rfl|exact .inr (b8 rfl)))
  · rename_i hlt b hb hc
    have hlt':u<n:=by first|exact f9 hA hlt|exact l5 hA hlt
    have ht:¬ tchR x.key w (g u)=true:=by
      rw [<- eq0]
      subst hA
      unfold tchR
      rw [decide_eq_true_eq]
      have hb:b=true↔((g (real.nat (Int.ofNat u))).win.s<w.e/\w.s<(g (real.nat (Int.ofNat u))).win.e):=hb
      have hc:(bif ((g (real.nat (Int.ofNat u))).key==x.key) then b else false)=false:=hc
      rintro ⟨h1,h2⟩
      rw [hb.2 h2] at hc
      rw [h1] at hc
      simp at hc
    refine ⟨⟨(u+1,(kr+1,λq=>if q<kr then Gr q else g u),(ko,Go),s1),hlt',?_,?_,?_⟩,by dsimp only;omega,c7 ?_ ?_ ?_⟩
    · dsimp only;rw [hsr hlt',if_neg ht];exact lst_snoc hr
    · dsimp only;rw [hso hlt',if_neg ht,List.append_nil];exact ho
    · dsimp only;rw [hso hlt',if_neg ht,List.append_nil];exact hs1
    · (subst hA;(repeat' first|exact True.intro|exact rfl|apply And.intro|exact congrArg (λx=>DV.v (.int .i64 x)) (o0 hlt' hnL)))
    · (subst hA;(repeat' first|exact True.intro|exact rfl|apply And.intro | (intro _ _;first|rfl|trivial) | (intro q hq;exact m8 (A:=real) i6 rfl kr Gr (g u) (λ_=>i6 u6) q hq)))
    · (subst hA;(repeat' first|exact True.intro|exact rfl|apply And.intro|exact .inl rfl|exact .inr (b8 rfl)))
  rename_i hge
  have hun:n=u:=by first | (have:=ge2_of hA hge;omega) | (have:=ge_of hA hge;omega)
  have hr:Lst u6 (restL x.key w l) kr Gr:=by rw [<- lst_all hl,hun];exact hr
  have ho:Lst u6 (s6 x.key w l) ko Go:=by rw [<- lst_all hl,hun];exact ho
  have hss:s1=sp:=by rw [hs1,hsp,<- hun,lst_all hl]
  subst hss
  refine l9 hA ⟨[(7,.c (.bp 448 1 0)),(12,.c (.own 1920 0 kr 1)),(13,.c (.own 1984 0 ko 1)),(4,.c (.bp 256 1 0)),(5,.c (.bp 320 1 0)),(6,.c (.bp 384 1 0)),(8,.c (.bp 512 1 0)),(11,.c (.bp 704 1 0))],[(256,1,.box ((u7 j).map .d)),(320,1,.box [.d (eI mk),.d (.sl 13 n λi=>i6 (g i))]),(384,1,.box ((n9 x).map .d)),(448,1,.box ((eWin w).map .d)),(512,1,.box [.d (eI 0),.d (.v c9)]),(704,1,.box ((i6 ⟨x.key,s1,agg1 x.v,agg1 x.v,0,false⟩).map .d)),(1920,1,.arr 13 kr λi=>i6 (Gr i)),(1984,1,.arr 13 ko λi=>i6 (Go i))]⟩ (c7 ?_ ?_ ?_) ?_
  · (subst hA;(repeat' first|exact True.intro|exact rfl|apply And.intro))
  · (subst hA;(repeat' first|exact True.intro|exact rfl|apply And.intro | (intro _ _;first|rfl|trivial)))
  · (subst hA;(repeat' first|exact True.intro|exact rfl|apply And.intro|exact .inl rfl|exact .inr (b8 rfl)))
  cbv
  repeat' first|exact (no hA (by assumption)).elim|apply And.intro|exact True.intro|with_reducible rfl|exact b7 hA rfl|apply c8 hA<;>intro _|exact c6 hA id | (subst hA;exact λh=>h) | (refine c5 hA ?_;decide +kernel)|fail
  all_goals (subst hA;rfl)
theorem m_lsO (j:JobT) (mk:Int) (l:List RowT) (n:Nat) (g:Nat->RowT) (hl:Lst u6 l n g) (hn:n<=500000) (x:ItmT) (w:WinT) (sp:WinT) (hsp:sp=spanL w (s6 x.key w l)) (hov:mk<w64 (sp.e+j.late)) (hone:oneB sp (s6 x.key w l)=true) (q:List RowT × List PaneT) (hq:intoL j mk x.key x.v sp l=some q) (n1:Nat) (G1:Nat->RowT) (h1:Lst u6 q.1 n1 G1) (c:Nat) (P:Nat->PaneT) (hP:Lst zPan q.2 c P):d7 Tryz.prog 143 [xd (u7 j),.agg [.d (eI mk),.d (.sl 13 n λi=>i6 (g i))],xd (n9 x),xd (eWin w)]
    ⟨.tup [.agg [.d (eI mk),.d (.sl 13 n1 λi=>i6 (G1 i))],.c (.d (.sl 9 c λi=>m6 (P i))),.c (.d (eB true))],[none,none,none,none]⟩:=by
  have hnL:n<=maxLen:=Nat.le_trans (show n<=1080000 by omega) (by decide)
  have cA:=c_sAggAdd zAgg x.v (agg1 x.v) rfl
  have no:∀ {A:Ar},real=A->A.cmp .geq mk (A.ar .add .i64 sp.e j.late)=true->False:=λhA h=>by
    subst hA
    exact absurd (of_decide_eq_true h) (Int.not_le.2 hov)
  have cI:=(c_l7Into j mk l n g hl (by omega) x sp).1 q hq n1 G1 h1 c P hP
  refine d5 (H:=[11]) (EX:=EXA) l6 e8 Tryz.func143 rfl (by kernel_rfl) (by decide) ?_
  generalize hA:real=A
  generalize hM:d4 Tryz.prog=M
  cbv
  repeat' first|apply And.intro|exact True.intro|with_reducible rfl|exact b7 hA rfl|apply c8 hA<;>intro _|exact c6 hA id | (subst hA;exact λh=>h) | (refine c5 hA ?_;decide +kernel) | (refine f7 hA hM _ cA ?_;cbv)|fail
  refine i7 hA (α := { y:Nat × (Nat × (Nat->RowT)) × (Nat × (Nat->RowT)) × WinT // y.1<=n/\Lst u6 (restL x.key w (l.take y.1)) y.2.1.1 y.2.1.2/\Lst u6 (s6 x.key w (l.take y.1)) y.2.2.1.1 y.2.2.1.2/\y.2.2.2=spanL w (s6 x.key w (l.take y.1)) }) (λy=>st_ls1 j mk n g x w y.1.1 y.1.2.1.1 y.1.2.1.2 y.1.2.2.1.1 y.1.2.2.1.2 y.1.2.2.2) (λy=>n-y.1.1) ⟨(0,(0,λ_=>u6),(0,λ_=>u6),w),Nat.zero_le _,⟨rfl,λk h=>absurd h (Nat.not_lt_zero k)⟩,⟨rfl,λk h=>absurd h (Nat.not_lt_zero k)⟩,rfl⟩ ?_ ?_
  · refine c7 ?_ ?_ ?_
    · (subst hA;(repeat' first|exact True.intro|exact rfl|apply And.intro))
    · (subst hA;(repeat' first|exact True.intro|exact rfl|apply And.intro | (intro _ _;first|rfl|trivial) | (intro q hq;exact absurd hq (Nat.not_lt_zero q))))
    · (subst hA;(repeat' first|exact True.intro|exact rfl|apply And.intro|exact .inl rfl|exact .inr (b8 rfl)))
  rintro ⟨⟨u,⟨kr,Gr⟩,⟨ko,Go⟩,s1⟩,hu,hr,ho,hs1⟩
  have hu:u<=n:=hu
  have hr:Lst u6 (restL x.key w (l.take u)) kr Gr:=hr
  have ho:Lst u6 (s6 x.key w (l.take u)) ko Go:=ho
  have hs1:s1=spanL w (s6 x.key w (l.take u)):=hs1
  have hkr:kr<=u:=by
    rw [hr.1]
    refine Nat.le_trans (restL_len _ _ _) ?_
    rw [List.length_take];omega
  have hko:ko<=u:=by
    rw [ho.1]
    refine Nat.le_trans (oldL_len _ _ _) ?_
    rw [List.length_take];omega
  obtain ⟨s2,hs2⟩:∃ z,z=winSpan s1 (g u).win:=⟨_,rfl⟩
  have cS:=λq (e:q=u)=>c_sWinSpan s1 (g q).win s2 (by rw [e];exact hs2)
  have eq0:A.nat (Int.ofNat u)=u:=by subst hA;exact Int.toNat_natCast u
  have hso:u<n->s6 x.key w (l.take (u+1))=s6 x.key w (l.take u)++if tchR x.key w (g u)=true then [g u] else []:=λh=>by rw [lst_take hl h,oldL_snoc]
  have hsr:u<n->restL x.key w (l.take (u+1))=restL x.key w (l.take u)++if tchR x.key w (g u)=true then [] else [g u]:=λh=>by rw [lst_take hl h,restL_snoc]
  cbv
  repeat' first|apply And.intro|exact True.intro|with_reducible rfl|exact b7 hA rfl|apply c8 hA<;>intro _|exact c6 hA id | (subst hA;exact λh=>h) | (refine c5 hA ?_;decide +kernel) | (refine f7 hA hM _ (cS _ eq0) ?_;cbv) | (refine d6 hA hM (c_sTouchP _ _ _ _) (λ_ _ => ?_);cbv) | (refine inb_lt hA ?_;first|exact f9 hA (by assumption)|exact l5 hA (by assumption))|exact f6 hA (by omega) (by decide)|exact flat_row hA _ _|fail
  · rename_i hlt b hb hc
    have hlt':u<n:=by first|exact f9 hA hlt|exact l5 hA hlt
    have ht:tchR x.key w (g u)=true:=by
      rw [<- eq0]
      subst hA
      unfold tchR
      rw [decide_eq_true_eq]
      have hb:b=true↔((g (real.nat (Int.ofNat u))).win.s<w.e/\w.s<(g (real.nat (Int.ofNat u))).win.e):=hb
      have hc:(bif ((g (real.nat (Int.ofNat u))).key==x.key) then b else false)=true:=hc
      cases hk:((g (real.nat (Int.ofNat u))).key==x.key) with
      | false=>rw [hk] at hc;cases hc
      | true=>rw [hk] at hc;exact ⟨by simpa using hk,hb.1 hc⟩
    refine ⟨⟨(u+1,(kr,Gr),(ko+1,λq=>if q<ko then Go q else g u),s2),hlt',?_,?_,?_⟩,by dsimp only;omega,c7 ?_ ?_ ?_⟩
    · dsimp only;rw [hsr hlt',if_pos ht,List.append_nil];exact hr
    · dsimp only;rw [hso hlt',if_pos ht];exact lst_snoc ho
    · dsimp only;rw [hso hlt',if_pos ht,spanL_app,<- hs1];exact hs2
    · (subst hA;(repeat' first|exact True.intro|exact rfl|apply And.intro|exact congrArg (λx=>DV.v (.int .i64 x)) (o0 hlt' hnL)))
    · (subst hA;(repeat' first|exact True.intro|exact rfl|apply And.intro | (intro _ _;first|rfl|trivial) | (intro q hq;exact m8 (A:=real) i6 rfl ko Go (g u) (λ_=>i6 u6) q hq)))
    · (subst hA;(repeat' first|exact True.intro|exact rfl|apply And.intro|exact .inl rfl|exact .inr (b8 rfl)))
  · rename_i hlt b hb hc
    have hlt':u<n:=by first|exact f9 hA hlt|exact l5 hA hlt
    have ht:¬ tchR x.key w (g u)=true:=by
      rw [<- eq0]
      subst hA
      unfold tchR
      rw [decide_eq_true_eq]
      have hb:b=true↔((g (real.nat (Int.ofNat u))).win.s<w.e/\w.s<(g (real.nat (Int.ofNat u))).win.e):=hb
      have hc:(bif ((g (real.nat (Int.ofNat u))).key==x.key) then b else false)=false:=hc
      rintro ⟨h1,h2⟩
      rw [hb.2 h2] at hc
      rw [h1] at hc
      simp at hc
    refine ⟨⟨(u+1,(kr+1,λq=>if q<kr then Gr q else g u),(ko,Go),s1),hlt',?_,?_,?_⟩,by dsimp only;omega,c7 ?_ ?_ ?_⟩
    · dsimp only;rw [hsr hlt',if_neg ht];exact lst_snoc hr
    · dsimp only;rw [hso hlt',if_neg ht,List.append_nil];exact ho
    · dsimp only;rw [hso hlt',if_neg ht,List.append_nil];exact hs1
    · (subst hA;(repeat' first|exact True.intro|exact rfl|apply And.intro|exact congrArg (λx=>DV.v (.int .i64 x)) (o0 hlt' hnL)))
    · (subst hA;(repeat' first|exact True.intro|exact rfl|apply And.intro | (intro _ _;first|rfl|trivial) | (intro q hq;exact m8 (A:=real) i6 rfl kr Gr (g u) (λ_=>i6 u6) q hq)))
    · (subst hA;(repeat' first|exact True.intro|exact rfl|apply And.intro|exact .inl rfl|exact .inr (b8 rfl)))
  rename_i hge
  have hun:n=u:=by first | (have:=ge2_of hA hge;omega) | (have:=ge_of hA hge;omega)
  have hr:Lst u6 (restL x.key w l) kr Gr:=by rw [<- lst_all hl,hun];exact hr
  have ho:Lst u6 (s6 x.key w l) ko Go:=by rw [<- lst_all hl,hun];exact ho
  have hss:s1=sp:=by rw [hs1,hsp,<- hun,lst_all hl]
  subst hss
  refine l9 hA ⟨[(7,.c (.bp 448 1 0)),(12,.c (.own 1920 0 kr 1)),(13,.c (.own 1984 0 ko 1)),(4,.c (.bp 256 1 0)),(5,.c (.bp 320 1 0)),(6,.c (.bp 384 1 0)),(8,.c (.bp 512 1 0)),(11,.c (.bp 704 1 0))],[(256,1,.box ((u7 j).map .d)),(320,1,.box [.d (eI mk),.d (.sl 13 n λi=>i6 (g i))]),(384,1,.box ((n9 x).map .d)),(448,1,.box ((eWin w).map .d)),(512,1,.box [.d (eI 0),.d (.v c9)]),(704,1,.box ((i6 ⟨x.key,s1,agg1 x.v,agg1 x.v,0,false⟩).map .d)),(1920,1,.arr 13 kr λi=>i6 (Gr i)),(1984,1,.arr 13 ko λi=>i6 (Go i))]⟩ (c7 ?_ ?_ ?_) ?_
  · (subst hA;(repeat' first|exact True.intro|exact rfl|apply And.intro))
  · (subst hA;(repeat' first|exact True.intro|exact rfl|apply And.intro | (intro _ _;first|rfl|trivial)))
  · (subst hA;(repeat' first|exact True.intro|exact rfl|apply And.intro|exact .inl rfl|exact .inr (b8 rfl)))
  cbv
  obtain ⟨hk1,hg1,hg2⟩:=(one_iff ho).1 hone
  subst hk1
  repeat' first|exact (no hA (by assumption)).elim | (exfalso;rename_i h;subst hA;simp [real,hg1,hg2] at h;done)|apply And.intro|exact True.intro|with_reducible rfl|exact b7 hA rfl|apply c8 hA<;>intro _|exact c6 hA id | (subst hA;exact λh=>h) | (refine c5 hA ?_;decide +kernel) | (refine d8 hA λ_ => ?_;exact ⟨Int.le_refl 0,Int.one_pos⟩) | (refine f7 hA hM _ cI ?_;cbv)|exact flat_row hA _ _|fail
theorem m_lsN (j:JobT) (mk:Int) (l:List RowT) (n:Nat) (g:Nat->RowT) (hl:Lst u6 l n g) (hn:n<=500000) (x:ItmT) (w:WinT) (sp:WinT) (hsp:sp=spanL w (s6 x.key w l)) (hov:mk<w64 (sp.e+j.late)) (hone:oneB sp (s6 x.key w l)=false) (a:AggT) (ha:a=((s6 x.key w l).map (·.all)).foldl aggB (agg1 x.v)) (t:RowT × List PaneT) (ht:t=tellS j mk ⟨x.key,sp,a,a,0,false⟩) (n1:Nat) (G1:Nat->RowT) (h1:Lst u6 (rPut t.1 (restL x.key w l)) n1 G1) (c:Nat) (P:Nat->PaneT) (hP:Lst zPan (goneL (s6 x.key w l)++t.2) c P):d7 Tryz.prog 143 [xd (u7 j),.agg [.d (eI mk),.d (.sl 13 n λi=>i6 (g i))],xd (n9 x),xd (eWin w)]
    ⟨.tup [.agg [.d (eI mk),.d (.sl 13 n1 λi=>i6 (G1 i))],.c (.d (.sl 9 c λi=>m6 (P i))),.c (.d (eB true))],[none,none,none,none]⟩:=by
  have hnL:n<=maxLen:=Nat.le_trans (show n<=1080000 by omega) (by decide)
  have cA:=c_sAggAdd zAgg x.v (agg1 x.v) rfl
  have no:∀ {A:Ar},real=A->A.cmp .geq mk (A.ar .add .i64 sp.e j.late)=true->False:=λhA h=>by
    subst hA
    exact absurd (of_decide_eq_true h) (Int.not_le.2 hov)
  refine meets_frz (r:=.tup [.agg [.d (eI mk),.own 13 n1 λi=>i6 (G1 i)],.c (.own 9 c λi=>m6 (P i)),.c (.d (eB true))]) ?_ rfl
  obtain ⟨cg,Pg,hPg⟩:=lst_ex zPan (goneL (s6 x.key w l))
  obtain ⟨ct,Pt,hPt⟩:=lst_ex zPan t.2
  have hct:ct<=1:=by
    rw [hPt.1,ht];unfold tellS;split<;>simp
  have hcc:c=cg+ct:=by rw [hP.1,List.length_append,hPg.1,hPt.1]
  subst hcc
  refine meets_up (res:=.tup [.agg [.d (eI mk),.own 13 n1 λi=>i6 (G1 i)],.c (.own 9 (real.add cg ct) (real.app cg (λi=>m6 (Pg i)) (real.sub 0 λi=>m6 (Pt i)))),.c (.d (eB true))]) ⟨⟨UpV.refl _,UpV.refl _,trivial⟩,UpV.row (λi hi=>(app_if m6 hPg hPt i hi).trans (congrArg m6 (hP.2 i hi).symm)),UpV.refl _,trivial⟩ ?_
  refine d5 (H:=[11,22,25]) (EX:=EXA) l6 e8 Tryz.func143 rfl (by kernel_rfl) (by decide) ?_
  generalize hA:real=A
  generalize hM:d4 Tryz.prog=M
  cbv
  repeat' first|apply And.intro|exact True.intro|with_reducible rfl|exact b7 hA rfl|apply c8 hA<;>intro _|exact c6 hA id | (subst hA;exact λh=>h) | (refine c5 hA ?_;decide +kernel) | (refine f7 hA hM _ cA ?_;cbv)|fail
  refine i7 hA (α := { y:Nat × (Nat × (Nat->RowT)) × (Nat × (Nat->RowT)) × WinT // y.1<=n/\Lst u6 (restL x.key w (l.take y.1)) y.2.1.1 y.2.1.2/\Lst u6 (s6 x.key w (l.take y.1)) y.2.2.1.1 y.2.2.1.2/\y.2.2.2=spanL w (s6 x.key w (l.take y.1)) }) (λy=>st_ls1 j mk n g x w y.1.1 y.1.2.1.1 y.1.2.1.2 y.1.2.2.1.1 y.1.2.2.1.2 y.1.2.2.2) (λy=>n-y.1.1) ⟨(0,(0,λ_=>u6),(0,λ_=>u6),w),Nat.zero_le _,⟨rfl,λk h=>absurd h (Nat.not_lt_zero k)⟩,⟨rfl,λk h=>absurd h (Nat.not_lt_zero k)⟩,rfl⟩ ?_ ?_
  · refine c7 ?_ ?_ ?_
    · (subst hA;(repeat' first|exact True.intro|exact rfl|apply And.intro))
    · (subst hA;(repeat' first|exact True.intro|exact rfl|apply And.intro | (intro _ _;first|rfl|trivial) | (intro q hq;exact absurd hq (Nat.not_lt_zero q))))
    · (subst hA;(repeat' first|exact True.intro|exact rfl|apply And.intro|exact .inl rfl|exact .inr (b8 rfl)))
  rintro ⟨⟨u,⟨kr,Gr⟩,⟨ko,Go⟩,s1⟩,hu,hr,ho,hs1⟩
  have hu:u<=n:=hu
  have hr:Lst u6 (restL x.key w (l.take u)) kr Gr:=hr
  have ho:Lst u6 (s6 x.key w (l.take u)) ko Go:=ho
  have hs1:s1=spanL w (s6 x.key w (l.take u)):=hs1
  have hkr:kr<=u:=by
    rw [hr.1]
    refine Nat.le_trans (restL_len _ _ _) ?_
    rw [List.length_take];omega
  have hko:ko<=u:=by
    rw [ho.1]
    refine Nat.le_trans (oldL_len _ _ _) ?_
    rw [List.length_take];omega
  obtain ⟨s2,hs2⟩:∃ z,z=winSpan s1 (g u).win:=⟨_,rfl⟩
  have cS:=λq (e:q=u)=>c_sWinSpan s1 (g q).win s2 (by rw [e];exact hs2)
  have eq0:A.nat (Int.ofNat u)=u:=by subst hA;exact Int.toNat_natCast u
  have hso:u<n->s6 x.key w (l.take (u+1))=s6 x.key w (l.take u)++if tchR x.key w (g u)=true then [g u] else []:=λh=>by rw [lst_take hl h,oldL_snoc]
  have hsr:u<n->restL x.key w (l.take (u+1))=restL x.key w (l.take u)++if tchR x.key w (g u)=true then [] else [g u]:=λh=>by rw [lst_take hl h,restL_snoc]
  cbv
  repeat' first|apply And.intro|exact True.intro|with_reducible rfl|exact b7 hA rfl|apply c8 hA<;>intro _|exact c6 hA id | (subst hA;exact λh=>h) | (refine c5 hA ?_;decide +kernel) | (refine f7 hA hM _ (cS _ eq0) ?_;cbv) | (refine d6 hA hM (c_sTouchP _ _ _ _) (λ_ _ => ?_);cbv) | (refine inb_lt hA ?_;first|exact f9 hA (by assumption)|exact l5 hA (by assumption))|exact f6 hA (by omega) (by decide)|exact flat_row hA _ _|fail
  · rename_i hlt b hb hc
    have hlt':u<n:=by first|exact f9 hA hlt|exact l5 hA hlt
    have ht:tchR x.key w (g u)=true:=by
      rw [<- eq0]
      subst hA
      unfold tchR
      rw [decide_eq_true_eq]
      have hb:b=true↔((g (real.nat (Int.ofNat u))).win.s<w.e/\w.s<(g (real.nat (Int.ofNat u))).win.e):=hb
      have hc:(bif ((g (real.nat (Int.ofNat u))).key==x.key) then b else false)=true:=hc
      cases hk:((g (real.nat (Int.ofNat u))).key==x.key) with
      | false=>rw [hk] at hc;cases hc
      | true=>rw [hk] at hc;exact ⟨by simpa using hk,hb.1 hc⟩
    refine ⟨⟨(u+1,(kr,Gr),(ko+1,λq=>if q<ko then Go q else g u),s2),hlt',?_,?_,?_⟩,by dsimp only;omega,c7 ?_ ?_ ?_⟩
    · dsimp only;rw [hsr hlt',if_pos ht,List.append_nil];exact hr
    · dsimp only;rw [hso hlt',if_pos ht];exact lst_snoc ho
    · dsimp only;rw [hso hlt',if_pos ht,spanL_app,<- hs1];exact hs2
    · (subst hA;(repeat' first|exact True.intro|exact rfl|apply And.intro|exact congrArg (λx=>DV.v (.int .i64 x)) (o0 hlt' hnL)))
    · (subst hA;(repeat' first|exact True.intro|exact rfl|apply And.intro | (intro _ _;first|rfl|trivial) | (intro q hq;exact m8 (A:=real) i6 rfl ko Go (g u) (λ_=>i6 u6) q hq)))
    · (subst hA;(repeat' first|exact True.intro|exact rfl|apply And.intro|exact .inl rfl|exact .inr (b8 rfl)))
  · rename_i hlt b hb hc
    have hlt':u<n:=by first|exact f9 hA hlt|exact l5 hA hlt
    have ht:¬ tchR x.key w (g u)=true:=by
      rw [<- eq0]
      subst hA
      unfold tchR
      rw [decide_eq_true_eq]
      have hb:b=true↔((g (real.nat (Int.ofNat u))).win.s<w.e/\w.s<(g (real.nat (Int.ofNat u))).win.e):=hb
      have hc:(bif ((g (real.nat (Int.ofNat u))).key==x.key) then b else false)=false:=hc
      rintro ⟨h1,h2⟩
      rw [hb.2 h2] at hc
      rw [h1] at hc
      simp at hc
    refine ⟨⟨(u+1,(kr+1,λq=>if q<kr then Gr q else g u),(ko,Go),s1),hlt',?_,?_,?_⟩,by dsimp only;omega,c7 ?_ ?_ ?_⟩
    · dsimp only;rw [hsr hlt',if_neg ht];exact lst_snoc hr
    · dsimp only;rw [hso hlt',if_neg ht,List.append_nil];exact ho
    · dsimp only;rw [hso hlt',if_neg ht,List.append_nil];exact hs1
    · (subst hA;(repeat' first|exact True.intro|exact rfl|apply And.intro|exact congrArg (λx=>DV.v (.int .i64 x)) (o0 hlt' hnL)))
    · (subst hA;(repeat' first|exact True.intro|exact rfl|apply And.intro | (intro _ _;first|rfl|trivial) | (intro q hq;exact m8 (A:=real) i6 rfl kr Gr (g u) (λ_=>i6 u6) q hq)))
    · (subst hA;(repeat' first|exact True.intro|exact rfl|apply And.intro|exact .inl rfl|exact .inr (b8 rfl)))
  rename_i hge
  have hun:n=u:=by first | (have:=ge2_of hA hge;omega) | (have:=ge_of hA hge;omega)
  have hr:Lst u6 (restL x.key w l) kr Gr:=by rw [<- lst_all hl,hun];exact hr
  have ho:Lst u6 (s6 x.key w l) ko Go:=by rw [<- lst_all hl,hun];exact ho
  have hss:s1=sp:=by rw [hs1,hsp,<- hun,lst_all hl]
  subst hss
  refine l9 hA ⟨[(7,.c (.bp 448 1 0)),(12,.c (.own 1920 0 kr 1)),(13,.c (.own 1984 0 ko 1)),(4,.c (.bp 256 1 0)),(5,.c (.bp 320 1 0)),(6,.c (.bp 384 1 0)),(8,.c (.bp 512 1 0)),(11,.c (.bp 704 1 0))],[(256,1,.box ((u7 j).map .d)),(320,1,.box [.d (eI mk),.d (.sl 13 n λi=>i6 (g i))]),(384,1,.box ((n9 x).map .d)),(448,1,.box ((eWin w).map .d)),(512,1,.box [.d (eI 0),.d (.v c9)]),(704,1,.box ((i6 ⟨x.key,s1,agg1 x.v,agg1 x.v,0,false⟩).map .d)),(1920,1,.arr 13 kr λi=>i6 (Gr i)),(1984,1,.arr 13 ko λi=>i6 (Go i))]⟩ (c7 ?_ ?_ ?_) ?_
  · (subst hA;(repeat' first|exact True.intro|exact rfl|apply And.intro))
  · (subst hA;(repeat' first|exact True.intro|exact rfl|apply And.intro | (intro _ _;first|rfl|trivial)))
  · (subst hA;(repeat' first|exact True.intro|exact rfl|apply And.intro|exact .inl rfl|exact .inr (b8 rfl)))
  cbv
  have hno:¬ (ko=1/\(Go 0).win.s=s1.s/\(Go 0).win.e=s1.e):=λh=>by rw [(one_iff ho).2 h] at hone;cases hone
  obtain ⟨old,hold⟩:∃ old,old=s6 x.key w l:=⟨_,rfl⟩
  rw [<- hold] at ho hP ha
  repeat' first|exact (no hA (by assumption)).elim | (exfalso;rename_i h;subst hA;simp [real] at h;exact hno ⟨by omega,h.2.1,h.2.2⟩)|apply And.intro|exact True.intro|with_reducible rfl|exact b7 hA rfl|apply c8 hA<;>intro _|exact c6 hA id | (subst hA;exact λh=>h) | (refine c5 hA ?_;decide +kernel) | (refine d8 hA λh => ?_;subst hA;have h1:((ko:Nat):Int)=1:=of_decide_eq_true h;exact ⟨Int.le_refl 0,by omega⟩)|fail
  have hoL:ko<=maxLen:=Nat.le_trans (show ko<=1080000 by omega) (by decide)
  refine i7 hA (α := { y:Nat × AggT × Nat × (Nat->PaneT) // y.1<=ko/\y.2.1=((old.take y.1).map (·.all)).foldl aggB (agg1 x.v)/\Lst zPan (goneL (old.take y.1)) y.2.2.1 y.2.2.2 }) (λy=>st_ls2 j mk n g x w kr Gr ko Go s1 y.1.1 y.1.2.1 y.1.2.2.1 y.1.2.2.2) (λy=>ko-y.1.1) ⟨(0,agg1 x.v,0,λ_=>zPan),Nat.zero_le _,rfl,rfl,λk h=>absurd h (Nat.not_lt_zero k)⟩ ?_ ?_
  · refine c7 ?_ ?_ ?_
    · (subst hA;(repeat' first|exact True.intro|exact rfl|apply And.intro))
    · (subst hA;(repeat' first|exact True.intro|exact rfl|apply And.intro | (intro _ _;first|rfl|trivial) | (intro q hq;exact absurd hq (Nat.not_lt_zero q))))
    · (subst hA;(repeat' first|exact True.intro|exact rfl|apply And.intro|exact .inl rfl|exact .inr (b8 rfl)))
  rintro ⟨⟨u2,a1,c1,P1⟩,hu2,ha1,hP1⟩
  have hu2:u2<=ko:=hu2
  have ha1:a1=((old.take u2).map (·.all)).foldl aggB (agg1 x.v):=ha1
  have hP1:Lst zPan (goneL (old.take u2)) c1 P1:=hP1
  have hc1:c1<=u2:=by
    rw [hP1.1]
    refine Nat.le_trans (gone_len _) ?_
    rw [List.length_take];omega
  obtain ⟨a2,ha2⟩:∃ z,z=aggB a1 (Go u2).all:=⟨_,rfl⟩
  have eq2:A.add 0 (A.nat (Int.ofNat u2))=u2:=by subst hA;exact Nat.zero_add u2
  have cB:=λq (e:q=u2)=>c_sAggBoth a1 (Go q).all a2 (by rw [e];exact ha2)
  have hsa:u2<ko->a2=((old.take (u2+1)).map (·.all)).foldl aggB (agg1 x.v):=λh=>by rw [lst_take ho h,List.map_append,List.foldl_append,<- ha1];exact ha2
  cbv
  repeat' first|apply And.intro|exact True.intro|with_reducible rfl|exact b7 hA rfl|apply c8 hA<;>intro _|exact c6 hA id | (subst hA;exact λh=>h) | (refine c5 hA ?_;decide +kernel) | (refine f7 hA hM _ (cB _ eq2) ?_;cbv) | (refine inb_lt hA ?_;first|exact f9 hA (by assumption)|exact l5 hA (by assumption))|exact f6 hA (by omega) (by decide)|exact flat_row hA _ _|fail
  · rename_i hlt hc3
    have hlt':u2<ko:=by first|exact f9 hA hlt|exact l5 hA hlt
    have hto:0<(Go u2).told:=by
      rw [<- eq2]
      subst hA
      exact of_decide_eq_true hc3
    have htk:goneL (old.take (u2+1))=goneL (old.take u2) ++ [goneP (Go u2)]:=by
      rw [lst_take ho hlt',goneL_snoc,if_pos hto]
    refine ⟨⟨(u2+1,a2,c1+1,λq=>if q<c1 then P1 q else goneP (Go u2)),hlt',hsa hlt',?_⟩,by dsimp only;omega,c7 ?_ ?_ ?_⟩
    · dsimp only;rw [htk]
      exact lst_snoc hP1
    · (subst hA;(repeat' first|exact True.intro|exact rfl|apply And.intro|exact congrArg (λx=>DV.v (.int .i64 x)) (o0 hlt' hoL)))
    · (subst hA;(repeat' first|exact True.intro|exact rfl|apply And.intro | (intro _ _;first|rfl|trivial) | (intro q hq;refine Eq.trans (m8 (A:=real) m6 rfl c1 P1 (goneP (Go (0+u2))) (λ_=>m6 zPan) q hq) (congrArg m6 (by rw [Nat.zero_add])))))
    · (subst hA;(repeat' first|exact True.intro|exact rfl|apply And.intro|exact .inl rfl|exact .inr (b8 rfl)))
  · rename_i hlt hc3
    have hlt':u2<ko:=by first|exact f9 hA hlt|exact l5 hA hlt
    have hto:¬ 0<(Go u2).told:=by
      rw [<- eq2]
      subst hA
      exact of_decide_eq_false hc3
    have htk:goneL (old.take (u2+1))=goneL (old.take u2) ++ []:=by
      rw [lst_take ho hlt',goneL_snoc,if_neg hto]
    refine ⟨⟨(u2+1,a2,c1,P1),hlt',hsa hlt',?_⟩,by dsimp only;omega,c7 ?_ ?_ ?_⟩
    · dsimp only;rw [htk]
      rw [List.append_nil];exact hP1
    · (subst hA;(repeat' first|exact True.intro|exact rfl|apply And.intro|exact congrArg (λx=>DV.v (.int .i64 x)) (o0 hlt' hoL)))
    · (subst hA;(repeat' first|exact True.intro|exact rfl|apply And.intro | (intro _ _;first|rfl|trivial) | (intro q hq;refine Eq.trans (m8 (A:=real) m6 rfl c1 P1 (goneP (Go (0+u2))) (λ_=>m6 zPan) q hq) (congrArg m6 (by rw [Nat.zero_add])))))
    · (subst hA;(repeat' first|exact True.intro|exact rfl|apply And.intro|exact .inl rfl|exact .inr (b8 rfl)))
  rename_i hge
  have hk2:ko=u2:=by first | (have:=ge2_of hA hge;omega) | (have:=ge_of hA hge;omega)
  have ea:a1=a:=by rw [ha1,ha,<- hk2,lst_all ho]
  have hP9:Lst zPan (goneL old) c1 P1:=by rw [<- lst_all ho,hk2];exact hP1
  subst ea
  rw [<- hold] at hPg
  have hcg:c1=cg:=hP9.1.trans hPg.1.symm
  subst hcg
  have cT:=c_l7Tell j mk (restL x.key w l) kr Gr hr (by omega) ⟨x.key,s1,a1,a1,0,false⟩ t ht n1 G1 h1 ct Pt hPt
  refine l9 hA ⟨[(12,.c (.own 1920 0 kr 1)),(15,.c (.own 7424 0 c1 1)),(4,.c (.bp 256 1 0)),(5,.c (.bp 320 1 0)),(6,.c (.bp 384 1 0)),(8,.c (.bp 512 1 0)),(11,.c (.bp 704 1 0))],[(256,1,.box ((u7 j).map .d)),(320,1,.box [.d (eI mk),.d (.sl 13 n λi=>i6 (g i))]),(384,1,.box ((n9 x).map .d)),(448,1,.box ((eWin w).map .d)),(512,1,.box [.d (eI 0),.d (.v c9)]),(704,1,.box ((i6 ⟨x.key,s1,a1,agg1 x.v,0,false⟩).map .d)),(1920,1,.arr 13 kr λi=>i6 (Gr i)),(7424,1,.arr 9 c1 λi=>m6 (Pg i))]⟩ (c7 ?_ ?_ ?_) ?_
  · (subst hA;(repeat' first|exact True.intro|exact rfl|apply And.intro))
  · (subst hA;(repeat' first|exact True.intro|exact rfl|apply And.intro | (intro _ _;first|rfl|trivial) | (intro q hq;exact congrArg m6 ((hP9.2 q hq).trans (hPg.2 q hq).symm))))
  · (subst hA;(repeat' first|exact True.intro|exact rfl|apply And.intro|exact .inl rfl|exact .inr (b8 rfl)))
  cbv
  repeat' first|apply And.intro|exact True.intro|with_reducible rfl|exact b7 hA rfl|apply c8 hA<;>intro _|exact c6 hA id | (subst hA;exact λh=>h) | (refine c5 hA ?_;decide +kernel) | (refine i9 hA hM _ cT (by subst hA;first|rfl | (simp only [p6];try rfl)) ?_;cbv)|exact flat_row hA _ _|exact flat_pane hA _ _|fail
  refine l9 hA ⟨[(15,.c (.own 7424 0 c1 1)),(17,.c (.own 10626 0 ct 1)),(5,.c (.bp 320 1 0)),(8,.c (.bp 512 1 0))],[(320,1,.box [.d (eI mk),.own 10625 0 n1 1]),(512,1,.box [.d (eI 0),.d (.v c9)]),(10625,1,.arr 13 n1 λi=>i6 (G1 i)),(10626,1,.arr 9 ct λi=>m6 (Pt i)),(7424,1,.arr 9 c1 λi=>m6 (Pg i))]⟩ (c7 ?_ ?_ ?_) ?_
  · (subst hA;(repeat' first|exact True.intro|exact rfl|apply And.intro))
  · (subst hA;(repeat' first|exact True.intro|exact rfl|apply And.intro | (intro _ _;first|rfl|trivial)))
  · (subst hA;(repeat' first|exact True.intro|exact rfl|apply And.intro|exact .inl rfl|exact .inr (b8 rfl)))
  cbv
  repeat' first|apply And.intro|exact True.intro|with_reducible rfl|exact b7 hA rfl|apply c8 hA<;>intro _|exact c6 hA id | (subst hA;exact λh=>h) | (refine c5 hA ?_;decide +kernel)|exact f6 hA (by omega) (by decide)|fail
  all_goals (subst hA;rfl)
theorem c_l7Session (j:JobT) (mk:Int) (l:List RowT) (n:Nat) (g:Nat->RowT) (hl:Lst u6 l n g) (hn:n<=500000) (x:ItmT) (w:WinT) :
    (∀ q,sessL j mk x.key x.v w l=some q->∀ n1 G1,Lst u6 q.1 n1 G1->∀ c P,Lst zPan q.2 c P->d7 Tryz.prog 143 [xd (u7 j),.agg [.d (eI mk),.d (.sl 13 n λi=>i6 (g i))],xd (n9 x),xd (eWin w)] ⟨.tup [.agg [.d (eI mk),.d (.sl 13 n1 λi=>i6 (G1 i))],.c (.d (.sl 9 c λi=>m6 (P i))),.c (.d (eB true))],[none,none,none,none]⟩) /\
    (sessL j mk x.key x.v w l=none->∀ n1 G1,n1=n->G1=g->∀ c P,c=0->P=(λ_=>zPan)->d7 Tryz.prog 143 [xd (u7 j),.agg [.d (eI mk),.d (.sl 13 n λi=>i6 (g i))],xd (n9 x),xd (eWin w)] ⟨.tup [.agg [.d (eI mk),.d (.sl 13 n1 λi=>i6 (G1 i))],.c (.d (.sl 9 c λi=>m6 (P i))),.c (.d (eB false))],[none,none,none,none]⟩):=by
  obtain ⟨sp,hsp⟩:∃ sp,sp=spanL w (s6 x.key w l):=⟨_,rfl⟩
  unfold sessL
  rw [<- hsp]
  refine ⟨λq hq n1 G1 h1 c P hP => ?_,λhq n1 G1 e1 e2 c P e3 e4 => ?_⟩
  · split at hq
    · cases hq
    · rename_i hov
      have hov:mk<w64 (sp.e+j.late):=by omega
      split at hq
      · rename_i hone
        exact m_lsO j mk l n g hl hn x w sp hsp hov hone q hq n1 G1 h1 c P hP
      · rename_i hone
        have hone:oneB sp (s6 x.key w l)=false:=by
          cases h:oneB sp (s6 x.key w l) with
          | true=>exact absurd h hone
          | false=>rfl
        cases hq
        exact m_lsN j mk l n g hl hn x w sp hsp hov hone _ rfl _ rfl n1 G1 h1 c P hP
  · split at hq
    · rename_i hov
      subst e1 e2 e3
      exact m_lsG j mk l n1 G1 hl hn x w sp hsp hov P
    · rename_i hov
      have hov:mk<w64 (sp.e+j.late):=by omega
      split at hq
      · rename_i hone
        unfold intoL at hq
        rw [if_neg (by omega)] at hq;cases hq
      · cases hq
def st_lt (j:JobT) (mk:Int) (x:ItmT) (nw:Nat) (g:Nat->WinT) (u n:Nat) (R:Nat->RowT) (c:Nat) (P:Nat->PaneT) (d:Nat) (Q:Nat->LatT):St:=⟨[(12,.c (.d (eI u))),(11,.c (.own 1280 0 nw 1)),(9,.c (.own 960 0 c 1)),(10,.c (.own 1024 0 d 1)),(3,.c (.bp 192 1 0)),(4,.c (.bp 256 1 0)),(5,.c (.bp 320 1 0)),(6,.c (.bp 384 1 0))],[(192,1,.box ((u7 j).map .d)),(256,1,.box [.d (eI mk),.d (.sl 13 n λi=>i6 (R i))]),(320,1,.box ((n9 x).map .d)),(384,1,.box [.d (eI 0),.d (.v c9)]),(960,1,.arr 9 c λi=>m6 (P i)),(1024,1,.arr 7 d λi=>eLat (Q i)),(1280,1,.arr 2 nw λi=>eWin (g i))]⟩
theorem c_l7Take (j:JobT) (mk:Int) (L0:List RowT) (n0:Nat) (g0:Nat->RowT) (hl0:Lst u6 L0 n0 g0) (hn0:n0<=1000) (x:ItmT) (hjob:t9 j) (hx:0<=x.t/\x.t<=60) (k:Nat) (G:Nat->RowT) (hG:Lst u6 (takeL j mk x (x1 j x.t) L0).1 k G) (cz:Nat) (Pz:Nat->PaneT) (hPz:Lst zPan (takeL j mk x (x1 j x.t) L0).2.1 cz Pz) (dz:Nat) (Qz:Nat->LatT) (hQz:Lst zLat (takeL j mk x (x1 j x.t) L0).2.2 dz Qz) :
    d7 Tryz.prog 140 [xd (u7 j),.agg [.d (eI mk),.d (.sl 13 n0 λi=>i6 (g0 i))],xd (n9 x)] ⟨.tup [.agg [.d (eI mk),.d (.sl 13 k λi=>i6 (G i))],.c (.d (.sl 9 cz λi=>m6 (Pz i))),.c (.d (.sl 7 dz λi=>eLat (Qz i)))],[none,none,none]⟩:=by
  obtain ⟨ws,hws⟩:∃ ws,ws=x1 j x.t:=⟨_,rfl⟩
  rw [<- hws] at hG hPz hQz
  obtain ⟨nw,g,hg⟩:=lst_ex zWin ws
  have hnw:nw<=100:=by rw [hg.1,hws];exact winsL_len _ _
  have hnw2:nw<=maxLen:=Nat.le_trans hnw (by decide)
  have cW:=c_l4Of j x.t hjob hx nw g (by rw [<- hws];exact lst_tells eWin hg)
  refine meets_frz (r:=.tup [.agg [.d (eI mk),.d (.sl 13 k λi=>i6 (G i))],.c (.own 9 cz λi=>m6 (Pz i)),.c (.own 7 dz λi=>eLat (Qz i))]) ?_ rfl
  refine d5 (H:=[15]) (EX:=EXA) l6 e8 Tryz.func140 rfl (by kernel_rfl) (by decide) ?_
  generalize hA:real=A
  generalize hM:d4 Tryz.prog=M
  cbv
  repeat' first|apply And.intro|exact True.intro|with_reducible rfl|exact b7 hA rfl|apply c8 hA<;>intro _|exact c6 hA id | (subst hA;exact λh=>h) | (refine c5 hA ?_;decide +kernel) | (refine f7 hA hM _ cW ?_;cbv)|fail
  refine i7 hA (α := { y:Nat × (Nat × (Nat->RowT)) × (Nat × (Nat->PaneT)) × (Nat × (Nat->LatT)) // y.1<=nw/\Lst u6 (takeL j mk x (ws.take y.1) L0).1 y.2.1.1 y.2.1.2/\Lst zPan (takeL j mk x (ws.take y.1) L0).2.1 y.2.2.1.1 y.2.2.1.2/\Lst zLat (takeL j mk x (ws.take y.1) L0).2.2 y.2.2.2.1 y.2.2.2.2 }) (λy=>st_lt j mk x nw g y.1.1 y.1.2.1.1 y.1.2.1.2 y.1.2.2.1.1 y.1.2.2.1.2 y.1.2.2.2.1 y.1.2.2.2.2) (λy=>nw-y.1.1) ⟨(0,(n0,g0),(0,λ_=>zPan),(0,λ_=>zLat)),Nat.zero_le _,hl0,⟨rfl,λk h=>absurd h (Nat.not_lt_zero k)⟩,⟨rfl,λk h=>absurd h (Nat.not_lt_zero k)⟩⟩ ?_ ?_
  · refine c7 ?_ ?_ ?_
    · (subst hA;(repeat' first|exact True.intro|exact rfl|apply And.intro))
    · (subst hA;(repeat' first|exact True.intro|exact rfl|apply And.intro | (intro _ _;first|rfl|trivial) | (intro q hq;exact absurd hq (Nat.not_lt_zero q))))
    · (subst hA;(repeat' first|exact True.intro|exact rfl|apply And.intro|exact .inl rfl|exact .inr (b8 rfl)))
  rintro ⟨⟨u,⟨n,R⟩,⟨c,P⟩,⟨d,Q⟩⟩,hu,hR,hP,hQ⟩
  have hu:u<=nw:=hu
  obtain ⟨T,hT⟩:∃ T,T=takeL j mk x (ws.take u) L0:=⟨_,rfl⟩
  have hR:Lst u6 T.1 n R:=by rw [hT];exact hR
  have hP:Lst zPan T.2.1 c P:=by rw [hT];exact hP
  have hQ:Lst zLat T.2.2 d Q:=by rw [hT];exact hQ
  have hlen:=takeL_len (j:=j) (m:=mk) (x:=x) (l:=L0) (ws.take u)
  have hul:(ws.take u).length=u:=by rw [List.length_take,<- hg.1];omega
  rw [<- hT,hul,<- hl0.1,<- hR.1,<- hP.1,<- hQ.1] at hlen
  obtain ⟨hn1,hc1,hd1⟩:=hlen
  have hc2:c<=200000:=by
    have h1:u*(n0+u+1)<=100*1200:=Nat.mul_le_mul (by omega) (by omega)
    omega
  have hnext:∀ (hlt:u<nw) (T':List RowT × List PaneT × List LatT),takeS j mk x T (g u)=T'->takeL j mk x (ws.take (u+1)) L0=T':=λhlt T' h=>by rw [lst_take hg hlt,takeL_snoc,<- hT];exact h
  have eq0:A.add 0 (A.nat (Int.ofNat u))=u:=by subst hA;exact Nat.zero_add u
  have cI:=c_l7Into j mk T.1 n R hR (by omega) x (g u)
  have cS:=c_l7Session j mk T.1 n R hR (by omega) x (g u)
  cbv
  repeat' first|apply And.intro|exact True.intro|with_reducible rfl|exact b7 hA rfl|apply c8 hA<;>intro _|exact c6 hA id | (subst hA;exact λh=>h) | (refine c5 hA ?_;decide +kernel) | (refine inb_lt hA ?_;first|exact f9 hA (by assumption)|exact l5 hA (by assumption))|exact f6 hA (by omega) (by decide)|fail
  · rename_i hlt hkd
    have hlt':u<nw:=by first|exact f9 hA hlt|exact l5 hA hlt
    have hkd:j.kind=3:=eq_of hA hkd
    have hstep:stepT j mk x (g u) T.1=sessL j mk x.key x.v (g u) T.1:=by unfold stepT;rw [if_pos hkd]
    cases hq:sessL j mk x.key x.v (g u) T.1 with
    | none=>
      have hs:=takeS_none (hstep.trans hq)
      have cN:=λq (e:q=u)=>meets_at (P:=Tryz.prog) (f:=143) (F:=λq=>[xd (u7 j),.agg [.d (eI mk),.d (.sl 13 n λi=>i6 (R i))],xd (n9 x),xd (eWin (g q))]) e (cS.2 hq n R rfl rfl 0 _ rfl rfl)
      refine f7 hA hM _ (cN _ eq0) ?_
      cbv
      repeat' first | (exfalso;rename_i h;subst hA;simp [real] at h;done)|apply And.intro|exact True.intro|with_reducible rfl|exact b7 hA rfl|apply c8 hA<;>intro _|exact c6 hA id | (subst hA;exact λh=>h) | (refine c5 hA ?_;decide +kernel) | (refine inb_lt hA ?_;first|exact f9 hA (by assumption)|exact l5 hA (by assumption)) | (refine d8 hA λ_ => ?_;exact ⟨Int.natCast_nonneg _,Int.ofNat_lt.2 hlt'⟩)|exact f6 hA (by omega) (by decide)|fail
      refine ⟨⟨(u+1,(n,R),(c,P),(d+1,λz=>if z<d then Q z else ⟨x,g u⟩)),hlt',?_,?_,?_⟩,by dsimp only;omega,c7 ?_ ?_ ?_⟩
      · dsimp only;rw [hnext hlt' _ hs];exact hR
      · dsimp only;rw [hnext hlt' _ hs];exact hP
      · dsimp only;rw [hnext hlt' _ hs];exact lst_snoc hQ
      · (subst hA;(repeat' first|exact True.intro|exact rfl|apply And.intro|exact congrArg (λx=>DV.v (.int .i64 x)) (o0 hlt' hnw2)))
      · (subst hA;(repeat' first|exact True.intro|exact rfl|apply And.intro | (intro _ _;first|rfl|trivial) | (intro q hq;refine Eq.trans (m8 (A:=real) eLat rfl d Q ⟨x,g (0+u)⟩ (λ_=>[eI 0,eI 0,eI 0,eI 0,eI 0,eI 0,eI 0]) q hq) (congrArg eLat (by rw [Nat.zero_add]))) | (intro q hq;exact (if_pos hq))))
      · (subst hA;(repeat' first|exact True.intro|exact rfl|apply And.intro|exact .inl rfl|exact .inr (b8 rfl)))
    | some r=>
      have hs:=takeS_some (hstep.trans hq)
      obtain ⟨n1,R1,h1⟩:=lst_ex u6 r.1
      obtain ⟨c3,P3,h3⟩:=lst_ex zPan r.2
      have hrl:c3<=n+1:=by
        have:=sess_len hq
        rw [<- hR.1] at this
        rw [h3.1];omega
      have cN:=λq (e:q=u)=>meets_at (P:=Tryz.prog) (f:=143) (F:=λq=>[xd (u7 j),.agg [.d (eI mk),.d (.sl 13 n λi=>i6 (R i))],xd (n9 x),xd (eWin (g q))]) e (cS.1 r hq n1 R1 h1 c3 P3 h3)
      refine f7 hA hM _ (cN _ eq0) ?_
      cbv
      repeat' first | (exfalso;rename_i h;subst hA;simp [real] at h;done)|apply And.intro|exact True.intro|with_reducible rfl|exact b7 hA rfl|apply c8 hA<;>intro _|exact c6 hA id | (subst hA;exact λh=>h) | (refine c5 hA ?_;decide +kernel) | (refine inb_lt hA ?_;first|exact f9 hA (by assumption)|exact l5 hA (by assumption))|exact f6 hA (by omega) (by decide)|fail
      refine ⟨⟨(u+1,(n1,R1),(c+c3,λz=>if z<c then P z else P3 (z-c)),(d,Q)),hlt',?_,?_,?_⟩,by dsimp only;omega,c7 ?_ ?_ ?_⟩
      · dsimp only;rw [hnext hlt' _ hs];exact h1
      · dsimp only;rw [hnext hlt' _ hs];exact lst_app hP h3
      · dsimp only;rw [hnext hlt' _ hs];exact hQ
      · (subst hA;(repeat' first|exact True.intro|exact rfl|apply And.intro|exact congrArg (λx=>DV.v (.int .i64 x)) (o0 hlt' hnw2)))
      · (subst hA;(repeat' first|exact True.intro|exact rfl|apply And.intro | (intro _ _;first|rfl|trivial) | (intro q hq;exact app_if2 m6 q)))
      · (subst hA;(repeat' first|exact True.intro|exact rfl|apply And.intro|exact .inl rfl|exact .inr (b8 rfl)))
  · rename_i hlt hkd
    have hlt':u<nw:=by first|exact f9 hA hlt|exact l5 hA hlt
    have hkd:¬ j.kind=3:=ne_of hA hkd
    have hstep:stepT j mk x (g u) T.1=intoL j mk x.key x.v (g u) T.1:=by unfold stepT;rw [if_neg hkd]
    cases hq:intoL j mk x.key x.v (g u) T.1 with
    | none=>
      have hs:=takeS_none (hstep.trans hq)
      have cN:=λq (e:q=u)=>meets_at (P:=Tryz.prog) (f:=144) (F:=λq=>[xd (u7 j),.agg [.d (eI mk),.d (.sl 13 n λi=>i6 (R i))],xd (n9 x),xd (eWin (g q))]) e (cI.2 hq n R rfl rfl 0 _ rfl rfl)
      refine f7 hA hM _ (cN _ eq0) ?_
      cbv
      repeat' first | (exfalso;rename_i h;subst hA;simp [real] at h;done)|apply And.intro|exact True.intro|with_reducible rfl|exact b7 hA rfl|apply c8 hA<;>intro _|exact c6 hA id | (subst hA;exact λh=>h) | (refine c5 hA ?_;decide +kernel) | (refine inb_lt hA ?_;first|exact f9 hA (by assumption)|exact l5 hA (by assumption)) | (refine d8 hA λ_ => ?_;exact ⟨Int.natCast_nonneg _,Int.ofNat_lt.2 hlt'⟩)|exact f6 hA (by omega) (by decide)|fail
      refine ⟨⟨(u+1,(n,R),(c,P),(d+1,λz=>if z<d then Q z else ⟨x,g u⟩)),hlt',?_,?_,?_⟩,by dsimp only;omega,c7 ?_ ?_ ?_⟩
      · dsimp only;rw [hnext hlt' _ hs];exact hR
      · dsimp only;rw [hnext hlt' _ hs];exact hP
      · dsimp only;rw [hnext hlt' _ hs];exact lst_snoc hQ
      · (subst hA;(repeat' first|exact True.intro|exact rfl|apply And.intro|exact congrArg (λx=>DV.v (.int .i64 x)) (o0 hlt' hnw2)))
      · (subst hA;(repeat' first|exact True.intro|exact rfl|apply And.intro | (intro _ _;first|rfl|trivial) | (intro q hq;refine Eq.trans (m8 (A:=real) eLat rfl d Q ⟨x,g (0+u)⟩ (λ_=>[eI 0,eI 0,eI 0,eI 0,eI 0,eI 0,eI 0]) q hq) (congrArg eLat (by rw [Nat.zero_add]))) | (intro q hq;exact (if_pos hq))))
      · (subst hA;(repeat' first|exact True.intro|exact rfl|apply And.intro|exact .inl rfl|exact .inr (b8 rfl)))
    | some r=>
      have hs:=takeS_some (hstep.trans hq)
      obtain ⟨n1,R1,h1⟩:=lst_ex u6 r.1
      obtain ⟨c3,P3,h3⟩:=lst_ex zPan r.2
      have hrl:c3<=n+1:=by
        have:=into_len hq
        rw [<- hR.1] at this
        rw [h3.1];omega
      have cN:=λq (e:q=u)=>meets_at (P:=Tryz.prog) (f:=144) (F:=λq=>[xd (u7 j),.agg [.d (eI mk),.d (.sl 13 n λi=>i6 (R i))],xd (n9 x),xd (eWin (g q))]) e (cI.1 r hq n1 R1 h1 c3 P3 h3)
      refine f7 hA hM _ (cN _ eq0) ?_
      cbv
      repeat' first | (exfalso;rename_i h;subst hA;simp [real] at h;done)|apply And.intro|exact True.intro|with_reducible rfl|exact b7 hA rfl|apply c8 hA<;>intro _|exact c6 hA id | (subst hA;exact λh=>h) | (refine c5 hA ?_;decide +kernel) | (refine inb_lt hA ?_;first|exact f9 hA (by assumption)|exact l5 hA (by assumption))|exact f6 hA (by omega) (by decide)|fail
      refine ⟨⟨(u+1,(n1,R1),(c+c3,λz=>if z<c then P z else P3 (z-c)),(d,Q)),hlt',?_,?_,?_⟩,by dsimp only;omega,c7 ?_ ?_ ?_⟩
      · dsimp only;rw [hnext hlt' _ hs];exact h1
      · dsimp only;rw [hnext hlt' _ hs];exact lst_app hP h3
      · dsimp only;rw [hnext hlt' _ hs];exact hQ
      · (subst hA;(repeat' first|exact True.intro|exact rfl|apply And.intro|exact congrArg (λx=>DV.v (.int .i64 x)) (o0 hlt' hnw2)))
      · (subst hA;(repeat' first|exact True.intro|exact rfl|apply And.intro | (intro _ _;first|rfl|trivial) | (intro q hq;exact app_if2 m6 q)))
      · (subst hA;(repeat' first|exact True.intro|exact rfl|apply And.intro|exact .inl rfl|exact .inr (b8 rfl)))
  rename_i hge
  have hun:nw=u:=by first | (have:=ge2_of hA hge;omega) | (have:=ge_of hA hge;omega)
  have hR9:Lst u6 (takeL j mk x ws L0).1 n R:=by rw [<- lst_all hg,hun,<- hT];exact hR
  have hP9:Lst zPan (takeL j mk x ws L0).2.1 c P:=by rw [<- lst_all hg,hun,<- hT];exact hP
  have hQ9:Lst zLat (takeL j mk x ws L0).2.2 d Q:=by rw [<- lst_all hg,hun,<- hT];exact hQ
  have e1:n=k:=hR9.1.trans hG.1.symm
  have e2:c=cz:=hP9.1.trans hPz.1.symm
  have e3:d=dz:=hQ9.1.trans hQz.1.symm
  subst e1 e2 e3
  refine l9 hA ⟨[(9,.c (.own 960 0 c 1)),(10,.c (.own 1024 0 d 1)),(3,.c (.bp 192 1 0)),(4,.c (.bp 256 1 0)),(5,.c (.bp 320 1 0)),(6,.c (.bp 384 1 0))],[(192,1,.box ((u7 j).map .d)),(256,1,.box [.d (eI mk),.d (.sl 13 n λi=>i6 (G i))]),(320,1,.box ((n9 x).map .d)),(384,1,.box [.d (eI 0),.d (.v c9)]),(960,1,.arr 9 c λi=>m6 (Pz i)),(1024,1,.arr 7 d λi=>eLat (Qz i))]⟩ (cov_dB 256 13 (λi=>i6 (R i)) (λi=>i6 (G i)) [.d (eI mk)] [] rfl (λq hq=>congrArg i6 ((hR9.2 q hq).trans (hG.2 q hq).symm)) (c7 ?_ ?_ ?_)) ?_
  · (subst hA;(repeat' first|exact True.intro|exact rfl|apply And.intro))
  · (subst hA;(repeat' first|exact True.intro|exact rfl|apply And.intro | (intro _ _;first|rfl|trivial) | (intro q hq;exact congrArg m6 ((hP9.2 q hq).trans (hPz.2 q hq).symm)) | (intro q hq;exact congrArg eLat ((hQ9.2 q hq).trans (hQz.2 q hq).symm))))
  · (subst hA;(repeat' first|exact True.intro|exact rfl|apply And.intro|exact .inl rfl|exact .inr (b8 rfl)))
  cbv
  repeat' first|apply And.intro|exact True.intro|with_reducible rfl|exact b7 hA rfl|apply c8 hA<;>intro _|exact c6 hA id | (subst hA;exact λh=>h) | (refine c5 hA ?_;decide +kernel)|fail
theorem m_l7Mark0 (j:JobT) (mk m:Int) (n:Nat) (hn:n<=1080000) (g:Nat->RowT) (hmk:m<=mk) (P:Nat->PaneT):d7 Tryz.prog 139 [xd (u7 j),.agg [.d (eI mk),.own 13 n λi=>i6 (g i)],.c (.d (eI m))] ⟨.tup [.agg [.d (eI mk),.own 13 n λi=>i6 (g i)],.c (.own 9 0 λi=>m6 (P i))],[none,none,none]⟩:=by
  refine meets_up (res:=.tup [.agg [.d (eI mk),.own 13 n λi=>i6 (g i)],.c (.own 9 0 λi=>real.rep [eI 0,eI 0,eI 0,eI 0,eI 0,eI 0,eI 0,eI 0,eI 0] i)]) ⟨⟨UpV.refl _,UpV.refl _,trivial⟩,UpV.row λi hi=>absurd hi (Nat.not_lt_zero i),trivial⟩ ?_
  have no2:∀ {A:Ar},real=A->A.cmp .leq m mk=false->False:=λhA h=>by subst hA;exact absurd hmk (of_decide_eq_false h)
  refine d5 (H:=[]) (EX:=EXA) l6 e8 Tryz.func139 rfl (by kernel_rfl) (by decide) ?_
  generalize hA:real=A
  generalize hM:d4 Tryz.prog=M
  cbv
  repeat' first|exact (no2 hA (by assumption)).elim|apply And.intro|exact True.intro|with_reducible rfl|exact b7 hA rfl|apply c8 hA<;>intro _|exact c6 hA id | (subst hA;exact λh=>h) | (refine c5 hA ?_;decide +kernel)|fail
  all_goals (subst hA;rfl)
def st_sm (j:JobT) (m:Int) (n:Nat) (g:Nat->RowT) (i k:Nat) (R:Nat->RowT) (c:Nat) (P:Nat->PaneT):St:=⟨[(10,.c (.d (eI i))),(9,.c (.own 1344 0 k 1)),(8,.c (.own 768 0 c 1)),(6,.c (.bp 384 1 0)),(4,.c (.bp 256 1 0)),(3,.c (.bp 192 1 0)),(2,.c (.d (eI m)))],
  [(768,1,.arr 9 c λi=>m6 (P i)),(1344,1,.arr 13 k λi=>i6 (R i)),(11,1,.arr 13 n λi=>i6 (g i)),(384,1,.box [.d (eI 0),.d (.v c9)]),(256,1,.box [.d (eI m),.own 11 0 n 1]),(192,1,.box [.d (eI j.srcs),.d (eI j.tsks),.d (eI j.kind),.d (eI j.size),.d (eI j.step),.d (eI j.late),.d (eI j.tell),.d (eB j.piece),.d (eI j.least),.d (eI j.room)])]⟩
theorem m_l7Mark1 (j:JobT) (mk m:Int) (n:Nat) (hn:n<=1080000) (g:Nat->RowT) (hmk:mk<m) (k:Nat) (G:Nat->RowT) (hG:Lst u6 (keepN (λi=>markR m (g i)) (overB j.late m) n) k G)
    (c:Nat) (P:Nat->PaneT) (hP:Lst zPan (tellN j.piece m g n) c P):d7 Tryz.prog 139 [xd (u7 j),.agg [.d (eI mk),.own 13 n λi=>i6 (g i)],.c (.d (eI m))] ⟨.tup [.agg [.d (eI m),.own 13 k λi=>i6 (G i)],.c (.own 9 c λi=>m6 (P i))],[none,none,none]⟩:=by
  have hnL:n<=maxLen:=Nat.le_trans hn (by decide)
  have no2:∀ {A:Ar},real=A->A.cmp .leq m mk=true->False:=λhA h=>by subst hA;exact absurd (of_decide_eq_true h) (by omega)
  refine d5 (H:=[15,17]) (EX:=EXA) l6 e8 Tryz.func139 rfl (by kernel_rfl) (by decide) ?_
  generalize hA:real=A
  generalize hM:d4 Tryz.prog=M
  cbv
  repeat' first|exact (no2 hA (by assumption)).elim|apply And.intro|exact True.intro|with_reducible rfl|exact b7 hA rfl|apply c8 hA<;>intro _|exact c6 hA id | (subst hA;exact λh=>h) | (refine c5 hA ?_;decide +kernel)|fail
  refine i7 hA (α := { y:Nat × Nat × (Nat->RowT) × Nat × (Nat->PaneT) // y.1<=n/\Lst u6 (keepN (λi=>markR m (g i)) (overB j.late m) y.1) y.2.1 y.2.2.1/\Lst zPan (tellN j.piece m g y.1) y.2.2.2.1 y.2.2.2.2 }) (λy=>st_sm j m n g y.1.1 y.1.2.1 y.1.2.2.1 y.1.2.2.2.1 y.1.2.2.2.2) (λy=>n-y.1.1) ⟨(0,0,λ_=>u6,0,λ_=>zPan),Nat.zero_le _,⟨rfl,λk h=>absurd h (Nat.not_lt_zero k)⟩,⟨rfl,λk h=>absurd h (Nat.not_lt_zero k)⟩⟩ ?_ ?_
  · refine c7 ?_ ?_ ?_
    · cbv;try (subst hA;repeat' first|apply And.intro|exact True.intro|rfl|fail)
    · cbv;try (subst hA;repeat' first|apply And.intro|exact True.intro|rfl | (intro _ _;rfl) | (intro k hk;exact absurd hk (Nat.not_lt_zero k))|fail)
    · cbv;try (subst hA;repeat' first|apply And.intro|exact True.intro|rfl|exact .inr trivial|exact .inl trivial)
  rintro ⟨⟨i,k1,R,c1,P1⟩,hi,hK,hL⟩
  have hi:i<=n:=hi
  have hK:Lst u6 (keepN (λi=>markR m (g i)) (overB j.late m) i) k1 R:=hK
  have hL:Lst zPan (tellN j.piece m g i) c1 P1:=hL
  have hk1:k1<=i:=by rw [hK.1];exact keepN_len _ _ _
  have hc1:c1<=i:=by rw [hL.1];exact tellN_len _ _ _ _
  cbv
  repeat' first|apply And.intro|exact True.intro|with_reducible rfl|exact b7 hA rfl|apply c8 hA<;>intro _|exact c6 hA id | (subst hA;exact λh=>h) | (refine c5 hA ?_;decide +kernel) | (refine inb_lt hA ?_;first|exact f9 hA (by assumption)|exact l5 hA (by assumption))|fail
  · rename_i hlt hdue
    have hlt':i<n:=l5 hA hlt
    have eq0:A.add 0 (A.nat (Int.ofNat i))=i:=by subst hA;exact Nat.zero_add i
    have hh:∀ q,q=i->A.bite (A.bnot (g q).timely) (A.cmp .geq m (g q).win.e) false=dueB m (g i):=by
      rintro q rfl
      subst hA
      unfold dueB
      show (bif !(g q).timely then decide (m>=(g q).win.e) else false)=_
      cases (g q).timely<;>rfl
    obtain ⟨r,hr⟩:∃ r,r=markR m (g i):=⟨_,rfl⟩
    have hd:dueB m (g i)=true:=(hh _ eq0).symm.trans hdue
    have hrd:r=toldR (g i):=by rw [hr];unfold markR;rw [if_pos hd]
    have E:toldR (g (A.add 0 (A.nat (Int.ofNat i))))=r:=by rw [eq0,hrd]
    obtain ⟨pp,hpp⟩:∃ p,p=paneP j.piece (g i) 1:=⟨_,rfl⟩
    have cP:=c_l7Pane j (g (A.add 0 (A.nat (Int.ofNat i)))) 1 pp (by rw [eq0];exact hpp)
    have hL2:Lst zPan (tellN j.piece m g (i+1)) (c1+1) (λz=>if z<c1 then P1 z else pp):=by
      rw [tellN_succ,if_pos hd,<- hpp]
      refine lst_push hL λq hq => ?_
      by_cases e:q=c1
      · rw [if_pos e,if_neg (by omega)]
      · rw [if_neg e,if_pos (by omega)]
    refine f7 hA hM _ cP ?_
    cbv
    repeat' first|apply And.intro|exact True.intro|with_reducible rfl|exact b7 hA rfl|apply c8 hA<;>intro _|exact c6 hA id | (subst hA;exact λh=>h) | (refine c5 hA ?_;decide +kernel)|exact f6 hA (by omega) (by decide)|fail
    refine l9 hA ⟨[(11,.c (.bp 704 1 0)),(10,.c (.d (eI i))),(9,.c (.own 1344 0 k1 1)),(8,.c (.own 768 0 (c1+1) 1)),(6,.c (.bp 384 1 0)),(4,.c (.bp 256 1 0)),(3,.c (.bp 192 1 0)),(2,.c (.d (eI m)))],
      [(704,1,.box ((i6 r).map .d)),(768,1,.arr 9 (c1+1) λz=>m6 (if z<c1 then P1 z else pp)),(1344,1,.arr 13 k1 λi=>i6 (R i)),(11,1,.arr 13 n λi=>i6 (g i)),(384,1,.box [.d (eI 0),.d (.v c9)]),(256,1,.box [.d (eI m),.own 11 0 n 1]),(192,1,.box [.d (eI j.srcs),.d (eI j.tsks),.d (eI j.kind),.d (eI j.size),.d (eI j.step),.d (eI j.late),.d (eI j.tell),.d (eB j.piece),.d (eI j.least),.d (eI j.room)])]⟩ (c7 ?_ ?_ ?_) ?_
    · cbv;try (subst hA;repeat' first|apply And.intro|exact True.intro|rfl)
    · cbv;try (subst hA;repeat' first|apply And.intro|exact True.intro|rfl | (intro _ _;rfl) | (intro z hz;exact m8 (A:=real) m6 rfl c1 P1 _ _ z hz)|exact (congrArg (λx:RowT=>DV.v (.int .i64 x.key)) E :)|exact (congrArg (λx:RowT=>DV.v (.int .i64 x.win.s)) E :)|exact (congrArg (λx:RowT=>DV.v (.int .i64 x.win.e)) E :)|exact (congrArg (λx:RowT=>DV.v (.int .i64 x.all.n)) E :)|exact (congrArg (λx:RowT=>DV.v (.int .i64 x.all.sum)) E :)|exact (congrArg (λx:RowT=>DV.v (.int .i64 x.all.least)) E :)|exact (congrArg (λx:RowT=>DV.v (.int .i64 x.all.most)) E :)|exact (congrArg (λx:RowT=>DV.v (.int .i64 x.fresh.n)) E :)|exact (congrArg (λx:RowT=>DV.v (.int .i64 x.fresh.sum)) E :)|exact (congrArg (λx:RowT=>DV.v (.int .i64 x.fresh.least)) E :)|exact (congrArg (λx:RowT=>DV.v (.int .i64 x.fresh.most)) E :)|exact (congrArg (λx:RowT=>DV.v (.int .i64 x.told)) E :)|exact (congrArg (λx:RowT=>DV.v (.bool x.timely)) E :)|exact (congrArg (λx:RowT=>CV.d (DV.v (.int .i64 x.key))) E :)|exact (congrArg (λx:RowT=>CV.d (DV.v (.int .i64 x.win.s))) E :)|exact (congrArg (λx:RowT=>CV.d (DV.v (.int .i64 x.win.e))) E :)|exact (congrArg (λx:RowT=>CV.d (DV.v (.int .i64 x.all.n))) E :)|exact (congrArg (λx:RowT=>CV.d (DV.v (.int .i64 x.all.sum))) E :)|exact (congrArg (λx:RowT=>CV.d (DV.v (.int .i64 x.all.least))) E :)|exact (congrArg (λx:RowT=>CV.d (DV.v (.int .i64 x.all.most))) E :)|exact (congrArg (λx:RowT=>CV.d (DV.v (.int .i64 x.fresh.n))) E :)|exact (congrArg (λx:RowT=>CV.d (DV.v (.int .i64 x.fresh.sum))) E :)|exact (congrArg (λx:RowT=>CV.d (DV.v (.int .i64 x.fresh.least))) E :)|exact (congrArg (λx:RowT=>CV.d (DV.v (.int .i64 x.fresh.most))) E :)|exact (congrArg (λx:RowT=>CV.d (DV.v (.int .i64 x.told))) E :)|exact (congrArg (λx:RowT=>CV.d (DV.v (.bool x.timely))) E :))
    · cbv;try (subst hA;repeat' first|apply And.intro|exact True.intro|rfl|exact .inr trivial|exact .inl trivial)
    · cbv
      repeat' first|apply And.intro|exact True.intro|with_reducible rfl|exact b7 hA rfl|apply c8 hA<;>intro _|exact c6 hA id | (subst hA;exact λh=>h) | (refine c5 hA ?_;decide +kernel)|exact f6 hA (by omega) (by decide)|fail
      · rename_i hov
        have hov2:¬ overB j.late m r=true:=by
          subst hA
          unfold overB w64
          have:=of_decide_eq_true hov
          have :  m<IntKind.i64.wrap (r.win.e+j.late):=this
          rw [decide_eq_true_eq];omega
        rw [hr] at hov2
        refine ⟨⟨(i+1,k1+1,λz=>if z<k1 then R z else r,(c1+1),λz=>(if z<c1 then P1 z else pp)),hlt',?_,hL2⟩,by simp only;omega,c7 ?_ ?_ ?_⟩
        · show Lst u6 (keepN (λi=>markR m (g i)) (overB j.late m) (i+1)) _ _
          rw [keepN_succ,if_neg hov2,<- hr];exact lst_push hK λq hq=>push_ite R r hq
        · cbv;subst hA;repeat' first|apply And.intro|exact True.intro|exact congrArg (λx=>DV.v (.int .i64 x)) (o0 hlt' hnL)|rfl
        · cbv;try (subst hA;repeat' first|apply And.intro|exact True.intro|rfl | (intro _ _;rfl) | (intro z hz;exact m8 (A:=real) i6 rfl k1 R _ _ z hz))
        · cbv;try (subst hA;repeat' first|apply And.intro|exact True.intro|rfl|exact .inr trivial|exact .inl trivial)
      · rename_i hov
        have hov2:overB j.late m r=true:=by
          subst hA
          unfold overB w64
          have:=of_decide_eq_false hov
          have:¬ m<IntKind.i64.wrap (r.win.e+j.late):=this
          rw [decide_eq_true_eq];omega
        rw [hr] at hov2
        refine ⟨⟨(i+1,k1,R,(c1+1),λz=>(if z<c1 then P1 z else pp)),hlt',?_,hL2⟩,by simp only;omega,c7 ?_ ?_ ?_⟩
        · show Lst u6 (keepN (λi=>markR m (g i)) (overB j.late m) (i+1)) _ _
          rw [keepN_succ,if_pos hov2,List.append_nil];exact hK
        · cbv;subst hA;repeat' first|apply And.intro|exact True.intro|exact congrArg (λx=>DV.v (.int .i64 x)) (o0 hlt' hnL)|rfl
        · cbv;try (subst hA;repeat' first|apply And.intro|exact True.intro|rfl | (intro _ _;rfl) | (intro z hz;exact m8 (A:=real) i6 rfl k1 R _ _ z hz))
        · cbv;try (subst hA;repeat' first|apply And.intro|exact True.intro|rfl|exact .inr trivial|exact .inl trivial)
  · rename_i hlt hdue
    have hlt':i<n:=l5 hA hlt
    have eq0:A.add 0 (A.nat (Int.ofNat i))=i:=by subst hA;exact Nat.zero_add i
    have hh:∀ q,q=i->A.bite (A.bnot (g q).timely) (A.cmp .geq m (g q).win.e) false=dueB m (g i):=by
      rintro q rfl
      subst hA
      unfold dueB
      show (bif !(g q).timely then decide (m>=(g q).win.e) else false)=_
      cases (g q).timely<;>rfl
    obtain ⟨r,hr⟩:∃ r,r=markR m (g i):=⟨_,rfl⟩
    have hd:¬ dueB m (g i)=true:=by
      intro h
      have:=(hh _ eq0).symm.trans hdue
      rw [h] at this;cases this
    have hrd:r=g i:=by rw [hr];unfold markR;rw [if_neg hd]
    have E:g (A.add 0 (A.nat (Int.ofNat i)))=r:=by rw [eq0,hrd]
    have hL2:Lst zPan (tellN j.piece m g (i+1)) c1 P1:=by
      rw [tellN_succ,if_neg hd,List.append_nil];exact hL
    refine l9 hA ⟨[(11,.c (.bp 704 1 0)),(10,.c (.d (eI i))),(9,.c (.own 1344 0 k1 1)),(8,.c (.own 768 0 c1 1)),(6,.c (.bp 384 1 0)),(4,.c (.bp 256 1 0)),(3,.c (.bp 192 1 0)),(2,.c (.d (eI m)))],
      [(704,1,.box ((i6 r).map .d)),(768,1,.arr 9 c1 λz=>m6 (P1 z)),(1344,1,.arr 13 k1 λi=>i6 (R i)),(11,1,.arr 13 n λi=>i6 (g i)),(384,1,.box [.d (eI 0),.d (.v c9)]),(256,1,.box [.d (eI m),.own 11 0 n 1]),(192,1,.box [.d (eI j.srcs),.d (eI j.tsks),.d (eI j.kind),.d (eI j.size),.d (eI j.step),.d (eI j.late),.d (eI j.tell),.d (eB j.piece),.d (eI j.least),.d (eI j.room)])]⟩ (c7 ?_ ?_ ?_) ?_
    · cbv;try (subst hA;repeat' first|apply And.intro|exact True.intro|rfl)
    · cbv;try (subst hA;repeat' first|apply And.intro|exact True.intro|rfl | (intro _ _;rfl) | (intro z hz;exact m8 (A:=real) m6 rfl c1 P1 _ _ z hz)|exact (congrArg (λx:RowT=>DV.v (.int .i64 x.key)) E :)|exact (congrArg (λx:RowT=>DV.v (.int .i64 x.win.s)) E :)|exact (congrArg (λx:RowT=>DV.v (.int .i64 x.win.e)) E :)|exact (congrArg (λx:RowT=>DV.v (.int .i64 x.all.n)) E :)|exact (congrArg (λx:RowT=>DV.v (.int .i64 x.all.sum)) E :)|exact (congrArg (λx:RowT=>DV.v (.int .i64 x.all.least)) E :)|exact (congrArg (λx:RowT=>DV.v (.int .i64 x.all.most)) E :)|exact (congrArg (λx:RowT=>DV.v (.int .i64 x.fresh.n)) E :)|exact (congrArg (λx:RowT=>DV.v (.int .i64 x.fresh.sum)) E :)|exact (congrArg (λx:RowT=>DV.v (.int .i64 x.fresh.least)) E :)|exact (congrArg (λx:RowT=>DV.v (.int .i64 x.fresh.most)) E :)|exact (congrArg (λx:RowT=>DV.v (.int .i64 x.told)) E :)|exact (congrArg (λx:RowT=>DV.v (.bool x.timely)) E :)|exact (congrArg (λx:RowT=>CV.d (DV.v (.int .i64 x.key))) E :)|exact (congrArg (λx:RowT=>CV.d (DV.v (.int .i64 x.win.s))) E :)|exact (congrArg (λx:RowT=>CV.d (DV.v (.int .i64 x.win.e))) E :)|exact (congrArg (λx:RowT=>CV.d (DV.v (.int .i64 x.all.n))) E :)|exact (congrArg (λx:RowT=>CV.d (DV.v (.int .i64 x.all.sum))) E :)|exact (congrArg (λx:RowT=>CV.d (DV.v (.int .i64 x.all.least))) E :)|exact (congrArg (λx:RowT=>CV.d (DV.v (.int .i64 x.all.most))) E :)|exact (congrArg (λx:RowT=>CV.d (DV.v (.int .i64 x.fresh.n))) E :)|exact (congrArg (λx:RowT=>CV.d (DV.v (.int .i64 x.fresh.sum))) E :)|exact (congrArg (λx:RowT=>CV.d (DV.v (.int .i64 x.fresh.least))) E :)|exact (congrArg (λx:RowT=>CV.d (DV.v (.int .i64 x.fresh.most))) E :)|exact (congrArg (λx:RowT=>CV.d (DV.v (.int .i64 x.told))) E :)|exact (congrArg (λx:RowT=>CV.d (DV.v (.bool x.timely))) E :))
    · cbv;try (subst hA;repeat' first|apply And.intro|exact True.intro|rfl|exact .inr trivial|exact .inl trivial)
    · cbv
      repeat' first|apply And.intro|exact True.intro|with_reducible rfl|exact b7 hA rfl|apply c8 hA<;>intro _|exact c6 hA id | (subst hA;exact λh=>h) | (refine c5 hA ?_;decide +kernel)|exact f6 hA (by omega) (by decide)|fail
      · rename_i hov
        have hov2:¬ overB j.late m r=true:=by
          subst hA
          unfold overB w64
          have:=of_decide_eq_true hov
          have :  m<IntKind.i64.wrap (r.win.e+j.late):=this
          rw [decide_eq_true_eq];omega
        rw [hr] at hov2
        refine ⟨⟨(i+1,k1+1,λz=>if z<k1 then R z else r,c1,λz=>(P1 z)),hlt',?_,hL2⟩,by simp only;omega,c7 ?_ ?_ ?_⟩
        · show Lst u6 (keepN (λi=>markR m (g i)) (overB j.late m) (i+1)) _ _
          rw [keepN_succ,if_neg hov2,<- hr];exact lst_push hK λq hq=>push_ite R r hq
        · cbv;subst hA;repeat' first|apply And.intro|exact True.intro|exact congrArg (λx=>DV.v (.int .i64 x)) (o0 hlt' hnL)|rfl
        · cbv;try (subst hA;repeat' first|apply And.intro|exact True.intro|rfl | (intro _ _;rfl) | (intro z hz;exact m8 (A:=real) i6 rfl k1 R _ _ z hz))
        · cbv;try (subst hA;repeat' first|apply And.intro|exact True.intro|rfl|exact .inr trivial|exact .inl trivial)
      · rename_i hov
        have hov2:overB j.late m r=true:=by
          subst hA
          unfold overB w64
          have:=of_decide_eq_false hov
          have:¬ m<IntKind.i64.wrap (r.win.e+j.late):=this
          rw [decide_eq_true_eq];omega
        rw [hr] at hov2
        refine ⟨⟨(i+1,k1,R,c1,λz=>(P1 z)),hlt',?_,hL2⟩,by simp only;omega,c7 ?_ ?_ ?_⟩
        · show Lst u6 (keepN (λi=>markR m (g i)) (overB j.late m) (i+1)) _ _
          rw [keepN_succ,if_pos hov2,List.append_nil];exact hK
        · cbv;subst hA;repeat' first|apply And.intro|exact True.intro|exact congrArg (λx=>DV.v (.int .i64 x)) (o0 hlt' hnL)|rfl
        · cbv;try (subst hA;repeat' first|apply And.intro|exact True.intro|rfl | (intro _ _;rfl) | (intro z hz;exact m8 (A:=real) i6 rfl k1 R _ _ z hz))
        · cbv;try (subst hA;repeat' first|apply And.intro|exact True.intro|rfl|exact .inr trivial|exact .inl trivial)
  · rename_i hge
    have hin:i=n:=by have:=ge_of hA hge;omega
    subst hin
    have hcc:c1=c:=hL.1.trans hP.1.symm
    have hkk:k1=k:=hK.1.trans hG.1.symm
    subst hcc hkk
    refine l9 hA ⟨[(9,.c (.own 1344 0 k1 1)),(8,.c (.own 768 0 c1 1)),(6,.c (.bp 384 1 0)),(4,.c (.bp 256 1 0))],[(768,1,.arr 9 c1 λq=>m6 (P q)),(1344,1,.arr 13 k1 λi=>i6 (G i)),(384,1,.box [.d (eI 0),.d (.v c9)]),(11,1,.arr 13 i λi=>i6 (g i)),(256,1,.box [.d (eI m),.own 11 0 i 1])]⟩ (c7 ?_ ?_ ?_) ?_
    · cbv;try (subst hA;repeat' first|apply And.intro|exact True.intro|rfl)
    · cbv
      refine ⟨λq hq=>congrArg m6 ((hL.2 q hq).trans (hP.2 q hq).symm),λq hq=>congrArg i6 ((hK.2 q hq).trans (hG.2 q hq).symm),?_⟩
      try (subst hA;repeat' first|apply And.intro|exact True.intro|rfl | (intro _ _;rfl))
    · cbv;try (subst hA;repeat' first|apply And.intro|exact True.intro|rfl|exact .inr trivial|exact .inl trivial)
    · cbv
      repeat' first|apply And.intro|exact True.intro|with_reducible rfl|exact b7 hA rfl|apply c8 hA<;>intro _|exact c6 hA id | (subst hA;exact λh=>h) | (refine c5 hA ?_;decide +kernel)|fail
end Go.Rk
namespace Go.Rk
set_option linter.unusedSimpArgs false
set_option linter.unusedVariables false
structure TskM (s:Int) (x:TskT) where
  f1:Nat->TskInT
  f2:Nat->RowT
  f3:Nat->PaneT
  f4:Nat->LatT
  p1:Nat->Int
  k1:Int
  k2:Int
  k3:Int
  k4:Int
  q0:p1 0=s
  q1:∀ i,i<x.ins.n->p1 (i+1)=p1 i+lenTskIn (x.ins.g i)
  q2:∀ i,i<=x.ins.n->0<=p1 i/\p1 i<=50000000
  hk1:k1=p1 x.ins.n
  h1:∀ i,f1 i=mkTskIn (p1 i) (x.ins.g i)
  h2:∀ i,f2 i=mkRow (k1+13*(i:Int))
  hk2:k2=k1+13*(x.op.rows.n:Int)
  h3:∀ i,f3 i=mkPane (k2+9*(i:Int))
  hk3:k3=k2+9*(x.pend.panes.n:Int)
  h4:∀ i,f4 i=mkLat (k3+7*(i:Int))
  hk4:k4=k3+7*(x.pend.lates.n:Int)
  b0:0<=s/\s<=50000000
  b1:0<=k1/\k1<=50000000
  b2:0<=k2/\k2<=50000000
  b3:0<=k3/\k3<=50000000
  b4:0<=k4/\k4<=50000000
def TskM.out {s:Int} {x:TskT} (M:TskM s x):TskT:=⟨⟨x.ins.n,M.f1,x.ins.hn⟩,⟨x.op.mark,⟨x.op.rows.n,M.f2,x.op.rows.hn⟩⟩,x.wall,⟨x.pend.n,⟨x.pend.panes.n,M.f3,x.pend.panes.hn⟩,⟨x.pend.lates.n,M.f4,x.pend.lates.hn⟩⟩⟩
theorem mem_slideF {size step t:Int} {w:WinT}:∀ (k:Nat) (f:Int),w∈slideF size step t k f->w.s<=t/\t<w.s+size/\w.e=w.s+size/\∃ i:Nat,w.s=f+step*(i:Int)
  | 0,f,h=>by simp [slideF] at h
  | k+1,f,h=>by
    unfold slideF at h
    split at h
    · rcases List.mem_append.1 h with h|h
      · split at h
        · simp at h;subst h;exact ⟨by assumption,by assumption,rfl,0,by simp⟩
        · simp at h
      · obtain ⟨h1,h2,h3,i,h4⟩:=mem_slideF k (f+step) h
        exact ⟨h1,h2,h3,i+1,by rw [h4];push_cast;rw [Int.mul_add];omega⟩
    · simp at h
theorem winsL_mem {j:JobT} {t:Int} {w:WinT} (h:w∈x1 j t):w.s<=t/\t<w.s+j.size/\w.e=w.s+j.size/\∃ i:Nat,w.s=winFrom j t+winStep j*(i:Int):=mem_slideF _ _ h
theorem w64_id {n:Int} (h : -9223372036854775808<=n/\n<=9223372036854775807):w64 n=n:=IntWalk.i64_in _ (by omega)
theorem slideF_len2 {size step t:Int} (hs:1<=step):∀ (k:Nat) (f:Int),(slideF size step t k f).length<=size.toNat/\(slideF size step t k f).length<=(t-f+1).toNat
  | 0,f=>by unfold slideF;exact ⟨Nat.zero_le _,Nat.zero_le _⟩
  | k+1,f=>by
    have ih:=slideF_len2 (size:=size) (t:=t) hs k (f+step)
    unfold slideF
    split
    · rw [List.length_append]
      split
      · simp only [List.length_singleton];omega
      · simp only [List.length_nil];omega
    · exact ⟨Nat.zero_le _,Nat.zero_le _⟩
theorem winsL_len20 {j:JobT} (hj:t9 j) (t:Int):(x1 j t).length<=20:=by
  have hs:1<=winStep j:=by
    unfold t9 at hj
    unfold winStep
    split
    · omega
    · split<;>omega
  have h:=(slideF_len2 (size:=j.size) (t:=t) hs 100 (winFrom j t)).1
  unfold t9 at hj
  unfold x1
  omega
theorem opTakeL_rows (j:JobT) (s:OpStT) (x:ItmT):(w5 j s x).2.1.length<=s.rows.n+20:=by
  unfold w5
  split
  · rename_i hc
    have h:=(takeL_len (j:=j) (m:=s.mark) (x:=x) (l:=n6 s) (x1 j x.t)).1
    have h2:=winsL_len20 hc.1.1 x.t
    have h3:(n6 s).length=s.rows.n:=by unfold n6;simp
    show (takeL j s.mark x (x1 j x.t) (n6 s)).1.length<=_
    omega
  · exact Nat.zero_le _
def sumN (l:List RowT):Int:=sumI (l.map (·.all.n))
def AllN (B:Int) (l:List RowT):Prop:=∀ r,r∈l->1<=r.all.n/\r.all.n<=B
theorem sumN_cons (r:RowT) (l:List RowT):sumN (r::l)=r.all.n+sumN l:=rfl
theorem sumN_rIns (r:RowT):∀ l,sumN (rIns r l)=r.all.n+sumN l
  | []=>rfl
  | q::l=>by
    show sumN (if RA r q then r::q::l else q::rIns r l)=_
    split
    · rfl
    · rw [sumN_cons,sumN_rIns r l,sumN_cons];omega
theorem sumN_rOut {k:Int} {w:WinT}:∀ {l:List RowT},RiseR l->sumN (rOut k w l)+(match rFind k w l with|some r=>r.all.n|none=>0)=sumN l
  | [],_=>rfl
  | q::l,h=>by
    rw [RiseR,List.pairwise_cons] at h
    by_cases hq:IsR k w q
    · have hno:∀ x,x∈l->¬ IsR k w x:=λx hx=>ra_ne (h.1 x hx) hq
      have e:rOut k w (q::l)=l:=by
        unfold rOut
        rw [List.filter_cons,if_neg (by simp [hq])]
        exact rOut_none hno
      have e2:rFind k w (q::l)=some q:=by unfold rFind;rw [List.find?_cons,decide_eq_true hq]
      rw [e,e2,sumN_cons]
      show sumN l+q.all.n=_
      omega
    · have e:rOut k w (q::l)=q::rOut k w l:=by
        unfold rOut
        rw [List.filter_cons,if_pos (by simp [hq])]
      have e2:rFind k w (q::l)=rFind k w l:=by unfold rFind;rw [List.find?_cons,decide_eq_false hq]
      rw [e,e2,sumN_cons,sumN_cons,<- sumN_rOut (k:=k) (w:=w) (l:=l) h.2]
      omega
theorem tellS_all (j:JobT) (m:Int) (r:RowT):(tellS j m r).1.all=r.all/\(tellS j m r).1.key=r.key/\(tellS j m r).1.win=r.win:=by
  unfold tellS
  split<;>exact ⟨rfl,rfl,rfl⟩
theorem add_n {a:AggT} {v:Int} (h:0<=a.n/\a.n<=1000000):(aggAdd a v).n=a.n+1:=by
  unfold aggAdd aggB
  by_cases h0:a.n=0
  · rw [if_pos h0,h0];rfl
  · rw [if_neg h0,if_neg (by show ¬ (1:Int)=0;omega)]
    exact w64_id (n:=a.n+1) (by omega)
theorem rfind_mem {k:Int} {w:WinT} {l:List RowT} {r:RowT} (h:rFind k w l=some r):r∈l/\IsR k w r:=by
  unfold rFind at h
  exact ⟨List.mem_of_find?_eq_some h,by simpa using List.find?_some h⟩
theorem into_sum {j:JobT} {m k v:Int} {w:WinT} {l:List RowT} {q:List RowT × List PaneT} {B:Int} (hr:RiseR l) (hB:0<=B/\B<=900000) (hA:AllN B l) (he:intoL j m k v w l=some q):sumN q.1=sumN l+1/\AllN (B+1) q.1:=by
  unfold intoL at he
  split at he
  · cases he
  · cases he
    obtain ⟨r0,hr0⟩:∃ r0,r0=(rFind k w l).getD (nrow k w):=⟨_,rfl⟩
    rw [<- hr0]
    have hk:IsR k w r0:=by rw [hr0];exact getD_is
    obtain ⟨t1,t2,t3⟩:=tellS_all j m (addR r0 v)
    have ek:(tellS j m (addR r0 v)).1.key=k:=t2.trans (isR_eq hk).1
    have ew:(tellS j m (addR r0 v)).1.win=w:=t3.trans (isR_eq hk).2
    have hb0:0<=r0.all.n/\r0.all.n<=B:=by
      rw [hr0]
      cases hf:rFind k w l with
      | none=>exact ⟨Int.le_refl _,hB.1⟩
      | some r=>have:=hA r (rfind_mem hf).1;exact ⟨by show 0<=r.all.n;omega,this.2⟩
    have hn:(tellS j m (addR r0 v)).1.all.n=r0.all.n+1:=by
      rw [t1]
      exact add_n (a:=r0.all) (by omega)
    have hs:=sumN_rOut (k:=k) (w:=w) hr
    constructor
    · show sumN (rPut (tellS j m (addR r0 v)).1 l)=_
      unfold rPut
      rw [sumN_rIns,hn,ek,ew]
      cases hf:rFind k w l with
      | none=>rw [hf] at hs hr0;rw [hr0];have h:sumN (rOut k w l)+0=sumN l:=hs;show (0:Int)+1+_=_;omega
      | some r=>rw [hf] at hs hr0;rw [hr0];have h:sumN (rOut k w l)+r.all.n=sumN l:=hs;show r.all.n+1+_=_;omega
    · intro r h
      rcases mem_rPut.1 h with e|⟨h,_⟩
      · rw [e,hn];omega
      · have:=hA r h;omega
theorem fold_n:∀ (L:List AggT) (a:AggT) (B:Int),1<=a.n->B<=1000000->(∀ b,b∈L->1<=b.n/\b.n<=B)->a.n+B*(L.length:Int)<=1000000000000->(L.foldl aggB a).n=a.n+sumI (L.map (·.n))
  | [],a,_,_,_,_,_=>by show a.n=a.n+0;omega
  | b::L,a,B,h1,hB,hb,hl=>by
    have hb0:=hb b (by simp)
    have hlen:B*(L.length:Int)+B<=1000000000000-a.n:=by
      have e:B*(((b::L).length:Nat):Int)=B*(L.length:Int)+B:=by
        rw [List.length_cons]
        have:((L.length+1:Nat):Int)=(L.length:Int)+1:=rfl
        rw [this,Int.mul_add,Int.mul_one]
      omega
    have hp:0<=B*(L.length:Int):=Int.mul_nonneg (by omega) (Int.natCast_nonneg _)
    have hn:(aggB a b).n=a.n+b.n:=by
      unfold aggB
      rw [if_neg (by omega),if_neg (by omega)]
      exact w64_id (n:=a.n+b.n) (by omega)
    rw [List.foldl_cons,fold_n L (aggB a b) B (by omega) hB (λc hc=>hb c (List.mem_cons_of_mem _ hc)) (by rw [hn];omega),hn]
    show _=a.n+(b.n+sumI (L.map (·.n)))
    omega
theorem sumN_split (k:Int) (w:WinT):∀ l,sumN (s6 k w l)+sumN (restL k w l)=sumN l
  | []=>rfl
  | r::l=>by
    have ih:=sumN_split k w l
    unfold s6 restL at *
    rw [List.filter_cons,List.filter_cons]
    cases h:tchR k w r
    · simp only [Bool.not_false,if_true,Bool.false_eq_true,if_false,sumN_cons];omega
    · simp only [Bool.not_true,if_true,Bool.false_eq_true,if_false,sumN_cons];omega
theorem sess_sum {j:JobT} {m k v:Int} {w:WinT} {l:List RowT} {q:List RowT × List PaneT} {B:Int} (hr:RiseR l) (hB:0<=B/\B<=900000) (hl:l.length<=1000) (hA:AllN B l) (hw:w.s<w.e) (he:sessL j m k v w l=some q):sumN q.1=sumN l+1:=by
  unfold sessL at he
  split at he
  · cases he
  · split at he
    · exact (into_sum hr hB hA he).1
    · cases he
      obtain ⟨a0,ha0⟩:∃ a0:AggT,a0=((s6 k w l).map (·.all)).foldl aggB (agg1 v):=⟨_,rfl⟩
      rw [<- ha0]
      obtain ⟨r0,hr0⟩:∃ r0:RowT,r0=⟨k,spanL w (s6 k w l),a0,a0,0,false⟩:=⟨_,rfl⟩
      rw [<- hr0]
      obtain ⟨t1,t2,t3⟩:=tellS_all j m r0
      have hlen:(s6 k w l).length<=1000:=Nat.le_trans (oldL_len k w l) hl
      have hn:a0.n=1+sumN (s6 k w l):=by
        rw [ha0]
        have h:=fold_n ((s6 k w l).map (·.all)) (agg1 v) B (by show (1:Int)<=1;decide) (by omega) (λb hb=>by
          obtain ⟨r,hr,rfl⟩:=List.mem_map.1 hb
          exact hA r (List.mem_filter.1 hr).1) (by
            rw [List.length_map]
            have h1:B*((s6 k w l).length:Int)<=B*1000:=Int.mul_le_mul_of_nonneg_left (by omega) hB.1
            show (1:Int)+_<=_
            omega)
        rw [h,List.map_map]
        rfl
      have hk:(tellS j m r0).1.key=k:=by rw [t2,hr0]
      have hw2:(tellS j m r0).1.win=spanL w (s6 k w l):=by rw [t3,hr0]
      show sumN (rPut (tellS j m r0).1 (restL k w l))=_
      unfold rPut
      rw [sumN_rIns,t1,hk,hw2,rOut_none λq hq=>rest_no hw hq,<- sumN_split k w l]
      have e:r0.all.n=a0.n:=by rw [hr0]
      rw [e,hn]
      omega
theorem takeW_sum {j:JobT} {m:Int} {x:ItmT} (hk:¬ j.kind=3):∀ (ws:List WinT) (l:List RowT) (a:List PaneT) (c:List LatT) (B:Int),RiseR l->0<=B->B+(ws.length:Int)<=900000->AllN B l ->
    sumN (ws.foldl (takeS j m x) (l,a,c)).1+((ws.foldl (takeS j m x) (l,a,c)).2.2.length:Int)=sumN l+(ws.length:Int)+(c.length:Int):=by
  intro ws
  induction ws with
  | nil=>intro l a c B _ _ _ _;show sumN l+(c.length:Int)=sumN l+0+(c.length:Int);omega
  | cons w ws ih=>
    intro l a c B hr hB hl hA
    have hl1:B+(ws.length:Int)+1<=900000:=by
      have:((w::ws).length:Int)=(ws.length:Int)+1:=rfl
      omega
    have hg:((w::ws).length:Int)=(ws.length:Int)+1:=rfl
    rw [List.foldl_cons]
    cases hq:stepT j m x w l with
    | none=>
      rw [takeS_none (a:=(l,a,c)) hq]
      dsimp only
      rw [ih l a (c ++ [(⟨x,w⟩:LatT)]) B hr hB (by omega) hA,List.length_append,hg]
      show sumN l+(ws.length:Int)+((c.length+1:Nat):Int)=_
      omega
    | some q=>
      rw [takeS_some (a:=(l,a,c)) hq]
      dsimp only
      have he:=hq
      unfold stepT at he
      rw [if_neg hk] at he
      obtain ⟨h1,h2⟩:=into_sum hr ⟨hB,by omega⟩ hA he
      rw [ih q.1 (a++q.2) c (B+1) (rise_into hr he) (by omega) (by omega) h2,h1,hg]
      omega
theorem take_sum {j:JobT} {s:OpStT} {x:ItmT} (hok:OpOkP j s) (hx:RecP x) (h280:s.rows.n<=280):sumN (w5 j s x).2.1+((w5 j s x).2.2.2.length:Int)=sumN (n6 s)+((x1 j x.t).length:Int):=by
  unfold w5
  rw [if_pos ⟨hok,hx,h280⟩]
  show sumN (takeL j s.mark x (x1 j x.t) (n6 s)).1+((takeL j s.mark x (x1 j x.t) (n6 s)).2.2.length:Int)=_
  have hr:=rise_ok hok
  have hA:AllN 1000 (n6 s):=all_ok hok
  unfold takeL
  by_cases hk:j.kind=3
  · have ht:=recP_t hx
    have hj:=hok.1
    unfold t9 at hj
    rw [winsL_sess hk (by omega) ht.1 ht.2]
    rw [List.foldl_cons,List.foldl_nil]
    cases hq:stepT j s.mark x ⟨x.t,x.t+j.size⟩ (n6 s) with
    | none=>rw [takeS_none (a:=(n6 s,[],[])) hq];rfl
    | some q=>
      rw [takeS_some (a:=(n6 s,[],[])) hq]
      have he:=hq
      unfold stepT at he
      rw [if_pos hk] at he
      have hlen:(n6 s).length<=1000:=by unfold n6;simp;omega
      have h:=sess_sum hr (B:=1000) (by omega) hlen hA (by show x.t<x.t+j.size;omega) he
      show sumN q.1+0=sumN (n6 s)+1
      omega
  · have h:=takeW_sum hk (m:=s.mark) (x:=x) (x1 j x.t) (n6 s) [] [] 1000 hr (by omega) (by have:=winsL_len j x.t;omega) hA
    rw [h]
    show _+0=_
    omega
theorem takeS_late {j:JobT} {m:Int} {x:ItmT} (ws:List WinT):∀ (l:List RowT) (a:List PaneT) (c:List LatT) (t:LatT),t∈(ws.foldl (takeS j m x) (l,a,c)).2.2->t∈c\/(t.itm=x/\t.win∈ws/\(j.kind≠3->w64 (t.win.e+j.late)<=m)):=by
  induction ws with
  | nil=>intro l a c t h;exact .inl h
  | cons w ws ih=>
    intro l a c t h
    rw [List.foldl_cons] at h
    cases hq:stepT j m x w l with
    | none=>
      rw [takeS_none (a:=(l,a,c)) hq] at h
      dsimp only at h
      rcases ih _ _ _ _ h with h|⟨h1,h2,h3⟩
      · rcases List.mem_append.1 h with h|h
        · exact .inl h
        · have e:=List.mem_singleton.1 h
          subst e
          refine .inr ⟨rfl,by simp,λhk => ?_⟩
          unfold stepT intoL at hq
          rw [if_neg hk] at hq
          by_cases hh:w64 (w.e+j.late)<=m
          · exact hh
          · rw [if_neg hh] at hq;cases hq
      · exact .inr ⟨h1,List.mem_cons_of_mem _ h2,h3⟩
    | some q=>
      rw [takeS_some (a:=(l,a,c)) hq] at h
      dsimp only at h
      rcases ih _ _ _ _ h with h|⟨h1,h2,h3⟩
      · exact .inl h
      · exact .inr ⟨h1,List.mem_cons_of_mem _ h2,h3⟩
theorem take_lates {j:JobT} {s:OpStT} {x:ItmT} {t:LatT} (h:t∈(w5 j s x).2.2.2):OpOkP j s/\RecP x/\t.itm=x/\t.win∈x1 j x.t/\(j.kind≠3->w64 (t.win.e+j.late)<=s.mark):=by
  unfold w5 at h
  split at h
  · rename_i hc
    rcases takeS_late _ _ _ _ _ h with h|h
    · cases h
    · exact ⟨hc.1,hc.2.1,h⟩
  · cases h
end Go.Rk
