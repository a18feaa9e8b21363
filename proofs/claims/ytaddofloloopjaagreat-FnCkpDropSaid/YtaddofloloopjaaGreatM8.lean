/- What each of this seat's functions answers, at all data, part 8: no condition. -/
import Derived.Test.YtaddofloloopjaaGreatM5
import Derived.Test.YtaddofloloopjaaGreatM6
import Derived.Test.YtaddofloloopjaaGreatM7
namespace Go.Rk
set_option linter.unusedSimpArgs false
set_option linter.unusedVariables false
open Go.Proofs
open Classical in
set_option maxRecDepth 100000 in
theorem c_notTime (n:Int):∃ b,(b=true ↔ ¬ (0<=n/\n<=1000))/\d7 Tryz.prog 78 [.c (.d (eI n))] ⟨.one (.c (.d (eB b))),[none]⟩:=by
  obtain ⟨b,hb⟩:∃ b:Bool,(b=true ↔ ¬ (0<=n/\n<=1000)):=⟨decide (¬ (0<=n/\n<=1000)),by rw [decide_eq_true_eq]⟩
  refine ⟨b,hb,?_⟩
  refine d5 (H:=[]) (EX:=EXA) l6 e8 Tryz.func78 rfl (by kernel_rfl) (by decide) ?_
  generalize hA:real=A
  generalize hM:d4 Tryz.prog=M
  cbv
  repeat' first|apply And.intro|exact True.intro|with_reducible rfl|exact b7 hA rfl|apply c8 hA<;>intro _|exact c6 hA id | (subst hA;exact λh=>h) | (refine c5 hA ?_;decide +kernel) | (refine d6 hA hM (c_isTime _) (λ_ _ => ?_);cbv)|fail
  rename_i b1 hb1
  refine congrArg (λb=>XA.one (.c (.d (eB b)))) (Bool.eq_iff_iff.2 ?_)
  subst hA
  rw [hb,hb1]
  simp [real]
  omega
open Classical in
set_option maxRecDepth 100000 in
theorem c_notAt (n:Int):∃ b,(b=true ↔ ¬ (0<=n/\n<=40))/\d7 Tryz.prog 49 [.c (.d (eI n))] ⟨.one (.c (.d (eB b))),[none]⟩:=by
  obtain ⟨b,hb⟩:∃ b:Bool,(b=true ↔ ¬ (0<=n/\n<=40)):=⟨decide (¬ (0<=n/\n<=40)),by rw [decide_eq_true_eq]⟩
  refine ⟨b,hb,?_⟩
  refine d5 (H:=[]) (EX:=EXA) l6 e8 Tryz.func49 rfl (by kernel_rfl) (by decide) ?_
  generalize hA:real=A
  generalize hM:d4 Tryz.prog=M
  cbv
  repeat' first|apply And.intro|exact True.intro|with_reducible rfl|exact b7 hA rfl|apply c8 hA<;>intro _|exact c6 hA id | (subst hA;exact λh=>h) | (refine c5 hA ?_;decide +kernel) | (refine d6 hA hM (c_in _ _ _) (λ_ _ => ?_);cbv)|fail
  rename_i b1 hb1
  refine congrArg (λb=>XA.one (.c (.d (eB b)))) (Bool.eq_iff_iff.2 ?_)
  subst hA
  rw [hb,hb1]
  simp [real]
  omega
open Classical in
set_option maxRecDepth 100000 in
theorem c_marksOk (j:JobT) (ms:Sl Int):∃ b,(b=true↔MarksP j ms)/\d7 Tryz.prog 54 [xd (u7 j),.c (.d (.sl 1 ms.n λi=>[eI (ms.g i)]))] ⟨.one (.c (.d (eB b))),[none,none]⟩:=by
  obtain ⟨b,hb⟩:∃ b:Bool,(b=true↔MarksP j ms):=⟨decide (MarksP j ms),by rw [decide_eq_true_eq]⟩
  refine ⟨b,hb,?_⟩
  have hcon:=c_Containsint0 ms.n ms.hn ms.g 78 _ c_notTime
  refine d5 (H:=[]) (EX:=EXA) l6 e8 Tryz.func54 rfl (by kernel_rfl) (by decide) ?_
  generalize hA:real=A
  generalize hM:d4 Tryz.prog=M
  cbv
  repeat' first|apply And.intro|exact True.intro|with_reducible rfl|exact b7 hA rfl|apply c8 hA<;>intro _|exact c6 hA id | (subst hA;exact λh=>h) | (refine c5 hA ?_;decide +kernel) | (refine d6 hA hM hcon (λ_ _ => ?_);cbv)|fail
  rename_i b1 hb1
  refine congrArg (λb=>XA.one (.c (.d (eB b)))) (Bool.eq_iff_iff.2 ?_)
  have e1:=nex hb1
  subst hA
  rw [hb]
  simp only [real,u5,v4,v7,w4,beqB,decide_eq_true_eq,decide_eq_false_iff_not,beqI,bneI,v6,w3,ne_eq,Bool.and_eq_true,Bool.or_eq_true,Bool.not_eq_true',Bool.not_eq_false',Bool.and_eq_false_iff,Bool.or_eq_false_iff,Bool.false_eq_true,and_false,false_and,or_false,false_or,and_true,true_and,not_true_eq_false,not_false_eq_true,true_iff,false_iff,Int.ofNat_eq_natCast,Int.toNat_natCast]
  rw [e1]
  exact Iff.rfl
def st_min (n:Nat) (g:Nat->Int) (i:Nat) (v:Int):St:=⟨[(4,.c (.d (eI i))),(3,.c (.d (eI v))),(0,.c (.d (.sl 1 n λi=>[eI (g i)])))],[]⟩
set_option maxRecDepth 100000 in
theorem c_min (n:Nat) (hn:n<=maxLen) (g:Nat->Int) (h0:0<n) (x:Int) (hx:MinP n g x):d7 Tryz.prog 55 [.c (.d (.sl 1 n λi=>[eI (g i)]))] ⟨.one (.c (.d (eI x))),[none]⟩:=by
  refine d5 (H:=[]) (EX:=EXA) l6 e8 Tryz.func55 rfl (by kernel_rfl) (by decide) ?_
  generalize hA:real=A
  generalize hM:d4 Tryz.prog=M
  cbv
  repeat' first|apply And.intro|exact True.intro|with_reducible rfl|exact b7 hA rfl|apply c8 hA<;>intro _|exact c6 hA id | (subst hA;exact λh=>h) | (refine c5 hA ?_;decide +kernel) | (refine d8 hA λ_ => ?_;subst hA;simp only [real,Bool.and_eq_true,Bool.not_eq_true',Bool.not_eq_false',decide_eq_true_eq,Int.ofNat_eq_natCast,IntKind.wrap_i64] at *;omega)|fail
  · exfalso
    rename_i h
    subst hA
    simp only [real,decide_eq_true_eq,Int.ofNat_eq_natCast] at h
    omega
  refine i7 hA (α := { q:Nat × Int // 1<=q.1/\q.1<=n/\LowP (g 0) q.1 g q.2 }) (λy=>st_min n g y.1.1 y.1.2) (λy=>n-y.1.1) ⟨(1,g 0),Nat.le_refl _,h0,Int.le_refl _,λi h=>(by have e:i=0:=Nat.lt_one_iff.1 h;rw [e];exact Int.le_refl _),.inl rfl⟩ ?_ ?_
  · refine c7 ?_ ?_ ?_
    · cbv;try (subst hA;repeat' first|apply And.intro|exact True.intro|rfl)
    · cbv;try (subst hA;repeat' first|apply And.intro|exact True.intro|rfl)
    · cbv
  rintro ⟨⟨i,v⟩,h1,hi,hc⟩
  have hc:LowP (g 0) i g v:=hc
  have hi:i<=n:=hi
  have hs:=lowP_step hc
  cbv
  repeat' first|apply And.intro|exact True.intro|with_reducible rfl|exact b7 hA rfl|apply c8 hA<;>intro _|exact c6 hA id | (subst hA;exact λh=>h) | (refine c5 hA ?_;decide +kernel) | (refine d8 hA λ_ => ?_;subst hA;simp only [real,Bool.and_eq_true,Bool.not_eq_true',Bool.not_eq_false',decide_eq_true_eq,Int.ofNat_eq_natCast,IntKind.wrap_i64] at *;omega)|fail
  · rename_i hlt
    have hlt':i<n:=by subst hA;simp only [real,decide_eq_true_eq,Int.ofNat_eq_natCast] at hlt;omega
    obtain ⟨v2,hv2⟩:∃ v2:Int,v2=(if g i<v then g i else v):=⟨_,rfl⟩
    rw [<- hv2] at hs
    refine ⟨⟨(i+1,v2),by simp only;omega,by simp only;omega,hs⟩,by simp only;omega,c7 ?_ ?_ ?_⟩
    · cbv
      subst hA
      repeat' first|apply And.intro|exact True.intro|exact congrArg (λx=>DV.v (.int .i64 x)) (o0 hlt' hn)|exact congrArg (λx=>DV.v (.int .i64 x)) hv2.symm|rfl | (intro k hk;exact t7 rfl _ _ _ _ k hk)
    · cbv
    · cbv
  · rename_i hge
    have:i=n:=by
      subst hA
      simp only [real,decide_eq_false_iff_not,Int.ofNat_eq_natCast] at hge
      omega
    subst this
    exact congrArg (λx=>XA.one (.c (.d (eI x)))) (minP_one (minP_of h0 hc) hx)
open Classical in
set_option maxRecDepth 100000 in
theorem c_SnapOk (j:JobT) (s:SnapT):∃ b,(b=true↔SnapOkP j s)/\d7 Tryz.prog 32 [xd (d9 s),xd (u7 j)] ⟨.one (.c (.d (eB b))),[none,none]⟩:=by
  obtain ⟨b,hb⟩:∃ b:Bool,(b=true↔SnapOkP j s):=⟨decide (SnapOkP j s),by rw [decide_eq_true_eq]⟩
  refine ⟨b,hb,?_⟩
  refine d5 (H:=[]) (EX:=EXA) l6 e8 Tryz.func32 rfl (by kernel_rfl) (by decide) ?_
  generalize hA:real=A
  generalize hM:d4 Tryz.prog=M
  cbv
  repeat' first|apply And.intro|exact True.intro|with_reducible rfl|exact b7 hA rfl|apply c8 hA<;>intro _|exact c6 hA id | (subst hA;exact λh=>h) | (refine c5 hA ?_;decide +kernel) | (refine d6 hA hM (c_OpOk j s.op) (λ_ _ => ?_);cbv) | (refine d6 hA hM (c_marksOk j s.marks) (λ_ _ => ?_);cbv)|fail
  rename_i b1 hb1 b2 hb2
  refine call_exg (out:=λx=>⟨.one (.c (.d (eI x))),[none]⟩) hA hM (minq_ex s.marks.n s.marks.g) (λx hx hg => ?_) (λx hx => ?_)
  · subst hA
    simp only [real,u5,v4,v7,w4,beqB,decide_eq_true_eq,decide_eq_false_iff_not,beqI,bneI,v6,w3,ne_eq,Bool.and_eq_true,Bool.or_eq_true,Bool.not_eq_true',Bool.not_eq_false',Bool.and_eq_false_iff,Bool.or_eq_false_iff,Bool.false_eq_true,and_false,false_and,or_false,false_or,and_true,true_and,not_true_eq_false,not_false_eq_true,true_iff,false_iff,Int.ofNat_eq_natCast,Int.toNat_natCast] at hg
    have h1:=hb1.1 hg.1
    have h2:=hb2.1 hg.2
    have h0:0<s.marks.n:=by
      have a:=h1.1.1.1
      have b:(s.marks.n:Int)=j.srcs:=h2.1
      rw [<- b] at a
      exact Int.ofNat_lt.1 (Int.lt_of_lt_of_le (by decide) a)
    exact c_min s.marks.n s.marks.hn s.marks.g h0 x (hx h0)
  cbv
  repeat' first|apply And.intro|exact True.intro|with_reducible rfl|exact b7 hA rfl|apply c8 hA<;>intro _|exact c6 hA id | (subst hA;exact λh=>h) | (refine c5 hA ?_;decide +kernel)|fail
  refine congrArg (λb=>XA.one (.c (.d (eB b)))) (Bool.eq_iff_iff.2 ?_)
  subst hA
  rw [hb]
  simp only [real,u5,v4,v7,w4,beqB,decide_eq_true_eq,decide_eq_false_iff_not,beqI,bneI,v6,w3,ne_eq,Bool.and_eq_true,Bool.or_eq_true,Bool.not_eq_true',Bool.not_eq_false',Bool.and_eq_false_iff,Bool.or_eq_false_iff,Bool.false_eq_true,and_false,false_and,or_false,false_or,and_true,true_and,not_true_eq_false,not_false_eq_true,true_iff,false_iff,Int.ofNat_eq_natCast,Int.toNat_natCast]
  rw [hb1,hb2]
  have key:OpOkP j s.op->MarksP j s.marks->(s.op.mark=x↔LowP 1000 s.marks.n s.marks.g s.op.mark):=λh1 h2=>by
    have h0:0<s.marks.n:=by
      have a:=h1.1.1.1
      have b:(s.marks.n:Int)=j.srcs:=h2.1
      rw [<- b] at a
      exact Int.ofNat_lt.1 (Int.lt_of_lt_of_le (by decide) a)
    have hm:=hx h0
    have hl:=(min_low h0 (λi hi=>(h2.2 i hi).2)).1 hm
    exact ⟨λe=>by rw [e];exact hl,λh=>lowP_one h hl⟩
  exact ⟨λh=>⟨h.1.1,h.1.2,(key h.1.1 h.1.2).1 h.2⟩,λh=>⟨⟨h.1,h.2.1⟩,(key h.1 h.2.1).2 h.2.2⟩⟩
open Classical in
set_option maxRecDepth 100000 in
theorem c_empty (s:SnapT):∃ b,(b=true↔EmptyP s)/\d7 Tryz.prog 33 [xd (d9 s)] ⟨.one (.c (.d (eB b))),[none]⟩:=by
  obtain ⟨b,hb⟩:∃ b:Bool,(b=true↔EmptyP s):=⟨decide (EmptyP s),by rw [decide_eq_true_eq]⟩
  refine ⟨b,hb,?_⟩
  refine d5 (H:=[]) (EX:=EXA) l6 e8 Tryz.func33 rfl (by kernel_rfl) (by decide) ?_
  generalize hA:real=A
  generalize hM:d4 Tryz.prog=M
  cbv
  repeat' first|apply And.intro|exact True.intro|with_reducible rfl|exact b7 hA rfl|apply c8 hA<;>intro _|exact c6 hA id | (subst hA;exact λh=>h) | (refine c5 hA ?_;decide +kernel)|fail
  refine congrArg (λb=>XA.one (.c (.d (eB b)))) (Bool.eq_iff_iff.2 ?_)
  subst hA
  rw [hb]
  simp only [real,u5,v4,v7,w4,beqB,decide_eq_true_eq,decide_eq_false_iff_not,beqI,bneI,v6,w3,ne_eq,Bool.and_eq_true,Bool.or_eq_true,Bool.not_eq_true',Bool.not_eq_false',Bool.and_eq_false_iff,Bool.or_eq_false_iff,Bool.false_eq_true,and_false,false_and,or_false,false_or,and_true,true_and,not_true_eq_false,not_false_eq_true,true_iff,false_iff,Int.ofNat_eq_natCast,Int.toNat_natCast]
  unfold EmptyP
  exact ⟨λh=>⟨h.1.1,Int.ofNat_eq_zero.1 h.1.2,Int.ofNat_eq_zero.1 h.2⟩,λh=>⟨⟨h.1,Int.ofNat_eq_zero.2 h.2.1⟩,Int.ofNat_eq_zero.2 h.2.2⟩⟩
open Classical in
set_option maxRecDepth 100000 in
theorem c_notSnap (j:JobT) (s:SnapT):∃ b,(b=true ↔ ¬ SnapOkP j s)/\d7 Tryz.prog 50 [xd (d9 s),.c (.d (.p (u7 j)))] ⟨.one (.c (.d (eB b))),[none,none]⟩:=by
  obtain ⟨b,hb⟩:∃ b:Bool,(b=true ↔ ¬ SnapOkP j s):=⟨decide (¬ SnapOkP j s),by rw [decide_eq_true_eq]⟩
  refine ⟨b,hb,?_⟩
  refine d5 (H:=[]) (EX:=EXA) l6 e8 Tryz.func50 rfl (by kernel_rfl) (by decide) ?_
  generalize hA:real=A
  generalize hM:d4 Tryz.prog=M
  cbv
  repeat' first|apply And.intro|exact True.intro|with_reducible rfl|exact b7 hA rfl|apply c8 hA<;>intro _|exact c6 hA id | (subst hA;exact λh=>h) | (refine c5 hA ?_;decide +kernel) | (refine d6 hA hM (c_SnapOk j s) (λ_ _ => ?_);cbv)|fail
  rename_i b1 hb1
  refine congrArg (λb=>XA.one (.c (.d (eB b)))) (Bool.eq_iff_iff.2 ?_)
  subst hA
  rw [hb,<- hb1]
  simp [real]
open Classical in
set_option maxRecDepth 100000 in
theorem c_SafeOk (j:JobT) (s:SafeT):∃ b,(b=true↔SafeOkP j s)/\d7 Tryz.prog 30 [xd (eSafe s),xd (u7 j)] ⟨.one (.c (.d (eB b))),[none,none]⟩:=by
  obtain ⟨b,hb⟩:∃ b:Bool,(b=true↔SafeOkP j s):=⟨decide (SafeOkP j s),by rw [decide_eq_true_eq]⟩
  refine ⟨b,hb,?_⟩
  have hca:=c_Containsint0 s.at_.n s.at_.hn s.at_.g 49 _ c_notAt
  have hcs:=c_ContainsSnap1 s.snaps.n s.snaps.hn s.snaps.g 50 (.p (u7 j)) _ (c_notSnap j)
  refine d5 (H:=[]) (EX:=EXA) l6 e8 Tryz.func30 rfl (by kernel_rfl) (by decide) ?_
  generalize hA:real=A
  generalize hM:d4 Tryz.prog=M
  cbv
  repeat' first|apply And.intro|exact True.intro|with_reducible rfl|exact b7 hA rfl|apply c8 hA<;>intro _|exact c6 hA id | (subst hA;exact λh=>h) | (refine c5 hA ?_;decide +kernel) | (refine d6 hA hM (c_in _ _ _) (λ_ _ => ?_);cbv) | (refine d6 hA hM hca (λ_ _ => ?_);cbv) | (refine d6 hA hM hcs (λ_ _ => ?_);cbv)|fail
  rename_i b1 hb1 b2 hb2 b3 hb3
  refine congrArg (λb=>XA.one (.c (.d (eB b)))) (Bool.eq_iff_iff.2 ?_)
  have e2:=nex hb2
  have e3:=nex hb3
  subst hA;subst hb1
  rw [hb]
  simp only [real,u5,v4,v7,w4,beqB,decide_eq_true_eq,decide_eq_false_iff_not,beqI,bneI,v6,w3,ne_eq,Bool.and_eq_true,Bool.or_eq_true,Bool.not_eq_true',Bool.not_eq_false',Bool.and_eq_false_iff,Bool.or_eq_false_iff,Bool.false_eq_true,and_false,false_and,or_false,false_or,and_true,true_and,not_true_eq_false,not_false_eq_true,true_iff,false_iff,Int.ofNat_eq_natCast,Int.toNat_natCast]
  rw [e2,e3]
  exact ⟨λh=>⟨h.1.1.1.1,h.1.1.1.2,h.1.1.2,h.1.2,h.2⟩,λh=>⟨⟨⟨⟨h.1,h.2.1⟩,h.2.2.1⟩,h.2.2.2.1⟩,h.2.2.2.2⟩⟩
theorem c_JobOkP (j:JobT):∃ b,(b=true↔t9 j)/\d7 Tryz.prog 29 [xd (u7 j)] ⟨.one (.c (.d (eB b))),[none]⟩:=by
  obtain ⟨b,hb,hm⟩:=c_JobOk j.srcs j.tsks j.kind j.size j.step j.late j.tell j.piece j.least j.room
  exact ⟨b,by rw [hb,decide_eq_true_eq];exact Iff.rfl,hm⟩
theorem c_sJobOkP (j:JobT):∃ b,(b=true↔t9 j)/\d7 Tryz.prog 23 [xd (u7 j)] ⟨.one (.c (.d (eB b))),[none]⟩:=by
  obtain ⟨b,hb,hm⟩:=c_sJobOk j.srcs j.tsks j.kind j.size j.step j.late j.tell j.piece j.least j.room
  exact ⟨b,by rw [hb,decide_eq_true_eq];exact Iff.rfl,hm⟩
def st_l9Snap (j:JobT) (op:OpStT) (n:Nat) (g:Nat->Int) (i:Nat) (v:Int):St:=⟨[(6,.c (.d (eI i))),(5,.c (.d (eI v))),(2,.c (.bp 128 1 0)),(3,.c (.bp 192 1 0))],[(128,1,.box ((u7 j).map .d)),(192,1,.box ((eOpSt op ++ [DV.sl 1 n λi=>[eI (g i)]]).map .d))]⟩
open Classical in
set_option maxRecDepth 100000 in
theorem c_l9Snap (j:JobT) (s:SnapT):∃ b,(b=true↔SnapOkP j s)/\d7 Tryz.prog 26 [xd (u7 j),xd (d9 s)] ⟨.one (.c (.d (eB b))),[none,none]⟩:=by
  obtain ⟨b,hb⟩:∃ b:Bool,(b=true↔SnapOkP j s):=⟨decide (SnapOkP j s),by rw [decide_eq_true_eq]⟩
  refine ⟨b,hb,?_⟩
  obtain ⟨op,⟨n,g,hn⟩⟩:=s
  show d7 _ _ [xd (u7 j),xd (eOpSt op ++ [DV.sl 1 n λi=>[eI (g i)]])] _
  refine d5 (H:=[]) (EX:=EXA) l6 e8 Tryz.func26 rfl (by kernel_rfl) (by decide) ?_
  generalize hA:real=A
  generalize hM:d4 Tryz.prog=M
  cbv
  repeat' first|apply And.intro|exact True.intro|with_reducible rfl|exact b7 hA rfl|apply c8 hA<;>intro _|exact c6 hA id | (subst hA;exact λh=>h) | (refine c5 hA ?_;decide +kernel) | (refine d6 hA hM (c_sOpOk j op) (λ_ _ => ?_);cbv)|fail
  · rename_i b1 hb1 hbad
    subst hA
    refine congrArg (λb=>XA.one (.c (.d (eB b)))) ?_
    simp only [real,u5,v4,v7,w4,beqB,decide_eq_true_eq,decide_eq_false_iff_not,beqI,bneI,v6,w3,ne_eq,Classical.not_not,Bool.and_eq_true,Bool.or_eq_true,Bool.not_eq_true',Bool.not_eq_false',Bool.and_eq_false_iff,Bool.or_eq_false_iff,Bool.false_eq_true,and_false,false_and,or_false,false_or,and_true,true_and,not_true_eq_false,not_false_eq_true,true_iff,false_iff,Int.ofNat_eq_natCast,Int.toNat_natCast] at hbad
    have hbad:b1=false\/¬ (n:Int)=j.srcs:=hbad
    cases b with
    | false=>rfl
    | true=>
      exfalso
      have h:=hb.1 rfl
      rcases hbad with h1|h1
      · have:=hb1.2 h.1
        rw [h1] at this;cases this
      · exact h1 h.2.1.1
  rename_i b1 hb1 hgood
  have hpre:OpOkP j op/\(n:Int)=j.srcs:=by
    subst hA
    simp only [real,u5,v4,v7,w4,beqB,decide_eq_true_eq,decide_eq_false_iff_not,beqI,bneI,v6,w3,ne_eq,Classical.not_not,Bool.and_eq_true,Bool.or_eq_true,Bool.not_eq_true',Bool.not_eq_false',Bool.and_eq_false_iff,Bool.or_eq_false_iff,Bool.false_eq_true,and_false,false_and,or_false,false_or,and_true,true_and,not_true_eq_false,not_false_eq_true,true_iff,false_iff,Int.ofNat_eq_natCast,Int.toNat_natCast] at hgood
    exact ⟨hb1.1 hgood.1,hgood.2⟩
  clear hgood
  refine i7 hA (α := { q:Nat × Int // q.1<=n/\(∀ k,k<q.1->(0<=g k/\g k<=1000))/\LowP 1000 q.1 g q.2 }) (λy=>st_l9Snap j op n g y.1.1 y.1.2) (λy=>n-y.1.1) ⟨(0,1000),Nat.zero_le _,λk h=>absurd h (Nat.not_lt_zero k),Int.le_refl _,λi h=>absurd h (Nat.not_lt_zero i),.inl rfl⟩ ?_ ?_
  · refine c7 ?_ ?_ ?_
    · cbv;try (subst hA;repeat' first|apply And.intro|exact True.intro|rfl)
    · cbv;try (subst hA;repeat' first|apply And.intro|exact True.intro|rfl)
    · cbv
  rintro ⟨⟨i,v⟩,hi,hk,hc⟩
  have hi:i<=n:=hi
  have hk:∀ k,k<i->(0<=g k/\g k<=1000):=hk
  have hc:LowP 1000 i g v:=hc
  have hs:=lowP_step hc
  cbv
  repeat' first|apply And.intro|exact True.intro|with_reducible rfl|exact b7 hA rfl|apply c8 hA<;>intro _|exact c6 hA id | (subst hA;exact λh=>h) | (refine c5 hA ?_;decide +kernel) | (refine d6 hA hM (c_l1In _ _ _) (λ_ _ => ?_);cbv) | (refine d8 hA λ_ => ?_;subst hA;simp only [real,Bool.and_eq_true,Bool.not_eq_true',Bool.not_eq_false',decide_eq_true_eq,Int.ofNat_eq_natCast,IntKind.wrap_i64] at *;omega)|fail
  · rename_i hlt bq hbq hcc
    have hlt':i<n:=by subst hA;simp only [real,decide_eq_true_eq,Int.ofNat_eq_natCast] at hlt;omega
    have hq:¬ (0<=g i/\g i<=1000):=by
      subst hA;subst hbq
      simp only [real,Bool.not_eq_true',decide_eq_false_iff_not] at hcc
      exact of_decide_eq_false hcc
    refine congrArg (λb=>XA.one (.c (.d (eB b)))) ?_
    cases b with
    | false=>rfl
    | true=>exact absurd ((hb.1 rfl).2.1.2 i hlt') hq
  · rename_i hlt bq hbq hcc hh
    have hlt':i<n:=by subst hA;simp only [real,decide_eq_true_eq,Int.ofNat_eq_natCast] at hlt;omega
    have hq:0<=g i/\g i<=1000:=by
      subst hA;subst hbq
      simp only [real,Bool.not_eq_false',decide_eq_true_eq] at hcc
      exact of_decide_eq_true hcc
    have hh :  g i<v:=by subst hA;exact of_decide_eq_true hh
    rw [if_pos hh] at hs
    refine ⟨⟨(i+1,g i),by simp only;omega,λk hk' => ?_,hs⟩,by simp only;omega,c7 ?_ ?_ ?_⟩
    · by_cases e:k=i
      · rw [e];exact hq
      · exact hk k (by simp only at hk';omega)
    · cbv
      subst hA
      repeat' first|apply And.intro|exact True.intro|exact congrArg (λx=>DV.v (.int .i64 x)) (o0 hlt' hn)|rfl | (intro k hk;exact t7 rfl _ _ _ _ k hk)
    · cbv;try (subst hA;repeat' first|apply And.intro|exact True.intro|rfl)
    · cbv
  · rename_i hlt bq hbq hcc hh
    have hlt':i<n:=by subst hA;simp only [real,decide_eq_true_eq,Int.ofNat_eq_natCast] at hlt;omega
    have hq:0<=g i/\g i<=1000:=by
      subst hA;subst hbq
      simp only [real,Bool.not_eq_false',decide_eq_true_eq] at hcc
      exact of_decide_eq_true hcc
    have hh:¬ g i<v:=by subst hA;exact of_decide_eq_false hh
    rw [if_neg hh] at hs
    refine ⟨⟨(i+1,v),by simp only;omega,λk hk' => ?_,hs⟩,by simp only;omega,c7 ?_ ?_ ?_⟩
    · by_cases e:k=i
      · rw [e];exact hq
      · exact hk k (by simp only at hk';omega)
    · cbv
      subst hA
      repeat' first|apply And.intro|exact True.intro|exact congrArg (λx=>DV.v (.int .i64 x)) (o0 hlt' hn)|rfl | (intro k hk;exact t7 rfl _ _ _ _ k hk)
    · cbv;try (subst hA;repeat' first|apply And.intro|exact True.intro|rfl)
    · cbv
  · rename_i hge
    have hin:i=n:=by
      subst hA
      simp only [real,decide_eq_false_iff_not,Int.ofNat_eq_natCast] at hge
      omega
    subst hin
    refine congrArg (λb=>XA.one (.c (.d (eB b)))) (Bool.eq_iff_iff.2 ?_)
    subst hA
    rw [hb]
    simp only [real,u5,v4,v7,w4,beqB,decide_eq_true_eq,decide_eq_false_iff_not,beqI,bneI,v6,w3,ne_eq,Bool.and_eq_true,Bool.or_eq_true,Bool.not_eq_true',Bool.not_eq_false',Bool.and_eq_false_iff,Bool.or_eq_false_iff,Bool.false_eq_true,and_false,false_and,or_false,false_or,and_true,true_and,not_true_eq_false,not_false_eq_true,true_iff,false_iff,Int.ofNat_eq_natCast,Int.toNat_natCast]
    constructor
    · intro h
      have h:op.mark=v:=h
      exact ⟨hpre.1,⟨hpre.2,hk⟩,(show LowP 1000 i g op.mark by rw [h];exact hc)⟩
    · intro h
      exact lowP_one h.2.2 hc
def st_l9S0 (j:JobT) (m:Int) (n:Nat) (g:Nat->Int) (n2:Nat) (g2:Nat->SnapT) (i:Nat):St:=⟨[(5,.c (.d (eI i))),(2,.c (.bp 128 1 0)),(3,.c (.bp 192 1 0))],[(128,1,.box ((u7 j).map .d)),(192,1,.box ([eI m,.sl 1 n λi=>[eI (g i)],.sl 3 n2 λi=>d9 (g2 i)].map .d))]⟩
def st_l9S1 (j:JobT) (m:Int) (n:Nat) (g:Nat->Int) (n2:Nat) (g2:Nat->SnapT) (i:Nat):St:=⟨[(6,.c (.d (eI i))),(2,.c (.bp 128 1 0)),(3,.c (.bp 192 1 0))],[(128,1,.box ((u7 j).map .d)),(192,1,.box ([eI m,.sl 1 n λi=>[eI (g i)],.sl 3 n2 λi=>d9 (g2 i)].map .d))]⟩
open Classical in
set_option maxRecDepth 100000 in
theorem c_l9Safe (j:JobT) (s:SafeT):∃ b,(b=true↔SafeOkP j s)/\d7 Tryz.prog 25 [xd (u7 j),xd (eSafe s)] ⟨.one (.c (.d (eB b))),[none,none]⟩:=by
  obtain ⟨b,hb⟩:∃ b:Bool,(b=true↔SafeOkP j s):=⟨decide (SafeOkP j s),by rw [decide_eq_true_eq]⟩
  refine ⟨b,hb,?_⟩
  obtain ⟨m,⟨n,g,hn⟩,⟨n2,g2,hn2⟩⟩:=s
  show d7 _ _ [xd (u7 j),xd [eI m,.sl 1 n λi=>[eI (g i)],.sl 3 n2 λi=>d9 (g2 i)]] _
  refine d5 (H:=[]) (EX:=EXA) l6 e8 Tryz.func25 rfl (by kernel_rfl) (by decide) ?_
  generalize hA:real=A
  generalize hM:d4 Tryz.prog=M
  cbv
  repeat' first|apply And.intro|exact True.intro|with_reducible rfl|exact b7 hA rfl|apply c8 hA<;>intro _|exact c6 hA id | (subst hA;exact λh=>h) | (refine c5 hA ?_;decide +kernel) | (refine d6 hA hM (c_l1In _ _ _) (λ_ _ => ?_);cbv)|fail
  · rename_i b1 hb1 hbad
    subst hA;subst hb1
    refine congrArg (λb=>XA.one (.c (.d (eB b)))) ?_
    simp only [real,u5,v4,v7,w4,beqB,decide_eq_true_eq,decide_eq_false_iff_not,beqI,bneI,v6,w3,ne_eq,Classical.not_not,Bool.and_eq_true,Bool.or_eq_true,Bool.not_eq_true',Bool.not_eq_false',Bool.and_eq_false_iff,Bool.or_eq_false_iff,Bool.false_eq_true,and_false,false_and,or_false,false_or,and_true,true_and,not_true_eq_false,not_false_eq_true,true_iff,false_iff,Int.ofNat_eq_natCast,Int.toNat_natCast] at hbad
    have hbad:(¬ (0<=m/\m<=900)\/¬ (n:Int)=j.srcs)\/¬ (n2:Int)=j.tsks:=hbad
    cases b with
    | false=>rfl
    | true=>
      exfalso
      have h:=hb.1 rfl
      rcases hbad with (h1|h1)|h1
      · exact h1 h.1
      · exact h1 h.2.1
      · exact h1 h.2.2.2.1
  rename_i b1 hb1 hgood
  have hpre:(0<=m/\m<=900)/\(n:Int)=j.srcs/\(n2:Int)=j.tsks:=by
    subst hA;subst hb1
    simp only [real,u5,v4,v7,w4,beqB,decide_eq_true_eq,decide_eq_false_iff_not,beqI,bneI,v6,w3,ne_eq,Classical.not_not,Bool.and_eq_true,Bool.or_eq_true,Bool.not_eq_true',Bool.not_eq_false',Bool.and_eq_false_iff,Bool.or_eq_false_iff,Bool.false_eq_true,and_false,false_and,or_false,false_or,and_true,true_and,not_true_eq_false,not_false_eq_true,true_iff,false_iff,Int.ofNat_eq_natCast,Int.toNat_natCast] at hgood
    exact ⟨hgood.1.1,hgood.1.2,hgood.2⟩
  clear hgood
  refine i7 hA (α := { i:Nat // i<=n/\∀ k,k<i->0<=g k/\g k<=40 }) (λx=>st_l9S0 j m n g n2 g2 x.1) (λx=>n-x.1) ⟨0,Nat.zero_le _,λk h=>absurd h (Nat.not_lt_zero k)⟩ ?_ ?_
  · refine c7 ?_ ?_ ?_
    · cbv;try (subst hA;repeat' first|apply And.intro|exact True.intro|rfl)
    · cbv;try (subst hA;repeat' first|apply And.intro|exact True.intro|rfl)
    · cbv
  rintro ⟨i,hi,hk⟩
  cbv
  repeat' first|apply And.intro|exact True.intro|with_reducible rfl|exact b7 hA rfl|apply c8 hA<;>intro _|exact c6 hA id | (subst hA;exact λh=>h) | (refine c5 hA ?_;decide +kernel) | (refine d6 hA hM (c_l1In _ _ _) (λ_ _ => ?_);cbv) | (refine d8 hA λ_ => ?_;subst hA;simp only [real,Bool.and_eq_true,Bool.not_eq_true',Bool.not_eq_false',decide_eq_true_eq,Int.ofNat_eq_natCast,IntKind.wrap_i64] at *;omega)|fail
  · rename_i hlt bq hbq hc
    have hlt':i<n:=by subst hA;simp only [real,decide_eq_true_eq,Int.ofNat_eq_natCast] at hlt;omega
    have hq:¬ (0<=g i/\g i<=40):=by
      subst hA;subst hbq
      simp only [real,Bool.not_eq_true',decide_eq_false_iff_not] at hc
      exact of_decide_eq_false hc
    refine congrArg (λb=>XA.one (.c (.d (eB b)))) ?_
    cases b with
    | false=>rfl
    | true=>
      exfalso
      exact hq ((hb.1 rfl).2.2.1 i hlt')
  · rename_i hlt bq hbq hc
    have hlt':i<n:=by subst hA;simp only [real,decide_eq_true_eq,Int.ofNat_eq_natCast] at hlt;omega
    have hq:0<=g i/\g i<=40:=by
      subst hA;subst hbq
      simp only [real,Bool.not_eq_false',decide_eq_true_eq] at hc
      exact of_decide_eq_true hc
    refine ⟨⟨i+1,by omega,λk hk' => ?_⟩,by simp only;omega,c7 ?_ ?_ ?_⟩
    · by_cases e:k=i
      · rw [e];exact hq
      · exact hk k (by omega)
    · cbv
      subst hA
      repeat' first|apply And.intro|exact True.intro|exact congrArg (λx=>DV.v (.int .i64 x)) (o0 hlt' hn)|rfl | (intro k hk;exact t7 rfl _ _ _ _ k hk)
    · cbv;try (subst hA;repeat' first|apply And.intro|exact True.intro|rfl)
    · cbv
  rename_i hge
  have hall:∀ k,k<n->0<=g k/\g k<=40:=λk hk'=>hk k (by subst hA;simp only [real,decide_eq_false_iff_not,Int.ofNat_eq_natCast] at hge;omega)
  clear hk hi hge
  have hall1:=hall
  clear hall
  refine i7 hA (α := { i:Nat // i<=n2/\∀ k,k<i->SnapOkP j (g2 k) }) (λx=>st_l9S1 j m n g n2 g2 x.1) (λx=>n2-x.1) ⟨0,Nat.zero_le _,λk h=>absurd h (Nat.not_lt_zero k)⟩ ?_ ?_
  · refine c7 ?_ ?_ ?_
    · cbv;try (subst hA;repeat' first|apply And.intro|exact True.intro|rfl)
    · cbv;try (subst hA;repeat' first|apply And.intro|exact True.intro|rfl)
    · cbv
  rintro ⟨i,hi,hk⟩
  cbv
  repeat' first|apply And.intro|exact True.intro|with_reducible rfl|exact b7 hA rfl|apply c8 hA<;>intro _|exact c6 hA id | (subst hA;exact λh=>h) | (refine c5 hA ?_;decide +kernel) | (refine d6 hA hM (c_l9Snap j (g2 (A.nat (Int.ofNat i)))) (λ_ _ => ?_);cbv) | (refine d8 hA λ_ => ?_;subst hA;simp only [real,Bool.and_eq_true,Bool.not_eq_true',Bool.not_eq_false',decide_eq_true_eq,Int.ofNat_eq_natCast,IntKind.wrap_i64] at *;omega)|fail
  · rename_i hlt bq hbq hc
    have hlt':i<n2:=by subst hA;simp only [real,decide_eq_true_eq,Int.ofNat_eq_natCast] at hlt;omega
    have hq:¬ (SnapOkP j (g2 i)):=by
      subst hA
      simp only [real,Bool.not_eq_true'] at hc
      intro h
      have:=hbq.2 h
      rw [hc] at this
      cases this
    refine congrArg (λb=>XA.one (.c (.d (eB b)))) ?_
    cases b with
    | false=>rfl
    | true=>
      exfalso
      exact hq ((hb.1 rfl).2.2.2.2 i hlt')
  · rename_i hlt bq hbq hc
    have hlt':i<n2:=by subst hA;simp only [real,decide_eq_true_eq,Int.ofNat_eq_natCast] at hlt;omega
    have hq:SnapOkP j (g2 i):=by
      subst hA
      simp only [real,Bool.not_eq_false'] at hc
      exact hbq.1 hc
    refine ⟨⟨i+1,by omega,λk hk' => ?_⟩,by simp only;omega,c7 ?_ ?_ ?_⟩
    · by_cases e:k=i
      · rw [e];exact hq
      · exact hk k (by omega)
    · cbv
      subst hA
      repeat' first|apply And.intro|exact True.intro|exact congrArg (λx=>DV.v (.int .i64 x)) (o0 hlt' hn2)|rfl | (intro k hk;exact t7 rfl _ _ _ _ k hk)
    · cbv;try (subst hA;repeat' first|apply And.intro|exact True.intro|rfl)
    · cbv
  rename_i hge
  have hall:∀ k,k<n2->SnapOkP j (g2 k):=λk hk'=>hk k (by subst hA;simp only [real,decide_eq_false_iff_not,Int.ofNat_eq_natCast] at hge;omega)
  clear hk hi hge
  exact congrArg (λb=>XA.one (.c (.d (eB b)))) (hb.2 ⟨hpre.1,hpre.2.1,hall1,hpre.2.2,hall⟩).symm
def st_Ck0 (j:JobT) (cn:Int) (opn:Bool) (n1:Nat) (g1:Nat->Int) (hn1:n1<=maxLen) (n2:Nat) (g2:Nat->Bool) (hn2:n2<=maxLen) (n3:Nat) (g3:Nat->SnapT) (hn3:n3<=maxLen) (safe:SafeT) (i:Nat):St:=⟨[(65,.c (.d (eI i))),(64,.c (.d (eI n1))),(63,.c (.d (.sl 1 n1 λi=>[eI (g1 i)]))),(2,.c (.bp 128 1 0)),(3,.c (.bp 192 1 0))],[(128,1,.box ((u7 j).map .d)),(192,1,.box ((eCkp ⟨cn,opn,⟨n1,g1,hn1⟩,⟨n2,g2,hn2⟩,⟨n3,g3,hn3⟩,safe⟩).map .d))]⟩
def st_Ck1 (j:JobT) (cn:Int) (opn:Bool) (n1:Nat) (g1:Nat->Int) (hn1:n1<=maxLen) (n2:Nat) (g2:Nat->Bool) (hn2:n2<=maxLen) (n3:Nat) (g3:Nat->SnapT) (hn3:n3<=maxLen) (safe:SafeT) (i:Nat):St:=⟨[(85,.c (.d (eI i))),(84,.c (.d (eI n2))),(83,.c (.d (.sl 1 n2 λi=>[eB (g2 i)]))),(2,.c (.bp 128 1 0)),(3,.c (.bp 192 1 0))],[(128,1,.box ((u7 j).map .d)),(192,1,.box ((eCkp ⟨cn,opn,⟨n1,g1,hn1⟩,⟨n2,g2,hn2⟩,⟨n3,g3,hn3⟩,safe⟩).map .d))]⟩
open Classical in
set_option maxRecDepth 100000 in
theorem c_CkpOk (j:JobT) (c:CkpT):∃ b,(b=true↔CkpOkP j c)/\d7 Tryz.prog 12 [xd (u7 j),xd (eCkp c)] ⟨.one (.c (.d (eB b))),[none,none]⟩:=by
  obtain ⟨b,hb⟩:∃ b:Bool,(b=true↔CkpOkP j c):=⟨decide (CkpOkP j c),by rw [decide_eq_true_eq]⟩
  refine ⟨b,hb,?_⟩
  obtain ⟨cn,opn,⟨n1,g1,hn1⟩,⟨n2,g2,hn2⟩,⟨n3,g3,hn3⟩,safe⟩:=c
  refine d5 (H:=[]) (EX:=EXA) l6 e8 Tryz.func12 rfl (by kernel_rfl) (by decide) ?_
  generalize hA:real=A
  generalize hM:d4 Tryz.prog=M
  cbv
  repeat' first|apply And.intro|exact True.intro|with_reducible rfl|exact b7 hA rfl|apply c8 hA<;>intro _|exact c6 hA id | (subst hA;exact λh=>h) | (refine c5 hA ?_;decide +kernel) | (refine d6 hA hM (c_JobOkP j) (λ_ _ => ?_);cbv) | (refine d6 hA hM (c_in _ _ _) (λ_ _ => ?_);cbv) | (refine d6 hA hM (c_SafeOk j safe) (λ_ _ => ?_);cbv)|fail
  · rename_i b1 hb1 b2 hb2 b3 hb3 hbad
    subst hA;subst hb3
    simp only [real,u5,v4,v7,w4,beqB,decide_eq_true_eq,decide_eq_false_iff_not,beqI,bneI,v6,w3,ne_eq,Classical.not_not,Bool.and_eq_true,Bool.or_eq_true,Bool.not_eq_true',Bool.not_eq_false',Bool.and_eq_false_iff,Bool.or_eq_false_iff,Bool.false_eq_true,and_false,false_and,or_false,false_or,and_true,true_and,not_true_eq_false,not_false_eq_true,true_iff,false_iff,Int.ofNat_eq_natCast,Int.toNat_natCast] at hbad
    have hbad:((b1=false\/b2=false)\/¬ (safe.n<=cn/\cn<=900))\/(opn=true/\cn=safe.n):=hbad
    refine congrArg (λb=>XA.one (.c (.d (eB b)))) ?_
    cases b with
    | false=>rfl
    | true=>
      exfalso
      have h:=hb.1 rfl
      rcases hbad with ((h1|h1)|h1)|h1
      · have:=hb1.2 h.1
        rw [h1] at this;cases this
      · have:=hb2.2 h.2.1
        rw [h1] at this;cases this
      · exact h1 h.2.2.1
      · exact h.2.2.2.1 h1
  · rename_i b1 hb1 b2 hb2 b3 hb3 hgood hbad
    subst hA;subst hb3
    simp only [real,u5,v4,v7,w4,beqB,decide_eq_true_eq,decide_eq_false_iff_not,beqI,bneI,v6,w3,ne_eq,Classical.not_not,Bool.and_eq_true,Bool.or_eq_true,Bool.not_eq_true',Bool.not_eq_false',Bool.and_eq_false_iff,Bool.or_eq_false_iff,Bool.false_eq_true,and_false,false_and,or_false,false_or,and_true,true_and,not_true_eq_false,not_false_eq_true,true_iff,false_iff,Int.ofNat_eq_natCast,Int.toNat_natCast] at hbad
    have hbad:(¬ (n1:Int)=j.srcs\/¬ (n2:Int)=j.tsks)\/¬ (n3:Int)=j.tsks:=hbad
    refine congrArg (λb=>XA.one (.c (.d (eB b)))) ?_
    cases b with
    | false=>rfl
    | true=>
      exfalso
      have h:=hb.1 rfl
      rcases hbad with (h1|h1)|h1
      · exact h1 h.2.2.2.2.1
      · exact h1 h.2.2.2.2.2.1
      · exact h1 h.2.2.2.2.2.2.1
  rename_i b1 hb1 b2 hb2 b3 hb3 hgood hgood2
  have hpre:t9 j/\SafeOkP j safe/\(safe.n<=cn/\cn<=900)/\¬ (opn=true/\cn=safe.n)/\(n1:Int)=j.srcs/\(n2:Int)=j.tsks/\(n3:Int)=j.tsks:=by
    subst hA;subst hb3
    simp only [real,u5,v4,v7,w4,beqB,decide_eq_true_eq,decide_eq_false_iff_not,beqI,bneI,v6,w3,ne_eq,Classical.not_not,Bool.and_eq_true,Bool.or_eq_true,Bool.not_eq_true',Bool.not_eq_false',Bool.and_eq_false_iff,Bool.or_eq_false_iff,Bool.false_eq_true,and_false,false_and,or_false,false_or,and_true,true_and,not_true_eq_false,not_false_eq_true,true_iff,false_iff,Int.ofNat_eq_natCast,Int.toNat_natCast] at hgood hgood2
    have hgood:((b1=true/\b2=true)/\(safe.n<=cn/\cn<=900))/\(opn=false\/¬ cn=safe.n):=hgood
    have hgood2:((n1:Int)=j.srcs/\(n2:Int)=j.tsks)/\(n3:Int)=j.tsks:=hgood2
    exact ⟨hb1.1 hgood.1.1.1,hb2.1 hgood.1.1.2,hgood.1.2,(λh=>by rcases hgood.2 with q|q;rw [h.1] at q;cases q;exact q h.2),hgood2.1.1,hgood2.1.2,hgood2.2⟩
  clear hgood hgood2
  have htq:n2=n3:=by
    have e1:=hpre.2.2.2.2.2.1
    rw [<- hpre.2.2.2.2.2.2] at e1
    exact Int.ofNat.inj e1
  refine i7 hA (α := { i:Nat // i<=n1/\∀ k,k<i->SrcP opn (g1 k) }) (λx=>st_Ck0 j cn opn n1 g1 hn1 n2 g2 hn2 n3 g3 hn3 safe x.1) (λx=>n1-x.1) ⟨0,Nat.zero_le _,λk h=>absurd h (Nat.not_lt_zero k)⟩ ?_ ?_
  · refine c7 ?_ ?_ ?_
    · cbv;try (subst hA;repeat' first|apply And.intro|exact True.intro|rfl)
    · cbv;try (subst hA;repeat' first|apply And.intro|exact True.intro|rfl)
    · cbv
  rintro ⟨i,hi,hk⟩
  cbv
  repeat' first|apply And.intro|exact True.intro|with_reducible rfl|exact b7 hA rfl|apply c8 hA<;>intro _|exact c6 hA id | (subst hA;exact λh=>h) | (refine c5 hA ?_;decide +kernel) | (refine d6 hA hM (c_in _ _ _) (λ_ _ => ?_);cbv) | (refine d8 hA λ_ => ?_;subst hA;simp only [real,Bool.and_eq_true,Bool.not_eq_true',Bool.not_eq_false',decide_eq_true_eq,Int.ofNat_eq_natCast,IntKind.wrap_i64] at *;omega)|fail
  · rename_i hlt bq hbq hc
    have hlt':i<n1:=by subst hA;simp only [real,decide_eq_true_eq,Int.ofNat_eq_natCast] at hlt;omega
    have hq:¬ (SrcP opn (g1 i)):=by
      subst hA;subst hbq
      have e:g1 (real.nat (Int.ofNat i))=g1 i:=rfl
      rw [e] at hc
      unfold SrcP
      generalize g1 i=x at hc ⊢
      cases opn<;>simp [real,u5,v4] at hc ⊢ <;> omega
    refine congrArg (λb=>XA.one (.c (.d (eB b)))) ?_
    cases b with
    | false=>rfl
    | true=>
      exfalso
      exact hq ((hb.1 rfl).2.2.2.2.2.2.2.1 i hlt')
  · rename_i hlt bq hbq hc
    have hlt':i<n1:=by subst hA;simp only [real,decide_eq_true_eq,Int.ofNat_eq_natCast] at hlt;omega
    have hq:SrcP opn (g1 i):=by
      subst hA;subst hbq
      have e:g1 (real.nat (Int.ofNat i))=g1 i:=rfl
      rw [e] at hc
      unfold SrcP
      generalize g1 i=x at hc ⊢
      cases opn<;>simp [real,u5,v4] at hc ⊢ <;> omega
    refine ⟨⟨i+1,by omega,λk hk' => ?_⟩,by simp only;omega,c7 ?_ ?_ ?_⟩
    · by_cases e:k=i
      · rw [e];exact hq
      · exact hk k (by omega)
    · cbv
      subst hA
      repeat' first|apply And.intro|exact True.intro|exact congrArg (λx=>DV.v (.int .i64 x)) (o0 hlt' hn1)|rfl | (intro k hk;exact t7 rfl _ _ _ _ k hk)
    · cbv;try (subst hA;repeat' first|apply And.intro|exact True.intro|rfl)
    · cbv
  rename_i hge
  have hall:∀ k,k<n1->SrcP opn (g1 k):=λk hk'=>hk k (by subst hA;simp only [real,decide_eq_false_iff_not,Int.ofNat_eq_natCast] at hge;omega)
  clear hk hi hge
  have hall1:=hall
  clear hall
  refine i7 hA (α := { i:Nat // i<=n2/\∀ k,k<i->TkP j opn (g2 k) (g3 k) }) (λx=>st_Ck1 j cn opn n1 g1 hn1 n2 g2 hn2 n3 g3 hn3 safe x.1) (λx=>n2-x.1) ⟨0,Nat.zero_le _,λk h=>absurd h (Nat.not_lt_zero k)⟩ ?_ ?_
  · refine c7 ?_ ?_ ?_
    · cbv;try (subst hA;repeat' first|apply And.intro|exact True.intro|rfl)
    · cbv;try (subst hA;repeat' first|apply And.intro|exact True.intro|rfl)
    · cbv
  rintro ⟨i,hi,hk⟩
  cbv
  repeat' first|apply And.intro|exact True.intro|with_reducible rfl|exact b7 hA rfl|apply c8 hA<;>intro _|exact c6 hA id | (subst hA;exact λh=>h) | (refine c5 hA ?_;decide +kernel) | (refine d6 hA hM (c_SnapOk j (g3 (A.nat (Int.ofNat i)))) (λ_ _ => ?_);cbv) | (refine d6 hA hM (c_empty (g3 (A.nat (Int.ofNat i)))) (λ_ _ => ?_);cbv) | (refine d8 hA λ_ => ?_;subst hA;simp only [real,Bool.and_eq_true,Bool.not_eq_true',Bool.not_eq_false',decide_eq_true_eq,Int.ofNat_eq_natCast,IntKind.wrap_i64] at *;omega)|fail
  · rename_i hlt b1 hb1 b2 hb2 hc
    have hlt':i<n2:=by subst hA;simp only [real,decide_eq_true_eq,Int.ofNat_eq_natCast] at hlt;omega
    have hq:¬ (TkP j opn (g2 i) (g3 i)):=by
      subst hA
      have hb1:b1=true↔SnapOkP j (g3 i):=hb1
      have hb2:b2=true↔EmptyP (g3 i):=hb2
      rw [tk_of (t:=g2 i) (opn:=opn) hb1 hb2]
      have e:g2 (real.nat (Int.ofNat i))=g2 i:=rfl
      rw [e] at hc
      generalize g2 i=t at hc ⊢
      cases t<;>cases opn<;>cases b1<;>cases b2<;>simp [real] at hc ⊢
    refine congrArg (λb=>XA.one (.c (.d (eB b)))) ?_
    cases b with
    | false=>rfl
    | true=>
      exfalso
      exact hq ((hb.1 rfl).2.2.2.2.2.2.2.2 i hlt')
  · rename_i hlt b1 hb1 b2 hb2 hc
    have hlt':i<n2:=by subst hA;simp only [real,decide_eq_true_eq,Int.ofNat_eq_natCast] at hlt;omega
    have hq:TkP j opn (g2 i) (g3 i):=by
      subst hA
      have hb1:b1=true↔SnapOkP j (g3 i):=hb1
      have hb2:b2=true↔EmptyP (g3 i):=hb2
      rw [tk_of (t:=g2 i) (opn:=opn) hb1 hb2]
      have e:g2 (real.nat (Int.ofNat i))=g2 i:=rfl
      rw [e] at hc
      generalize g2 i=t at hc ⊢
      cases t<;>cases opn<;>cases b1<;>cases b2<;>simp [real] at hc ⊢
    refine ⟨⟨i+1,by omega,λk hk' => ?_⟩,by simp only;omega,c7 ?_ ?_ ?_⟩
    · by_cases e:k=i
      · rw [e];exact hq
      · exact hk k (by omega)
    · cbv
      subst hA
      repeat' first|apply And.intro|exact True.intro|exact congrArg (λx=>DV.v (.int .i64 x)) (o0 hlt' hn2)|rfl | (intro k hk;exact t7 rfl _ _ _ _ k hk)
    · cbv;try (subst hA;repeat' first|apply And.intro|exact True.intro|rfl)
    · cbv
  rename_i hge
  have hall:∀ k,k<n2->TkP j opn (g2 k) (g3 k):=λk hk'=>hk k (by subst hA;simp only [real,decide_eq_false_iff_not,Int.ofNat_eq_natCast] at hge;omega)
  clear hk hi hge
  exact congrArg (λb=>XA.one (.c (.d (eB b)))) (hb.2 ⟨hpre.1,hpre.2.1,hpre.2.2.1,hpre.2.2.2.1,hpre.2.2.2.2.1,hpre.2.2.2.2.2.1,hpre.2.2.2.2.2.2,hall1,hall⟩).symm
def st_sCk0 (j:JobT) (cn:Int) (opn:Bool) (n1:Nat) (g1:Nat->Int) (hn1:n1<=maxLen) (n2:Nat) (g2:Nat->Bool) (hn2:n2<=maxLen) (n3:Nat) (g3:Nat->SnapT) (hn3:n3<=maxLen) (safe:SafeT) (i:Nat):St:=⟨[(5,.c (.d (eI i))),(2,.c (.bp 128 1 0)),(3,.c (.bp 192 1 0))],[(128,1,.box ((u7 j).map .d)),(192,1,.box ((eCkp ⟨cn,opn,⟨n1,g1,hn1⟩,⟨n2,g2,hn2⟩,⟨n3,g3,hn3⟩,safe⟩).map .d))]⟩
def st_sCk1 (j:JobT) (cn:Int) (opn:Bool) (n1:Nat) (g1:Nat->Int) (hn1:n1<=maxLen) (n2:Nat) (g2:Nat->Bool) (hn2:n2<=maxLen) (n3:Nat) (g3:Nat->SnapT) (hn3:n3<=maxLen) (safe:SafeT) (i:Nat):St:=⟨[(6,.c (.d (eI i))),(2,.c (.bp 128 1 0)),(3,.c (.bp 192 1 0))],[(128,1,.box ((u7 j).map .d)),(192,1,.box ((eCkp ⟨cn,opn,⟨n1,g1,hn1⟩,⟨n2,g2,hn2⟩,⟨n3,g3,hn3⟩,safe⟩).map .d))]⟩
open Classical in
set_option maxRecDepth 100000 in
theorem c_sCkpOk (j:JobT) (c:CkpT) (hbd:bdCkp c):∃ b,(b=true↔CkpOkP j c)/\d7 Tryz.prog 9 [xd (u7 j),xd (eCkp c)] ⟨.one (.c (.d (eB b))),[none,none]⟩:=by
  obtain ⟨b,hb⟩:∃ b:Bool,(b=true↔CkpOkP j c):=⟨decide (CkpOkP j c),by rw [decide_eq_true_eq]⟩
  refine ⟨b,hb,?_⟩
  obtain ⟨cn,opn,⟨n1,g1,hn1⟩,⟨n2,g2,hn2⟩,⟨n3,g3,hn3⟩,safe⟩:=c
  refine d5 (H:=[]) (EX:=EXA) l6 e8 Tryz.func9 rfl (by kernel_rfl) (by decide) ?_
  generalize hA:real=A
  generalize hM:d4 Tryz.prog=M
  cbv
  repeat' first|apply And.intro|exact True.intro|with_reducible rfl|exact b7 hA rfl|apply c8 hA<;>intro _|exact c6 hA id | (subst hA;exact λh=>h) | (refine c5 hA ?_;decide +kernel) | (refine d6 hA hM (c_sJobOkP j) (λ_ _ => ?_);cbv) | (refine d6 hA hM (c_l1In _ _ _) (λ_ _ => ?_);cbv) | (refine d6 hA hM (c_l9Safe j safe) (λ_ _ => ?_);cbv)|fail
  · rename_i b1 hb1 b3 hb3 b2 hb2 hbad
    subst hA;subst hb3
    simp only [real,u5,v4,v7,w4,beqB,decide_eq_true_eq,decide_eq_false_iff_not,beqI,bneI,v6,w3,ne_eq,Classical.not_not,Bool.and_eq_true,Bool.or_eq_true,Bool.not_eq_true',Bool.not_eq_false',Bool.and_eq_false_iff,Bool.or_eq_false_iff,Bool.false_eq_true,and_false,false_and,or_false,false_or,and_true,true_and,not_true_eq_false,not_false_eq_true,true_iff,false_iff,Int.ofNat_eq_natCast,Int.toNat_natCast] at hbad
    have hbad:((((((b1=false\/¬ (safe.n<=cn/\cn<=900))\/(opn=true/\cn=safe.n))\/¬ (n1:Int)=j.srcs)\/¬ (n2:Int)=j.tsks)\/¬ (n3:Int)=j.tsks)\/b2=false):=hbad
    refine congrArg (λb=>XA.one (.c (.d (eB b)))) ?_
    cases b with
    | false=>rfl
    | true=>
      exfalso
      have h:=hb.1 rfl
      rcases hbad with (((((h1|h1)|h1)|h1)|h1)|h1)|h1
      · have:=hb1.2 h.1
        rw [h1] at this;cases this
      · exact h1 h.2.2.1
      · exact h.2.2.2.1 h1
      · exact h1 h.2.2.2.2.1
      · exact h1 h.2.2.2.2.2.1
      · exact h1 h.2.2.2.2.2.2.1
      · have:=hb2.2 h.2.1
        rw [h1] at this;cases this
  rename_i b1 hb1 b3 hb3 b2 hb2 hgood
  have hpre:t9 j/\SafeOkP j safe/\(safe.n<=cn/\cn<=900)/\¬ (opn=true/\cn=safe.n)/\(n1:Int)=j.srcs/\(n2:Int)=j.tsks/\(n3:Int)=j.tsks:=by
    subst hA;subst hb3
    simp only [real,u5,v4,v7,w4,beqB,decide_eq_true_eq,decide_eq_false_iff_not,beqI,bneI,v6,w3,ne_eq,Classical.not_not,Bool.and_eq_true,Bool.or_eq_true,Bool.not_eq_true',Bool.not_eq_false',Bool.and_eq_false_iff,Bool.or_eq_false_iff,Bool.false_eq_true,and_false,false_and,or_false,false_or,and_true,true_and,not_true_eq_false,not_false_eq_true,true_iff,false_iff,Int.ofNat_eq_natCast,Int.toNat_natCast] at hgood
    have hgood:((((((b1=true/\(safe.n<=cn/\cn<=900))/\(opn=false\/¬ cn=safe.n))/\(n1:Int)=j.srcs)/\(n2:Int)=j.tsks)/\(n3:Int)=j.tsks)/\b2=true):=hgood
    obtain ⟨⟨⟨⟨⟨⟨g1',g2'⟩,g3'⟩,g4'⟩,g5'⟩,g6'⟩,g7'⟩:=hgood
    exact ⟨hb1.1 g1',hb2.1 g7',g2',(λh=>by rcases g3' with q|q;rw [h.1] at q;cases q;exact q h.2),g4',g5',g6'⟩
  clear hgood
  have htq:n2=n3:=by
    have e1:=hpre.2.2.2.2.2.1
    rw [<- hpre.2.2.2.2.2.2] at e1
    exact Int.ofNat.inj e1
  refine i7 hA (α := { i:Nat // i<=n1/\∀ k,k<i->SrcP opn (g1 k) }) (λx=>st_sCk0 j cn opn n1 g1 hn1 n2 g2 hn2 n3 g3 hn3 safe x.1) (λx=>n1-x.1) ⟨0,Nat.zero_le _,λk h=>absurd h (Nat.not_lt_zero k)⟩ ?_ ?_
  · refine c7 ?_ ?_ ?_
    · cbv;try (subst hA;repeat' first|apply And.intro|exact True.intro|rfl)
    · cbv;try (subst hA;repeat' first|apply And.intro|exact True.intro|rfl)
    · cbv
  rintro ⟨i,hi,hk⟩
  cbv
  repeat' first|apply And.intro|exact True.intro|with_reducible rfl|exact b7 hA rfl|apply c8 hA<;>intro _|exact c6 hA id | (subst hA;exact λh=>h) | (refine c5 hA ?_;decide +kernel) | (refine d6 hA hM (c_l1In _ _ _) (λ_ _ => ?_);cbv) | (refine d8 hA λ_ => ?_;subst hA;simp only [real,Bool.and_eq_true,Bool.not_eq_true',Bool.not_eq_false',decide_eq_true_eq,Int.ofNat_eq_natCast,IntKind.wrap_i64] at *;omega)|fail
  · rename_i hlt bq hbq hc
    have hlt':i<n1:=by subst hA;simp only [real,decide_eq_true_eq,Int.ofNat_eq_natCast] at hlt;omega
    have hq:¬ (SrcP opn (g1 i)):=by
      subst hA;subst hbq
      have e:g1 (real.nat (Int.ofNat i))=g1 i:=rfl
      rw [e] at hc
      unfold SrcP
      generalize g1 i=x at hc ⊢
      cases opn<;>simp [real,u5,v4] at hc ⊢ <;> omega
    refine congrArg (λb=>XA.one (.c (.d (eB b)))) ?_
    cases b with
    | false=>rfl
    | true=>
      exfalso
      exact hq ((hb.1 rfl).2.2.2.2.2.2.2.1 i hlt')
  · rename_i hlt bq hbq hc
    have hlt':i<n1:=by subst hA;simp only [real,decide_eq_true_eq,Int.ofNat_eq_natCast] at hlt;omega
    have hq:SrcP opn (g1 i):=by
      subst hA;subst hbq
      have e:g1 (real.nat (Int.ofNat i))=g1 i:=rfl
      rw [e] at hc
      unfold SrcP
      generalize g1 i=x at hc ⊢
      cases opn<;>simp [real,u5,v4] at hc ⊢ <;> omega
    refine ⟨⟨i+1,by omega,λk hk' => ?_⟩,by simp only;omega,c7 ?_ ?_ ?_⟩
    · by_cases e:k=i
      · rw [e];exact hq
      · exact hk k (by omega)
    · cbv
      subst hA
      repeat' first|apply And.intro|exact True.intro|exact congrArg (λx=>DV.v (.int .i64 x)) (o0 hlt' hn1)|rfl | (intro k hk;exact t7 rfl _ _ _ _ k hk)
    · cbv;try (subst hA;repeat' first|apply And.intro|exact True.intro|rfl)
    · cbv
  rename_i hge
  have hall:∀ k,k<n1->SrcP opn (g1 k):=λk hk'=>hk k (by subst hA;simp only [real,decide_eq_false_iff_not,Int.ofNat_eq_natCast] at hge;omega)
  clear hk hi hge
  have hall1:=hall
  clear hall
  refine i7 hA (α := { i:Nat // i<=n2/\∀ k,k<i->TkP j opn (g2 k) (g3 k) }) (λx=>st_sCk1 j cn opn n1 g1 hn1 n2 g2 hn2 n3 g3 hn3 safe x.1) (λx=>n2-x.1) ⟨0,Nat.zero_le _,λk h=>absurd h (Nat.not_lt_zero k)⟩ ?_ ?_
  · refine c7 ?_ ?_ ?_
    · cbv;try (subst hA;repeat' first|apply And.intro|exact True.intro|rfl)
    · cbv;try (subst hA;repeat' first|apply And.intro|exact True.intro|rfl)
    · cbv
  rintro ⟨i,hi,hk⟩
  cbv
  repeat' first|apply And.intro|exact True.intro|with_reducible rfl|exact b7 hA rfl|apply c8 hA<;>intro _|exact c6 hA id | (subst hA;exact λh=>h) | (refine c5 hA ?_;decide +kernel) | (refine d6 hA hM (c_l9Snap j (g3 (A.nat (Int.ofNat i)))) (λ_ _ => ?_);cbv) | (refine d8 hA λ_ => ?_;subst hA;simp only [real,Bool.and_eq_true,Bool.not_eq_true',Bool.not_eq_false',decide_eq_true_eq,Int.ofNat_eq_natCast,IntKind.wrap_i64] at *;omega)|fail
  · rename_i hlt b1 hb1 hc
    have hlt':i<n2:=by subst hA;simp only [real,decide_eq_true_eq,Int.ofNat_eq_natCast] at hlt;omega
    have hq:¬ (TkP j opn (g2 i) (g3 i)):=by
      subst hA
      have hb1:b1=true↔SnapOkP j (g3 i):=hb1
      have hbd3:(g3 i).op.rows.n<=1048576/\(g3 i).marks.n<=1048576:=hbd.2.2.2.1 i (show i<n3 by omega)
      obtain ⟨b2,hb2⟩:∃ b:Bool,(b=true↔EmptyP (g3 i)):=⟨decide (EmptyP (g3 i)),by rw [decide_eq_true_eq]⟩
      have hE:real.bite (real.cmp .neq (g3 i).op.mark 0) true (real.cmp .gtr (real.ar .add .i64 (real.int (g3 i).op.rows.n) (real.int (g3 i).marks.n)) 0) = !b2:=by
        have e:IntKind.i64.wrap (((g3 i).op.rows.n:Int)+((g3 i).marks.n:Int))=((g3 i).op.rows.n:Int)+((g3 i).marks.n:Int):=IntWalk.i64_in _ (by omega)
        show (bif (g3 i).op.mark != 0 then true else decide (IntKind.i64.wrap (((g3 i).op.rows.n:Int)+((g3 i).marks.n:Int))>0)) = !b2
        rw [e,v4]
        unfold EmptyP at hb2
        rw [Bool.eq_iff_iff]
        simp only [Bool.or_eq_true,bneI,decide_eq_true_eq,Bool.not_eq_true']
        rw [<- Bool.not_eq_true,hb2]
        omega
      have hc:real.bite (real.bite (g2 i) (real.bite (real.bnot opn) true (real.bnot b1)) false) true (real.bite (real.bnot (g2 i)) (real.bite (real.cmp .neq (g3 i).op.mark 0) true (real.cmp .gtr (real.ar .add .i64 (real.int (g3 i).op.rows.n) (real.int (g3 i).marks.n)) 0)) false)=true:=hc
      rw [hE] at hc
      rw [tk_of (t:=g2 i) (opn:=opn) hb1 hb2]
      generalize g2 i=t at hc ⊢
      cases t<;>cases opn<;>cases b1<;>cases b2<;>simp [real] at hc ⊢
    refine congrArg (λb=>XA.one (.c (.d (eB b)))) ?_
    cases b with
    | false=>rfl
    | true=>
      exfalso
      exact hq ((hb.1 rfl).2.2.2.2.2.2.2.2 i hlt')
  · rename_i hlt b1 hb1 hc
    have hlt':i<n2:=by subst hA;simp only [real,decide_eq_true_eq,Int.ofNat_eq_natCast] at hlt;omega
    have hq:TkP j opn (g2 i) (g3 i):=by
      subst hA
      have hb1:b1=true↔SnapOkP j (g3 i):=hb1
      have hbd3:(g3 i).op.rows.n<=1048576/\(g3 i).marks.n<=1048576:=hbd.2.2.2.1 i (show i<n3 by omega)
      obtain ⟨b2,hb2⟩:∃ b:Bool,(b=true↔EmptyP (g3 i)):=⟨decide (EmptyP (g3 i)),by rw [decide_eq_true_eq]⟩
      have hE:real.bite (real.cmp .neq (g3 i).op.mark 0) true (real.cmp .gtr (real.ar .add .i64 (real.int (g3 i).op.rows.n) (real.int (g3 i).marks.n)) 0) = !b2:=by
        have e:IntKind.i64.wrap (((g3 i).op.rows.n:Int)+((g3 i).marks.n:Int))=((g3 i).op.rows.n:Int)+((g3 i).marks.n:Int):=IntWalk.i64_in _ (by omega)
        show (bif (g3 i).op.mark != 0 then true else decide (IntKind.i64.wrap (((g3 i).op.rows.n:Int)+((g3 i).marks.n:Int))>0)) = !b2
        rw [e,v4]
        unfold EmptyP at hb2
        rw [Bool.eq_iff_iff]
        simp only [Bool.or_eq_true,bneI,decide_eq_true_eq,Bool.not_eq_true']
        rw [<- Bool.not_eq_true,hb2]
        omega
      have hc:real.bite (real.bite (g2 i) (real.bite (real.bnot opn) true (real.bnot b1)) false) true (real.bite (real.bnot (g2 i)) (real.bite (real.cmp .neq (g3 i).op.mark 0) true (real.cmp .gtr (real.ar .add .i64 (real.int (g3 i).op.rows.n) (real.int (g3 i).marks.n)) 0)) false)=false:=hc
      rw [hE] at hc
      rw [tk_of (t:=g2 i) (opn:=opn) hb1 hb2]
      generalize g2 i=t at hc ⊢
      cases t<;>cases opn<;>cases b1<;>cases b2<;>simp [real] at hc ⊢
    refine ⟨⟨i+1,by omega,λk hk' => ?_⟩,by simp only;omega,c7 ?_ ?_ ?_⟩
    · by_cases e:k=i
      · rw [e];exact hq
      · exact hk k (by omega)
    · cbv
      subst hA
      repeat' first|apply And.intro|exact True.intro|exact congrArg (λx=>DV.v (.int .i64 x)) (o0 hlt' hn2)|rfl | (intro k hk;exact t7 rfl _ _ _ _ k hk)
    · cbv;try (subst hA;repeat' first|apply And.intro|exact True.intro|rfl)
    · cbv
  rename_i hge
  have hall:∀ k,k<n2->TkP j opn (g2 k) (g3 k):=λk hk'=>hk k (by subst hA;simp only [real,decide_eq_false_iff_not,Int.ofNat_eq_natCast] at hge;omega)
  clear hk hi hge
  exact congrArg (λb=>XA.one (.c (.d (eB b)))) (hb.2 ⟨hpre.1,hpre.2.1,hpre.2.2.1,hpre.2.2.2.1,hpre.2.2.2.2.1,hpre.2.2.2.2.2.1,hpre.2.2.2.2.2.2,hall1,hall⟩).symm
def stIvint (n:Nat) (g:Nat->Int) (v:Int) (i:Nat):St:=⟨[(8,.c (.d (eI i))),(7,.c (.d (eI n))),(0,.c (.d (.sl 1 n λi=>[eI (g i)]))),(1,.c (.d (eI v)))],[]⟩
set_option maxRecDepth 100000 in
theorem c_IndexVint (n:Nat) (hn:n<=maxLen) (g:Nat->Int) (v:Int):∃ x,FirstIx n (λi=>v=g i) x/\d7 Tryz.prog 79 [.c (.d (.sl 1 n λi=>[eI (g i)])),.c (.d (eI v))] ⟨.one (.c (.d (eI x))),[none,none]⟩:=by
  obtain ⟨x,hx⟩:=firstIx_ex n λi=>v=g i
  refine ⟨x,hx,?_⟩
  refine d5 (H:=[]) (EX:=EXA) l6 e8 Tryz.func79 rfl (by kernel_rfl) (by decide) ?_
  generalize hA:real=A
  generalize hM:d4 Tryz.prog=M
  cbv
  repeat' first|apply And.intro|exact True.intro|with_reducible rfl|exact b7 hA rfl|apply c8 hA<;>intro _|exact c6 hA id | (subst hA;exact λh=>h) | (refine c5 hA ?_;decide +kernel)|fail
  refine i7 hA (α := { i:Nat // i<=n/\∀ j,j<i->¬ (v=g j) }) (λx=>stIvint n g v x.1) (λx=>n-x.1) ⟨0,Nat.zero_le _,λj h=>absurd h (Nat.not_lt_zero _)⟩ ?_ ?_
  · refine c7 ?_ ?_ ?_
    · cbv;try (subst hA;repeat' first|apply And.intro|exact True.intro|rfl)
    · cbv;try (subst hA;repeat' first|apply And.intro|exact True.intro|rfl)
    · cbv
  rintro ⟨i,hi,hb⟩
  cbv
  repeat' first|apply And.intro|exact True.intro|with_reducible rfl|exact b7 hA rfl|apply c8 hA<;>intro _|exact c6 hA id | (subst hA;exact λh=>h) | (refine c5 hA ?_;decide +kernel) | (refine d8 hA λ_ => ?_;subst hA;simp only [real,Bool.and_eq_true,Bool.not_eq_true',Bool.not_eq_false',decide_eq_true_eq,Int.ofNat_eq_natCast,IntKind.wrap_i64] at *;omega)|fail
  · rename_i hlt ht
    subst hA
    have ht:(v==g i)=true:=ht
    have ht:v=g i:=by simpa using ht
    have hlt':i<n:=by simp only [real,decide_eq_true_eq,Int.ofNat_eq_natCast] at hlt;omega
    obtain rfl:=firstIx_one hx (.at i hlt' ht hb)
    rfl
  · rename_i hlt ht
    have hlt':i<n:=by subst hA;simp only [real,decide_eq_true_eq,Int.ofNat_eq_natCast] at hlt;omega
    have ht:¬ (v=g i):=by
      subst hA
      have ht:(v==g i)=false:=ht
      simpa using ht
    refine ⟨⟨i+1,by omega,λj hj => ?_⟩,by simp only;omega,c7 ?_ ?_ ?_⟩
    · by_cases e:j=i
      · rw [e];exact ht
      · exact hb j (by omega)
    · cbv
      subst hA
      repeat' first|apply And.intro|exact True.intro|exact congrArg (λx=>DV.v (.int .i64 x)) (o0 hlt' hn)|rfl | (intro k hk;exact t7 rfl _ _ _ _ k hk)
    · cbv
    · cbv
  · rename_i hge
    have hin:i=n:=by
      subst hA
      simp only [real,decide_eq_false_iff_not,Int.ofNat_eq_natCast] at hge
      omega
    subst hin
    obtain rfl:=firstIx_one hx (.none hb)
    rfl
set_option maxRecDepth 100000 in
theorem c_ContainsVint (n:Nat) (hn:n<=maxLen) (g:Nat->Int) (v:Int):∃ b,(b=true ↔ ∃ i,i<n/\v=g i)/\d7 Tryz.prog 56 [.c (.d (.sl 1 n λi=>[eI (g i)])),.c (.d (eI v))] ⟨.one (.c (.d (eB b))),[none,none]⟩:=by
  obtain ⟨x,hx,hm⟩:=c_IndexVint n hn g v
  obtain ⟨b,hb⟩:∃ b,b=decide (0<=x):=⟨_,rfl⟩
  have hxx:=firstIx_neg hx
  refine ⟨b,by rw [hb,decide_eq_true_eq];exact hxx.1,?_⟩
  refine d5 (H:=[]) (EX:=EXA) l6 e8 Tryz.func56 rfl (by kernel_rfl) (by decide) ?_
  generalize hA:real=A
  generalize hM:d4 Tryz.prog=M
  cbv
  repeat' first|apply And.intro|exact True.intro|with_reducible rfl|exact b7 hA rfl|apply c8 hA<;>intro _|exact c6 hA id | (subst hA;exact λh=>h) | (refine c5 hA ?_;decide +kernel) | (refine f7 hA hM _ hm ?_;cbv)|fail
  all_goals subst hA
  all_goals refine congrArg (λb=>XA.one (.c (.d (eB b)))) (Bool.eq_iff_iff.2 ?_)
  all_goals subst_vars
  all_goals try simp only [real,u5,v4,v7,w4,decide_eq_true_eq,decide_eq_false_iff_not,beq_iff_eq,bne_iff_ne,beq_eq_false_iff_ne,bne_eq_false_iff_eq,ne_eq,Bool.and_eq_true,Bool.or_eq_true,Bool.not_eq_true',Bool.not_eq_false',Bool.and_eq_false_iff,Bool.or_eq_false_iff,Bool.false_eq_true,and_false,false_and,or_false,false_or,and_true,true_and,not_true_eq_false,not_false_eq_true,true_iff,false_iff,IntKind.wrap_i64] at *
  all_goals first
    | omega
    | skip
def stIvbool (n:Nat) (g:Nat->Bool) (v:Bool) (i:Nat):St:=⟨[(8,.c (.d (eI i))),(7,.c (.d (eI n))),(0,.c (.d (.sl 1 n λi=>[eB (g i)]))),(1,.c (.d (eB v)))],[]⟩
set_option maxRecDepth 100000 in
theorem c_IndexVbool (n:Nat) (hn:n<=maxLen) (g:Nat->Bool) (v:Bool):∃ x,FirstIx n (λi=>v=g i) x/\d7 Tryz.prog 80 [.c (.d (.sl 1 n λi=>[eB (g i)])),.c (.d (eB v))] ⟨.one (.c (.d (eI x))),[none,none]⟩:=by
  obtain ⟨x,hx⟩:=firstIx_ex n λi=>v=g i
  refine ⟨x,hx,?_⟩
  refine d5 (H:=[]) (EX:=EXA) l6 e8 Tryz.func80 rfl (by kernel_rfl) (by decide) ?_
  generalize hA:real=A
  generalize hM:d4 Tryz.prog=M
  cbv
  repeat' first|apply And.intro|exact True.intro|with_reducible rfl|exact b7 hA rfl|apply c8 hA<;>intro _|exact c6 hA id | (subst hA;exact λh=>h) | (refine c5 hA ?_;decide +kernel)|fail
  refine i7 hA (α := { i:Nat // i<=n/\∀ j,j<i->¬ (v=g j) }) (λx=>stIvbool n g v x.1) (λx=>n-x.1) ⟨0,Nat.zero_le _,λj h=>absurd h (Nat.not_lt_zero _)⟩ ?_ ?_
  · refine c7 ?_ ?_ ?_
    · cbv;try (subst hA;repeat' first|apply And.intro|exact True.intro|rfl)
    · cbv;try (subst hA;repeat' first|apply And.intro|exact True.intro|rfl)
    · cbv
  rintro ⟨i,hi,hb⟩
  cbv
  repeat' first|apply And.intro|exact True.intro|with_reducible rfl|exact b7 hA rfl|apply c8 hA<;>intro _|exact c6 hA id | (subst hA;exact λh=>h) | (refine c5 hA ?_;decide +kernel) | (refine d8 hA λ_ => ?_;subst hA;simp only [real,Bool.and_eq_true,Bool.not_eq_true',Bool.not_eq_false',decide_eq_true_eq,Int.ofNat_eq_natCast,IntKind.wrap_i64] at *;omega)|fail
  · rename_i hlt ht
    subst hA
    have ht:(v==g i)=true:=ht
    have ht:v=g i:=by simpa using ht
    have hlt':i<n:=by simp only [real,decide_eq_true_eq,Int.ofNat_eq_natCast] at hlt;omega
    obtain rfl:=firstIx_one hx (.at i hlt' ht hb)
    rfl
  · rename_i hlt ht
    have hlt':i<n:=by subst hA;simp only [real,decide_eq_true_eq,Int.ofNat_eq_natCast] at hlt;omega
    have ht:¬ (v=g i):=by
      subst hA
      have ht:(v==g i)=false:=ht
      simpa using ht
    refine ⟨⟨i+1,by omega,λj hj => ?_⟩,by simp only;omega,c7 ?_ ?_ ?_⟩
    · by_cases e:j=i
      · rw [e];exact ht
      · exact hb j (by omega)
    · cbv
      subst hA
      repeat' first|apply And.intro|exact True.intro|exact congrArg (λx=>DV.v (.int .i64 x)) (o0 hlt' hn)|rfl | (intro k hk;exact t7 rfl _ _ _ _ k hk)
    · cbv
    · cbv
  · rename_i hge
    have hin:i=n:=by
      subst hA
      simp only [real,decide_eq_false_iff_not,Int.ofNat_eq_natCast] at hge
      omega
    subst hin
    obtain rfl:=firstIx_one hx (.none hb)
    rfl
set_option maxRecDepth 100000 in
theorem c_ContainsVbool (n:Nat) (hn:n<=maxLen) (g:Nat->Bool) (v:Bool):∃ b,(b=true ↔ ∃ i,i<n/\v=g i)/\d7 Tryz.prog 57 [.c (.d (.sl 1 n λi=>[eB (g i)])),.c (.d (eB v))] ⟨.one (.c (.d (eB b))),[none,none]⟩:=by
  obtain ⟨x,hx,hm⟩:=c_IndexVbool n hn g v
  obtain ⟨b,hb⟩:∃ b,b=decide (0<=x):=⟨_,rfl⟩
  have hxx:=firstIx_neg hx
  refine ⟨b,by rw [hb,decide_eq_true_eq];exact hxx.1,?_⟩
  refine d5 (H:=[]) (EX:=EXA) l6 e8 Tryz.func57 rfl (by kernel_rfl) (by decide) ?_
  generalize hA:real=A
  generalize hM:d4 Tryz.prog=M
  cbv
  repeat' first|apply And.intro|exact True.intro|with_reducible rfl|exact b7 hA rfl|apply c8 hA<;>intro _|exact c6 hA id | (subst hA;exact λh=>h) | (refine c5 hA ?_;decide +kernel) | (refine f7 hA hM _ hm ?_;cbv)|fail
  all_goals subst hA
  all_goals refine congrArg (λb=>XA.one (.c (.d (eB b)))) (Bool.eq_iff_iff.2 ?_)
  all_goals subst_vars
  all_goals try simp only [real,u5,v4,v7,w4,decide_eq_true_eq,decide_eq_false_iff_not,beq_iff_eq,bne_iff_ne,beq_eq_false_iff_ne,bne_eq_false_iff_eq,ne_eq,Bool.and_eq_true,Bool.or_eq_true,Bool.not_eq_true',Bool.not_eq_false',Bool.and_eq_false_iff,Bool.or_eq_false_iff,Bool.false_eq_true,and_false,false_and,or_false,false_or,and_true,true_and,not_true_eq_false,not_false_eq_true,true_iff,false_iff,IntKind.wrap_i64] at *
  all_goals first
    | omega
    | skip
open Classical in
set_option maxRecDepth 100000 in
theorem c_readyD (c:CkpT):∃ b,(b=true↔ReadyP c)/\d7 Tryz.prog 34 [.c (.d (.p (eCkp c)))] ⟨.one (.c (.d (eB b))),[none]⟩:=by
  obtain ⟨b,hb⟩:∃ b:Bool,(b=true↔ReadyP c):=⟨decide (ReadyP c),by rw [decide_eq_true_eq]⟩
  refine ⟨b,hb,?_⟩
  refine d5 (H:=[]) (EX:=EXA) l6 e8 Tryz.func34 rfl (by kernel_rfl) (by decide) ?_
  generalize hA:real=A
  generalize hM:d4 Tryz.prog=M
  cbv
  repeat' first|apply And.intro|exact True.intro|with_reducible rfl|exact b7 hA rfl|apply c8 hA<;>intro _|exact c6 hA id | (subst hA;exact λh=>h) | (refine c5 hA ?_;decide +kernel) | (refine d6 hA hM (c_ContainsVint c.src.n c.src.hn c.src.g (-1)) (λ_ _ => ?_);cbv) | (refine d6 hA hM (c_ContainsVbool c.tsk.n c.tsk.hn c.tsk.g false) (λ_ _ => ?_);cbv)|fail
  rename_i b1 hb1 b2 hb2
  refine congrArg (λb=>XA.one (.c (.d (eB b)))) (Bool.eq_iff_iff.2 ?_)
  subst hA
  rw [hb]
  simp only [real,u5,v4,v7,w4,beqB,decide_eq_true_eq,decide_eq_false_iff_not,beqI,bneI,v6,w3,ne_eq,Bool.and_eq_true,Bool.or_eq_true,Bool.not_eq_true',Bool.not_eq_false',Bool.and_eq_false_iff,Bool.or_eq_false_iff,Bool.false_eq_true,and_false,false_and,or_false,false_or,and_true,true_and,not_true_eq_false,not_false_eq_true,true_iff,false_iff,Int.ofNat_eq_natCast,Int.toNat_natCast]
  unfold ReadyP
  rw [<- Bool.not_eq_true b1,hb1,<- Bool.not_eq_true b2,hb2]
  constructor
  · rintro ⟨⟨h1,h2⟩,h3⟩
    refine ⟨h1,λi hi e=>h2 ⟨i,hi,e.symm⟩,λi hi => ?_⟩
    cases e:c.tsk.g i with
    | true=>rfl
    | false=>exact absurd ⟨i,hi,e.symm⟩ h3
  · rintro ⟨h1,h2,h3⟩
    exact ⟨⟨h1,λ⟨i,hi,e⟩=>h2 i hi e.symm⟩,λ⟨i,hi,e⟩=>by rw [h3 i hi] at e;cases e⟩
def st_rd0 (cn:Int) (opn:Bool) (n1:Nat) (g1:Nat->Int) (hn1:n1<=maxLen) (n2:Nat) (g2:Nat->Bool) (hn2:n2<=maxLen) (n3:Nat) (g3:Nat->SnapT) (hn3:n3<=maxLen) (safe:SafeT) (i:Nat):St:=⟨[(3,.c (.d (eI i))),(1,.c (.bp 64 1 0))],[(64,1,.box ((eCkp ⟨cn,opn,⟨n1,g1,hn1⟩,⟨n2,g2,hn2⟩,⟨n3,g3,hn3⟩,safe⟩).map .d))]⟩
def st_rd1 (cn:Int) (opn:Bool) (n1:Nat) (g1:Nat->Int) (hn1:n1<=maxLen) (n2:Nat) (g2:Nat->Bool) (hn2:n2<=maxLen) (n3:Nat) (g3:Nat->SnapT) (hn3:n3<=maxLen) (safe:SafeT) (i:Nat):St:=⟨[(4,.c (.d (eI i))),(1,.c (.bp 64 1 0))],[(64,1,.box ((eCkp ⟨cn,opn,⟨n1,g1,hn1⟩,⟨n2,g2,hn2⟩,⟨n3,g3,hn3⟩,safe⟩).map .d))]⟩
open Classical in
set_option maxRecDepth 100000 in
theorem c_l9Ready (c:CkpT) (hok:∀ i,i<c.src.n -> -1<=c.src.g i):∃ b,(b=true↔ReadyP c)/\d7 Tryz.prog 134 [xd (eCkp c)] ⟨.one (.c (.d (eB b))),[none]⟩:=by
  obtain ⟨b,hb⟩:∃ b:Bool,(b=true↔ReadyP c):=⟨decide (ReadyP c),by rw [decide_eq_true_eq]⟩
  refine ⟨b,hb,?_⟩
  obtain ⟨cn,opn,⟨n1,g1,hn1⟩,⟨n2,g2,hn2⟩,⟨n3,g3,hn3⟩,safe⟩:=c
  have hok:∀ i,i<n1 -> -1<=g1 i:=hok
  refine d5 (H:=[]) (EX:=EXA) l6 e8 Tryz.func134 rfl (by kernel_rfl) (by decide) ?_
  generalize hA:real=A
  generalize hM:d4 Tryz.prog=M
  cbv
  repeat' first|apply And.intro|exact True.intro|with_reducible rfl|exact b7 hA rfl|apply c8 hA<;>intro _|exact c6 hA id | (subst hA;exact λh=>h) | (refine c5 hA ?_;decide +kernel)|fail
  refine i7 hA (α := { i:Nat // i<=n1/\∀ k,k<i->g1 k ≠ -1 }) (λx=>st_rd0 cn opn n1 g1 hn1 n2 g2 hn2 n3 g3 hn3 safe x.1) (λx=>n1-x.1) ⟨0,Nat.zero_le _,λk h=>absurd h (Nat.not_lt_zero k)⟩ ?_ ?_
  · refine c7 ?_ ?_ ?_
    · cbv;try (subst hA;repeat' first|apply And.intro|exact True.intro|rfl)
    · cbv;try (subst hA;repeat' first|apply And.intro|exact True.intro|rfl)
    · cbv
  rintro ⟨i,hi,hk⟩
  cbv
  repeat' first|apply And.intro|exact True.intro|with_reducible rfl|exact b7 hA rfl|apply c8 hA<;>intro _|exact c6 hA id | (subst hA;exact λh=>h) | (refine c5 hA ?_;decide +kernel) | (refine d8 hA λ_ => ?_;subst hA;simp only [real,Bool.and_eq_true,Bool.not_eq_true',Bool.not_eq_false',decide_eq_true_eq,Int.ofNat_eq_natCast,IntKind.wrap_i64] at *;omega)|fail
  · rename_i hlt hc
    have hlt':i<n1:=by subst hA;simp only [real,decide_eq_true_eq,Int.ofNat_eq_natCast] at hlt;omega
    have hq:¬ (g1 i ≠ -1):=by
      subst hA
      have hc:g1 i<0:=of_decide_eq_true hc
      have:=hok i hlt'
      omega
    refine congrArg (λb=>XA.one (.c (.d (eB b)))) ?_
    cases b with
    | false=>rfl
    | true=>
      exfalso
      exact hq ((hb.1 rfl).2.1 i hlt')
  · rename_i hlt hc
    have hlt':i<n1:=by subst hA;simp only [real,decide_eq_true_eq,Int.ofNat_eq_natCast] at hlt;omega
    have hq:g1 i ≠ -1:=by
      subst hA
      have hc:¬ g1 i<0:=of_decide_eq_false hc
      omega
    refine ⟨⟨i+1,by omega,λk hk' => ?_⟩,by simp only;omega,c7 ?_ ?_ ?_⟩
    · by_cases e:k=i
      · rw [e];exact hq
      · exact hk k (by omega)
    · cbv
      subst hA
      repeat' first|apply And.intro|exact True.intro|exact congrArg (λx=>DV.v (.int .i64 x)) (o0 hlt' hn1)|rfl | (intro k hk;exact t7 rfl _ _ _ _ k hk)
    · cbv;try (subst hA;repeat' first|apply And.intro|exact True.intro|rfl)
    · cbv
  rename_i hge
  have hall:∀ k,k<n1->g1 k ≠ -1:=λk hk'=>hk k (by subst hA;simp only [real,decide_eq_false_iff_not,Int.ofNat_eq_natCast] at hge;omega)
  clear hk hi hge
  have hall1:=hall
  clear hall
  refine i7 hA (α := { i:Nat // i<=n2/\∀ k,k<i->g2 k=true }) (λx=>st_rd1 cn opn n1 g1 hn1 n2 g2 hn2 n3 g3 hn3 safe x.1) (λx=>n2-x.1) ⟨0,Nat.zero_le _,λk h=>absurd h (Nat.not_lt_zero k)⟩ ?_ ?_
  · refine c7 ?_ ?_ ?_
    · cbv;try (subst hA;repeat' first|apply And.intro|exact True.intro|rfl)
    · cbv;try (subst hA;repeat' first|apply And.intro|exact True.intro|rfl)
    · cbv
  rintro ⟨i,hi,hk⟩
  cbv
  repeat' first|apply And.intro|exact True.intro|with_reducible rfl|exact b7 hA rfl|apply c8 hA<;>intro _|exact c6 hA id | (subst hA;exact λh=>h) | (refine c5 hA ?_;decide +kernel) | (refine d8 hA λ_ => ?_;subst hA;simp only [real,Bool.and_eq_true,Bool.not_eq_true',Bool.not_eq_false',decide_eq_true_eq,Int.ofNat_eq_natCast,IntKind.wrap_i64] at *;omega)|fail
  · rename_i hlt hc
    have hlt':i<n2:=by subst hA;simp only [real,decide_eq_true_eq,Int.ofNat_eq_natCast] at hlt;omega
    have hq:¬ (g2 i=true):=by
      subst hA
      have hc:(!(g2 i))=true:=hc
      simpa using hc
    refine congrArg (λb=>XA.one (.c (.d (eB b)))) ?_
    cases b with
    | false=>rfl
    | true=>
      exfalso
      exact hq ((hb.1 rfl).2.2 i hlt')
  · rename_i hlt hc
    have hlt':i<n2:=by subst hA;simp only [real,decide_eq_true_eq,Int.ofNat_eq_natCast] at hlt;omega
    have hq:g2 i=true:=by
      subst hA
      have hc:(!(g2 i))=false:=hc
      simpa using hc
    refine ⟨⟨i+1,by omega,λk hk' => ?_⟩,by simp only;omega,c7 ?_ ?_ ?_⟩
    · by_cases e:k=i
      · rw [e];exact hq
      · exact hk k (by omega)
    · cbv
      subst hA
      repeat' first|apply And.intro|exact True.intro|exact congrArg (λx=>DV.v (.int .i64 x)) (o0 hlt' hn2)|rfl | (intro k hk;exact t7 rfl _ _ _ _ k hk)
    · cbv;try (subst hA;repeat' first|apply And.intro|exact True.intro|rfl)
    · cbv
  rename_i hge
  have hall:∀ k,k<n2->g2 k=true:=λk hk'=>hk k (by subst hA;simp only [real,decide_eq_false_iff_not,Int.ofNat_eq_natCast] at hge;omega)
  clear hk hi hge
  refine congrArg (λb=>XA.one (.c (.d (eB b)))) (Bool.eq_iff_iff.2 ?_)
  rw [hb]
  exact ⟨λh=>⟨h,hall1,hall⟩,λh=>h.1⟩
end Go.Rk
namespace Go.Rk
set_option linter.unusedSimpArgs false
set_option linter.unusedVariables false
def zWin:WinT:=⟨0,0⟩
def zLat:LatT:=⟨⟨0,0,0,0,0⟩,⟨0,0⟩⟩
def slideF (size step t:Int):Nat->Int->List WinT
  | 0,_=>[]
  | k+1,f=>if f<=t then (if t<f+size then [⟨f,f+size⟩] else [])++slideF size step t k (f+step) else []
theorem slideF_len (size step t:Int):∀ k f,(slideF size step t k f).length<=k
  | 0,_=>Nat.le_refl _
  | k+1,f=>by
    have:=slideF_len size step t k (f+step)
    unfold slideF
    split
    · rw [List.length_append]
      split<;>simp<;>omega
    · simp
theorem slideF_st {size step t:Int} (hs:1<=step):∀ k f,(t+1-f).toNat<=k->slideF size step t (k+1) f=slideF size step t k f
  | 0,f,h=>by
    unfold slideF
    rw [if_neg (by omega)]
  | k+1,f,h=>by
    have ih:=slideF_st (size:=size) (t:=t) hs k (f+step)
    unfold slideF
    by_cases hf:f<=t
    · rw [if_pos hf,if_pos hf,ih (by omega)]
    · rw [if_neg hf,if_neg hf]
theorem slideF_go {size step t f:Int} (hs:1<=step) (h0:0<=f) (h1:t<=60) (hf:f<=t):slideF size step t 100 f=(if t<f+size then [⟨f,f+size⟩] else [])++slideF size step t 100 (f+step):=by
  have e:slideF size step t 100 (f+step)=slideF size step t 99 (f+step):=slideF_st hs 99 (f+step) (by omega)
  rw [e]
  show slideF size step t (99+1) f=_
  unfold slideF
  rw [if_pos hf]
  rfl
theorem slideF_end {size step t f:Int} (hf:¬ f<=t):slideF size step t 100 f=[]:=by
  show slideF size step t (99+1) f=_
  unfold slideF
  rw [if_neg hf]
def winFrom (j:JobT) (t:Int):Int:=if j.kind=1 then t-t.tmod j.size else if j.kind=2 then 0 else t
def winStep (j:JobT):Int:=if j.kind=1 then j.size else if j.kind=2 then j.step else 1
def x1 (j:JobT) (t:Int):List WinT:=slideF j.size (winStep j) t 100 (winFrom j t)
theorem winsL_len (j:JobT) (t:Int):(x1 j t).length<=100:=slideF_len _ _ _ _ _
theorem winsL_fixed {j:JobT} {t:Int} (hk:j.kind=1) (hs:1<=j.size) (h0:0<=t) (h1:t<=60):x1 j t=[⟨t-t.tmod j.size,t-t.tmod j.size+j.size⟩]:=by
  have a:=Int.tmod_nonneg j.size h0
  have b:=Int.tmod_lt_of_pos t (show 0<j.size by omega)
  have c:t.tmod j.size<=t:=by
    rw [Int.tmod_eq_emod_of_nonneg h0]
    have:=Int.emod_add_mul_ediv t j.size
    have:=Int.mul_nonneg (show 0<=j.size by omega) (Int.ediv_nonneg h0 (show 0<=j.size by omega))
    omega
  unfold x1 winStep winFrom
  rw [if_pos hk,if_pos hk,slideF_go hs (by omega) h1 (by omega),if_pos (by omega),slideF_end (by omega)]
  rfl
theorem winsL_sess {j:JobT} {t:Int} (hk:j.kind=3) (hs:1<=j.size) (h0:0<=t) (h1:t<=60):x1 j t=[⟨t,t+j.size⟩]:=by
  unfold x1 winStep winFrom
  rw [if_neg (by omega),if_neg (by omega),if_neg (by omega),if_neg (by omega),slideF_go (by omega) h0 h1 (by omega),if_pos (by omega),slideF_end (by omega)]
  rfl
def RecP (x:ItmT):Prop:=x.kind=1/\ItmOkP x
theorem recP_t {x:ItmT} (h:RecP x):0<=x.t/\x.t<=60:=by
  obtain ⟨h1,h2⟩:=h
  unfold ItmOkP at h2
  omega
def mkItm (k:Int):ItmT:=⟨k,k+1,k+2,k+3,k+4⟩
def mkLat (k:Int):LatT:=⟨⟨k,k+1,k+2,k+3,k+4⟩,⟨k+5,k+6⟩⟩
def Tells {α:Type} (z : α) (e : α->List DV) (l:List α) (n:Nat) (row:Nat->List DV):Prop:=n=l.length/\∀ k,k<n->row k=e (l.getD k z)
theorem tells_snoc {α:Type} {z : α} {e : α->List DV} {l:List α} {n:Nat} {row row':Nat->List DV} {x : α} (h:Tells z e l n row)
    (h':∀ k,k<n+1->row' k=if k<n then row k else e x):Tells z e (l ++ [x]) (n+1) row':=by
  obtain ⟨rfl,h2⟩:=h
  refine ⟨by simp,λk hk => ?_⟩
  rw [h' k hk]
  by_cases hl:k<l.length
  · rw [if_pos hl,h2 k hl,List.getD_eq_getElem?_getD,List.getD_eq_getElem?_getD,List.getElem?_append_left hl]
  · have:k=l.length:=by omega
    subst this
    rw [if_neg hl]
    simp
theorem take_succ_getD {α:Type} {z : α} {l:List α} {k:Nat} (h:k<l.length):l.take (k+1)=l.take k ++ [l.getD k z]:=by
  rw [List.take_add_one,List.getElem?_eq_getElem h,List.getD_eq_getElem?_getD,List.getElem?_eq_getElem h]
  rfl
def IsRow (key:Int) (w:WinT) (r:TabT):Prop:=r.key=key/\(r.win.s=w.s/\r.win.e=w.e)
instance (key:Int) (w:WinT) (r:TabT):Decidable (IsRow key w r):=inferInstanceAs (Decidable (_/\_))
def Ahead (r q:TabT):Prop:=r.key<q.key\/(r.key=q.key/\(r.win.s<q.win.s\/(r.win.s=q.win.s/\r.win.e<q.win.e)))
instance (r q:TabT):Decidable (Ahead r q):=inferInstanceAs (Decidable (_\/_))
def Lst {α:Type} (z : α) (l:List α) (n:Nat) (g:Nat -> α):Prop:=n=l.length/\∀ k,k<n->g k=l.getD k z
theorem lst_self {α:Type} (z : α) (l:List α):Lst z l l.length (λk=>l.getD k z):=⟨rfl,λ_ _=>rfl⟩
theorem lst_tells {α:Type} {z : α} {l:List α} {n:Nat} {g:Nat -> α} (e : α->List DV) (h:Lst z l n g):Tells z e l n (λi=>e (g i)):=⟨h.1,λk hk=>congrArg e (h.2 k hk)⟩
theorem lst_take {α:Type} {z : α} {l:List α} {n:Nat} {g:Nat -> α} (h:Lst z l n g) {i:Nat} (hi:i<n):l.take (i+1)=l.take i ++ [g i]:=by
  rw [h.2 i hi]
  exact take_succ_getD (by rw [<- h.1];exact hi)
theorem lst_all {α:Type} {z : α} {l:List α} {n:Nat} {g:Nat -> α} (h:Lst z l n g):l.take n=l:=by rw [h.1,List.take_length]
theorem lst_mem {α:Type} {z : α} {l:List α} {n:Nat} {g:Nat -> α} (h:Lst z l n g) {x : α} (hx:x∈l):∃ k,k<n/\g k=x:=by
  obtain ⟨k,hk⟩:=List.mem_iff_getElem?.1 hx
  have hl:k<l.length:=(List.getElem?_eq_some_iff.1 hk).1
  refine ⟨k,by rw [h.1];exact hl,?_⟩
  rw [h.2 k (by rw [h.1];exact hl),List.getD_eq_getElem?_getD,hk]
  rfl
theorem lst_of {α:Type} (z : α) (n:Nat) (g:Nat -> α):Lst z ((List.range n).map g) n g:=by
  refine ⟨by simp,λk hk => ?_⟩
  rw [List.getD_eq_getElem?_getD,List.getElem?_map,List.getElem?_range hk]
  rfl
theorem f6 {A:Ar} (hA:real=A) {n m b:Nat} (hn:n+m<=2000000) (hb:b<=100000):A.room (A.add n m) b:=by
  subst hA
  have h1:(n+m)*b<=2000000*100000:=Nat.mul_le_mul hn hb
  exact ⟨Nat.le_trans h1 (by omega),Nat.le_trans hn (by omega)⟩
theorem l5 {A:Ar} (hA:real=A) {i n:Nat} (h:A.cmp .lss (Int.ofNat i) (A.int n)=true):i<n:=by
  subst hA
  have h:decide ((i:Int)<(n:Int))=true:=h
  rw [decide_eq_true_eq] at h
  omega
theorem ge_of {A:Ar} (hA:real=A) {i n:Nat} (h:A.cmp .lss (Int.ofNat i) (A.int n)=false):n<=i:=by
  subst hA
  have h:decide ((i:Int)<(n:Int))=false:=h
  rw [decide_eq_false_iff_not] at h
  omega
theorem inb_lt {A:Ar} (hA:real=A) {g:Bool} {i n:Nat} (h:i<n):A.inb g (Int.ofNat i) n:=by
  refine d8 hA λ_ => ?_
  have e:Int.ofNat i=(i:Int):=rfl
  rw [e]
  omega
def zAgg:AggT:=⟨0,0,0,0⟩
def aggB (a b:AggT):AggT:=if a.n=0 then b else if b.n=0 then a else ⟨w64 (a.n+b.n),w64 (a.sum+b.sum),if b.least<a.least then b.least else a.least,if a.most<b.most then b.most else a.most⟩
def agg1 (v:Int):AggT:=⟨1,v,v,v⟩
def aggAdd (a:AggT) (v:Int):AggT:=aggB a (agg1 v)
def sumI:List Int->Int
  | []=>0
  | x::l=>x+sumI l
structure AggIs (a:AggT) (L:List Int):Prop where
  n:a.n=(L.length:Int)
  sum:a.sum=sumI L
  z:L=[]->a=zAgg
  nz:L ≠ []->a.least∈L/\a.most∈L/\∀ x,x∈L->a.least<=x/\x<=a.most
abbrev Rise (l:List TabT):Prop:=l.Pairwise Ahead
def winSpan (a b:WinT):WinT:=⟨if b.s<a.s then b.s else a.s,if a.e<b.e then b.e else a.e⟩
def valsW (k:Int) (w:WinT) (P:List LatT):List Int:=(P.filter λl=>decide (l.itm.key=k/\l.win.s=w.s/\l.win.e=w.e)).map (·.itm.v)
def valsS (k:Int) (w:WinT) (P:List LatT):List Int:=(P.filter λl=>decide (l.itm.key=k/\w.s<=l.win.s/\l.win.s<w.e)).map (·.itm.v)
structure InvW (P:List LatT) (T:List TabT):Prop where
  rise:Rise T
  row:∀ r,r∈T->valsW r.key r.win P ≠ []/\AggIs r.agg (valsW r.key r.win P)
  has:∀ l,l∈P->∃ r,r∈T/\IsRow l.itm.key l.win r
def CovP (P:List LatT) (k p:Int):Prop:=∃ l,l∈P/\l.itm.key=k/\l.win.s<p/\p<l.win.e
structure SessP (P:List LatT) (r:TabT):Prop where
  lt:r.win.s<r.win.e
  fst:∃ l,l∈P/\l.itm.key=r.key/\l.win.s=r.win.s
  lst:∃ l,l∈P/\l.itm.key=r.key/\l.win.e=r.win.e
  mid:∀ p,r.win.s<p->p<r.win.e->CovP P r.key p
  low:¬ CovP P r.key r.win.s
  top:¬ CovP P r.key r.win.e
  agg:AggIs r.agg (valsS r.key r.win P)
structure InvS (P:List LatT) (T:List TabT):Prop where
  rise:Rise T
  row:∀ r,r∈T->SessP P r
  has:∀ l,l∈P->∃ r,r∈T/\r.key=l.itm.key/\r.win.s<=l.win.s/\l.win.e<=r.win.e
theorem br_t {A:Ar} (hA:real=A) {t:Bool} {p q:Prop} (h:t=true) (hp:p):A.br t p q:=by subst hA;exact ⟨λ_=>hp,λh2=>by rw [h] at h2;cases h2⟩
theorem br_f {A:Ar} (hA:real=A) {t:Bool} {p q:Prop} (h:t=false) (hq:q):A.br t p q:=by subst hA;exact ⟨λh2=>(by rw [h] at h2;cases h2),λ_=>hq⟩
abbrev eU (n:Int):DV:=.v (.int .u8 n)
def pickY (m:Nat) (b:Nat->Int) (p:Int):Int:=b (p.tmod m).toNat*131+b ((p*7+3).tmod m).toNat*1117+p*29+p.tdiv m*53
def pickX (y:Int):Int:=IntKind.i64.wrap (BitVec.ofInt 64 y ^^^ BitVec.ofInt 64 (y.tdiv 64)).toNat
def pickV (m:Nat) (b:Nat->Int) (p n:Int):Int:=if m=0 then 0 else if p<m then (b p.toNat).tmod n else (pickX (pickY m b p)).tmod n
theorem xor_nn {a b:Int} (h0:0<=a/\a<4611686018427387904) (h1:0<=b/\b<4611686018427387904):0<=((BitVec.ofInt 64 a ^^^ BitVec.ofInt 64 b).toNat:Int)/\((BitVec.ofInt 64 a ^^^ BitVec.ofInt 64 b).toNat:Int)<4611686018427387904:=by
  have e:∀ c:Int,0<=c/\c<4611686018427387904->(BitVec.ofInt 64 c).toNat<2 ^ 62:=λc hc=>by
    rw [BitVec.toNat_ofInt]
    have h64:((2 ^ 64:Nat):Int)=18446744073709551616:=by decide
    have h62:(2:Nat) ^ 62=4611686018427387904:=by decide
    rw [h64,h62]
    omega
  have h:=Nat.xor_lt_two_pow (e a h0) (e b h1)
  rw [<- BitVec.toNat_xor] at h
  have:(2:Nat) ^ 62=4611686018427387904:=by decide
  exact ⟨by omega,by omega⟩
theorem tmod_in {a n:Int} (ha:0<=a) (hn:1<=n):0<=a.tmod n/\a.tmod n<n:=⟨Int.tmod_nonneg n ha,Int.tmod_lt_of_pos a (by omega)⟩
theorem pickY_in {m:Nat} {b:Nat->Int} {p:Int} (hm:1<=m) (hb:∀ i,0<=b i/\b i<=255) (hp:0<=p/\p<=1000000):0<=pickY m b p/\pickY m b p<=1000000000:=by
  unfold pickY
  have h1:=hb (p.tmod m).toNat
  have h2:=hb ((p*7+3).tmod m).toNat
  have h3:0<=p.tdiv m:=Int.tdiv_nonneg hp.1 (by omega)
  have h4:p.tdiv m<=p:=by
    have:=Int.tdiv_le_self (a:=p) m hp.1
    exact this
  omega
theorem pickV_in {m:Nat} {b:Nat->Int} {p n:Int} (hb:∀ i,0<=b i/\b i<=255) (hp:0<=p/\p<=1000000) (hn:1<=n):0<=pickV m b p n/\pickV m b p n<n:=by
  unfold pickV
  split
  · omega
  · split
    · exact tmod_in (hb _).1 hn
    · refine tmod_in ?_ hn
      have hy:=pickY_in (m:=m) (p:=p) (by omega) hb hp
      have hd:0<=(pickY m b p).tdiv 64:=Int.tdiv_nonneg hy.1 (by decide)
      have hd2:(pickY m b p).tdiv 64<=pickY m b p:=Int.tdiv_le_self 64 hy.1
      have hx:=xor_nn (a:=pickY m b p) (b:=(pickY m b p).tdiv 64) ⟨hy.1,by omega⟩ ⟨hd,by omega⟩
      unfold pickX
      rw [IntWalk.i64_in _ (by omega)]
      exact hx.1
theorem p6 (f:Nat->List DV):real.sub 0 f=f:=sub0 rfl f
theorem lst_ex {α:Type} (z : α) (l:List α):∃ (n:Nat) (g:Nat -> α),Lst z l n g:=⟨_,_,lst_self z l⟩
def mkPane (k:Int):PaneT:=⟨k,⟨k+1,k+2⟩,k+3,k+4,⟨k+5,k+6,k+7,k+8⟩⟩
theorem lst_snoc {α:Type} {z : α} {l:List α} {n:Nat} {g:Nat -> α} {x : α} (h:Lst z l n g):Lst z (l ++ [x]) (n+1) (λq=>if q<n then g q else x):=by
  obtain ⟨rfl,h2⟩:=h
  refine ⟨by simp,λk hk => ?_⟩
  by_cases hl:k<l.length
  · simp only [if_pos hl]
    rw [h2 k hl,List.getD_eq_getElem?_getD,List.getD_eq_getElem?_getD,List.getElem?_append_left hl]
  · have:k=l.length:=by omega
    subst this
    simp
theorem m8 {A:Ar} {α:Type} (e : α->List DV) (hA:real=A) (n:Nat) (G:Nat -> α) (x : α) (z:Nat->List DV) (k:Nat) (hk:k<n+1):A.app n (λi=>e (G i)) (A.sub 0 (A.app 1 (A.rep (e x)) z)) k=e (if k<n then G k else x):=by
  subst hA
  show (if k<n then e (G k) else (if 0+(k-n)<1 then e x else z (0+(k-n)-1)))=_
  split
  · rfl
  · rw [if_pos (by omega)]
theorem f9 {A:Ar} (hA:real=A) {i n:Nat} (h:A.cmp .lss (Int.ofNat i) (Int.ofNat n)=true):i<n:=by
  subst hA
  have h:decide ((i:Int)<(n:Int))=true:=h
  rw [decide_eq_true_eq] at h
  omega
theorem ge2_of {A:Ar} (hA:real=A) {i n:Nat} (h:A.cmp .lss (Int.ofNat i) (Int.ofNat n)=false):n<=i:=by
  subst hA
  have h:decide ((i:Int)<(n:Int))=false:=h
  rw [decide_eq_false_iff_not] at h
  omega
theorem eq_of {A:Ar} (hA:real=A) {a b:Int} (h:A.cmp .eql a b=true):a=b:=by subst hA;exact of_decide_eq_true h
theorem ne_of {A:Ar} (hA:real=A) {a b:Int} (h:A.cmp .eql a b=false):¬ a=b:=by subst hA;exact of_decide_eq_false h
def dueB (m:Int) (r:RowT):Bool := !r.timely&&decide (r.win.e<=m)
def toldR (r:RowT):RowT := { r with told:=w64 (r.told+1),timely:=true,fresh:=zAgg }
def paneP (piece:Bool) (r:RowT) (kind:Int):PaneT:=⟨r.key,r.win,r.told,kind,if piece=true then r.fresh else r.all⟩
def markR (m:Int) (r:RowT):RowT:=if dueB m r=true then toldR r else r
def overB (late m:Int) (r:RowT):Bool:=decide (m>=w64 (r.win.e+late))
def keepL (late m:Int) (l:List RowT):List RowT:=(l.map (markR m)).filter λr => !overB late m r
def tellL (piece:Bool) (m:Int) (l:List RowT):List PaneT:=(l.filter (dueB m)).map λr=>paneP piece r 1
theorem markR_win (m:Int) (r:RowT):(markR m r).win=r.win:=by unfold markR;split<;>rfl
theorem overB_mark (late m:Int) (r:RowT):overB late m (markR m r)=overB late m r:=by unfold overB;rw [markR_win]
def u6:RowT:=⟨0,⟨0,0⟩,zAgg,zAgg,0,false⟩
def keepN (g:Nat->RowT) (d:RowT->Bool) (j:Nat):List RowT:=((List.range j).map g).filter λr => !d r
theorem keepN_succ (g:Nat->RowT) (d:RowT->Bool) (j:Nat):keepN g d (j+1)=keepN g d j++if d (g j)=true then [] else [g j]:=by
  unfold keepN
  rw [List.range_succ,List.map_append,List.filter_append]
  congr 1
  cases hd:d (g j)<;>simp [hd]
theorem keepN_len (g:Nat->RowT) (d:RowT->Bool) (j:Nat):(keepN g d j).length<=j:=by
  unfold keepN
  refine Nat.le_trans (List.length_filter_le _ _) ?_
  simp
theorem lst_push {α:Type} {z : α} {l:List α} {i:Nat} {R R':Nat -> α} {x : α} (h:Lst z l i R) (h':∀ q,q<i+1->R' q=if q=i then x else R q):Lst z (l ++ [x]) (i+1) R':=by
  refine ⟨by rw [h.1];simp,λk hk => ?_⟩
  rw [h' k hk]
  by_cases e:k=i
  · rw [if_pos e,e,h.1]
    simp [List.getD_eq_getElem?_getD]
  · rw [if_neg e,h.2 k (by omega)]
    have:k<l.length:=by rw [<- h.1];omega
    simp [List.getD_eq_getElem?_getD,List.getElem?_append_left this]
theorem flat_row {A:Ar} (hA:real=A) (n:Nat) (G:Nat->RowT):A.flat n λi=>i6 (G i):=by
  subst hA
  intro i hi x hx
  unfold i6 at hx
  simp only [List.mem_cons,List.not_mem_nil,or_false] at hx
  rcases hx with rfl|rfl|rfl|rfl|rfl|rfl|rfl|rfl|rfl|rfl|rfl|rfl|rfl<;>exact ⟨_,rfl⟩
theorem flat_pane {A:Ar} (hA:real=A) (n:Nat) (G:Nat->PaneT):A.flat n λi=>m6 (G i):=by
  subst hA
  intro i hi x hx
  unfold m6 at hx
  simp only [List.mem_cons,List.not_mem_nil,or_false] at hx
  rcases hx with rfl|rfl|rfl|rfl|rfl|rfl|rfl|rfl|rfl<;>exact ⟨_,rfl⟩
def tellN (piece:Bool) (m:Int) (g:Nat->RowT) (i:Nat):List PaneT:=tellL piece m ((List.range i).map g)
theorem tellN_succ (piece:Bool) (m:Int) (g:Nat->RowT) (i:Nat):tellN piece m g (i+1)=tellN piece m g i++if dueB m (g i)=true then [paneP piece (g i) 1] else []:=by
  unfold tellN tellL
  rw [List.range_succ,List.map_append,List.filter_append,List.map_append]
  congr 1
  cases hd:dueB m (g i)<;>simp [hd]
theorem tellN_len (piece:Bool) (m:Int) (g:Nat->RowT) (i:Nat):(tellN piece m g i).length<=i:=by
  unfold tellN tellL
  rw [List.length_map]
  refine Nat.le_trans (List.length_filter_le _ _) ?_
  simp
def zPan:PaneT:=⟨0,⟨0,0⟩,0,0,zAgg⟩
noncomputable def opMarkL (j:JobT) (s:OpStT) (m:Int):Int × List RowT × List PaneT:=
  open Classical in
  if ¬ (OpOkP j s/\(0<=m/\m<=1000)) then (0,[],[])
  else if m<=s.mark then (s.mark,(List.range s.rows.n).map s.rows.g,[])
  else (m,keepN (λi=>markR m (s.rows.g i)) (overB j.late m) s.rows.n,tellN j.piece m s.rows.g s.rows.n)
theorem push_ite {α:Type} (R:Nat -> α) (x : α) {k q:Nat} (hq:q<k+1):(if q<k then R q else x)=if q=k then x else R q:=by
  by_cases e:q=k
  · rw [if_pos e,if_neg (by omega)]
  · rw [if_neg e,if_pos (by omega)]
def mkRow (k:Int):RowT:=⟨k,⟨k+1,k+2⟩,⟨k+3,k+4,k+5,k+6⟩,⟨k+7,k+8,k+9,k+10⟩,k+11,((k+12).tmod 3==0)⟩
theorem opMarkL_len (j:JobT) (s:OpStT) (m:Int):(opMarkL j s m).2.1.length<=s.rows.n/\(opMarkL j s m).2.2.length<=s.rows.n:=by
  unfold opMarkL
  split
  · exact ⟨Nat.zero_le _,Nat.zero_le _⟩
  · split
    · exact ⟨by simp,Nat.zero_le _⟩
    · exact ⟨keepN_len _ _ _,tellN_len _ _ _ _⟩
theorem win_ext {a b:WinT} (h1:a.s=b.s) (h2:a.e=b.e):a=b:=by cases a;cases b;simp_all
def IsR (k:Int) (w:WinT) (r:RowT):Prop:=r.key=k/\(r.win.s=w.s/\r.win.e=w.e)
instance (k:Int) (w:WinT) (r:RowT):Decidable (IsR k w r):=inferInstanceAs (Decidable (_/\_))
def RA (r q:RowT):Prop:=AheadP r.key r.win q.key q.win
instance (r q:RowT):Decidable (RA r q):=inferInstanceAs (Decidable (_\/(_/\(_\/(_/\_)))))
def rOut (k:Int) (w:WinT) (l:List RowT):List RowT:=l.filter λr => !decide (IsR k w r)
def rIns (r:RowT):List RowT->List RowT
  | []=>[r]
  | q::l=>if RA r q then r::q::l else q::rIns r l
def rPut (r:RowT) (l:List RowT):List RowT:=rIns r (rOut r.key r.win l)
def rFind (k:Int) (w:WinT) (l:List RowT):Option RowT:=l.find? λr=>decide (IsR k w r)
def kindT (r:RowT):Int:=if r.timely=true then 2 else 1
def tellS (j:JobT) (m:Int) (r:RowT):RowT × List PaneT:=if m<r.win.e then (r,[]) else (toldR r,[paneP j.piece r (kindT r)])
def addR (r:RowT) (v:Int):RowT := { r with all:=aggAdd r.all v,fresh:=aggAdd r.fresh v }
def nrow (k:Int) (w:WinT):RowT:=⟨k,w,zAgg,zAgg,0,false⟩
def intoL (j:JobT) (m:Int) (k v:Int) (w:WinT) (l:List RowT):Option (List RowT × List PaneT):=
  if w64 (w.e+j.late)<=m then none
  else some (rPut (tellS j m (addR ((rFind k w l).getD (nrow k w)) v)).1 l,(tellS j m (addR ((rFind k w l).getD (nrow k w)) v)).2)
def tchR (k:Int) (w:WinT) (r:RowT):Bool:=decide (r.key=k/\(r.win.s<w.e/\w.s<r.win.e))
def spanL (w:WinT) (l:List RowT):WinT:=l.foldl (λs r=>winSpan s r.win) w
def goneP (r:RowT):PaneT:=⟨r.key,r.win,r.told,3,zAgg⟩
def goneL (l:List RowT):List PaneT:=(l.filter λr=>decide (0<r.told)).map goneP
def oneB (w:WinT):List RowT->Bool
  | [o]=>decide (o.win.s=w.s/\o.win.e=w.e)
  | _=>false
def s6 (k:Int) (w:WinT) (l:List RowT):List RowT:=l.filter (tchR k w)
def restL (k:Int) (w:WinT) (l:List RowT):List RowT:=l.filter λr => !tchR k w r
def sessL (j:JobT) (m:Int) (k v:Int) (w:WinT) (l:List RowT):Option (List RowT × List PaneT):=
  if w64 ((spanL w (s6 k w l)).e+j.late)<=m then none
  else if oneB (spanL w (s6 k w l)) (s6 k w l)=true then intoL j m k v (spanL w (s6 k w l)) l
  else some (rPut (tellS j m ⟨k,spanL w (s6 k w l),((s6 k w l).map (·.all)).foldl aggB (agg1 v),((s6 k w l).map (·.all)).foldl aggB (agg1 v),0,false⟩).1 (restL k w l),
    goneL (s6 k w l)++(tellS j m ⟨k,spanL w (s6 k w l),((s6 k w l).map (·.all)).foldl aggB (agg1 v),((s6 k w l).map (·.all)).foldl aggB (agg1 v),0,false⟩).2)
def stepT (j:JobT) (m:Int) (x:ItmT) (w:WinT) (l:List RowT):Option (List RowT × List PaneT):=if j.kind=3 then sessL j m x.key x.v w l else intoL j m x.key x.v w l
def takeS (j:JobT) (m:Int) (x:ItmT) (a:List RowT × List PaneT × List LatT) (w:WinT):List RowT × List PaneT × List LatT:=
  match stepT j m x w a.1 with
  | some q=>(q.1,a.2.1++q.2,a.2.2)
  | none=>(a.1,a.2.1,a.2.2 ++ [⟨x,w⟩])
def takeL (j:JobT) (m:Int) (x:ItmT) (ws:List WinT) (l:List RowT):List RowT × List PaneT × List LatT:=ws.foldl (takeS j m x) (l,[],[])
def n6 (s:OpStT):List RowT:=(List.range s.rows.n).map s.rows.g
noncomputable def w5 (j:JobT) (s:OpStT) (x:ItmT):Int × List RowT × List PaneT × List LatT:=
  open Classical in
  if OpOkP j s/\RecP x/\s.rows.n<=280 then (s.mark,takeL j s.mark x (x1 j x.t) (n6 s)) else (0,[],[],[])
theorem ra_tr {a b c:RowT} (h:RA a b) (h':RA b c):RA a c:=by unfold RA AheadP WinLt at *;omega
theorem ra_ne {k:Int} {w:WinT} {r q:RowT} (h:RA r q) (hr:IsR k w r):¬ IsR k w q:=by unfold RA AheadP WinLt at h;unfold IsR at *;omega
abbrev RiseR (l:List RowT):Prop:=l.Pairwise RA
theorem rOut_none {k:Int} {w:WinT} {l:List RowT} (h:∀ q,q∈l->¬ IsR k w q):rOut k w l=l:=by
  unfold rOut
  rw [List.filter_eq_self]
  intro q hq
  simp [h q hq]
theorem mem_rOut {k:Int} {w:WinT} {l:List RowT} {q:RowT}:q∈rOut k w l↔q∈l/\¬ IsR k w q:=by
  unfold rOut;rw [List.mem_filter];simp
theorem mem_rIns {r x:RowT}:∀ {l:List RowT},x∈rIns r l↔x=r\/x∈l
  | []=>by simp [rIns]
  | q::l=>by
    show x∈(if RA r q then r::q::l else q::rIns r l)↔_
    split
    · simp
    · rw [List.mem_cons,mem_rIns,List.mem_cons]
      exact ⟨λh=>h.elim (λe=>.inr (.inl e)) (λh=>h.imp id .inr),λh=>h.elim (λe=>.inr (.inl e)) (λh=>h.elim .inl λh=>.inr (.inr h))⟩
theorem mem_rPut {r x:RowT} {l:List RowT}:x∈rPut r l↔x=r\/(x∈l/\¬ IsR r.key r.win x):=by
  unfold rPut;rw [mem_rIns,mem_rOut]
theorem rIns_len (r:RowT):∀ l,(rIns r l).length=l.length+1
  | []=>rfl
  | q::l=>by
    have:=rIns_len r l
    show (if RA r q then r::q::l else q::rIns r l).length=_
    split<;>simp<;>omega
theorem rPut_len (r:RowT) (l:List RowT):(rPut r l).length<=l.length+1:=by
  unfold rPut rOut
  rw [rIns_len]
  have:=List.length_filter_le (λq => !decide (IsR r.key r.win q)) l
  omega
theorem rise_rIns {r:RowT}:∀ {l:List RowT},RiseR l->(∀ q,q∈l->¬ IsR r.key r.win q)->RiseR (rIns r l)
  | [],_,_=>by simp [rIns,RiseR]
  | q::l,h,hn=>by
    have h':=h
    rw [RiseR,List.pairwise_cons] at h
    show RiseR (if RA r q then r::q::l else q::rIns r l)
    split
    · rename_i ha
      rw [RiseR,List.pairwise_cons]
      refine ⟨λx hx => ?_,h'⟩
      rcases List.mem_cons.1 hx with rfl|hx
      · exact ha
      · exact ra_tr ha (h.1 x hx)
    · rename_i ha
      rw [RiseR,List.pairwise_cons]
      refine ⟨λx hx => ?_,rise_rIns h.2 λy hy=>hn y (List.mem_cons_of_mem _ hy)⟩
      rcases mem_rIns.1 hx with rfl|hx
      · have h1:=hn q (by simp)
        unfold RA AheadP WinLt at *;unfold IsR at h1;omega
      · exact h.1 x hx
theorem rise_rOut {k:Int} {w:WinT} {l:List RowT} (h:RiseR l):RiseR (rOut k w l):=List.Pairwise.filter _ h
theorem rise_rPut {r:RowT} {l:List RowT} (h:RiseR l):RiseR (rPut r l):=rise_rIns (rise_rOut h) λq hq=>(mem_rOut.1 hq).2
theorem lst_at {α:Type} {z : α} {l:List α} {n:Nat} {g:Nat -> α} (h:Lst z l n g) {i:Nat} (hi:i<n):l[i]? = some (g i):=by
  have hl:i<l.length:=by rw [<- h.1];exact hi
  rw [h.2 i hi,List.getD_eq_getElem?_getD,List.getElem?_eq_getElem hl];rfl
theorem rfind_some {k:Int} {w:WinT} {i:Nat} {l:List RowT} {n:Nat} {R:Nat->RowT} (hL:Lst u6 l n R) (hi:i<n) (he:IsR k w (R i)) (hb:∀ q,q<i->¬ IsR k w (R q)):rFind k w l=some (R i):=by
  unfold rFind
  rw [List.find?_eq_some_iff_getElem]
  refine ⟨by simp [he],i,by rw [<- hL.1];exact hi,?_,λq hq => ?_⟩
  · have:=lst_at hL hi
    rw [List.getElem?_eq_getElem (by rw [<- hL.1];exact hi)] at this
    simpa using this
  · have:=lst_at hL (show q<n by omega)
    rw [List.getElem?_eq_getElem (by rw [<- hL.1];omega)] at this
    simp at this
    simp [this,hb q hq]
theorem rfind_none {k:Int} {w:WinT} {l:List RowT} {n:Nat} {R:Nat->RowT} (hL:Lst u6 l n R) (hb:∀ q,q<n->¬ IsR k w (R q)):rFind k w l=none:=by
  unfold rFind
  rw [List.find?_eq_none]
  intro q hq
  obtain ⟨t,ht,rfl⟩:=lst_mem hL hq
  simp [hb t ht]
theorem isR_eq {k:Int} {w:WinT} {r:RowT} (h:IsR k w r):r.key=k/\r.win=w:=⟨h.1,win_ext h.2.1 h.2.2⟩
theorem nrow_is (k:Int) (w:WinT):IsR k w (nrow k w):=⟨rfl,rfl,rfl⟩
theorem getD_is {k:Int} {w:WinT} {l:List RowT}:IsR k w ((rFind k w l).getD (nrow k w)):=by
  cases h:rFind k w l with
  | none=>exact nrow_is k w
  | some r=>
    unfold rFind at h
    have:=List.find?_some h
    simpa using this
theorem rise_into {j:JobT} {m k v:Int} {w:WinT} {l:List RowT} {q:List RowT × List PaneT} (h:RiseR l) (he:intoL j m k v w l=some q):RiseR q.1:=by
  unfold intoL at he
  split at he
  · cases he
  · cases he;exact rise_rPut h
theorem into_len {j:JobT} {m k v:Int} {w:WinT} {l:List RowT} {q:List RowT × List PaneT} (he:intoL j m k v w l=some q):q.1.length<=l.length+1/\q.2.length<=1:=by
  unfold intoL at he
  split at he
  · cases he
  · cases he
    refine ⟨rPut_len _ _,?_⟩
    unfold tellS;split<;>simp
theorem gone_len (l:List RowT):(goneL l).length<=l.length:=by unfold goneL;rw [List.length_map];exact List.length_filter_le _ _
theorem sess_len {j:JobT} {m k v:Int} {w:WinT} {l:List RowT} {q:List RowT × List PaneT} (he:sessL j m k v w l=some q):q.1.length<=l.length+1/\q.2.length<=l.length+1:=by
  unfold sessL at he
  split at he
  · cases he
  · split at he
    · obtain ⟨h1,h2⟩:=into_len he
      exact ⟨h1,by omega⟩
    · cases he
      have h1:=List.length_filter_le (λr => !tchR k w r) l
      have h2:=gone_len (s6 k w l)
      have h3:(s6 k w l).length<=l.length:=List.length_filter_le _ _
      refine ⟨Nat.le_trans (rPut_len _ _) (Nat.succ_le_succ h1),?_⟩
      show (goneL (s6 k w l)++_).length<=_
      rw [List.length_append]
      have:∀ r,(tellS j m r).2.length<=1:=λr=>by unfold tellS;split<;>simp
      have:=this ⟨k,spanL w (s6 k w l),((s6 k w l).map (·.all)).foldl aggB (agg1 v),((s6 k w l).map (·.all)).foldl aggB (agg1 v),0,false⟩
      omega
theorem takeS_len {j:JobT} {m:Int} {x:ItmT} {a:List RowT × List PaneT × List LatT} {w:WinT}:(takeS j m x a w).1.length<=a.1.length+1/\(takeS j m x a w).2.1.length<=a.2.1.length+a.1.length+1/\(takeS j m x a w).2.2.length<=a.2.2.length+1:=by
  unfold takeS
  split
  · rename_i q hq
    unfold stepT at hq
    rw [List.length_append]
    split at hq
    · have:=sess_len hq;refine ⟨by first|omega | (dsimp only;omega),by first|omega | (dsimp only;omega),by first|omega | (dsimp only;omega)⟩
    · have:=into_len hq;refine ⟨by first|omega | (dsimp only;omega),by first|omega | (dsimp only;omega),by first|omega | (dsimp only;omega)⟩
  · rw [List.length_append]
    refine ⟨by first|omega | (dsimp only;omega),by first|omega | (dsimp only;omega),by simp⟩
theorem takeL_snoc (j:JobT) (m:Int) (x:ItmT) (ws:List WinT) (w:WinT) (l:List RowT):takeL j m x (ws ++ [w]) l=takeS j m x (takeL j m x ws l) w:=by
  unfold takeL;rw [List.foldl_append];rfl
theorem snocInd {α:Type} {P:List α->Prop} (h0:P []) (h1:∀ l x,P l->P (l ++ [x])):∀ l,P l:=by
  intro l
  rw [<- List.reverse_reverse l]
  induction l.reverse with
  | nil=>exact h0
  | cons x r ih=>rw [List.reverse_cons];exact h1 _ _ ih
theorem takeL_len {j:JobT} {m:Int} {x:ItmT} {l:List RowT}:∀ (ws:List WinT),(takeL j m x ws l).1.length<=l.length+ws.length/\(takeL j m x ws l).2.1.length<=ws.length*(l.length+ws.length+1)/\(takeL j m x ws l).2.2.length<=ws.length:=by
  refine snocInd (by simp [takeL]) λws w ih => ?_
  · rw [takeL_snoc]
    have:=takeS_len (j:=j) (m:=m) (x:=x) (a:=takeL j m x ws l) (w:=w)
    obtain ⟨h1,h2,h3⟩:=ih
    obtain ⟨g1,g2,g3⟩:=this
    refine ⟨by simp;omega,?_,by simp;omega⟩
    have e:(ws ++ [w]).length=ws.length+1:=by simp
    rw [e,Nat.succ_mul]
    have:ws.length*(l.length+ws.length+1)<=ws.length*(l.length+(ws.length+1)+1):=Nat.mul_le_mul_left _ (by omega)
    omega
theorem span_in (w:WinT):∀ (l:List RowT) (u:WinT),(u.s<=w.s/\w.e<=u.e)->(spanL u l).s<=w.s/\w.e<=(spanL u l).e
  | [],_,h=>h
  | r::l,u,h=>by
    unfold spanL
    rw [List.foldl_cons]
    refine span_in w l (winSpan u r.win) ?_
    unfold winSpan
    constructor<;>simp only<;>split<;>omega
theorem spanL_app (w:WinT) (l:List RowT) (r:RowT):spanL w (l ++ [r])=winSpan (spanL w l) r.win:=by unfold spanL;rw [List.foldl_append];rfl
theorem rest_no {k:Int} {w:WinT} {l:List RowT} (hw:w.s<w.e) {q:RowT} (hq:q∈restL k w l):¬ IsR k (spanL w (s6 k w l)) q:=by
  intro h
  have hs:=span_in w (s6 k w l) w ⟨Int.le_refl _,Int.le_refl _⟩
  unfold restL at hq
  rw [List.mem_filter] at hq
  have h2:=hq.2
  unfold tchR at h2
  simp only [Bool.not_eq_true',decide_eq_false_iff_not] at h2
  unfold IsR at h
  omega
theorem oldL_snoc (k:Int) (w:WinT) (l:List RowT) (r:RowT):s6 k w (l ++ [r])=s6 k w l++if tchR k w r=true then [r] else []:=by
  unfold s6;rw [List.filter_append];congr 1
  cases h:tchR k w r<;>simp [h]
theorem goneL_snoc (l:List RowT) (r:RowT):goneL (l ++ [r])=goneL l++if 0<r.told then [goneP r] else []:=by
  unfold goneL;rw [List.filter_append,List.map_append];congr 1
  by_cases h:0<r.told<;>simp [h]
theorem oldL_len (k:Int) (w:WinT) (l:List RowT):(s6 k w l).length<=l.length:=List.length_filter_le _ _
theorem restL_len (k:Int) (w:WinT) (l:List RowT):(restL k w l).length<=l.length:=List.length_filter_le _ _
theorem one_iff {w:WinT} {l:List RowT} {k:Nat} {G:Nat->RowT} (h:Lst u6 l k G):oneB w l=true↔k=1/\(G 0).win.s=w.s/\(G 0).win.e=w.e:=by
  obtain ⟨rfl,h2⟩:=h
  match l,h2 with
  | [],_=>simp [oneB]
  | [o],h2=>
    have e:G 0=o:=h2 0 (by simp)
    simp [oneB,e]
  | a::b::r,_=>simp [oneB]
theorem lst_eq {α:Type} {z : α} {l:List α} {n:Nat} {g:Nat -> α} (h:Lst z l n g):l=(List.range n).map g:=by
  obtain ⟨rfl,h2⟩:=h
  refine List.ext_getElem (by simp) λi h1 h3 => ?_
  have:=h2 i h1
  rw [List.getD_eq_getElem?_getD,List.getElem?_eq_getElem h1] at this
  simp [this]
theorem rise_at {l:List RowT} {n:Nat} {R:Nat->RowT} (hL:Lst u6 l n R) (hs:RiseR l) {a b:Nat} (hab:a<b) (hb:b<n):RA (R a) (R b):=by
  have:=List.pairwise_iff_getElem.1 hs a b (by rw [<- hL.1];omega) (by rw [<- hL.1];exact hb) hab
  have ea:=lst_at hL (show a<n by omega)
  have eb:=lst_at hL hb
  rw [List.getElem?_eq_getElem (by rw [<- hL.1];omega)] at ea
  rw [List.getElem?_eq_getElem (by rw [<- hL.1];exact hb)] at eb
  simp only [Option.some.injEq] at ea eb
  rwa [ea,eb] at this
theorem takeS_some {j:JobT} {m:Int} {x:ItmT} {a:List RowT × List PaneT × List LatT} {w:WinT} {q:List RowT × List PaneT} (h:stepT j m x w a.1=some q):takeS j m x a w=(q.1,a.2.1++q.2,a.2.2):=by
  unfold takeS;rw [h]
theorem takeS_none {j:JobT} {m:Int} {x:ItmT} {a:List RowT × List PaneT × List LatT} {w:WinT} (h:stepT j m x w a.1=none):takeS j m x a w=(a.1,a.2.1,a.2.2 ++ [⟨x,w⟩]):=by
  unfold takeS;rw [h]
theorem rise_adj {n:Nat} {g:Nat->RowT} (h:∀ i,0<i->i<n->RA (g (i-1)) (g i)):RiseR ((List.range n).map g):=by
  have key:∀ b a,a<b->b<n->RA (g a) (g b):=by
    intro b
    induction b with
    | zero=>intro a ha;omega
    | succ b ih=>
      intro a ha hb
      have h1:=h (b+1) (by omega) hb
      rw [Nat.add_sub_cancel] at h1
      by_cases e:a=b
      · subst e;exact h1
      · exact ra_tr (ih a (by omega) (by omega)) h1
  rw [RiseR,List.pairwise_map]
  refine List.Pairwise.imp_of_mem ?_ (List.pairwise_lt_range (n:=n))
  intro a b ha hb hab
  exact key b a hab (List.mem_range.1 hb)
theorem rise_ok {j:JobT} {s:OpStT} (h:OpOkP j s):RiseR (n6 s):=rise_adj λi h0 hi=>(h.2.2.2 i hi).2.1 h0
theorem all_ok {j:JobT} {s:OpStT} (h:OpOkP j s):∀ r,r∈n6 s->1<=r.all.n/\r.all.n<=1000:=by
  intro r hr
  obtain ⟨i,hi,rfl⟩:=List.mem_map.1 hr
  have h1:=(h.2.2.2 i (List.mem_range.1 hi)).1
  have h2:=h1.2.2.1
  have h3:=h1.2.2.2.2.1
  unfold AggOkP at h2
  omega
theorem rest_rise {k:Int} {w:WinT} {l:List RowT} (h:RiseR l):RiseR (restL k w l):=List.Pairwise.filter _ h
theorem rIns_app {r:RowT}:∀ {l:List RowT} (m:List RowT),(∃ q,q∈l/\RA r q)->rIns r (l++m)=rIns r l++m
  | [],_,⟨_,h,_⟩=>by simp at h
  | q::l,m,⟨p,hp,ha⟩=>by
    show (if RA r q then r::q::(l++m) else q::rIns r (l++m))=(if RA r q then r::q::l else q::rIns r l)++m
    by_cases h:RA r q
    · rw [if_pos h,if_pos h];rfl
    · rw [if_neg h,if_neg h,rIns_app m ⟨p,(List.mem_cons.1 hp).resolve_left (λe=>h (e▸ha)),ha⟩];rfl
theorem rIns_none {r:RowT}:∀ {l:List RowT},(∀ q,q∈l->¬ RA r q)->rIns r l=l ++ [r]
  | [],_=>rfl
  | q::l,h=>by
    show (if RA r q then r::q::l else q::rIns r l)=_
    rw [if_neg (h q (by simp)),rIns_none λx hx=>h x (List.mem_cons_of_mem _ hx)];rfl
theorem rIns_hit {r x:RowT}:∀ {l:List RowT},(∀ q,q∈l->¬ RA r q)->RA r x->rIns r (l ++ [x])=(l ++ [r]) ++ [x]
  | [],_,hx=>by
    show (if RA r x then r::x :: [] else _)=_
    rw [if_pos hx];rfl
  | q::l,h,hx=>by
    show (if RA r q then _ else q::rIns r (l ++ [x]))=_
    rw [if_neg (h q (by simp)),rIns_hit (λy hy=>h y (List.mem_cons_of_mem _ hy)) hx];rfl
def PutAt (r:RowT) (l:List RowT) (dn:Bool) (out:List RowT):Prop:=
  (dn=false/\out=rOut r.key r.win l/\∀ q,q∈out->¬ RA r q)\/(dn=true/\out=rIns r (rOut r.key r.win l)/\∃ q,q∈rOut r.key r.win l/\RA r q)
theorem rOut_snoc (k:Int) (w:WinT) (l:List RowT) (x:RowT):rOut k w (l ++ [x])=rOut k w l++if IsR k w x then [] else [x]:=by
  unfold rOut;rw [List.filter_append];congr 1
  by_cases h:IsR k w x<;>simp [h]
theorem putAt_same {r x:RowT} {l out:List RowT} {dn:Bool} (h:PutAt r l dn out) (hx:IsR r.key r.win x):PutAt r (l ++ [x]) dn out:=by
  unfold PutAt;rw [rOut_snoc,if_pos hx,List.append_nil];exact h
theorem putAt_hit {r x:RowT} {l out:List RowT} (h:PutAt r l false out) (hx:¬ IsR r.key r.win x) (ha:RA r x):PutAt r (l ++ [x]) true ((out ++ [r]) ++ [x]):=by
  rcases h with ⟨_,rfl,h2⟩|⟨h,_⟩
  · refine .inr ⟨rfl,?_,x,?_,ha⟩
    · rw [rOut_snoc,if_neg hx,rIns_hit h2 ha]
    · rw [rOut_snoc,if_neg hx];simp
  · cases h
theorem putAt_on {r x:RowT} {l out:List RowT} {dn:Bool} (h:PutAt r l dn out) (hx:¬ IsR r.key r.win x) (ha:¬ (dn=false/\RA r x)):PutAt r (l ++ [x]) dn (out ++ [x]):=by
  rcases h with ⟨rfl,rfl,h2⟩|⟨rfl,rfl,h2⟩
  · refine .inl ⟨rfl,by rw [rOut_snoc,if_neg hx],λq hq => ?_⟩
    rcases List.mem_append.1 hq with h|h
    · exact h2 q h
    · simp at h;subst h;exact λhr=>ha ⟨rfl,hr⟩
  · obtain ⟨q,hq,hqa⟩:=h2
    refine .inr ⟨rfl,?_,q,?_,hqa⟩
    · rw [rOut_snoc,if_neg hx,rIns_app _ ⟨q,hq,hqa⟩]
    · rw [rOut_snoc];exact List.mem_append_left _ hq
theorem putAt_end {r:RowT} {l out:List RowT} {dn:Bool} (h:PutAt r l dn out):rPut r l=if dn=true then out else out ++ [r]:=by
  unfold rPut
  rcases h with ⟨rfl,rfl,h2⟩|⟨rfl,rfl,h2⟩
  · rw [if_neg (by simp),rIns_none h2]
  · rw [if_pos rfl]
theorem putAt_len {r:RowT} {l out:List RowT} {dn:Bool} (h:PutAt r l dn out):out.length<=l.length+1:=by
  have h1:(rOut r.key r.win l).length<=l.length:=List.length_filter_le _ _
  rcases h with ⟨_,rfl,_⟩|⟨_,rfl,_⟩
  · omega
  · rw [rIns_len];omega
theorem room_add3 {A:Ar} (hA:real=A) {n m k b:Nat} (hn:n+m+k<=2000000) (hb:b<=100000):A.room (A.add (A.add n m) k) b:=by
  have e:A.add n m=n+m:=by subst hA;rfl
  rw [e]
  exact f6 hA hn hb
theorem push2_if {α:Type} (e : α->List DV) (n:Nat) (G:Nat -> α) (x y : α) (z z':Nat->List DV) (k:Nat) (hk:k<n+1+1):real.app (real.add n 1) (real.app n (λi=>e (G i)) (real.sub 0 (real.app 1 (real.rep (e x)) z))) (real.sub 0 (real.app 1 (real.rep (e y)) z')) k=e (if k<n+1 then (if k<n then G k else x) else y):=by
  show (if k<n+1 then (if k<n then e (G k) else (if 0+(k-n)<1 then e x else z (0+(k-n)-1))) else (if 0+(k-(n+1))<1 then e y else z' (0+(k-(n+1))-1)))=_
  by_cases a:k<n+1
  · rw [if_pos a,if_pos a]
    by_cases b:k<n
    · rw [if_pos b,if_pos b]
    · rw [if_neg b,if_neg b,if_pos (by omega)]
  · rw [if_neg a,if_neg a,if_pos (by omega)]
theorem restL_snoc (k:Int) (w:WinT) (l:List RowT) (r:RowT):restL k w (l ++ [r])=restL k w l++if tchR k w r=true then [] else [r]:=by
  unfold restL;rw [List.filter_append];congr 1
  cases h:tchR k w r<;>simp [h]
theorem app_if {α:Type} {z : α} (e : α->List DV) {l m:List α} {n k:Nat} {G H:Nat -> α} (h1:Lst z l n G) (h2:Lst z m k H) (i:Nat) (hi:i<n+k):real.app n (λi=>e (G i)) (real.sub 0 λi=>e (H i)) i=e ((l++m).getD i z):=by
  show (if i<n then e (G i) else e (H (0+(i-n))))=_
  by_cases a:i<n
  · rw [if_pos a,h1.2 i a,List.getD_eq_getElem?_getD,List.getD_eq_getElem?_getD,List.getElem?_append_left (by rw [<- h1.1];exact a)]
  · rw [if_neg a,Nat.zero_add,h2.2 (i-n) (by omega),List.getD_eq_getElem?_getD,List.getD_eq_getElem?_getD,List.getElem?_append_right (by rw [<- h1.1];omega),<- h1.1]
theorem app_if2 {α:Type} (e : α->List DV) {n:Nat} {G H:Nat -> α} (i:Nat):real.app n (λi=>e (G i)) (λi=>e (H i)) i=e (if i<n then G i else H (i-n)):=by
  show (if i<n then e (G i) else e (H (i-n)))=_
  by_cases a:i<n
  · rw [if_pos a,if_pos a]
  · rw [if_neg a,if_neg a]
theorem lst_app {α:Type} {z : α} {l m:List α} {n k:Nat} {G H:Nat -> α} (h1:Lst z l n G) (h2:Lst z m k H):Lst z (l++m) (n+k) (λi=>if i<n then G i else H (i-n)):=by
  refine ⟨by rw [List.length_append,h1.1,h2.1],λi hi => ?_⟩
  show (if i<n then G i else H (i-n))=_
  by_cases a:i<n
  · rw [if_pos a,h1.2 i a,List.getD_eq_getElem?_getD,List.getD_eq_getElem?_getD,List.getElem?_append_left (by rw [<- h1.1];exact a)]
  · rw [if_neg a,h2.2 (i-n) (by omega),List.getD_eq_getElem?_getD,List.getD_eq_getElem?_getD,List.getElem?_append_right (by rw [<- h1.1];omega),<- h1.1]
theorem flat_int (x:Int):FlatL [eI x]:=⟨⟨_,rfl⟩,trivial⟩
theorem flat_Itm (x:ItmT):FlatL (n9 x):=by repeat' first|exact True.intro|exact ⟨_,rfl⟩|apply And.intro
theorem flat_Row (x:RowT):FlatL (i6 x):=by repeat' first|exact True.intro|exact ⟨_,rfl⟩|apply And.intro
theorem flat_Pane (x:PaneT):FlatL (m6 x):=by repeat' first|exact True.intro|exact ⟨_,rfl⟩|apply And.intro
theorem flat_Lat (x:LatT):FlatL (eLat x):=by repeat' first|exact True.intro|exact ⟨_,rfl⟩|apply And.intro
end Go.Rk
namespace Go.Rk
set_option linter.unusedSimpArgs false
set_option linter.unusedVariables false
open Go.Proofs
set_option maxRecDepth 100000
set_option maxHeartbeats 1000000
theorem c_Cloneint (n:Nat) (hn:n<=1080000) (g:Nat->Int):d7 Tryz.prog 43 [.c (.d (.sl 1 n λi=>[eI (g i)]))] ⟨.one (.c (.own 1 n λi=>[eI (g i)])),[none]⟩:=by
  refine meets_slice (λh0 ad cap => ?_) (λh1 => ?_)
  · subst h0
    cases ad with
    | none=>
      refine meets_up (res:=.one (.c (.d (.v c9)))) (UpV.nil 1 λi=>[eI (g i)]) ?_
      refine d5 (H:=[]) (EX:=EXA) l6 e8 Tryz.func43 rfl (by kernel_rfl) (by decide) ?_
      generalize hA:real=A
      generalize hM:d4 Tryz.prog=M
      cbv
      repeat' first|exact absurd (show true=false by assumption) (by decide)|exact absurd (show false=true by assumption) (by decide)|apply And.intro|exact True.intro|with_reducible rfl|exact b7 hA rfl|apply c8 hA<;>intro _|exact c6 hA id | (subst hA;exact λh=>h) | (refine c5 hA ?_;decide +kernel)|fail
    | some ad=>
      refine meets_up (res:=.one (.c (.own 1 0 λi=>(real.rep ([eI 0]) i)))) (UpV.row λi hi=>absurd hi (Nat.not_lt_zero i)) ?_
      refine d5 (H:=[]) (EX:=EXA) l6 e8 Tryz.func43 rfl (by kernel_rfl) (by decide) ?_
      generalize hA:real=A
      generalize hM:d4 Tryz.prog=M
      cbv
      repeat' first|exact absurd (show true=false by assumption) (by decide)|exact absurd (show false=true by assumption) (by decide)|apply And.intro|exact True.intro|with_reducible rfl|exact b7 hA rfl|apply c8 hA<;>intro _|exact c6 hA id | (subst hA;exact λh=>h) | (refine c5 hA ?_;decide +kernel)|exact room_z hA (by omega) (by decide)|fail
      exact own_cp hA (by subst hA;rfl)
  · skip
    refine d5 (H:=[]) (EX:=EXA) l6 e8 Tryz.func43 rfl (by kernel_rfl) (by decide) ?_
    generalize hA:real=A
    generalize hM:d4 Tryz.prog=M
    cbv
    repeat' first|exact absurd (show true=false by assumption) (by decide)|exact absurd (show false=true by assumption) (by decide)|apply And.intro|exact True.intro|with_reducible rfl|exact b7 hA rfl|apply c8 hA<;>intro _|exact c6 hA id | (subst hA;exact λh=>h) | (refine c5 hA ?_;decide +kernel)|exact room_z hA (by omega) (by decide) | (refine d8 hA (λ_=>⟨by omega,by omega⟩)) | (rename_i hb;cases hb;done)|fail
    exact own_cp hA rfl
theorem c_Clonebool (n:Nat) (hn:n<=1080000) (g:Nat->Bool):d7 Tryz.prog 44 [.c (.d (.sl 1 n λi=>[eB (g i)]))] ⟨.one (.c (.own 1 n λi=>[eB (g i)])),[none]⟩:=by
  refine meets_slice (λh0 ad cap => ?_) (λh1 => ?_)
  · subst h0
    cases ad with
    | none=>
      refine meets_up (res:=.one (.c (.d (.v c9)))) (UpV.nil 1 λi=>[eB (g i)]) ?_
      refine d5 (H:=[]) (EX:=EXA) l6 e8 Tryz.func44 rfl (by kernel_rfl) (by decide) ?_
      generalize hA:real=A
      generalize hM:d4 Tryz.prog=M
      cbv
      repeat' first|exact absurd (show true=false by assumption) (by decide)|exact absurd (show false=true by assumption) (by decide)|apply And.intro|exact True.intro|with_reducible rfl|exact b7 hA rfl|apply c8 hA<;>intro _|exact c6 hA id | (subst hA;exact λh=>h) | (refine c5 hA ?_;decide +kernel)|fail
    | some ad=>
      refine meets_up (res:=.one (.c (.own 1 0 λi=>(real.rep ([eB false]) i)))) (UpV.row λi hi=>absurd hi (Nat.not_lt_zero i)) ?_
      refine d5 (H:=[]) (EX:=EXA) l6 e8 Tryz.func44 rfl (by kernel_rfl) (by decide) ?_
      generalize hA:real=A
      generalize hM:d4 Tryz.prog=M
      cbv
      repeat' first|exact absurd (show true=false by assumption) (by decide)|exact absurd (show false=true by assumption) (by decide)|apply And.intro|exact True.intro|with_reducible rfl|exact b7 hA rfl|apply c8 hA<;>intro _|exact c6 hA id | (subst hA;exact λh=>h) | (refine c5 hA ?_;decide +kernel)|exact room_z hA (by omega) (by decide)|fail
      exact own_cp hA (by subst hA;rfl)
  · skip
    refine d5 (H:=[]) (EX:=EXA) l6 e8 Tryz.func44 rfl (by kernel_rfl) (by decide) ?_
    generalize hA:real=A
    generalize hM:d4 Tryz.prog=M
    cbv
    repeat' first|exact absurd (show true=false by assumption) (by decide)|exact absurd (show false=true by assumption) (by decide)|apply And.intro|exact True.intro|with_reducible rfl|exact b7 hA rfl|apply c8 hA<;>intro _|exact c6 hA id | (subst hA;exact λh=>h) | (refine c5 hA ?_;decide +kernel)|exact room_z hA (by omega) (by decide) | (refine d8 hA (λ_=>⟨by omega,by omega⟩)) | (rename_i hb;cases hb;done)|fail
    exact own_cp hA rfl
theorem c_CloneRow (n:Nat) (hn:n<=1080000) (g:Nat->RowT):d7 Tryz.prog 110 [.c (.d (.sl 13 n λi=>i6 (g i)))] ⟨.one (.c (.own 13 n λi=>i6 (g i))),[none]⟩:=by
  refine meets_slice (λh0 ad cap => ?_) (λh1 => ?_)
  · subst h0
    cases ad with
    | none=>
      refine meets_up (res:=.one (.c (.d (.v c9)))) (UpV.nil 13 λi=>i6 (g i)) ?_
      refine d5 (H:=[]) (EX:=EXA) l6 e8 Tryz.func110 rfl (by kernel_rfl) (by decide) ?_
      generalize hA:real=A
      generalize hM:d4 Tryz.prog=M
      cbv
      repeat' first|exact absurd (show true=false by assumption) (by decide)|exact absurd (show false=true by assumption) (by decide)|apply And.intro|exact True.intro|with_reducible rfl|exact b7 hA rfl|apply c8 hA<;>intro _|exact c6 hA id | (subst hA;exact λh=>h) | (refine c5 hA ?_;decide +kernel)|fail
    | some ad=>
      refine meets_up (res:=.one (.c (.own 13 0 λi=>(real.rep ([eI 0,eI 0,eI 0,eI 0,eI 0,eI 0,eI 0,eI 0,eI 0,eI 0,eI 0,eI 0,eB false]) i)))) (UpV.row λi hi=>absurd hi (Nat.not_lt_zero i)) ?_
      refine d5 (H:=[]) (EX:=EXA) l6 e8 Tryz.func110 rfl (by kernel_rfl) (by decide) ?_
      generalize hA:real=A
      generalize hM:d4 Tryz.prog=M
      cbv
      repeat' first|exact absurd (show true=false by assumption) (by decide)|exact absurd (show false=true by assumption) (by decide)|apply And.intro|exact True.intro|with_reducible rfl|exact b7 hA rfl|apply c8 hA<;>intro _|exact c6 hA id | (subst hA;exact λh=>h) | (refine c5 hA ?_;decide +kernel)|exact room_z hA (by omega) (by decide)|fail
      exact own_cp hA (by subst hA;rfl)
  · skip
    refine d5 (H:=[]) (EX:=EXA) l6 e8 Tryz.func110 rfl (by kernel_rfl) (by decide) ?_
    generalize hA:real=A
    generalize hM:d4 Tryz.prog=M
    cbv
    repeat' first|exact absurd (show true=false by assumption) (by decide)|exact absurd (show false=true by assumption) (by decide)|apply And.intro|exact True.intro|with_reducible rfl|exact b7 hA rfl|apply c8 hA<;>intro _|exact c6 hA id | (subst hA;exact λh=>h) | (refine c5 hA ?_;decide +kernel)|exact room_z hA (by omega) (by decide) | (refine d8 hA (λ_=>⟨by omega,by omega⟩)) | (rename_i hb;cases hb;done)|fail
    exact own_cp hA rfl
theorem c_copied (mk:Int) (n:Nat) (hn:n<=1080000) (g:Nat->RowT):d7 Tryz.prog 90 [.agg [.d (eI mk),.d (.sl 13 n λi=>i6 (g i))]] ⟨.one (.agg [.d (eI mk),.own 13 n λi=>i6 (g i)]),[none]⟩:=by
  refine d5 (H:=[]) (EX:=EXA) l6 e8 Tryz.func90 rfl (by kernel_rfl) (by decide) ?_
  generalize hA:real=A
  generalize hM:d4 Tryz.prog=M
  cbv
  repeat' first|apply And.intro|exact True.intro|with_reducible rfl|exact b7 hA rfl|apply c8 hA<;>intro _|exact c6 hA id | (subst hA;exact λh=>h) | (refine c5 hA ?_;decide +kernel)|exact room_z hA (by omega) (by decide) | (refine i9 hA hM _ (c_CloneRow n hn g) rfl ?_;cbv)|fail
theorem c_sCopy (mk:Int) (n:Nat) (hn:n<=1080000) (g:Nat->RowT):d7 Tryz.prog 39 [.agg [.d (eI mk),.d (.sl 13 n λi=>i6 (g i))]] ⟨.one (.agg [.d (eI mk),.own 13 n λi=>i6 (g i)]),[none]⟩:=by
  refine d5 (H:=[]) (EX:=EXA) l6 e8 Tryz.func39 rfl (by kernel_rfl) (by decide) ?_
  generalize hA:real=A
  generalize hM:d4 Tryz.prog=M
  cbv
  repeat' first|apply And.intro|exact True.intro|with_reducible rfl|exact b7 hA rfl|apply c8 hA<;>intro _|exact c6 hA id | (subst hA;exact λh=>h) | (refine c5 hA ?_;decide +kernel)|exact room_z hA (by omega) (by decide) | (refine i9 hA hM _ (c_CloneRow n hn g) rfl ?_;cbv)|fail
  exact own_cp2 hA rfl
end Go.Rk
