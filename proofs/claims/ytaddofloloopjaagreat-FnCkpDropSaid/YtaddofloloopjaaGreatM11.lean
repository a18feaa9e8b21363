/- What each of this seat's functions answers, at all data, part 11: no condition. -/
import Derived.Test.YtaddofloloopjaaGreatM5
import Derived.Test.YtaddofloloopjaaGreatM6
import Derived.Test.YtaddofloloopjaaGreatM7
import Derived.Test.YtaddofloloopjaaGreatM8
import Derived.Test.YtaddofloloopjaaGreatM9
import Derived.Test.YtaddofloloopjaaGreatM10
namespace Go.Rk
set_option linter.unusedSimpArgs false
set_option linter.unusedVariables false
def OkL (j:JobT) (m:Int) (l:List RowT):Prop:=
  (∀ r,r∈l->RowOkP j r m)/\RiseR l/\(j.kind=3->l.Pairwise λa b=>¬ (a.key=b.key/\TouchP a.win b.win))
theorem okL_of {j:JobT} {s:OpStT} (h:OpOkP j s):OkL j s.mark (n6 s):=by
  refine ⟨λr hr => ?_,rise_ok h,λh3 => ?_⟩
  · obtain ⟨i,hi,rfl⟩:=List.mem_map.1 hr
    exact (h.2.2.2 i (List.mem_range.1 hi)).1
  · unfold n6
    rw [List.pairwise_map]
    refine List.Pairwise.imp_of_mem ?_ List.pairwise_lt_range
    intro a b ha hb hab
    exact (h.2.2.2 b (List.mem_range.1 hb)).2.2 h3 a hab
theorem pw_at {α:Type} {z : α} {R : α -> α->Prop} {l:List α} {n:Nat} {G:Nat -> α} (hL:Lst z l n G) (hp:l.Pairwise R) {a b:Nat} (hab:a<b) (hb:b<n):R (G a) (G b):=by
  obtain ⟨h1,e1⟩:=List.getElem?_eq_some_iff.1 (lst_at hL (show a<n by omega))
  obtain ⟨h2,e2⟩:=List.getElem?_eq_some_iff.1 (lst_at hL hb)
  have:=List.pairwise_iff_getElem.1 hp a b h1 h2 hab
  rw [e1,e2] at this
  exact this
theorem lst_in {α:Type} {z : α} {l:List α} {n:Nat} {G:Nat -> α} (hL:Lst z l n G) {a:Nat} (h:a<n):G a∈l:=List.mem_of_getElem? (lst_at hL h)
theorem ok_of {j:JobT} {mk:Int} {l:List RowT} {n:Nat} {G:Nat->RowT} (hL:Lst u6 l n G) (hn:n<=maxLen) (hj:t9 j) (hm:0<=mk/\mk<=1000) (hl:n<=300) (h:OkL j mk l):OpOkP j ⟨mk,⟨n,G,hn⟩⟩:=by
  refine ⟨hj,hm,hl,λi hi=>⟨h.1 _ (lst_in hL hi),λh0 => ?_,λh3 k hk => ?_⟩⟩
  · exact rise_at hL h.2.1 (show i-1<i by omega) hi
  · exact pw_at hL (h.2.2 h3) hk hi
theorem rowsL_lst {mk:Int} {l:List RowT} {n:Nat} {G:Nat->RowT} (hL:Lst u6 l n G) (hn:n<=maxLen):n6 ⟨mk,⟨n,G,hn⟩⟩=l:=(lst_eq hL).symm
theorem mul_bd {n l:Int} (hn:1<=n/\n<=1000) (hl : -9<=l/\l<=9) : -9000<=n*l/\n*l<=9000:=by
  have h1:n*l<=n*9:=Int.mul_le_mul_of_nonneg_left hl.2 (by omega)
  have h2:n*(-9)<=n*l:=Int.mul_le_mul_of_nonneg_left hl.1 (by omega)
  omega
theorem wrap_mul {n l:Int} (hn:1<=n/\n<=1000) (hl : -9<=l/\l<=9):IntKind.i64.wrap (n*l)=n*l:=by
  have:=mul_bd hn hl
  exact IntWalk.i64_in _ (by omega)
theorem aggOk_z:AggOkP zAgg:=.inl ⟨rfl,rfl,rfl,rfl⟩
theorem aggOk_n {a:AggT} (h:AggOkP a):0<=a.n/\a.n<=1000:=by unfold AggOkP at h;omega
theorem aggB_nn {a b:AggT} (ha:0<=a.n/\a.n<=1000000000) (hb:0<=b.n/\b.n<=1000000000):(aggB a b).n=a.n+b.n:=by
  unfold aggB
  by_cases h:a.n=0
  · rw [if_pos h];omega
  · rw [if_neg h]
    by_cases h2:b.n=0
    · rw [if_pos h2];omega
    · rw [if_neg h2]
      exact w64_id (n:=a.n+b.n) (by omega)
theorem aggOk_both {a b:AggT} (ha:AggOkP a) (hb:AggOkP b) (hn:a.n+b.n<=1000):AggOkP (aggB a b):=by
  unfold aggB
  by_cases h:a.n=0
  · rw [if_pos h];exact hb
  · rw [if_neg h]
    by_cases h2:b.n=0
    · rw [if_pos h2];exact ha
    · rw [if_neg h2]
      rcases ha with ⟨h1,_⟩|⟨_,a1,a2,a3,a4⟩
      · exact absurd h1 h
      rcases hb with ⟨h1,_⟩|⟨_,b1,b2,b3,b4⟩
      · exact absurd h1 h2
      rw [wrap_mul a1 a2,wrap_mul a1 (show -9<=a.most/\a.most<=9 by omega)] at a4
      rw [wrap_mul b1 b2,wrap_mul b1 (show -9<=b.most/\b.most<=9 by omega)] at b4
      have am:=mul_bd a1 a2
      have am2:=mul_bd a1 (show -9<=a.most/\a.most<=9 by omega)
      have bm:=mul_bd b1 b2
      have bm2:=mul_bd b1 (show -9<=b.most/\b.most<=9 by omega)
      have en:w64 (a.n+b.n)=a.n+b.n:=w64_id (by omega)
      have es:w64 (a.sum+b.sum)=a.sum+b.sum:=w64_id (by omega)
      obtain ⟨lo,hlo⟩:∃ x,x=(if b.least<a.least then b.least else a.least):=⟨_,rfl⟩
      obtain ⟨hi,hhi⟩:∃ x,x=(if a.most<b.most then b.most else a.most):=⟨_,rfl⟩
      have l1:lo<=a.least/\lo<=b.least /\ -9<=lo/\lo<=9:=by rw [hlo];split<;>omega
      have l2:a.most<=hi/\b.most<=hi /\ -9<=hi/\hi<=9:=by rw [hhi];split<;>omega
      have c1:a.n*lo<=a.n*a.least:=Int.mul_le_mul_of_nonneg_left l1.1 (by omega)
      have c2:b.n*lo<=b.n*b.least:=Int.mul_le_mul_of_nonneg_left l1.2.1 (by omega)
      have c3:a.n*a.most<=a.n*hi:=Int.mul_le_mul_of_nonneg_left l2.1 (by omega)
      have c4:b.n*b.most<=b.n*hi:=Int.mul_le_mul_of_nonneg_left l2.2.1 (by omega)
      have e1:(a.n+b.n)*lo=a.n*lo+b.n*lo:=Int.add_mul _ _ _
      have e2:(a.n+b.n)*hi=a.n*hi+b.n*hi:=Int.add_mul _ _ _
      rw [<- hlo,<- hhi]
      refine .inr ⟨?_,?_,?_,?_,?_⟩
      · show w64 (a.n+b.n)≠0
        rw [en];omega
      · show 1<=w64 (a.n+b.n)/\w64 (a.n+b.n)<=1000
        rw [en];omega
      · exact ⟨l1.2.2.1,l1.2.2.2⟩
      · show lo<=hi/\hi<=9
        omega
      · show IntKind.i64.wrap (w64 (a.n+b.n)*lo)<=w64 (a.sum+b.sum)/\w64 (a.sum+b.sum)<=IntKind.i64.wrap (w64 (a.n+b.n)*hi)
        rw [en,es,wrap_mul (show 1<=a.n+b.n/\a.n+b.n<=1000 by omega) ⟨l1.2.2.1,l1.2.2.2⟩,wrap_mul (show 1<=a.n+b.n/\a.n+b.n<=1000 by omega) ⟨l2.2.2.1,l2.2.2.2⟩,e1,e2]
        omega
theorem aggOk_one {v:Int} (h : -9<=v/\v<=9):AggOkP (agg1 v):=by
  refine .inr ⟨by show (1:Int)≠0;decide,by show (1:Int)<=1/\(1:Int)<=1000;decide,h,by show v<=v/\v<=9;omega,?_⟩
  show IntKind.i64.wrap (1*v)<=v/\v<=IntKind.i64.wrap (1*v)
  rw [Int.one_mul,IntWalk.i64_in _ (by omega)]
  exact ⟨Int.le_refl _,Int.le_refl _⟩
theorem aggOk_add {a:AggT} {v:Int} (ha:AggOkP a) (hv : -9<=v/\v<=9) (hn:a.n<=999):AggOkP (aggAdd a v):=aggOk_both ha (aggOk_one hv) (by show a.n+1<=1000;omega)
theorem aggOk_fold:∀ (L:List AggT) (a:AggT),AggOkP a->(∀ b,b∈L->AggOkP b)->a.n+sumI (L.map (·.n))<=1000->AggOkP (L.foldl aggB a)/\(L.foldl aggB a).n=a.n+sumI (L.map (·.n))
  | [],a,ha,_,_=>⟨ha,by show a.n=a.n+0;omega⟩
  | b::L,a,ha,hb,hn=>by
    have hb0:=hb b (by simp)
    have e:sumI ((b::L).map (·.n))=b.n+sumI (L.map (·.n)):=rfl
    have hp:0<=sumI (L.map (·.n)):=by
      have:∀ M:List AggT,(∀ b,b∈M->AggOkP b)->0<=sumI (M.map (·.n)):=by
        intro M
        induction M with
        | nil=>intro _;exact Int.le_refl _
        | cons x M ih=>
          intro h
          have h1:=aggOk_n (h x (by simp))
          have h2:=ih λy hy=>h y (List.mem_cons_of_mem _ hy)
          show 0<=x.n+sumI (M.map (·.n))
          omega
      exact this L λy hy=>hb y (List.mem_cons_of_mem _ hy)
    have h1:=aggOk_n ha
    have h2:=aggOk_n hb0
    rw [e] at hn ⊢
    have en:=aggB_nn (a:=a) (b:=b) (by omega) (by omega)
    have:=aggOk_fold L (aggB a b) (aggOk_both ha hb0 (by omega)) (λc hc=>hb c (List.mem_cons_of_mem _ hc)) (by rw [en];omega)
    rw [List.foldl_cons]
    refine ⟨this.1,?_⟩
    rw [this.2,en];omega
theorem winFrom_nn {j:JobT} (hj:t9 j) {t:Int} (h0:0<=t):0<=winFrom j t/\1<=winStep j:=by
  unfold t9 at hj
  unfold winFrom winStep
  have c:t.tmod j.size<=t:=by
    rw [Int.tmod_eq_emod_of_nonneg h0]
    have:=Int.emod_add_mul_ediv t j.size
    have:=Int.mul_nonneg (show 0<=j.size by omega) (Int.ediv_nonneg h0 (show 0<=j.size by omega))
    omega
  refine ⟨?_,?_⟩<;>split<;>(try split)<;>omega
theorem winOk_of {w:WinT} (h:0<=w.s/\w.s<=60/\w.s<w.e/\w.e<=120):WinOkP w:=by
  unfold WinOkP
  rw [IntWalk.i64_in _ (by omega)]
  omega
theorem winOk_d {w:WinT} (h:WinOkP w):0<=w.s/\w.s<=60/\w.s<w.e/\w.e<=120:=by
  unfold WinOkP at h
  rw [IntWalk.i64_in _ (by omega)] at h
  omega
theorem winsL_ok {j:JobT} (hj:t9 j) {t:Int} (ht:0<=t/\t<=60) {w:WinT} (hw:w∈x1 j t):WinOkP w:=by
  obtain ⟨h1,h2,h3,i,h4⟩:=winsL_mem hw
  have hp:=winFrom_nn hj ht.1
  have:=Int.mul_nonneg (show 0<=winStep j by omega) (Int.natCast_nonneg i)
  unfold t9 at hj
  exact winOk_of ⟨by omega,by omega,by omega,by omega⟩
theorem slide_one {size step t:Int} (hs:1<=step):∀ (k:Nat) (f:Int),(f<=t->((slideF size step t k f).length:Int)*step<=t-f+step)/\(t<f->(slideF size step t k f).length=0)
  | 0,f=>⟨λh=>by show (0:Int)*step<=_;rw [Int.zero_mul];omega,λ_=>rfl⟩
  | k+1,f=>by
    obtain ⟨i1,i2⟩:=slide_one (size:=size) (t:=t) hs k (f+step)
    refine ⟨λh => ?_,λh => ?_⟩
    · unfold slideF
      rw [if_pos h,List.length_append,Int.natCast_add,Int.add_mul]
      have h1:(((if t<f+size then [(⟨f,f+size⟩:WinT)] else []).length:Nat):Int)*step<=step:=by
        split
        · show (1:Int)*step<=step
          rw [Int.one_mul];exact Int.le_refl _
        · show (0:Int)*step<=step
          rw [Int.zero_mul];omega
      by_cases h2:f+step<=t
      · have:=i1 h2;omega
      · have:=i2 (by omega)
        rw [this]
        have e:((0:Nat):Int)*step=0:=Int.zero_mul _
        rw [e];omega
    · unfold slideF
      rw [if_neg (by omega)];rfl
theorem slide_few {size step t:Int} (hs:1<=step) (hz:1<=size):∀ (k:Nat) (f:Int),((slideF size step t k f).length:Int)*step<=size-1+step
  | 0,f=>by show (0:Int)*step<=_;rw [Int.zero_mul];omega
  | k+1,f=>by
    by_cases h:f<=t
    · by_cases hc:t<f+size
      · have:=(slide_one (size:=size) hs (k+1) f).1 h;omega
      · have ih:=slide_few (t:=t) hs hz k (f+step)
        have e:slideF size step t (k+1) f=slideF size step t k (f+step):=by
          show (if f<=t then (if t<f+size then [(⟨f,f+size⟩:WinT)] else [])++slideF size step t k (f+step) else [])=_
          rw [if_pos h,if_neg hc];rfl
        rw [e];exact ih
    · have:=(slide_one (size:=size) (t:=t) hs (k+1) f).2 (by omega)
      rw [this]
      have e:((0:Nat):Int)*step=0:=Int.zero_mul _
      rw [e];omega
theorem winsL_len4 {j:JobT} (hj:t9 j) {t:Int} (ht:0<=t/\t<=60):(x1 j t).length<=4:=by
  have hj':=hj
  unfold t9 at hj
  by_cases h1:j.kind=1
  · rw [winsL_fixed h1 (by omega) ht.1 ht.2];exact (by decide:1<=4)
  · by_cases h3:j.kind=3
    · rw [winsL_sess h3 (by omega) ht.1 ht.2];exact (by decide:1<=4)
    · have h2:j.kind=2:=by omega
      have e:winStep j=j.step:=by unfold winStep;rw [if_neg h1,if_pos h2]
      have h:=slide_few (size:=j.size) (step:=j.step) (t:=t) (by omega) (by omega) 100 (winFrom j t)
      have h5:((x1 j t).length:Int)*j.step<=j.size-1+j.step:=by unfold x1;rw [e];exact h
      refine Nat.le_of_not_lt λhlt => ?_
      have h6:(5:Int)*j.step<=((x1 j t).length:Int)*j.step:=Int.mul_le_mul_of_nonneg_right (by omega) (by omega)
      omega
theorem tell_ok {j:JobT} {m:Int} {r:RowT} (hk:0<=r.key/\r.key<=3) (hw:WinOkP r.win) (ha:AggOkP r.all) (hf:AggOkP r.fresh) (h0:1<=r.fresh.n) (h1:r.fresh.n<=r.all.n) (hto:0<=r.told/\r.told<=1499) (hm:m<IntKind.i64.wrap (r.win.e+j.late))
    (ht:r.timely=true->0<r.told/\r.win.e<=m) (hn:r.timely=false->r.told=0):RowOkP j (tellS j m r).1 m/\∀ p,p∈(tellS j m r).2->PaneOkP p/\p.key=r.key:=by
  unfold tellS
  by_cases hme:m<r.win.e
  · rw [if_pos hme]
    have htf:r.timely=false:=by
      cases h:r.timely with
      | false=>rfl
      | true=>have:=ht h;omega
    refine ⟨⟨hk,hw,ha,hf,(show r.all.n≠0 by omega),h1,(show 0<=r.told/\r.told<=1500 by omega),hm,?_,?_,?_⟩,λp hp=>by simp at hp⟩
    · show r.timely=true↔r.win.e<=m
      rw [htf];constructor
      · intro h;cases h
      · intro h;omega
    · show 0<r.told↔r.win.e<=m
      have:=hn htf;omega
    · show r.fresh.n=0↔r.win.e<=m
      omega
  · rw [if_neg hme]
    have et:w64 (r.told+1)=r.told+1:=w64_id (by omega)
    refine ⟨⟨hk,hw,ha,aggOk_z,by show r.all.n≠0;omega,by show (0:Int)<=r.all.n;omega,?_,hm,?_,?_,?_⟩,λp hp => ?_⟩
    · show 0<=w64 (r.told+1)/\w64 (r.told+1)<=1500
      rw [et];omega
    · show true=true↔r.win.e<=m
      exact ⟨λ_=>by omega,λ_=>rfl⟩
    · show 0<w64 (r.told+1)↔r.win.e<=m
      rw [et];omega
    · show (0:Int)=0↔r.win.e<=m
      exact ⟨λ_=>by omega,λ_=>rfl⟩
    · simp only [List.mem_singleton] at hp
      subst hp
      refine ⟨⟨hk,hw,by show 0<=r.told/\r.told<=1500;omega,?_,?_⟩,rfl⟩
      · show AggOkP (if j.piece=true then r.fresh else r.all)
        split
        · exact hf
        · exact ha
      · have hag:0<(if j.piece=true then r.fresh else r.all).n:=by split<;>omega
        show (kindT r=1/\r.told=0/\0<_)\/(kindT r=2/\0<r.told/\0<_)\/(kindT r=3/\0<r.told/\_)
        unfold kindT
        cases h:r.timely with
        | false=>exact .inl ⟨by simp,hn h,hag⟩
        | true=>exact .inr (.inl ⟨by simp,(ht h).1,hag⟩)
theorem pw_rIns {S:RowT->RowT->Prop} {r:RowT}:∀ {l:List RowT},l.Pairwise S->(∀ q,q∈l->S r q/\S q r)->(rIns r l).Pairwise S
  | [],_,_=>by simp [rIns]
  | q::l,h,hn=>by
    have h':=h
    rw [List.pairwise_cons] at h
    show (if RA r q then r::q::l else q::rIns r l).Pairwise S
    split
    · rw [List.pairwise_cons]
      exact ⟨λx hx=>(hn x hx).1,h'⟩
    · rw [List.pairwise_cons]
      refine ⟨λx hx => ?_,pw_rIns h.2 λy hy=>hn y (List.mem_cons_of_mem _ hy)⟩
      rcases mem_rIns.1 hx with rfl|hx
      · exact (hn q (by simp)).2
      · exact h.1 x hx
theorem pw_rPut {S:RowT->RowT->Prop} {r:RowT} {l:List RowT} (h:l.Pairwise S) (hn:∀ q,q∈l->¬ IsR r.key r.win q->S r q/\S q r):(rPut r l).Pairwise S:=
  pw_rIns (List.Pairwise.filter _ h) λq hq=>hn q (mem_rOut.1 hq).1 (mem_rOut.1 hq).2
theorem touch_sym {a b:WinT} (h:TouchP a b):TouchP b a:=⟨h.2,h.1⟩
theorem getD_ok {j:JobT} {m k:Int} {w:WinT} {l:List RowT} (h:∀ r,r∈l->RowOkP j r m) {r0:RowT} (hr0:r0=(rFind k w l).getD (nrow k w)):(r0∈l/\RowOkP j r0 m)\/r0=nrow k w:=by
  rw [hr0]
  cases hf:rFind k w l with
  | none=>exact .inr rfl
  | some r=>exact .inl ⟨(rfind_mem hf).1,h r (rfind_mem hf).1⟩
theorem add_row_ok {j:JobT} {m k v:Int} {w:WinT} {r0:RowT} (hr:RowOkP j r0 m\/r0=nrow k w) (hkw:IsR k w r0) (hk:0<=k/\k<=3) (hv : -9<=v/\v<=9) (hw:WinOkP w) (hm:m<w64 (w.e+j.late)) (hn:r0.all.n<=999) (ht:r0.told<=1499) :
    RowOkP j (tellS j m (addR r0 v)).1 m/\(∀ p,p∈(tellS j m (addR r0 v)).2->PaneOkP p/\p.key=k)/\(tellS j m (addR r0 v)).1.all.n=r0.all.n+1/\(tellS j m (addR r0 v)).1.told<=r0.told+1:=by
  obtain ⟨ek,ew⟩:=isR_eq hkw
  have hb:AggOkP r0.all/\AggOkP r0.fresh/\r0.fresh.n<=r0.all.n/\0<=r0.told/\(r0.timely=true->0<r0.told/\r0.win.e<=m)/\(r0.timely=false->r0.told=0):=by
    rcases hr with h|h
    · obtain ⟨_,_,a1,a2,_,a3,a4,_,a5,a6,_⟩:=h
      refine ⟨a1,a2,a3,a4.1,λh=>⟨a6.2 (a5.1 h),a5.1 h⟩,λh => ?_⟩
      have h9:¬ r0.win.e<=m:=λh2=>by have:=a5.2 h2;rw [h] at this;cases this
      have:¬ 0<r0.told:=λh2=>h9 (a6.1 h2)
      omega
    · rw [h]
      exact ⟨aggOk_z,aggOk_z,Int.le_refl _,Int.le_refl _,(λh=>by cases h),(λ_=>rfl)⟩
  obtain ⟨a1,a2,a3,a4,a5,a6⟩:=hb
  have n1:=aggOk_n a1
  have n2:=aggOk_n a2
  have e1:(aggAdd r0.all v).n=r0.all.n+1:=add_n ⟨n1.1,by omega⟩
  have e2:(aggAdd r0.fresh v).n=r0.fresh.n+1:=add_n ⟨n2.1,by omega⟩
  have h:=tell_ok (j:=j) (m:=m) (r:=addR r0 v) (by show 0<=r0.key/\r0.key<=3;rw [ek];exact hk) (by show WinOkP r0.win;rw [ew];exact hw) (aggOk_add a1 hv hn) (aggOk_add a2 hv (by omega))
    (by show 1<=(aggAdd r0.fresh v).n;omega) (by show (aggAdd r0.fresh v).n<=(aggAdd r0.all v).n;omega) ⟨a4,ht⟩ (by show m<IntKind.i64.wrap (r0.win.e+j.late);rw [ew];exact hm) a5 a6
  refine ⟨h.1,λp hp=>⟨(h.2 p hp).1,(h.2 p hp).2.trans ek⟩,?_,?_⟩
  · rw [(tellS_all j m (addR r0 v)).1];exact e1
  · unfold tellS
    split
    · show r0.told<=r0.told+1
      omega
    · show w64 (r0.told+1)<=r0.told+1
      rw [w64_id (by omega)]
      exact Int.le_refl _
theorem put_ok {j:JobT} {m:Int} {r:RowT} {l:List RowT} (h:OkL j m l) (hr:RowOkP j r m) (ht:j.kind=3->∀ q,q∈l->¬ IsR r.key r.win q->q.key=r.key->¬ TouchP q.win r.win):OkL j m (rPut r l):=by
  refine ⟨λq hq => ?_,rise_rPut h.2.1,λh3=>pw_rPut (h.2.2 h3) λq hq hn=>⟨λhc => ?_,λhc => ?_⟩⟩
  · rcases mem_rPut.1 hq with rfl|⟨hq,_⟩
    · exact hr
    · exact h.1 q hq
  · exact ht h3 q hq hn hc.1.symm (touch_sym hc.2)
  · exact ht h3 q hq hn hc.1 hc.2
theorem into_ok {j:JobT} {m k v:Int} {w:WinT} {l:List RowT} {q:List RowT × List PaneT} {B T:Int} (h:OkL j m l) (hk:0<=k/\k<=3) (hv : -9<=v/\v<=9) (hw:WinOkP w) (hB:0<=B/\B<=999) (hT:0<=T/\T<=1499) (hb:∀ r,r∈l->r.all.n<=B/\r.told<=T)
    (ht:j.kind=3->∀ q,q∈l->¬ IsR k w q->q.key=k->¬ TouchP q.win w) (he:intoL j m k v w l=some q):OkL j m q.1/\(∀ r,r∈q.1->r.all.n<=B+1/\r.told<=T+1)/\∀ p,p∈q.2->PaneOkP p/\p.key=k:=by
  unfold intoL at he
  split at he
  · cases he
  · rename_i hm
    cases he
    obtain ⟨r0,hr0⟩:∃ r0,r0=(rFind k w l).getD (nrow k w):=⟨_,rfl⟩
    rw [<- hr0]
    have hkw:IsR k w r0:=by rw [hr0];exact getD_is
    have hok:=getD_ok h.1 hr0
    have hb0:r0.all.n<=B/\r0.told<=T:=by
      rcases hok with ⟨h1,_⟩|h1
      · exact hb r0 h1
      · rw [h1];exact ⟨hB.1,hT.1⟩
    obtain ⟨c1,c2,c3,c4⟩:=add_row_ok (v:=v) (hok.imp And.right id) hkw hk hv hw (by omega) (by omega) (by omega)
    obtain ⟨t1,t2,t3⟩:=tellS_all j m (addR r0 v)
    have ek:(tellS j m (addR r0 v)).1.key=k:=t2.trans (isR_eq hkw).1
    have ew:(tellS j m (addR r0 v)).1.win=w:=t3.trans (isR_eq hkw).2
    refine ⟨put_ok h c1 (by rw [ek,ew];exact ht),λr hr => ?_,c2⟩
    rcases mem_rPut.1 hr with rfl|⟨hr,_⟩
    · omega
    · have:=hb r hr;omega
theorem span_s:∀ (l:List RowT) (w:WinT),(spanL w l).s=w.s\/∃ r,r∈l/\(spanL w l).s=r.win.s
  | [],w=>.inl rfl
  | r::l,w=>by
    have e:spanL w (r::l)=spanL (winSpan w r.win) l:=rfl
    rw [e]
    rcases span_s l (winSpan w r.win) with h|⟨q,hq,h⟩
    · rw [h]
      by_cases c:(winSpan w r.win).s=w.s
      · exact .inl c
      · refine .inr ⟨r,by simp,?_⟩
        unfold winSpan at c ⊢
        simp only at c ⊢
        split at c<;>(try split)<;>first|omega | (exfalso;omega)
    · exact .inr ⟨q,List.mem_cons_of_mem _ hq,h⟩
theorem span_e:∀ (l:List RowT) (w:WinT),(spanL w l).e=w.e\/∃ r,r∈l/\(spanL w l).e=r.win.e
  | [],w=>.inl rfl
  | r::l,w=>by
    have e:spanL w (r::l)=spanL (winSpan w r.win) l:=rfl
    rw [e]
    rcases span_e l (winSpan w r.win) with h|⟨q,hq,h⟩
    · rw [h]
      by_cases c:(winSpan w r.win).e=w.e
      · exact .inl c
      · refine .inr ⟨r,by simp,?_⟩
        unfold winSpan at c ⊢
        simp only at c ⊢
        split at c<;>(try split)<;>first|omega | (exfalso;omega)
    · exact .inr ⟨q,List.mem_cons_of_mem _ hq,h⟩
theorem pw_all {α:Type} {R : α -> α->Prop} (hs:∀ x y,R x y->R y x) (hr:∀ x,R x x):∀ {l:List α},l.Pairwise R->∀ x,x∈l->∀ y,y∈l->R x y
  | [],_,x,hx,_,_=>absurd hx (by simp)
  | a::l,h,x,hx,y,hy=>by
    rw [List.pairwise_cons] at h
    rcases List.mem_cons.1 hx with e|hx<;>rcases List.mem_cons.1 hy with f|hy
    · rw [e,f];exact hr a
    · rw [e];exact h.1 y hy
    · rw [f];exact hs _ _ (h.1 x hx)
    · exact pw_all hs hr h.2 x hx y hy
theorem old_mem {k:Int} {w:WinT} {l:List RowT} {r:RowT} (h:r∈s6 k w l):r∈l/\r.key=k/\TouchP r.win w:=by
  unfold s6 at h
  rw [List.mem_filter] at h
  have h2:decide (r.key=k/\(r.win.s<w.e/\w.s<r.win.e))=true:=h.2
  have h3:=of_decide_eq_true h2
  exact ⟨h.1,h3⟩
theorem rest_mem {k:Int} {w:WinT} {l:List RowT} {r:RowT} (h:r∈restL k w l):r∈l/\¬ (r.key=k/\TouchP r.win w):=by
  unfold restL at h
  rw [List.mem_filter] at h
  have h2:(!decide (r.key=k/\(r.win.s<w.e/\w.s<r.win.e)))=true:=h.2
  simp only [Bool.not_eq_true',decide_eq_false_iff_not] at h2
  exact ⟨h.1,h2⟩
theorem old_in {k:Int} {w:WinT} {l:List RowT} {r:RowT} (h:r∈l) (hk:r.key=k) (ht:TouchP r.win w):r∈s6 k w l:=by
  unfold s6
  rw [List.mem_filter]
  exact ⟨h,by show decide (r.key=k/\(r.win.s<w.e/\w.s<r.win.e))=true;exact decide_eq_true (show r.key=k/\(r.win.s<w.e/\w.s<r.win.e) from ⟨hk,ht⟩)⟩
theorem span_ok {j:JobT} {m k:Int} {w:WinT} {l:List RowT} (h:∀ r,r∈l->RowOkP j r m) (hw:WinOkP w):WinOkP (spanL w (s6 k w l)):=by
  have hi:=span_in w (s6 k w l) w ⟨Int.le_refl _,Int.le_refl _⟩
  have hd:=winOk_d hw
  have h1:0<=(spanL w (s6 k w l)).s:=by
    rcases span_s (s6 k w l) w with e|⟨r,hr,e⟩
    · omega
    · have:=winOk_d (h r (old_mem hr).1).2.1;omega
  have h2:(spanL w (s6 k w l)).e<=120:=by
    rcases span_e (s6 k w l) w with e|⟨r,hr,e⟩
    · omega
    · have:=winOk_d (h r (old_mem hr).1).2.1;omega
  exact winOk_of ⟨h1,by omega,by omega,h2⟩
theorem rest_touch {j:JobT} {m k:Int} {w:WinT} {l:List RowT} (h:OkL j m l) (h3:j.kind=3) (hw:WinOkP w) {q:RowT} (hq:q∈l) (hqk:q.key=k) (hn:¬ TouchP q.win w):¬ TouchP q.win (spanL w (s6 k w l)):=by
  intro ht
  have hall:∀ x,x∈l->∀ y,y∈l->(tchR k w x≠tchR k w y->¬ (x.key=y.key/\TouchP x.win y.win)):=by
    refine pw_all (R:=λx y=>tchR k w x≠tchR k w y->¬ (x.key=y.key/\TouchP x.win y.win)) ?_ ?_ ?_
    · intro x y hxy hne hc
      exact hxy (λe=>hne e.symm) ⟨hc.1.symm,touch_sym hc.2⟩
    · intro x hne
      exact absurd rfl hne
    · exact List.Pairwise.imp (λ{a b} hxy (_:tchR k w a≠tchR k w b)=>hxy) (h.2.2 h3)
  have hno:∀ o,o∈s6 k w l->¬ TouchP q.win o.win:=λo ho hc=>by
    obtain ⟨o1,o2,o3⟩:=old_mem ho
    refine hall q hq o o1 ?_ ⟨hqk.trans o2.symm,hc⟩
    have e1:tchR k w q=false:=by show decide (q.key=k/\(q.win.s<w.e/\w.s<q.win.e))=false;exact decide_eq_false (λhc:q.key=k/\(q.win.s<w.e/\w.s<q.win.e)=>hn hc.2)
    have e2:tchR k w o=true:=by show decide (o.key=k/\(o.win.s<w.e/\w.s<o.win.e))=true;exact decide_eq_true (show o.key=k/\(o.win.s<w.e/\w.s<o.win.e) from ⟨o2,o3⟩)
    rw [e1,e2];simp
  have hd:=winOk_d hw
  have hqd:=winOk_d (h.1 q hq).2.1
  unfold TouchP at ht hn
  have hc:q.win.e<=w.s\/w.e<=q.win.s:=by omega
  rcases hc with hc|hc
  · rcases span_s (s6 k w l) w with e|⟨o,ho,e⟩
    · omega
    · have:=(old_mem ho).2.2
      refine hno o ho ?_
      unfold TouchP at *
      omega
  · rcases span_e (s6 k w l) w with e|⟨o,ho,e⟩
    · omega
    · have:=(old_mem ho).2.2
      refine hno o ho ?_
      unfold TouchP at *
      omega
theorem sumN_nn {l:List RowT} (h:∀ r,r∈l->0<=r.all.n):0<=sumN l:=by
  induction l with
  | nil=>exact Int.le_refl _
  | cons r l ih=>
    have h1:=h r (by simp)
    have h2:=ih λq hq=>h q (List.mem_cons_of_mem _ hq)
    rw [sumN_cons];omega
theorem sumN_mem {l:List RowT} (h:∀ r,r∈l->0<=r.all.n) {r:RowT} (hr:r∈l):r.all.n<=sumN l:=by
  induction l with
  | nil=>simp at hr
  | cons q l ih=>
    have h1:=h q (by simp)
    have h2:∀ x,x∈l->0<=x.all.n:=λx hx=>h x (List.mem_cons_of_mem _ hx)
    have h3:=sumN_nn h2
    rw [sumN_cons]
    rcases List.mem_cons.1 hr with e|hr
    · rw [e];omega
    · have:=ih h2 hr;omega
theorem rowOk_n {j:JobT} {m:Int} {r:RowT} (h:RowOkP j r m):1<=r.all.n/\r.all.n<=1000:=by
  have h1:=aggOk_n h.2.2.1
  have h2:=h.2.2.2.2.1
  omega
theorem sess_ok {j:JobT} {m k v:Int} {w:WinT} {l:List RowT} {q:List RowT × List PaneT} {T:Int} (h:OkL j m l) (h3:j.kind=3) (hk:0<=k/\k<=3) (hv : -9<=v/\v<=9) (hw:WinOkP w) (hS:sumN l<=990) (hT:0<=T/\T<=1499) (hb:∀ r,r∈l->r.told<=T)
    (he:sessL j m k v w l=some q):OkL j m q.1/\(∀ r,r∈q.1->r.told<=T+1)/\∀ p,p∈q.2->PaneOkP p/\p.key=k:=by
  have hnn:∀ r,r∈l->0<=r.all.n:=λr hr=>by have:=rowOk_n (h.1 r hr);omega
  have hsp:=span_ok (k:=k) h.1 hw
  unfold sessL at he
  split at he
  · cases he
  · rename_i hm
    split at he
    · rename_i h1
      obtain ⟨o,ho⟩:∃ o,s6 k w l=[o]:=by
        cases h:s6 k w l with
        | nil=>rw [h] at h1;cases h1
        | cons a r=>cases r with
          | nil=>exact ⟨a,rfl⟩
          | cons _ _=>rw [h] at h1;cases h1
      have hno:j.kind=3->∀ q,q∈l->¬ IsR k (spanL w (s6 k w l)) q->q.key=k->¬ TouchP q.win (spanL w (s6 k w l)):=λ_ q hq hn hqk=>by
        by_cases ht:TouchP q.win w
        · have hq2:=old_in hq hqk ht
          rw [ho,List.mem_singleton] at hq2
          exfalso
          refine hn ⟨hqk,?_⟩
          have h2:=h1
          rw [show oneB (spanL w (s6 k w l)) (s6 k w l)=oneB (spanL w (s6 k w l)) [o] by rw [ho]] at h2
          rw [hq2]
          exact of_decide_eq_true h2
        · exact rest_touch h h3 hw hq hqk ht
      obtain ⟨c1,c2,c3⟩:=into_ok (B:=990) h hk hv hsp (by omega) hT (λr hr=>⟨Int.le_trans (sumN_mem hnn hr) hS,hb r hr⟩) hno he
      exact ⟨c1,λr hr=>(c2 r hr).2,c3⟩
    · cases he
      obtain ⟨a0,ha0⟩:∃ a0:AggT,a0=((s6 k w l).map (·.all)).foldl aggB (agg1 v):=⟨_,rfl⟩
      rw [<- ha0]
      obtain ⟨r0,hr0⟩:∃ r0:RowT,r0=⟨k,spanL w (s6 k w l),a0,a0,0,false⟩:=⟨_,rfl⟩
      rw [<- hr0]
      have hsplit:=sumN_split k w l
      have hrn:0<=sumN (restL k w l):=sumN_nn λr hr=>hnn r (rest_mem hr).1
      have hon:0<=sumN (s6 k w l):=sumN_nn λr hr=>hnn r (old_mem hr).1
      have hsum:sumI (((s6 k w l).map (·.all)).map (·.n))=sumN (s6 k w l):=by rw [List.map_map];rfl
      have hf:=aggOk_fold ((s6 k w l).map (·.all)) (agg1 v) (aggOk_one hv) (λb hb=>by
        obtain ⟨r,hr,rfl⟩:=List.mem_map.1 hb
        exact (h.1 r (old_mem hr).1).2.2.1) (by rw [hsum];show (1:Int)+_<=_;omega)
      rw [hsum,<- ha0] at hf
      have hn0:a0.n=1+sumN (s6 k w l):=hf.2
      have hmm:m<w64 ((spanL w (s6 k w l)).e+j.late):=Int.not_le.1 hm
      have hr:=tell_ok (j:=j) (m:=m) (r:=r0) (by rw [hr0];exact hk) (by rw [hr0];exact hsp) (by rw [hr0];exact hf.1) (by rw [hr0];exact hf.1) (by rw [hr0];show 1<=a0.n;omega) (by rw [hr0];exact Int.le_refl _) (by rw [hr0];show (0:Int)<=0/\(0:Int)<=1499;decide) (by rw [hr0];exact hmm)
        (λh=>by rw [hr0] at h;cases h) (λ_=>by rw [hr0])
      obtain ⟨t1,t2,t3⟩:=tellS_all j m r0
      have ek:(tellS j m r0).1.key=k:=by rw [t2,hr0]
      have ew:(tellS j m r0).1.win=spanL w (s6 k w l):=by rw [t3,hr0]
      have hrest:OkL j m (restL k w l):=⟨λr hr=>h.1 r (rest_mem hr).1,rest_rise h.2.1,λh3=>List.Pairwise.filter _ (h.2.2 h3)⟩
      refine ⟨put_ok hrest hr.1 λ_ q hq _ hqk => ?_,λr hr => ?_,λp hp => ?_⟩
      · rw [ew]
        rw [ek] at hqk
        exact rest_touch h h3 hw (rest_mem hq).1 hqk λhc=>(rest_mem hq).2 ⟨hqk,hc⟩
      · rcases mem_rPut.1 hr with rfl|⟨hr,_⟩
        · unfold tellS
          split
          · rw [hr0];show (0:Int)<=T+1;omega
          · rw [hr0];show w64 (0+1)<=T+1
            rw [w64_id (by omega)];omega
        · have:=hb r (rest_mem hr).1;omega
      · rcases List.mem_append.1 hp with hp|hp
        · unfold goneL at hp
          obtain ⟨r,hr,rfl⟩:=List.mem_map.1 hp
          rw [List.mem_filter] at hr
          have hto:0<r.told:=of_decide_eq_true hr.2
          obtain ⟨o1,o2,_⟩:=old_mem hr.1
          have hro:=h.1 r o1
          exact ⟨⟨hro.1,hro.2.1,hro.2.2.2.2.2.2.1,aggOk_z,.inr (.inr ⟨rfl,hto,rfl⟩)⟩,o2⟩
        · have:=hr.2 p hp
          exact ⟨this.1,by rw [this.2,hr0]⟩
theorem takeW_ok {j:JobT} {m:Int} {x:ItmT} (hk:¬ j.kind=3) (hj:t9 j) (hx:RecP x):∀ (ws:List WinT) (l:List RowT) (a:List PaneT) (c:List LatT) (B T:Int),OkL j m l->(∀ w,w∈ws->WinOkP w)->0<=B->B+(ws.length:Int)<=1000->0<=T->T+(ws.length:Int)<=1500 ->
    (∀ r,r∈l->r.all.n<=B/\r.told<=T)->(∀ p,p∈a->PaneOkP p/\p.key=x.key) ->
    OkL j m (ws.foldl (takeS j m x) (l,a,c)).1/\(∀ r,r∈(ws.foldl (takeS j m x) (l,a,c)).1->r.told<=T+(ws.length:Int))/\∀ p,p∈(ws.foldl (takeS j m x) (l,a,c)).2.1->PaneOkP p/\p.key=x.key:=by
  intro ws
  induction ws with
  | nil=>intro l a c B T h _ _ _ _ _ hb hp;exact ⟨h,λr hr=>by have:=(hb r hr).2;show r.told<=T+0;omega,hp⟩
  | cons w ws ih=>
    intro l a c B T h hw hB hB2 hT hT2 hb hp
    have hg:((w::ws).length:Int)=(ws.length:Int)+1:=rfl
    rw [hg] at hB2 hT2 ⊢
    rw [List.foldl_cons]
    have hws:=λu hu=>hw u (List.mem_cons_of_mem _ hu)
    cases hq:stepT j m x w l with
    | none=>
      rw [takeS_none (a:=(l,a,c)) hq]
      obtain ⟨c1,c2,c3⟩:=ih l a (c ++ [(⟨x,w⟩:LatT)]) B T h hws hB (by omega) hT (by omega) hb hp
      exact ⟨c1,λr hr=>by have:=c2 r hr;omega,c3⟩
    | some q=>
      rw [takeS_some (a:=(l,a,c)) hq]
      have he:=hq
      unfold stepT at he
      rw [if_neg hk] at he
      have hx2:=hx.2
      have hx1:=hx.1
      unfold ItmOkP at hx2
      obtain ⟨c1,c2,c3⟩:=into_ok (B:=B) (T:=T) h (by omega) (by omega) (hw w (by simp)) (by omega) (by omega) hb (λh3=>absurd h3 hk) he
      obtain ⟨d1,d2,d3⟩:=ih q.1 (a++q.2) c (B+1) (T+1) c1 hws (by omega) (by omega) (by omega) (by omega) c2 (λp hp'=>by
        rcases List.mem_append.1 hp' with hp'|hp'
        · exact hp p hp'
        · exact c3 p hp')
      exact ⟨d1,λr hr=>by have:=d2 r hr;omega,d3⟩
theorem take_ok {j:JobT} {s:OpStT} {x:ItmT} {T:Int} (hok:OpOkP j s) (hx:RecP x) (h280:s.rows.n<=280) (hS:sumN (n6 s)<=900) (hT:0<=T/\T<=1400) (hb:∀ r,r∈n6 s->r.told<=T) :
    OkL j s.mark (w5 j s x).2.1/\(∀ r,r∈(w5 j s x).2.1->r.told<=T+4)/\sumN (w5 j s x).2.1<=sumN (n6 s)+4/\∀ p,p∈(w5 j s x).2.2.1->PaneOkP p/\p.key=x.key:=by
  have hsum:=take_sum hok hx h280
  have hlen:=winsL_len4 hok.1 (recP_t hx)
  have hol:=okL_of hok
  have ht:=recP_t hx
  have hxk:(0<=x.key/\x.key<=3)/\(-9<=x.v/\x.v<=9):=by
    have hx2:=hx.2
    have hx1:=hx.1
    unfold ItmOkP at hx2
    omega
  have hnn:∀ r,r∈n6 s->0<=r.all.n:=λr hr=>by have:=rowOk_n (hol.1 r hr);omega
  have key:OkL j s.mark (w5 j s x).2.1/\(∀ r,r∈(w5 j s x).2.1->r.told<=T+4)/\∀ p,p∈(w5 j s x).2.2.1->PaneOkP p/\p.key=x.key:=by
    unfold w5
    rw [if_pos ⟨hok,hx,h280⟩]
    show OkL j s.mark (takeL j s.mark x (x1 j x.t) (n6 s)).1/\(∀ r,r∈(takeL j s.mark x (x1 j x.t) (n6 s)).1->r.told<=T+4)/\∀ p,p∈(takeL j s.mark x (x1 j x.t) (n6 s)).2.1->PaneOkP p/\p.key=x.key
    unfold takeL
    by_cases hk:j.kind=3
    · have hj:=hok.1
      have hwo:=λw hw=>winsL_ok hj ht (w:=w) hw
      have hj':=hj
      unfold t9 at hj
      rw [winsL_sess hk (by omega) ht.1 ht.2] at hwo ⊢
      rw [List.foldl_cons,List.foldl_nil]
      cases hq:stepT j s.mark x ⟨x.t,x.t+j.size⟩ (n6 s) with
      | none=>
        rw [takeS_none (a:=(n6 s,[],[])) hq]
        exact ⟨hol,λr hr=>by have:=hb r hr;omega,λp hp=>absurd hp (by simp)⟩
      | some q=>
        rw [takeS_some (a:=(n6 s,[],[])) hq]
        have he:=hq
        unfold stepT at he
        rw [if_pos hk] at he
        obtain ⟨c1,c2,c3⟩:=sess_ok (T:=T) hol hk hxk.1 hxk.2 (hwo _ (by simp)) (by omega) (by omega) hb he
        exact ⟨c1,λr hr=>by have:=c2 r hr;omega,λp hp=>c3 p (by simpa using hp)⟩
    · have h:=takeW_ok hk hok.1 hx (m:=s.mark) (x1 j x.t) (n6 s) [] [] 900 T hol (λw hw=>winsL_ok hok.1 ht hw) (by omega) (by omega) hT.1 (by omega) (λr hr=>⟨Int.le_trans (sumN_mem hnn hr) hS,hb r hr⟩) (λp hp=>absurd hp (by simp))
      exact ⟨h.1,λr hr=>by have:=h.2.1 r hr;omega,h.2.2⟩
  exact ⟨key.1,key.2.1,by omega,key.2.2⟩
theorem markR_all (m:Int) (r:RowT):(markR m r).all=r.all/\(markR m r).key=r.key/\(markR m r).win=r.win:=by
  unfold markR;split<;>exact ⟨rfl,rfl,rfl⟩
def markL (j:JobT) (mk:Int) (l:List RowT) (m:Int):Int × List RowT × List PaneT:=
  if m<=mk then (mk,l,[]) else (m,keepL j.late m l,tellL j.piece m l)
theorem opMarkL_L {j:JobT} {s:OpStT} {m:Int} (hok:OpOkP j s) (hm:0<=m/\m<=1000):opMarkL j s m=markL j s.mark (n6 s) m:=by
  unfold opMarkL markL
  rw [if_neg (λh=>h ⟨hok,hm⟩)]
  split
  · rfl
  · have e:keepN (λi=>markR m (s.rows.g i)) (overB j.late m) s.rows.n=keepL j.late m (n6 s):=by
      unfold keepN keepL n6
      rw [List.map_map];rfl
    rw [e];rfl
theorem untold_zero {j:JobT} {r:RowT} {m:Int} (h:RowOkP j r m) (ht:r.timely=false):r.told=0:=by
  obtain ⟨_,_,_,_,_,_,a4,_,a5,a6,_⟩:=h
  have h9:¬ r.win.e<=m:=λh2=>by have:=a5.2 h2;rw [ht] at this;cases this
  have:¬ 0<r.told:=λh2=>h9 (a6.1 h2)
  omega
theorem due_iff {m:Int} {r:RowT}:dueB m r=true↔r.timely=false/\r.win.e<=m:=by
  unfold dueB
  simp
theorem mark_row_ok {j:JobT} {r:RowT} {m0 m:Int} (h:RowOkP j r m0) (hm:m0<m) (ho:overB j.late m r=false):RowOkP j (markR m r) m/\(markR m r).told<=r.told+1:=by
  have ho':m<w64 (r.win.e+j.late):=by
    unfold overB at ho
    have:=of_decide_eq_false ho
    omega
  have h':=h
  obtain ⟨b1,b2,b3,b4,b5,b6,a4,a7,a5,a6,a8⟩:=h
  unfold markR
  cases hd:dueB m r with
  | true=>
    rw [if_pos rfl]
    obtain ⟨d1,d2⟩:=due_iff.1 hd
    have h0:=untold_zero h' d1
    have et:w64 (r.told+1)=1:=by rw [h0];exact w64_id (by omega)
    refine ⟨⟨b1,b2,b3,aggOk_z,b5,?_,?_,ho',?_,?_,?_⟩,?_⟩
    · show (0:Int)<=r.all.n
      exact (aggOk_n b3).1
    · show 0<=w64 (r.told+1)/\w64 (r.told+1)<=1500
      rw [et];omega
    · show true=true↔r.win.e<=m
      exact ⟨λ_=>d2,λ_=>rfl⟩
    · show 0<w64 (r.told+1)↔r.win.e<=m
      rw [et];exact ⟨λ_=>d2,λ_=>by decide⟩
    · show (0:Int)=0↔r.win.e<=m
      exact ⟨λ_=>d2,λ_=>rfl⟩
    · show w64 (r.told+1)<=r.told+1
      rw [et];omega
  | false=>
    rw [if_neg (by simp)]
    have hn:r.win.e<=m0↔r.win.e<=m:=by
      constructor
      · intro h;omega
      · intro h
        refine a5.1 ?_
        cases ht:r.timely with
        | true=>rfl
        | false=>rw [due_iff.2 ⟨ht,h⟩] at hd;cases hd
    refine ⟨⟨b1,b2,b3,b4,b5,b6,a4,ho',a5.trans hn,a6.trans hn,a8.trans hn⟩,by omega⟩
theorem keepL_mem {late m:Int} {l:List RowT} {r:RowT}:r∈keepL late m l ↔ ∃ q,q∈l/\overB late m q=false/\r=markR m q:=by
  unfold keepL
  rw [List.mem_filter,List.mem_map]
  constructor
  · rintro ⟨⟨q,hq,rfl⟩,h2⟩
    rw [overB_mark] at h2
    exact ⟨q,hq,by simpa using h2,rfl⟩
  · rintro ⟨q,hq,h,rfl⟩
    exact ⟨⟨q,hq,rfl⟩,by rw [overB_mark,h];rfl⟩
theorem mark_okL {j:JobT} {mk m T:Int} {l:List RowT} (h:OkL j mk l) (hm:mk<m) (hb:∀ r,r∈l->r.told<=T):OkL j m (keepL j.late m l)/\(∀ r,r∈keepL j.late m l->r.told<=T+1):=by
  have hpw:∀ {S:RowT->RowT->Prop},(∀ a b,S a b->S (markR m a) (markR m b))->l.Pairwise S->(keepL j.late m l).Pairwise S:=λ{S} hs hp=>by
    unfold keepL
    refine List.Pairwise.filter _ ?_
    rw [List.pairwise_map]
    exact List.Pairwise.imp (λ{a b} hab=>hs a b hab) hp
  refine ⟨⟨λr hr => ?_,?_,λh3 => ?_⟩,λr hr => ?_⟩
  · obtain ⟨q,hq,ho,rfl⟩:=keepL_mem.1 hr
    exact (mark_row_ok (h.1 q hq) hm ho).1
  · refine hpw (λa b hab => ?_) h.2.1
    unfold RA at *
    rw [(markR_all m a).2.1,(markR_all m a).2.2,(markR_all m b).2.1,(markR_all m b).2.2]
    exact hab
  · refine hpw (λa b hab => ?_) (h.2.2 h3)
    rw [(markR_all m a).2.1,(markR_all m a).2.2,(markR_all m b).2.1,(markR_all m b).2.2]
    exact hab
  · obtain ⟨q,hq,ho,rfl⟩:=keepL_mem.1 hr
    have:=(mark_row_ok (h.1 q hq) hm ho).2
    have:=hb q hq
    omega
theorem tell_pane_ok {j:JobT} {mk m:Int} {l:List RowT} (h:∀ r,r∈l->RowOkP j r mk) {p:PaneT} (hp:p∈tellL j.piece m l):PaneOkP p:=by
  unfold tellL at hp
  obtain ⟨r,hr,rfl⟩:=List.mem_map.1 hp
  rw [List.mem_filter] at hr
  have hro:=h r hr.1
  obtain ⟨d1,d2⟩:=due_iff.1 hr.2
  have h0:=untold_zero hro d1
  obtain ⟨b1,b2,b3,b4,b5,b6,a4,a7,a5,a6,a8⟩:=hro
  have n3:=aggOk_n b3
  have n4:=aggOk_n b4
  have hne:¬ r.win.e<=mk:=λh2=>by have:=a5.2 h2;rw [d1] at this;cases this
  have hf:r.fresh.n≠0:=λh2=>hne (a8.1 h2)
  refine ⟨b1,b2,a4,?_,.inl ⟨rfl,h0,?_⟩⟩
  · show AggOkP (if j.piece=true then r.fresh else r.all)
    split
    · exact b4
    · exact b3
  · show 0<(if j.piece=true then r.fresh else r.all).n
    split<;>omega
theorem sumN_keep (late m:Int):∀ (l:List RowT),(∀ r,r∈l->0<=r.all.n)->sumN (keepL late m l)<=sumN l
  | [],_=>Int.le_refl _
  | r::l,h=>by
    have h1:=h r (by simp)
    have ih:=sumN_keep late m l λq hq=>h q (List.mem_cons_of_mem _ hq)
    have e:keepL late m (r::l)=if overB late m r=true then keepL late m l else markR m r::keepL late m l:=by
      unfold keepL
      rw [List.map_cons,List.filter_cons,overB_mark]
      cases overB late m r<;>simp
    rw [e,sumN_cons]
    split
    · omega
    · rw [sumN_cons,(markR_all m r).1];omega
theorem mark_ok {j:JobT} {s:OpStT} {m T:Int} (hok:OpOkP j s) (hm:0<=m/\m<=1000) (hT:0<=T) (hb:∀ r,r∈n6 s->r.told<=T) :
    s.mark<=(opMarkL j s m).1/\(opMarkL j s m).1<=1000/\OkL j (opMarkL j s m).1 (opMarkL j s m).2.1/\(∀ r,r∈(opMarkL j s m).2.1->r.told<=T+1)/\sumN (opMarkL j s m).2.1<=sumN (n6 s)/\∀ p,p∈(opMarkL j s m).2.2->PaneOkP p:=by
  rw [opMarkL_L hok hm]
  have hol:=okL_of hok
  have hmk:=hok.2.1
  unfold markL
  split
  · exact ⟨Int.le_refl _,hmk.2,hol,λr hr=>by have:=hb r hr;omega,Int.le_refl _,λp hp=>absurd hp (by simp)⟩
  · have h:=mark_okL hol (m:=m) (by omega) hb
    refine ⟨by show s.mark<=m;omega,hm.2,h.1,h.2,sumN_keep _ _ _ λr hr => ?_,λp hp=>tell_pane_ok hol.1 hp⟩
    have:=rowOk_n (hol.1 r hr);omega
def Bd (B:Int) (l:List RowT):Prop:=sumN l<=B/\∀ r,r∈l->0<=r.all.n/\r.told<=B
theorem bd_nil {B:Int} (h:0<=B):Bd B []:=⟨h,λr hr=>absurd hr (by simp)⟩
theorem bd_mono {B C:Int} {l:List RowT} (h:Bd B l) (hc:B<=C):Bd C l:=⟨Int.le_trans h.1 hc,λr hr=>⟨(h.2 r hr).1,Int.le_trans (h.2 r hr).2 hc⟩⟩
theorem opTakeL_bad {j:JobT} {s:OpStT} {x:ItmT} (h:¬ (OpOkP j s/\RecP x/\s.rows.n<=280)):w5 j s x=(0,[],[],[]):=by
  unfold w5;rw [if_neg h]
theorem bd_take {j:JobT} {s:OpStT} {x:ItmT} {B:Int} (h:Bd B (n6 s)) (hB:0<=B/\B<=880):Bd (B+4) (w5 j s x).2.1:=by
  by_cases hc:OpOkP j s/\RecP x/\s.rows.n<=280
  · obtain ⟨h1,h2,h3,_⟩:=take_ok (T:=B) hc.1 hc.2.1 hc.2.2 (by have:=h.1;omega) (by omega) λr hr=>(h.2 r hr).2
    refine ⟨by have:=h.1;omega,λr hr=>⟨?_,h2 r hr⟩⟩
    have:=rowOk_n (h1.1 r hr)
    omega
  · rw [opTakeL_bad hc]
    exact bd_nil (by omega)
theorem sumN_rows {j:JobT} {m:Int}:∀ {l:List RowT},(∀ r,r∈l->RowOkP j r m)->(l.length:Int)<=sumN l
  | [],_=>Int.le_refl _
  | r::l,h=>by
    have h1:=rowOk_n (h r (by simp))
    have h2:=sumN_rows λq hq=>h q (List.mem_cons_of_mem _ hq)
    rw [sumN_cons,List.length_cons];omega
theorem bd_rows {j:JobT} {s:OpStT} {B:Int} (hok:OpOkP j s) (h:Bd B (n6 s)):(s.rows.n:Int)<=B:=by
  have h1:=sumN_rows (okL_of hok).1
  have e:(n6 s).length=s.rows.n:=by unfold n6;simp
  rw [e] at h1
  have:=h.1
  omega
theorem bd_lst {B:Int} {l:List RowT} {n:Nat} {G:Nat->RowT} {mk:Int} (h:Bd B l) (hL:Lst u6 l n G) (hn:n<=maxLen):Bd B (n6 ⟨mk,⟨n,G,hn⟩⟩):=by
  rw [rowsL_lst hL hn];exact h
theorem take_stays {j:JobT} {s:OpStT} {m:ItmT} {x:Int × List RowT × List PaneT × List LatT} {B:Int} (hx:x=w5 j s m) (hok:OpOkP j s) (hr:RecP m) (hB:0<=B/\B<=270) (hb:Bd B (n6 s)) {k:Nat} {G:Nat->RowT} (hG:Lst u6 x.2.1 k G) (hkL:k<=maxLen) :
    OpOkP j ⟨x.1,⟨k,G,hkL⟩⟩/\x.1=s.mark/\Bd (B+4) (n6 ⟨x.1,⟨k,G,hkL⟩⟩)/\(∀ p,p∈x.2.2.1->PaneOkP p/\p.key=m.key)/\x.2=takeL j s.mark m (x1 j m.t) (n6 s):=by
  have hrows:=bd_rows hok hb
  have h280:s.rows.n<=280:=by omega
  obtain ⟨h1,h2,h3,h4⟩:=take_ok (T:=B) hok hr h280 (by have:=hb.1;omega) (by omega) λr hr=>(hb.2 r hr).2
  have e1:x.1=s.mark:=by rw [hx];unfold w5;rw [if_pos ⟨hok,hr,h280⟩]
  have e2:x.2=takeL j s.mark m (x1 j m.t) (n6 s):=by rw [hx];unfold w5;rw [if_pos ⟨hok,hr,h280⟩]
  have hbd:Bd (B+4) x.2.1:=by rw [hx];exact bd_take hb (by omega)
  rw [<- hx] at h1 h4
  have hlen:(x.2.1.length:Int)<=B+4:=Int.le_trans (sumN_rows h1.1) hbd.1
  have hk:k<=300:=by have:=hG.1;omega
  refine ⟨?_,e1,bd_lst hbd hG hkL,h4,e2⟩
  have:=ok_of (mk:=x.1) hG hkL hok.1 (by rw [e1];exact hok.2.1) hk (by rw [e1];exact h1)
  exact this
theorem mark_stays {j:JobT} {s:OpStT} {m:Int} {x:Int × List RowT × List PaneT} (hx:x=opMarkL j s m) (hok:OpOkP j s) (hm:0<=m/\m<=1000) {k:Nat} {G:Nat->RowT} (hG:Lst u6 x.2.1 k G) (hkL:k<=maxLen) :
    OpOkP j ⟨x.1,⟨k,G,hkL⟩⟩/\s.mark<=x.1/\(∀ p,p∈x.2.2->PaneOkP p):=by
  have hol:=okL_of hok
  obtain ⟨h1,h2,h3,_,_,h4⟩:=mark_ok (T:=1500) hok hm (by decide) λr hr=>(hol.1 r hr).2.2.2.2.2.2.1.2
  have hlen:=(opMarkL_len j s m).1
  rw [<- hx] at h1 h2 h3 h4 hlen
  have h0:=hok.2.1
  have h300:=hok.2.2.1
  exact ⟨ok_of hG hkL hok.1 (by omega) (by rw [hG.1];omega) h3,h1,h4⟩
def zItm:ItmT:=⟨0,0,0,0,0⟩
def tskT (s:OpStT) (ms:Sl Int):TskT:=⟨⟨ms.n,λi=>⟨⟨0,λ_=>zItm,Nat.zero_le _⟩,ms.g i,false⟩,ms.hn⟩,s,0,⟨0,⟨0,λ_=>zPan,Nat.zero_le _⟩,⟨0,λ_=>zLat,Nat.zero_le _⟩⟩⟩
theorem le_tskT (s:OpStT) (ms:Sl Int):ALe (.one (.agg [.d (.sl 3 ms.n λi=>[.v c9,eI (ms.g i),eB false]),.d (eI s.mark),.d (.sl 13 s.rows.n λi=>i6 (s.rows.g i)),.d (eI 0),.d (eI 0),.d (.v c9),.d (.v c9)])) (.one (xd (v9 (tskT s ms)))):=
  ⟨dle_sl λi _=>⟨f8 5 _,DLe.rfl,DLe.rfl,trivial⟩,DLe.rfl,DLe.rfl,DLe.rfl,DLe.rfl,f8 9 _,f8 7 _,trivial⟩
theorem cnt_none (n:Nat):cntB (λ_=>false) n=0:=by
  induction n with
  | zero=>rfl
  | succ n ih=>show cntB (λ_=>false) n+_=0;rw [ih];rfl
theorem tskT_held (s:OpStT) (ms:Sl Int):cntB (λi=>((tskT s ms).ins.g i).held) (tskT s ms).ins.n=0:=cnt_none _
theorem tskT_ok {j:JobT} {s:OpStT} {ms:Sl Int} (hok:OpOkP j s) (hm:MarksP j ms):s9 j (tskT s ms)↔LowP 1000 ms.n ms.g s.mark:=by
  have hj:=hok.1
  unfold t9 at hj
  have h1:=hm.1
  constructor
  · intro h;exact h.2.2.2.2.2.2.2
  · intro h
    refine ⟨hok,hm.1,⟨Int.le_refl _,(by decide:(0:Int)<=900)⟩,⟨⟨Int.le_refl _,(by decide:(0:Int)<=900)⟩,(by decide:((0:Nat):Int)<=1500),(by decide:((0:Nat):Int)<=1500),λi hi=>absurd hi (Nat.not_lt_zero i),λi hi=>absurd hi (Nat.not_lt_zero i)⟩,rfl,λi hi=>⟨?_,hm.2 i hi,λk hk=>absurd hk (Nat.not_lt_zero k)⟩,?_,h⟩
    · show ((0:Nat):Int)<=j.room
      have:1<=j.room:=by omega
      exact Int.le_trans (by decide) this
    · rw [tskT_held]
      show 0<ms.n
      omega
theorem close_ownE {so:Nat->Nat × HO} {l v sz n n':Nat} {rw rw':Nat->List DV} {r:List CV} {s:List DV} {ls:List (Nat × Nat)} (hn:n'=n) (ho:so l=(v,.arr sz n' rw')) (he:∀ i,i<n->rw' i=rw i) (hf:FlatR n rw) (h:closeOk so r s ls) :
    closeOk so (.own l 0 n' v::r) (.sl sz n rw::s) ((l,v)::ls):=by
  subst hn
  exact close_own ho he hf h
def putI (c:TskInT) (x:ItmT) (h:c.queue.n+1<=maxLen):TskInT:=⟨⟨c.queue.n+1,λp=>if p<c.queue.n then c.queue.g p else x,h⟩,c.mark,c.held⟩
def putT (t:TskT) (k:Nat) (x:ItmT) (h:(t.ins.g k).queue.n+1<=maxLen):TskT:=⟨⟨t.ins.n,λi=>if i=k then putI (t.ins.g k) x h else t.ins.g i,t.ins.hn⟩,t.op,t.wall,t.pend⟩
end Go.Rk
namespace Go.Rk
set_option linter.unusedSimpArgs false
set_option linter.unusedVariables false
open Go.Proofs
set_option maxRecDepth 100000
set_option maxHeartbeats 2000000
theorem c_sTxnC (x:TxnT) (hb:bdTxn x):d7 Tryz.prog 135 [xd (eTxn x)] ⟨.one (.agg [.d (eI x.n),.own 9 x.panes.n λi=>m6 (x.panes.g i),.own 7 x.lates.n λi=>eLat (x.lates.g i)]),[none]⟩:=by
  have hb1:x.panes.n<=1048576:=hb.1
  have hb2:x.lates.n<=1048576:=hb.2
  refine d5 (H:=[]) (EX:=EXA) l6 e8 Tryz.func135 rfl (by kernel_rfl) (by decide) ?_
  generalize hA:real=A
  generalize hM:d4 Tryz.prog=M
  cbv
  repeat' first|apply And.intro|exact True.intro|with_reducible rfl|exact b7 hA rfl|apply c8 hA<;>intro _|exact c6 hA id | (subst hA;exact λh=>h) | (refine c5 hA ?_;decide +kernel)|exact room_z hA (Nat.le_trans hb1 (by decide)) (by decide)|exact f6 hA (Nat.le_trans hb1 (by decide)) (by decide)|exact w9 hA (Nat.le_trans hb1 (by decide)) (by decide)|exact room_z hA (Nat.le_trans hb2 (by decide)) (by decide)|exact f6 hA (Nat.le_trans hb2 (by decide)) (by decide)|exact w9 hA (Nat.le_trans hb2 (by decide)) (by decide)|fail
  all_goals (subst hA
             have e0:∀ k,real.add 0 k=k:=λk=>Nat.zero_add k
             have ea:∀ (z row:Nat->List DV),real.app 0 z row=row:=λz row=>funext λi=>by
               show (if i<0 then z i else row (i-0))=row i
               rw [if_neg (Nat.not_lt_zero i)];rfl
             simp only [e0,ea]
             first|done|rfl)
def st_stc (t:TskT) (i:Nat):St:=⟨[(4,.c (.d (eI i))),(1,.c (.bp 64 1 0)),(3,.c (.bp 192 1 0)),(2,.c (.bp 128 1 0))],[(192,1,.box [.nown 8000 i 1,.d (eI t.op.mark),.own 513 0 t.op.rows.n 1,.d (eI t.wall),.d (eI t.pend.n),.own 833 0 t.pend.panes.n 1,.own 834 0 t.pend.lates.n 1]),(513,1,.arr 13 t.op.rows.n λi=>i6 (t.op.rows.g i)),(833,1,.arr 9 t.pend.panes.n λi=>m6 (t.pend.panes.g i)),(834,1,.arr 7 t.pend.lates.n λi=>eLat (t.pend.lates.g i)),(8000,1,.nest 3 i (λj=>l8 (t.ins.g j)) none),(128,1,.box [.d (.v c9),.d (eI 0),.d (.v c9),.d (eI 0),.d (eI 0),.d (.v c9),.d (.v c9)]),(64,1,.box ((v9 t).map .d))]⟩
theorem c_sTskC (t:TskT) (hb:bdTsk t):d7 Tryz.prog 119 [xd (v9 t)] ⟨.one (.agg [.nown 3 t.ins.n λi=>l8 (t.ins.g i),.d (eI t.op.mark),.own 13 t.op.rows.n λi=>i6 (t.op.rows.g i),.d (eI t.wall),.d (eI t.pend.n),.own 9 t.pend.panes.n λi=>m6 (t.pend.panes.g i),.own 7 t.pend.lates.n λi=>eLat (t.pend.lates.g i)]),[none]⟩:=by
  have hbr:t.op.rows.n<=1048576:=hb.2.2.1
  have hn:t.ins.n<=1048576:=hb.1
  have hn2:t.ins.n<=maxLen:=t.ins.hn
  have c1:=c_sCopy t.op.mark t.op.rows.n (Nat.le_trans hbr (by decide)) t.op.rows.g
  have c2:=c_sTxnC t.pend hb.2.2.2
  refine d5 (H:=[]) (EX:=EXA) l6 e8 Tryz.func119 rfl (by kernel_rfl) (by decide) ?_
  generalize hA:real=A
  generalize hM:d4 Tryz.prog=M
  cbv
  repeat' first|apply And.intro|exact True.intro|with_reducible rfl|exact b7 hA rfl|apply c8 hA<;>intro _|exact c6 hA id | (subst hA;exact λh=>h) | (refine c5 hA ?_;decide +kernel) | (refine f7 hA hM _ c1 ?_;cbv) | (refine f7 hA hM _ c2 ?_;cbv) | (refine i9 hA hM _ c1 (by (subst hA;first|rfl | (simp only [p6];done) | (simp only [p6];rfl))) ?_;cbv) | (refine i9 hA hM _ c2 (by (subst hA;first|rfl | (simp only [p6];done) | (simp only [p6];rfl))) ?_;cbv)|fail
  refine i7 hA (α := { i:Nat // i<=t.ins.n }) (λx=>st_stc t x.1) (λx=>t.ins.n-x.1) ⟨0,Nat.zero_le _⟩ ?_ ?_
  · refine cov_promCN 192 8000 1 3 (λj=>l8 (t.ins.g j)) [] [.d (eI t.op.mark),.own 513 0 t.op.rows.n 1,.d (eI t.wall),.d (eI t.pend.n),.own 833 0 t.pend.panes.n 1,.own 834 0 t.pend.lates.n 1] rfl rfl rfl (c7 ?_ ?_ ?_)
    iterate 3 focus (subst hA;repeat' first|exact True.intro|exact rfl |  apply And.intro | (intro _ _;rfl) | (intro _ _ _;rfl) | (intro q hq;exact absurd hq (Nat.not_lt_zero q))|exact .inr (b8 rfl)|exact .inl rfl|exact .inr (Nat.le_refl _))
  rintro ⟨i,hi⟩
  have hi:i<=t.ins.n:=hi
  cbv
  repeat' first|apply And.intro|exact True.intro|with_reducible rfl|exact b7 hA rfl|apply c8 hA<;>intro _|exact c6 hA id | (subst hA;exact λh=>h) | (refine c5 hA ?_;decide +kernel) | (refine d8 hA λ_ => ?_;have hlt9:i<t.ins.n:=(by first|exact f9 hA (by assumption)|exact l5 hA (by assumption));exact ⟨Int.natCast_nonneg i,Int.ofNat_lt.2 hlt9⟩) | (refine inb_lt hA ?_;exact (by first|exact f9 hA (by assumption)|exact l5 hA (by assumption))) | (refine f6 hA (Nat.le_trans (Nat.succ_le_of_lt (by first|exact f9 hA (by assumption)|exact l5 hA (by assumption))) (Nat.le_trans hn (by decide))) (by decide)) | (refine w9 hA (Nat.le_trans (Nat.succ_le_of_lt (by first|exact f9 hA (by assumption)|exact l5 hA (by assumption))) (Nat.le_trans hn (by decide))) (by decide))|exact f6 hA (by omega) (by decide)|exact w9 hA (by omega) (by decide) | (have hl9:i<t.ins.n:=(by first|exact f9 hA (by assumption)|exact l5 hA (by assumption));subst hA;exact room_z rfl (Nat.le_trans (hb.2.1 i hl9) (by decide)) (by decide)) | (have hl9:i<t.ins.n:=(by first|exact f9 hA (by assumption)|exact l5 hA (by assumption));subst hA;exact f6 rfl (Nat.le_trans (hb.2.1 i hl9) (by decide)) (by decide)) | (have hl9:i<t.ins.n:=(by first|exact f9 hA (by assumption)|exact l5 hA (by assumption));subst hA;exact w9 rfl (Nat.le_trans (hb.2.1 i hl9) (by decide)) (by decide)) | (refine b7 hA ?_;subst hA;rfl)|fail
  · rename_i hlt
    have hlt':i<t.ins.n:=(by first|exact f9 hA (by assumption)|exact l5 hA (by assumption))
    refine ⟨⟨i+1,hlt'⟩,by simp only;omega,cov_close 8000 (λj=>l8 (t.ins.g j)) (l8 (t.ins.g i)) [(1856,2)] rfl ?_ rfl rfl (λk _ _=>rfl) (c7 ?_ ?_ ?_)⟩
    · subst hA;exact (close_ownE (Nat.zero_add _) rfl (λq _=>(show (if q<0 then _ else n9 ((t.ins.g i).queue.g (q-0)))=_ by rw [if_neg (Nat.not_lt_zero q)];rfl)) (flatR λ_=>flat_Itm _) (close_v (close_v close_end)))
    iterate 3 focus (subst hA;repeat' first|exact True.intro|exact rfl|exact congrArg (λx=>DV.v (.int .i64 x)) (o0 hlt' hn2) |  apply And.intro | (intro _ _;rfl) | (intro _ _ _;rfl) | (intro q hq;exact absurd hq (Nat.not_lt_zero q))|exact .inr (b8 rfl)|exact .inl rfl|exact .inr (Nat.le_refl _))
  · rename_i hge
    have hin:i=t.ins.n:=by
      subst hA
      have:¬ ((i:Int)<(t.ins.n:Int)):=of_decide_eq_false hge
      omega
    subst hin
    rfl
set_option maxHeartbeats 1000000
def st_snew (j:JobT) (mk:Int) (rn:Nat) (rg:Nat->RowT) (n:Nat) (ms:Nat->Int) (i:Nat) (R:Nat->Int):St:=⟨[(8,.c (.d (eI i))),(2,.c (.d (.sl 1 n λi=>[eI (ms i)]))),(3,.c (.bp 192 1 0)),(7,.c (.bp 448 1 0)),(6,.c (.bp 384 1 0))],[(192,1,.box ((u7 j).map .d)),(2880,1,.arr 3 i λq=>[.v c9,eI (R q),eB false]),(448,1,.box [.own 2880 0 i 1,.d (eI mk),.own 1409 0 rn 1,.d (eI 0),.d (eI 0),.d (.v c9),.d (.v c9)]),(1409,1,.arr 13 rn λq=>i6 (rg q)),(384,1,.box [.d (.v c9),.d (eI 0),.d (.v c9),.d (eI 0),.d (eI 0),.d (.v c9),.d (.v c9)])]⟩
theorem c_sTskNew_ok (j:JobT) (s:OpStT) (hn:s.rows.n<=1080000) (ms:Sl Int) (h:OpOkP j s/\MarksP j ms):d7 Tryz.prog 107 [xd (u7 j),.agg [.d (eI s.mark),.d (.sl 13 s.rows.n λi=>i6 (s.rows.g i))],.c (.d (.sl 1 ms.n λi=>[eI (ms.g i)]))] ⟨.one (.agg [.own 3 ms.n λi=>[.v c9,eI (ms.g i),eB false],.d (eI s.mark),.own 13 s.rows.n λi=>i6 (s.rows.g i),.d (eI 0),.d (eI 0),.d (.v c9),.d (.v c9)]),[none,none,none]⟩:=by
  obtain ⟨bo,hbo,hO⟩:=c_sOpOk j s
  have cC:=c_sCopy s.mark s.rows.n hn s.rows.g
  have hmL:=ms.hn
  refine d5 (H:=[10]) (EX:=EXA) l6 e8 Tryz.func107 rfl (by kernel_rfl) (by decide) ?_
  generalize hA:real=A
  generalize hM:d4 Tryz.prog=M
  cbv
  have hgd:∀ {A:Ar},real=A->A.bite (A.bnot bo) true (A.cmp .neq (A.int ms.n) j.srcs)=false->OpOkP j s/\(ms.n:Int)=j.srcs:=λhA h=>by
    subst hA
    have h:(bif (!bo) then true else ((ms.n:Int) != j.srcs))=false:=h
    cases h1:bo with
    | false=>rw [h1] at h;cases h
    | true=>rw [h1] at h;exact ⟨hbo.1 h1,by simpa using h⟩
  have hbd:∀ {A:Ar},real=A->A.bite (A.bnot bo) true (A.cmp .neq (A.int ms.n) j.srcs)=true->False:=λhA h9=>by
    subst hA
    have h9:(bif (!bo) then true else ((ms.n:Int) != j.srcs))=true:=h9
    rw [hbo.2 h.1,h.2.1] at h9
    simp at h9
  repeat' first|apply And.intro|exact True.intro|with_reducible rfl|exact b7 hA rfl|apply c8 hA<;>intro _|exact c6 hA id | (subst hA;exact λh=>h) | (refine c5 hA ?_;decide +kernel) | (refine f7 hA hM _ hO ?_;cbv) | (refine f7 hA hM _ cC ?_;cbv) | (refine (hbd hA ?_).elim;assumption)|fail
  have hms:=h.2.1
  have hj1:=h.1.1.1
  have hsm:ms.n<=3:=by omega
  refine i7 hA (α := { y:Nat × (Nat->Int) // y.1<=ms.n/\(∀ q,q<y.1->y.2 q=ms.g q) }) (λy=>st_snew j s.mark s.rows.n s.rows.g ms.n ms.g y.1.1 y.1.2) (λy=>ms.n-y.1.1) ⟨(0,λ_=>0),Nat.zero_le _,λq hq=>absurd hq (Nat.not_lt_zero q)⟩ ?_ ?_
  · refine cov_promC 448 2880 1 3 (λq=>[.v c9,eI 0,eB false]) [] [.d (eI s.mark),.own 1409 0 s.rows.n 1,.d (eI 0),.d (eI 0),.d (.v c9),.d (.v c9)] rfl rfl rfl (c7 ?_ ?_ ?_)
    · cbv;try (subst hA;repeat' first|apply And.intro|exact True.intro|rfl)
    · cbv;try (subst hA;repeat' first|apply And.intro|exact True.intro|rfl | (intro k hk;exact absurd hk (Nat.not_lt_zero k)) | (intro _ _;rfl))
    · cbv;try (subst hA;repeat' first|apply And.intro|exact True.intro|rfl|exact .inr trivial|exact .inl trivial)
  rintro ⟨⟨i,R⟩,hi,hR⟩
  have hi:i<=ms.n:=hi
  have hR:∀ q,q<i->R q=ms.g q:=hR
  have hltS:∀ {A:Ar},real=A->A.cmp .lss (Int.ofNat i) j.srcs=true->i<ms.n:=λhA h=>by
    subst hA
    have h:decide ((i:Int)<j.srcs)=true:=h
    have h:=of_decide_eq_true h
    omega
  have hgeS:∀ {A:Ar},real=A->A.cmp .lss (Int.ofNat i) j.srcs=false->ms.n<=i:=λhA h=>by
    subst hA
    have h:decide ((i:Int)<j.srcs)=false:=h
    have h:=of_decide_eq_false h
    omega
  obtain ⟨b9,hb9,hIn⟩:=c_l1In (ms.g i) 0 1000
  have hneg:i<ms.n->∀ {A:Ar},real=A->A.bnot b9=true->False:=λhlt9 {A} hA h9=>by
    have e9:b9=true:=by rw [hb9];exact decide_eq_true (h.2.2 i hlt9)
    rw [e9] at h9
    subst hA
    cases h9
  cbv
  repeat' first|apply And.intro|exact True.intro|with_reducible rfl|exact b7 hA rfl|apply c8 hA<;>intro _|exact c6 hA id | (subst hA;exact λh=>h) | (refine c5 hA ?_;decide +kernel) | (refine inb_lt hA ?_;first|exact f9 hA (by assumption)|exact l5 hA (by assumption)|exact hltS hA (by assumption)) | (refine d8 hA (λ_ => ?_);have hlt9:i<ms.n:=(by first|exact f9 hA (by assumption)|exact l5 hA (by assumption)|exact hltS hA (by assumption));exact ⟨Int.natCast_nonneg i,Int.ofNat_lt.2 hlt9⟩)|exact f6 hA (by omega) (by decide)|exact room_n hA (by omega) (by decide) | (refine i9 hA hM _ hIn (by (subst hA;first|rfl | (simp only [p6];try rfl))) ?_;cbv) | (refine (hneg ?_ hA ?_).elim;(focus (first|exact f9 hA (by assumption)|exact l5 hA (by assumption)|exact hltS hA (by assumption)));assumption)|fail
  · have hlt':i<ms.n:=by first|exact f9 hA (by assumption)|exact l5 hA (by assumption)|exact hltS hA (by assumption)
    refine ⟨⟨(i+1,λq=>if q<i then R q else ms.g i),hlt',λq hq => ?_⟩,by simp only;omega,c7 ?_ ?_ ?_⟩
    · simp only at hq ⊢
      by_cases e:q<i
      · rw [if_pos e];exact hR q e
      · rw [if_neg e,show q=i by omega]
    · subst hA;(repeat' first|exact True.intro|exact rfl|exact congrArg (λx=>DV.v (.int .i64 x)) (o0 hlt' hmL)|apply And.intro)
    · subst hA
      (repeat' first|exact True.intro|exact rfl|apply And.intro | (intro _ _;first|rfl|trivial))
      all_goals
        intro q hq
        refine (t7 rfl i (λq=>[.v c9,eI (R q),eB false]) _ _ q hq).trans ?_
        by_cases e:q<i
        · rw [if_pos e]
          show _=[DV.v c9,eI (if q<i then R q else ms.g i),eB false]
          rw [if_pos e]
        · rw [if_neg e]
          show _=[DV.v c9,eI (if q<i then R q else ms.g i),eB false]
          rw [if_neg e];rfl
    · subst hA;(repeat' first|exact True.intro|exact rfl|apply And.intro|exact .inl rfl|exact .inr (b8 rfl))
  · have hge':ms.n<=i:=by first|exact ge2_of hA (by assumption)|exact ge_of hA (by assumption)|exact hgeS hA (by assumption)
    have hin:i=ms.n:=Nat.le_antisymm hi hge'
    subst hin
    refine l9 hA ⟨[(7,.c (.bp 448 1 0)),(6,.c (.bp 384 1 0))],[(2880,1,.arr 3 ms.n λq=>[.v c9,eI (ms.g q),eB false]),(448,1,.box [.own 2880 0 ms.n 1,.d (eI s.mark),.own 1409 0 s.rows.n 1,.d (eI 0),.d (eI 0),.d (.v c9),.d (.v c9)]),(1409,1,.arr 13 s.rows.n λq=>i6 (s.rows.g q)),(384,1,.box [.d (.v c9),.d (eI 0),.d (.v c9),.d (eI 0),.d (eI 0),.d (.v c9),.d (.v c9)])]⟩ (c7 ?_ ?_ ?_) ?_
    · cbv
    · cbv
      exact ⟨λq hq=>by rw [hR q hq],by repeat' first|exact True.intro|exact rfl|apply And.intro | (intro _ _;rfl)⟩
    · cbv
    cbv
    repeat' first|apply And.intro|exact True.intro|with_reducible rfl|exact b7 hA rfl|apply c8 hA<;>intro _|exact c6 hA id | (subst hA;exact λh=>h) | (refine c5 hA ?_;decide +kernel)|fail
set_option maxHeartbeats 2000000
def st_sn1 (a b:Nat) (r2 r3 r4 r5 r6 r7 r8 r9:DV) (i:Nat):St:=⟨[(7,.c (.d (eI i))),(1,.c (.bp 64 1 0)),(2,.c (.bp 128 1 0)),(6,.c (.bp 384 1 0))],[(64,1,.box [.d (eI (a:Int)),.d (eI (b:Int)),.d r2,.d r3,.d r4,.d r5,.d r6,.d r7,.d r8,.d r9]),(128,1,.box [.d (eI 0),.d (eB false),.d (.v c9),.d (.v c9),.d (.v c9),.d (eI 0),.d (.v c9),.d (.v c9)]),(384,1,.box [.d (eI 0),.d (eB false),.d (.sl 1 a λ_=>[eI (-1)]),.d (.sl 1 b λ_=>[eB false]),.d (.sl 3 b λ_=>d9 zSnp),.d (eI 0),.own 8001 0 i 1,.d (.v c9)]),(8001,1,.arr 1 i λ_=>[eI 0])]⟩
def st_sn2 (a b:Nat) (r2 r3 r4 r5 r6 r7 r8 r9:DV) (ha:a<=3) (i:Nat):St:=⟨[(8,.c (.d (eI i))),(1,.c (.bp 64 1 0)),(2,.c (.bp 128 1 0)),(6,.c (.bp 384 1 0))],[(64,1,.box [.d (eI (a:Int)),.d (eI (b:Int)),.d r2,.d r3,.d r4,.d r5,.d r6,.d r7,.d r8,.d r9]),(128,1,.box [.d (eI 0),.d (eB false),.d (.v c9),.d (.v c9),.d (.v c9),.d (eI 0),.d (.v c9),.d (.v c9)]),(384,1,.box [.d (eI 0),.d (eB false),.d (.sl 1 a λ_=>[eI (-1)]),.d (.sl 1 b λ_=>[eB false]),.d (.sl 3 b λ_=>d9 zSnp),.d (eI 0),.own 8001 0 a 1,.nown 8000 i 1]),(8001,1,.arr 1 a λ_=>[eI 0]),(8000,1,.nest 3 i (λ_=>d9 (nSnp a ha)) none)]⟩
def EXSNew:FuncId->List Nat × Bool:=λf =>  ([],false)
theorem c_sCkpNew (j:JobT) (y:CkpT) (hy:y=newP j):d7 Tryz.prog 105 [xd (u7 j)] ⟨.one (xd (eCkp y)),[none]⟩:=by
  obtain ⟨t,ht,hm⟩:=c_sJobOkP j
  cases t with
  | false=>
    have hno:¬ t9 j:=λh=>by have:=ht.2 h;cases this
    obtain rfl:y=zCkp:=by rw [hy];unfold newP;rw [dif_neg hno]
    refine meets_wk (r:=.one (.agg [.d (eI 0),.d (eB false),.d (.v c9),.d (.v c9),.d (.v c9),.d (eI 0),.d (.v c9),.d (.v c9)])) ?_ (by repeat' first|exact True.intro|exact rfl|exact DLe.rfl|exact f8 _ _|apply And.intro | (intro _ _;exact LsLe.rfl) | (refine dle_sl λ_ _ => ?_;exact ⟨DLe.rfl,f8 _ _,f8 _ _,trivial⟩))
    refine d5 (H:=[]) (EX:=EXSNew) l6 e8 Tryz.func105 rfl (by kernel_rfl) (by decide) ?_
    generalize hA:real=A
    generalize hM:d4 Tryz.prog=M
    cbv
    repeat' first|exact absurd (show false=true by subst hA;assumption) (by decide)|exact absurd (show true=false by subst hA;assumption) (by decide)|apply And.intro|exact True.intro|with_reducible rfl|exact b7 hA rfl|apply c8 hA<;>intro _|exact c6 hA id | (subst hA;exact λh=>h) | (refine c5 hA ?_;decide +kernel) | (refine f7 hA hM _ hm ?_;cbv)|fail
  | true=>
    have hok:t9 j:=ht.1 rfl
    have ea:=jobS hok
    have eb:=jobT hok
    obtain ⟨a,ha⟩:∃ a:Nat,a=j.srcs.toNat:=⟨_,rfl⟩
    obtain ⟨b,hbb⟩:∃ b:Nat,b=j.tsks.toNat:=⟨_,rfl⟩
    obtain ⟨ha1,ha3,ja⟩:1<=a/\a<=3/\(a:Int)=j.srcs:=by rw [ha];exact ea
    obtain ⟨hb1,hb2,jb⟩:1<=b/\b<=2/\(b:Int)=j.tsks:=by rw [hbb];exact eb
    obtain rfl:y=newC a b ha3 hb2:=by
      rw [hy];unfold newP;rw [dif_pos hok];subst ha hbb;rfl
    clear hy
    obtain ⟨j0,j1,j2,j3,j4,j5,j6,j7,j8,j9⟩:=j
    obtain rfl:(a:Int)=j0:=ja
    obtain rfl:(b:Int)=j1:=jb
    clear ht ha hbb hok ea eb
    refine meets_frz (r:=.one (.agg [.d (eI 0),.d (eB false),.d (.sl 1 a λ_=>[eI (-1)]),.d (.sl 1 b λ_=>[eB false]),.d (.sl 3 b λ_=>d9 zSnp),.d (eI 0),.own 1 a λ_=>[eI 0],.nown 3 b λ_=>d9 (nSnp a ha3)])) ?_ rfl
    refine d5 (H:=[]) (EX:=EXSNew) l6 e8 Tryz.func105 rfl (by kernel_rfl) (by decide) ?_
    generalize hA:real=A
    generalize hM:d4 Tryz.prog=M
    cbv
    repeat' first|exact absurd (show false=true by subst hA;assumption) (by decide)|exact absurd (show true=false by subst hA;assumption) (by decide)|apply And.intro|exact True.intro|with_reducible rfl|exact b7 hA rfl|apply c8 hA<;>intro _|exact c6 hA id | (subst hA;exact λh=>h) | (refine c5 hA ?_;decide +kernel) | (refine f7 hA hM _ hm ?_;cbv) | (refine f7 hA hM _ (c_nobody a b ha3 hb2 (eI j2) (eI j3) (eI j4) (eI j5) (eI j6) (eB j7) (eI j8) (eI j9)) ?_;cbv)|fail
    refine i7 hA (α := { i:Nat // i<=a }) (λx=>st_sn1 a b (eI j2) (eI j3) (eI j4) (eI j5) (eI j6) (eB j7) (eI j8) (eI j9) x.1) (λx=>a-x.1) ⟨0,Nat.zero_le _⟩ ?_ ?_
    · refine cov_promC 384 8001 1 1 (λ_=>[eI 0]) [.d (eI 0),.d (eB false),.d (.sl 1 a λ_=>[eI (-1)]),.d (.sl 1 b λ_=>[eB false]),.d (.sl 3 b λ_=>d9 zSnp),.d (eI 0)] [.d (.v c9)] rfl rfl rfl (c7 ?_ ?_ ?_)
      iterate 3 focus (subst hA;repeat' first|exact True.intro|exact rfl|apply And.intro | (intro _ _;rfl) | (intro _ _ _;rfl) | (intro q hq;exact absurd hq (Nat.not_lt_zero q))|exact .inr (b8 rfl)|exact .inl rfl)
    rintro ⟨i,hi⟩
    have hi:i<=a:=hi
    cbv
    repeat' first|apply And.intro|exact True.intro|with_reducible rfl|exact b7 hA rfl|apply c8 hA<;>intro _|exact c6 hA id | (subst hA;exact λh=>h) | (refine c5 hA ?_;decide +kernel)|exact room_z hA (by omega) (by decide)|exact f6 hA (by omega) (by decide)|exact w9 hA (by omega) (by decide) | (refine b7 hA ?_;subst hA;rfl) | (subst hA;show 0<=(a:Int)/\(a:Int)=(a:Int)/\(a:Int)*_<=140737488355328/\(a:Int)<=140737488355328;refine ⟨by omega,rfl,by omega,by omega⟩)|fail
    · rename_i hlt
      have hlt':i<a:=by subst hA;have h:((i:Int)<(a:Int)):=of_decide_eq_true hlt;omega
      have hn2:a<=maxLen:=t8 ha3
      refine ⟨⟨i+1,hlt'⟩,by simp only;omega,c7 ?_ ?_ ?_⟩
      iterate 3 focus (subst hA;repeat' first|exact True.intro|exact rfl|apply And.intro|exact congrArg (λx=>DV.v (.int .i64 x)) (o0 hlt' hn2) | (intro q hq;have hq:q<i+1:=hq;exact (t7 rfl i (λ_=>[eI 0]) [eI 0] _ q hq).trans (ite_self _)) | (intro _ _;rfl) | (intro _ _ _;rfl) | (intro q hq;exact absurd hq (Nat.not_lt_zero q))|exact .inr (b8 rfl)|exact .inl rfl)
    have hin:i=a:=by
      rename_i hge
      subst hA
      have:¬ ((i:Int)<(a:Int)):=of_decide_eq_false hge
      omega
    subst hin
    refine i7 hA (α := { k:Nat // k<=b }) (λx=>st_sn2 i b (eI j2) (eI j3) (eI j4) (eI j5) (eI j6) (eB j7) (eI j8) (eI j9) ha3 x.1) (λx=>b-x.1) ⟨0,Nat.zero_le _⟩ ?_ ?_
    · refine cov_promCN 384 8000 1 3 (λ_=>d9 (nSnp i ha3)) [.d (eI 0),.d (eB false),.d (.sl 1 i λ_=>[eI (-1)]),.d (.sl 1 b λ_=>[eB false]),.d (.sl 3 b λ_=>d9 zSnp),.d (eI 0),.own 8001 0 i 1] [] rfl rfl rfl (c7 ?_ ?_ ?_)
      iterate 3 focus (subst hA;repeat' first|exact True.intro|exact rfl|apply And.intro | (intro _ _;rfl) | (intro _ _ _;rfl) | (intro q hq;exact absurd hq (Nat.not_lt_zero q))|exact .inr (b8 rfl)|exact .inl rfl)
    rintro ⟨k,hk⟩
    have hk:k<=b:=hk
    cbv
    repeat' first|apply And.intro|exact True.intro|with_reducible rfl|exact b7 hA rfl|apply c8 hA<;>intro _|exact c6 hA id | (subst hA;exact λh=>h) | (refine c5 hA ?_;decide +kernel)|exact room_z hA (by omega) (by decide)|exact f6 hA (by omega) (by decide)|exact w9 hA (by omega) (by decide) | (refine b7 hA ?_;subst hA;rfl) | (subst hA;show 0<=(i:Int)/\(i:Int)=(i:Int)/\(i:Int)*_<=140737488355328/\(i:Int)<=140737488355328;refine ⟨by omega,rfl,by omega,by omega⟩)|fail
    · rename_i hlt
      have hlt':k<b:=by subst hA;have h:((k:Int)<(b:Int)):=of_decide_eq_true hlt;omega
      have hn2:b<=maxLen:=Nat.le_trans hb2 (by decide)
      refine ⟨⟨k+1,hlt'⟩,by simp only;omega,cov_close 8000 (λ_=>d9 (nSnp i ha3)) (d9 (nSnp i ha3)) [(47*64,1)] rfl ?_ rfl rfl (λk _ _=>rfl) (c7 ?_ ?_ ?_)⟩
      · subst hA;exact close_v (close_nil (close_own rfl (λ_ _=>rfl) (flatR λ_=>flat_int _) close_end))
      iterate 3 focus (subst hA;repeat' first|exact True.intro|exact rfl|apply And.intro|exact congrArg (λx=>DV.v (.int .i64 x)) (o0 hlt' hn2) | (intro q hq;have hq:q<i+1:=hq;exact (t7 rfl i (λ_=>[eI 0]) [eI 0] _ q hq).trans (ite_self _)) | (intro _ _;rfl) | (intro _ _ _;rfl) | (intro q hq;exact absurd hq (Nat.not_lt_zero q))|exact .inr (b8 rfl)|exact .inl rfl)
    · rename_i hge
      have hin:k=b:=by
        subst hA
        have:¬ ((k:Int)<(b:Int)):=of_decide_eq_false hge
        omega
      subst hin
      rfl
set_option maxHeartbeats 1000000
set_option maxRecDepth 100000 in
theorem m_open (M0:Nat) (b:Nat->Int) (m:Nat) (hm:m=if 2000<M0 then 2000 else M0):d7 Tryz.prog 19 [.c (.d (.sl 1 M0 λi=>[eU (b i)]))] ⟨.one (.c (.box [.d (.sl 1 m λi=>[eU (b i)]),.d (eI 0)])),[none]⟩:=by
  refine d5 (H:=[]) (EX:=EXA) l6 e8 Tryz.func19 rfl (by kernel_rfl) (by decide) ?_
  generalize hA:real=A
  generalize hM:d4 Tryz.prog=M
  cbv
  repeat' first|apply And.intro|exact True.intro|with_reducible rfl|exact b7 hA rfl|apply c8 hA<;>intro _|exact c6 hA id | (subst hA;exact λh=>h) | (refine c5 hA ?_;decide +kernel) | (refine cut_of hA ?_;rename_i h;subst hA;have h9:decide ((M0:Int)>2000)=true:=h;have:=of_decide_eq_true h9;exact ⟨Int.le_refl _,(by decide),(show (2000:Int)<=(M0:Int) by omega)⟩)|fail
  · rename_i h
    subst hA
    have h9:decide ((M0:Int)>2000)=true:=h
    have h8:=of_decide_eq_true h9
    have e:m=2000:=by rw [hm];exact if_pos (by omega)
    subst e
    have e2:(λi=>(λi=>[eU (b i)]) (0+i))=λi=>[eU (b i)]:=by funext i;rw [Nat.zero_add]
    exact congrArg (λf=>XA.one (XT.c (.box [.d (.sl 1 2000 f),.d (eI 0)]))) e2
  · rename_i h
    subst hA
    have h9:decide ((M0:Int)>2000)=false:=h
    have h8:=of_decide_eq_false h9
    have e:m=M0:=by rw [hm];exact if_neg (by omega)
    subst e
    rfl
set_option maxRecDepth 100000 in
theorem m_pick (m:Nat) (hm:m<=2000) (b:Nat->Int) (hb:∀ i,0<=b i/\b i<=255) (p:Int) (hp:0<=p/\p<=1000000) (n:Int) (hn:1<=n/\n<=1000000) (x:Int) (hx:x=pickV m b p n) (q:Int) (hq:q=p+1):d7 Tryz.prog 38 [.c (.box [.d (.sl 1 m λi=>[eU (b i)]),.d (eI p)]),.c (.d (eI n))] ⟨.one (.c (.d (eI x))),[some (.box [.d (.sl 1 m λi=>[eU (b i)]),.d (eI q)]),none]⟩:=by
  have w1:IntKind.i64.wrap (p+1)=q:=by rw [IntWalk.i64_in _ (by omega)];omega
  have w2:IntKind.i64.wrap (q-1)=p:=by rw [IntWalk.i64_in _ (by omega)];omega
  have w7:IntKind.i64.wrap (p*7)=p*7:=IntWalk.i64_in _ (by omega)
  have w73:IntKind.i64.wrap (p*7+3)=p*7+3:=IntWalk.i64_in _ (by omega)
  have mpos:real.bite (real.cmp .lss n 1) true (real.cmp .eql (real.int m) 0)=false->1<=m:=λh=>by
    have h:(bif decide (n<1) then true else ((m:Int)==0))=false:=h
    rw [decide_eq_false (by omega)] at h
    have h:((m:Int)==0)=false:=h
    have h:¬ (m:Int)=0:=by simpa using h
    omega
  refine d5 (H:=[]) (EX:=EXA) l6 e8 Tryz.func38 rfl (by kernel_rfl) (by decide) ?_
  generalize hA:real=A
  generalize hM:d4 Tryz.prog=M
  cbv
  repeat' first|apply And.intro|exact True.intro|with_reducible rfl|exact b7 hA rfl|apply c8 hA<;>intro _|exact c6 hA id | (subst hA;exact λh=>h) | (refine c5 hA ?_;decide +kernel) | (refine nz_of hA ?_;first | (show n≠0;omega) | (show (64:Int)≠0;decide) | (rename_i h1 h2;subst hA;have h3:=mpos h1;show (m:Int)≠0;omega))|fail
  · rename_i hbad
    subst hA
    have h:(bif decide (n<1) then true else ((m:Int)==0))=true:=hbad
    rw [decide_eq_false (by omega)] at h
    have h:((m:Int)==0)=true:=h
    have h:(m:Int)=0:=by simpa using h
    refine congrArg (λz=>XA.one (.c (.d (eI z)))) ?_
    rw [hx];unfold pickV;rw [if_pos (by omega)]
  · rename_i hbad
    subst hA
    exact congrArg (λz=>[some (XV.box [XC.d (DV.sl 1 m λi=>[eU (b i)]),XC.d (eI z)]),none]) w1
  · rename_i hg hlt
    refine d8 hA λ_ => ?_
    subst hA
    have hlt:decide (IntKind.i64.wrap (IntKind.i64.wrap (p+1)-1)<(m:Int))=true:=hlt
    have hlt:=of_decide_eq_true hlt
    show 0<=IntKind.i64.wrap (IntKind.i64.wrap (p+1)-1)/\IntKind.i64.wrap (IntKind.i64.wrap (p+1)-1)<(m:Int)
    rw [w1,w2] at hlt ⊢
    exact ⟨hp.1,hlt⟩
  · rename_i hg hlt
    subst hA
    have hlt:decide (IntKind.i64.wrap (IntKind.i64.wrap (p+1)-1)<(m:Int))=true:=hlt
    have hlt:=of_decide_eq_true hlt
    rw [w1,w2] at hlt
    refine congrArg (λz=>XA.one (.c (.d (eI z)))) ?_
    have h1:=mpos hg
    show (IntKind.i64.wrap (b (IntKind.i64.wrap (IntKind.i64.wrap (p+1)-1)).toNat)).tmod n=x
    have hbb:=hb p.toNat
    rw [w1,w2,IntWalk.i64_in _ (by omega),hx]
    unfold pickV
    rw [if_neg (by omega),if_pos hlt]
  · rename_i hg hlt
    subst hA
    exact congrArg (λz=>[some (XV.box [XC.d (DV.sl 1 m λi=>[eU (b i)]),XC.d (eI z)]),none]) w1
  · rename_i hg hlt
    refine d8 hA λ_ => ?_
    subst hA
    have h1:=mpos hg
    show 0<=(IntKind.i64.wrap (IntKind.i64.wrap (p+1)-1)).tmod (m:Int)/\(IntKind.i64.wrap (IntKind.i64.wrap (p+1)-1)).tmod (m:Int)<(m:Int)
    rw [w1,w2]
    exact tmod_in hp.1 (Int.ofNat_le.2 h1)
  · rename_i hg hlt
    refine d8 hA λ_ => ?_
    subst hA
    have h1:=mpos hg
    show 0<=(IntKind.i64.wrap (IntKind.i64.wrap (IntKind.i64.wrap (IntKind.i64.wrap (p+1)-1)*7)+3)).tmod (m:Int)/\(IntKind.i64.wrap (IntKind.i64.wrap (IntKind.i64.wrap (IntKind.i64.wrap (p+1)-1)*7)+3)).tmod (m:Int)<(m:Int)
    rw [w1,w2,w7,w73]
    exact tmod_in (by omega) (Int.ofNat_le.2 h1)
  · rename_i hg hlt
    subst hA
    have hlt:decide (IntKind.i64.wrap (IntKind.i64.wrap (p+1)-1)<(m:Int))=false:=hlt
    have hlt:=of_decide_eq_false hlt
    rw [w1,w2] at hlt
    have h1:=mpos hg
    refine congrArg (λz=>XA.one (.c (.d (eI z)))) ?_
    rw [hx];unfold pickV
    rw [if_neg (by omega),if_neg hlt]
    have hy:=pickY_in (m:=m) (p:=p) (b:=b) h1 hb hp
    obtain ⟨W,hW⟩:∃ W,W=IntKind.i64.wrap (IntKind.i64.wrap (p+1)-1):=⟨_,rfl⟩
    have hWp:W=p:=by rw [hW,w1,w2]
    obtain ⟨Y,hY⟩:∃ Y,Y=IntKind.i64.wrap (IntKind.i64.wrap (IntKind.i64.wrap (IntKind.i64.wrap (IntKind.i64.wrap (b (W.tmod (m:Int)).toNat)*131)+IntKind.i64.wrap (IntKind.i64.wrap (b ((IntKind.i64.wrap (IntKind.i64.wrap (W*7)+3)).tmod (m:Int)).toNat)*1117))+IntKind.i64.wrap (W*29))+IntKind.i64.wrap (IntKind.i64.wrap (W.tdiv (m:Int))*53)):=⟨_,rfl⟩
    have hYp:Y=pickY m b p:=by
      rw [hY,hWp,w7,w73]
      unfold pickY
      have b1:=hb (p.tmod (m:Int)).toNat
      have b2:=hb ((p*7+3).tmod (m:Int)).toNat
      have d1:0<=p.tdiv (m:Int):=Int.tdiv_nonneg hp.1 (Int.natCast_nonneg m)
      have d2:p.tdiv (m:Int)<=p:=Int.tdiv_le_self (m:Int) hp.1
      generalize b (p.tmod (m:Int)).toNat=c1 at b1 ⊢
      generalize b ((p*7+3).tmod (m:Int)).toNat=c2 at b2 ⊢
      generalize p.tdiv (m:Int)=d at d1 d2 ⊢
      rw [IntWalk.i64_in c1 (by omega),IntWalk.i64_in c2 (by omega),IntWalk.i64_in d (by omega),IntWalk.i64_in (c1*131) (by omega),IntWalk.i64_in (c2*1117) (by omega),IntWalk.i64_in (p*29) (by omega),IntWalk.i64_in (d*53) (by omega),IntWalk.i64_in (c1*131+c2*1117) (by omega),IntWalk.i64_in (c1*131+c2*1117+p*29) (by omega),IntWalk.i64_in _ (by omega)]
    have q1:0<=(pickY m b p).tdiv 64:=Int.tdiv_nonneg hy.1 (by decide)
    have q2:(pickY m b p).tdiv 64<=pickY m b p:=Int.tdiv_le_self 64 hy.1
    have key:(IntKind.i64.wrap (BitVec.ofInt 64 Y ^^^ BitVec.ofInt 64 (IntKind.i64.wrap (Y.tdiv 64))).toNat).tmod n=(pickX (pickY m b p)).tmod n:=by
      rw [hYp,IntWalk.i64_in ((pickY m b p).tdiv 64) (by omega)];rfl
    rw [<- key,hY,hW]
    rfl
  · rename_i hg hlt
    subst hA
    exact congrArg (λz=>[some (XV.box [XC.d (DV.sl 1 m λi=>[eU (b i)]),XC.d (eI z)]),none]) w1
def EXD:FuncId->List Nat × Bool:=λf=>([],nbeq f 0)
theorem m7 (m:Nat) (hm:m<=2000) (b:Nat->Int) (hb:∀ i,0<=b i/\b i<=255) (p:Int) (hp:0<=p/\p<=1000000) (n:Int) (hn:1<=n/\n<=1000000):∃ y:Int × Int,(0<=y.1/\y.1<n/\y.2=p+1)/\d7 Tryz.prog 38 [.c (.box [.d (.sl 1 m λi=>[eU (b i)]),.d (eI p)]),.c (.d (eI n))] ⟨.one (.c (.d (eI y.1))),[some (.box [.d (.sl 1 m λi=>[eU (b i)]),.d (eI y.2)]),none]⟩:=
  ⟨(pickV m b p n,p+1),⟨(pickV_in hb hp hn.1).1,(pickV_in hb hp hn.1).2,rfl⟩,m_pick m hm b hb p hp n hn _ rfl _ rfl⟩
theorem x_job (m:Nat) (hm:m<=2000) (b:Nat->Int) (hb:∀ i,0<=b i/\b i<=255) (p:Int) (hp:0<=p/\p<=150000)  : ∃ y:JobT × Int,(p<=y.2/\y.2<=p+20)/\d7 Tryz.prog 62 [.c (.box [.d (.sl 1 m λi=>[eU (b i)]),.d (eI p)])] ⟨.one (xd (u7 y.1)),[some (.box [.d (.sl 1 m λi=>[eU (b i)]),.d (eI y.2)])]⟩:=by
  refine meets_ex (H:=[]) (EX:=EXD) l6 e8 ([some (.box [.d (.sl 1 m λi=>[eU (b i)]),.d (eI 0)])]) Tryz.func62 rfl (by kernel_rfl) (by decide) (λ_=>rfl) ?_
  generalize hA:real=A
  generalize hM:d4 Tryz.prog=M
  cbv
  repeat' first|apply And.intro|exact True.intro|with_reducible rfl|exact b7 hA rfl|apply c8 hA<;>intro _|exact c6 hA id | (subst hA;exact λh=>h) | (refine c5 hA ?_;decide +kernel) | (refine d6 hA hM (m7 m hm b hb _ (by omega) _ (by omega)) ?_;rintro ⟨x,q⟩ ⟨hx0,hx1,hq⟩;dsimp only at hx0 hx1 hq;cbv) | (refine d8 hA (λ_ => ?_);(first|omega | (constructor<;>omega))) | (refine nz_of hA ?_;first | (show (2:Int)≠0;decide) | (subst hA;show IntKind.i64.wrap (1+x)≠0;rw [IntWalk.i64_in _ (by omega)];omega)) | (refine i8 hA ⟨⟨⟨_,_,_,_,_,_,_,_,_,_⟩,_⟩,?_,rfl,rfl⟩;simp only;omega)|fail
theorem x_anyJob (m:Nat) (hm:m<=2000) (b:Nat->Int) (hb:∀ i,0<=b i/\b i<=255) (p:Int) (hp:0<=p/\p<=100000) (n:Int) (hn:1<=n/\n<=100):∃ y:JobT × Int,(p<=y.2/\y.2<=p+40)/\d7 Tryz.prog 41 [.c (.box [.d (.sl 1 m λi=>[eU (b i)]),.d (eI p)]),.c (.d (eI n))] ⟨.one (xd (u7 y.1)),[some (.box [.d (.sl 1 m λi=>[eU (b i)]),.d (eI y.2)]),none]⟩:=by
  refine meets_ex (H:=[]) (EX:=EXD) l6 e8 ([some (.box [.d (.sl 1 m λi=>[eU (b i)]),.d (eI 0)]),none]) Tryz.func41 rfl (by kernel_rfl) (by decide) (λ_=>rfl) ?_
  generalize hA:real=A
  generalize hM:d4 Tryz.prog=M
  cbv
  repeat' first|apply And.intro|exact True.intro|with_reducible rfl|exact b7 hA rfl|apply c8 hA<;>intro _|exact c6 hA id | (subst hA;exact λh=>h) | (refine c5 hA ?_;decide +kernel) | (refine d6 hA hM (x_job m hm b hb _ (by omega)) ?_;rintro ⟨j,q⟩ ⟨hq0,hq1⟩;dsimp only at hq0 hq1;cbv) | (refine d6 hA hM (m7 m hm b hb _ (by omega) _ (by omega)) ?_;rintro ⟨x,q⟩ ⟨hx0,hx1,hq⟩;dsimp only at hx0 hx1 hq;cbv) | (refine d8 hA (λ_ => ?_);(first|omega | (constructor<;>omega))) | (refine i8 hA ⟨⟨⟨_,_,_,_,_,_,_,_,_,_⟩,_⟩,?_,rfl,rfl⟩;simp only;omega)|fail
end Go.Rk
namespace Go.Rk
set_option linter.unusedSimpArgs false
set_option linter.unusedVariables false
theorem selIx {A:Ar} (hA:real=A) {l:List Int} {x:Int} {P:Int->Prop} {n:Nat} (h0:0<=x) (h1:x<(n:Int)) (hP:∀ i,i<n->P (l.getD i 0)):P (A.sel l (A.add 0 (A.nat x))):=by
  subst hA
  obtain ⟨i,rfl⟩:=Int.eq_ofNat_of_zero_le h0
  have e:real.add 0 (real.nat (i:Int))=i:=Nat.zero_add i
  rw [e]
  exact hP i (Int.ofNat_lt.1 h1)
theorem recMk {A:Ar} (hA:real=A) {a i k v:Int} (h1:0<=a) (h2:a<61) (h3:0<=i) (h4:i<6) (h5:0<=k) (h6:k<4) (h7:0<=v) (h8:v<19):RecP ⟨1,A.sel [0,1,5,20,60,a] (A.add 0 (A.nat i)),k,A.ar .sub .i64 v 9,0⟩:=by
  have ht:0<=A.sel [0,1,5,20,60,a] (A.add 0 (A.nat i))/\A.sel [0,1,5,20,60,a] (A.add 0 (A.nat i))<=60:=selIx hA (P:=λz=>0<=z/\z<=60) (n:=6) h3 h4 λq hq=>by
    rcases q with _|_|_|_|_|_|q
    · exact (by decide:(0:Int)<=0/\(0:Int)<=60)
    · exact (by decide:(0:Int)<=1/\(1:Int)<=60)
    · exact (by decide:(0:Int)<=5/\(5:Int)<=60)
    · exact (by decide:(0:Int)<=20/\(20:Int)<=60)
    · exact (by decide:(0:Int)<=60/\(60:Int)<=60)
    · exact (by omega:0<=a/\a<=60)
    · omega
  subst hA
  have e:real.ar .sub .i64 v 9=v-9:=IntWalk.i64_in _ (by omega)
  refine ⟨rfl,.inl ⟨rfl,ht,⟨h5,by show k<=3;omega⟩,?_,rfl⟩⟩
  show -9<=real.ar .sub .i64 v 9/\real.ar .sub .i64 v 9<=9
  rw [e];omega
theorem stepKeep {A:Ar} (hA:real=A) {st size:Int} (hz:1<=size/\size<=20) (h:A.bite (A.bite (A.cmp .lss st 1) true (A.cmp .lss (A.ar .mul .i64 4 st) size)) true (A.cmp .gtr st size)=false):1<=st/\st<=size/\size<=4*st:=by
  subst hA
  have h:(bif (bif decide (st<1) then true else decide (IntKind.i64.wrap (4*st)<size)) then true else decide (st>size))=false:=h
  by_cases h1:st<1
  · rw [decide_eq_true h1] at h;cases h
  · rw [decide_eq_false h1] at h
    by_cases h2:IntKind.i64.wrap (4*st)<size
    · rw [decide_eq_true h2] at h;cases h
    · rw [decide_eq_false h2] at h
      by_cases h3:st>size
      · rw [decide_eq_true h3] at h;cases h
      · rw [IntWalk.i64_in _ (by omega)] at h2
        omega
theorem stepHalf {A:Ar} (hA:real=A) {d:Int} (h0:0<=d) (h1:d<6):1<=A.ar .quo .i64 (A.ar .add .i64 (A.sel [1,3,5,8,10,20] (A.add 0 (A.nat d))) 1) 2/\A.ar .quo .i64 (A.ar .add .i64 (A.sel [1,3,5,8,10,20] (A.add 0 (A.nat d))) 1) 2<=A.sel [1,3,5,8,10,20] (A.add 0 (A.nat d)) /\
    A.sel [1,3,5,8,10,20] (A.add 0 (A.nat d))<=4*A.ar .quo .i64 (A.ar .add .i64 (A.sel [1,3,5,8,10,20] (A.add 0 (A.nat d))) 1) 2:=by
  refine selIx hA (P:=λz=>1<=A.ar .quo .i64 (A.ar .add .i64 z 1) 2/\A.ar .quo .i64 (A.ar .add .i64 z 1) 2<=z/\z<=4*A.ar .quo .i64 (A.ar .add .i64 z 1) 2) (n:=6) h0 h1 λq hq => ?_
  subst hA
  rcases q with _|_|_|_|_|_|q<;>first | (exact ⟨by decide,by decide,by decide⟩)|omega
theorem kindIs {A:Ar} (hA:real=A) {c:Int} {t:Bool} (h:A.cmp .eql (A.ar .add .i64 1 c) 2=t):(A.ar .add .i64 1 c=2)↔t=true:=by
  subst hA
  have h:(real.ar .add .i64 1 c==2)=t:=h
  rw [<- h]
  simp
theorem jobMk {A:Ar} (hA:real=A) {a b c d e f h i:Int} {pc:Bool} {st:Int} (a0:0<=a) (a1:a<3) (b0:0<=b) (b1:b<2) (c0:0<=c) (c1:c<3) (d0:0<=d) (d1:d<6) (e0:0<=e) (e1:e<5) (f0:0<=f) (f1:f<4) (h0:0<=h) (h1:h<5) (i0:0<=i) (i1:i<4)
    (hs:(A.ar .add .i64 1 c=2/\1<=st/\st<=A.sel [1,3,5,8,10,20] (A.add 0 (A.nat d))/\A.sel [1,3,5,8,10,20] (A.add 0 (A.nat d))<=4*st)\/(A.ar .add .i64 1 c≠2/\st=0)) :
    t9 ⟨A.ar .add .i64 1 a,A.ar .add .i64 1 b,A.ar .add .i64 1 c,A.sel [1,3,5,8,10,20] (A.add 0 (A.nat d)),st,A.sel [0,2,5,12,20] (A.add 0 (A.nat e)),A.ar .add .i64 1 f,pc,A.sel [-9,-9,-9,0,5] (A.add 0 (A.nat h)),A.ar .add .i64 1 i⟩:=by
  have hd:1<=A.sel [1,3,5,8,10,20] (A.add 0 (A.nat d))/\A.sel [1,3,5,8,10,20] (A.add 0 (A.nat d))<=20:=selIx hA (P:=λz=>1<=z/\z<=20) (n:=6) d0 d1 λq hq=>by
    rcases q with _|_|_|_|_|_|q<;>first | (exact ⟨by decide,by decide⟩)|omega
  have he:0<=A.sel [0,2,5,12,20] (A.add 0 (A.nat e))/\A.sel [0,2,5,12,20] (A.add 0 (A.nat e))<=20:=selIx hA (P:=λz=>0<=z/\z<=20) (n:=5) e0 e1 λq hq=>by
    rcases q with _|_|_|_|_|q<;>first | (exact ⟨by decide,by decide⟩)|omega
  have hh : -9<=A.sel [-9,-9,-9,0,5] (A.add 0 (A.nat h))/\A.sel [-9,-9,-9,0,5] (A.add 0 (A.nat h))<=9:=selIx hA (P:=λz => -9<=z/\z<=9) (n:=5) h0 h1 λq hq=>by
    rcases q with _|_|_|_|_|q<;>first | (exact ⟨by decide,by decide⟩)|omega
  have hw:∀ z:Int,0<=z/\z<10->A.ar .add .i64 1 z=1+z:=λz hz=>by subst hA;exact IntWalk.i64_in _ (by omega)
  have wa:=hw a (by omega)
  have wb:=hw b (by omega)
  have wc:=hw c (by omega)
  have wf:=hw f (by omega)
  have wi:=hw i (by omega)
  refine ⟨?_,?_,?_,hd,?_,he,?_,hh,?_⟩
  · show 1<=A.ar .add .i64 1 a/\A.ar .add .i64 1 a<=3
    rw [wa];omega
  · show 1<=A.ar .add .i64 1 b/\A.ar .add .i64 1 b<=2
    rw [wb];omega
  · show 1<=A.ar .add .i64 1 c/\A.ar .add .i64 1 c<=3
    rw [wc];omega
  · rcases hs with ⟨h1,h2,h3,h4⟩|⟨h1,h2⟩
    · exact .inl ⟨h1,⟨h2,h3⟩,h4⟩
    · exact .inr ⟨h1,h2⟩
  · show 1<=A.ar .add .i64 1 f/\A.ar .add .i64 1 f<=4
    rw [wf];omega
  · show 1<=A.ar .add .i64 1 i/\A.ar .add .i64 1 i<=4
    rw [wi];omega
def endE:ItmT:=⟨2,1000,0,0,0⟩
theorem mkB_same {G H:Nat->ItmT}:∀ {c:Nat},(∀ i,i<c->H i=G i)->mkB H c=mkB G c
  | 0,_=>rfl
  | c+1,h=>by
    show (if (H c).kind=2 then (H c).t else mkB H c)=(if (G c).kind=2 then (G c).t else mkB G c)
    rw [h c (Nat.lt_succ_self c),mkB_same λi hi=>h i (Nat.lt_succ_of_lt hi)]
theorem logAt_same {G H:Nat->ItmT} {i:Nat} (h:∀ q,q<=i->H q=G q) (ha:LogAt G i):LogAt H i:=by
  unfold LogAt
  rw [h i (Nat.le_refl i),mkB_same λq hq=>h q (Nat.le_of_lt hq)]
  exact ha
structure LogI (c:Nat) (G:Nat->ItmT) (mk:Int):Prop where
  at_:∀ i,i<c->LogAt G i
  mk_:mkB G c=mk
  up:0<=mk/\mk<=60
theorem logI_zero (G:Nat->ItmT):LogI 0 G 0:=⟨λi hi=>absurd hi (Nat.not_lt_zero i),rfl,by decide⟩
theorem push_lo {c:Nat} {G:Nat->ItmT} {x:ItmT} {i:Nat} (h:i<c):(λq=>if q<c then G q else x) i=G i:=if_pos h
theorem push_hi {c:Nat} {G:Nat->ItmT} {x:ItmT}:(λq=>if q<c then G q else x) c=x:=if_neg (Nat.lt_irrefl c)
theorem logI_snoc {c:Nat} {G:Nat->ItmT} {mk mk':Int} {x:ItmT} (h:LogI c G mk) (hx:ItmOkP x) (h3:x.kind≠3) (h2:x.kind=2->mk<x.t) (hm:(if x.kind=2 then x.t else mk)=mk') (hu:0<=mk'/\mk'<=60):LogI (c+1) (λq=>if q<c then G q else x) mk':=by
  have hs:mkB (λq=>if q<c then G q else x) c=mk:=(mkB_same λi hi=>push_lo hi).trans h.mk_
  refine ⟨λi hi => ?_,?_,hu⟩
  · by_cases e:i<c
    · exact logAt_same (λq hq=>push_lo (Nat.lt_of_le_of_lt hq e)) (h.at_ i e)
    · have e:i=c:=by omega
      subst e
      unfold LogAt
      rw [push_hi,hs]
      exact ⟨hx,h3,h2⟩
  · show (if ((λq=>if q<c then G q else x) c).kind=2 then ((λq=>if q<c then G q else x) c).t else mkB (λq=>if q<c then G q else x) c)=mk'
    rw [push_hi,hs];exact hm
theorem logI_mark {c:Nat} {G:Nat->ItmT} {mk t:Int} (h:LogI c G mk) (ht:mk<t) (h60:t<=60):LogI (c+1) (λq=>if q<c then G q else ⟨2,t,0,0,0⟩) t:=by
  have h0:=h.up.1
  exact logI_snoc h (.inr (.inl ⟨rfl,.inl ⟨by show 1<=t;omega,h60⟩,rfl,rfl,rfl⟩)) (show (2:Int)≠3 by decide) (λ_=>ht) rfl ⟨by omega,h60⟩
theorem logI_rec {c:Nat} {G:Nat->ItmT} {mk t key:Int} {it:ItmT} (h:LogI c G mk) (hr:RecP it) (ht:0<=t/\t<=60) (hk:0<=key/\key<3):LogI (c+1) (λq=>if q<c then G q else ⟨it.kind,t,key,it.v,it.n⟩) mk:=by
  have h1:=hr.1
  have h2:=hr.2
  unfold ItmOkP at h2
  have k2:¬ it.kind=2:=by omega
  refine logI_snoc h (.inl ⟨h1,ht,⟨hk.1,by show key<=3;omega⟩,by show -9<=it.v/\it.v<=9;omega,by show it.n=0;omega⟩) (by show it.kind≠3;omega) (λe=>(k2 e).elim) (if_neg k2) h.up
theorem logI_end {c:Nat} {G H:Nat->ItmT} {mk:Int} (h:LogI c G mk) (hc:c<=39) (h1:∀ i,i<c->H i=G i) (h2:H c=endE) (hm:c+1<=maxLen):LogOkP ⟨c+1,H,hm⟩:=by
  refine ⟨⟨by show 1<=c+1;omega,by show c+1<=40;omega⟩,λi hi => ?_,?_⟩
  · have hi:i<c+1:=hi
    by_cases e:i<c
    · exact logAt_same (λq hq=>h1 q (Nat.lt_of_le_of_lt hq e)) (h.at_ i e)
    · have e:i=c:=by omega
      subst e
      show LogAt H i
      unfold LogAt
      rw [h2,mkB_same h1,h.mk_]
      have:=h.up.2
      exact ⟨.inr (.inl ⟨rfl,.inr rfl,rfl,rfl,rfl⟩),by decide,λ_=>by show mk<1000;omega⟩
  · show EndP (H (c+1-1))
    rw [Nat.add_sub_cancel,h2]
    exact ⟨rfl,rfl,rfl,rfl,rfl⟩
end Go.Rk
namespace Go.Rk
set_option linter.unusedSimpArgs false
set_option linter.unusedVariables false
open Go.Proofs
set_option maxRecDepth 100000
set_option maxHeartbeats 1000000
theorem x2_rec (m:Nat) (hm:m<=2000) (b:Nat->Int) (hb:∀ i,0<=b i/\b i<=255) (p:Int) (hp:0<=p/\p<=200000)  : ∃ y:ItmT × Int,(p<=y.2/\y.2<=p+4/\RecP y.1)/\d7 Tryz.prog 122 [.c (.box [.d (.sl 1 m λi=>[eU (b i)]),.d (eI p)])] ⟨.one (xd (n9 y.1)),[some (.box [.d (.sl 1 m λi=>[eU (b i)]),.d (eI y.2)])]⟩:=by
  refine meets_ex (H:=[]) (EX:=EXD) l6 e8 ([some (.box [.d (.sl 1 m λi=>[eU (b i)]),.d (eI 0)])]) Tryz.func122 rfl (by kernel_rfl) (by decide) (λ_=>rfl) ?_
  generalize hA:real=A
  generalize hM:d4 Tryz.prog=M
  cbv
  repeat' first|apply And.intro|exact True.intro|with_reducible rfl|exact b7 hA rfl|apply c8 hA<;>intro _|exact c6 hA id | (subst hA;exact λh=>h) | (refine c5 hA ?_;decide +kernel) | (refine d6 hA hM (m7 m hm b hb _ (by omega) _ (by omega)) ?_;rintro ⟨x,q⟩ ⟨hx0,hx1,hq⟩;dsimp only at hx0 hx1 hq;cbv) | (refine d8 hA (λ_ => ?_);(first|omega | (constructor<;>omega))) | (refine i8 hA ⟨⟨⟨_,_,_,_,_⟩,_⟩,?_,rfl,rfl⟩;refine ⟨by simp only;omega,by simp only;omega,?_⟩;refine recMk hA ?_ ?_ ?_ ?_ ?_ ?_ ?_ ?_<;>assumption)|fail
theorem x2_job (m:Nat) (hm:m<=2000) (b:Nat->Int) (hb:∀ i,0<=b i/\b i<=255) (p:Int) (hp:0<=p/\p<=150000)  : ∃ y:JobT × Int,(p<=y.2/\y.2<=p+20/\t9 y.1)/\d7 Tryz.prog 62 [.c (.box [.d (.sl 1 m λi=>[eU (b i)]),.d (eI p)])] ⟨.one (xd (u7 y.1)),[some (.box [.d (.sl 1 m λi=>[eU (b i)]),.d (eI y.2)])]⟩:=by
  refine meets_ex (H:=[]) (EX:=EXD) l6 e8 ([some (.box [.d (.sl 1 m λi=>[eU (b i)]),.d (eI 0)])]) Tryz.func62 rfl (by kernel_rfl) (by decide) (λ_=>rfl) ?_
  generalize hA:real=A
  generalize hM:d4 Tryz.prog=M
  cbv
  repeat' first|apply And.intro|exact True.intro|with_reducible rfl|exact b7 hA rfl|apply c8 hA<;>intro _|exact c6 hA id | (subst hA;exact λh=>h) | (refine c5 hA ?_;decide +kernel) | (refine d6 hA hM (m7 m hm b hb _ (by omega) _ (by omega)) ?_;rintro ⟨x,q⟩ ⟨hx0,hx1,hq⟩;dsimp only at hx0 hx1 hq;cbv) | (refine d8 hA (λ_ => ?_);(first|omega | (constructor<;>omega))) | (refine nz_of hA ?_;first | (show (2:Int)≠0;decide) | (subst hA;show IntKind.i64.wrap (1+x)≠0;rw [IntWalk.i64_in _ (by omega)];omega)) | (refine i8 hA ⟨⟨⟨_,_,_,_,_,_,_,_,_,_⟩,_⟩,?_,rfl,rfl⟩;refine ⟨by simp only;omega,by simp only;omega,?_⟩;refine jobMk hA ?_ ?_ ?_ ?_ ?_ ?_ ?_ ?_ ?_ ?_ ?_ ?_ ?_ ?_ ?_ ?_ ?_;rotate_left 16;(focus (first|exact .inr ⟨λe=>(by have e2:=(kindIs hA (by assumption)).1 e;cases e2),rfl⟩|exact .inl ⟨(kindIs hA (by assumption)).2 rfl,stepKeep hA (selIx hA (P:=λz=>1<=z/\z<=20) (n:=6) (by assumption) (by assumption) (by decide)) (by assumption)⟩|exact .inl ⟨(kindIs hA (by assumption)).2 rfl,stepHalf hA (by assumption) (by assumption)⟩));all_goals assumption)|fail
def st_lg (m:Nat) (b:Nat->Int) (n:Nat) (bh:Int) (k:Nat) (q t mk:Int) (c:Nat) (G:Nat->ItmT):St:=⟨[(9,.c (.d (eI k))),(8,.c (.d (eI bh))),(7,.c (.d (eI mk))),(6,.c (.d (eI t))),(5,.c (.own 768 0 c 1)),(1,.c (.d (eI n))),(0,.c (.bp 0 1 0))],[(768,1,.arr 5 c λi=>n9 (G i)),(0,1,.box [.d (.sl 1 m λi=>[eU (b i)]),.d (eI q)])]⟩
theorem x_log (m:Nat) (hm:m<=2000) (b:Nat->Int) (hb:∀ i,0<=b i/\b i<=255) (p:Int) (hp:0<=p/\p<=100000) (n:Nat) (hn:n<=27):∃ y:(Sl ItmT) × Int,(p<=y.2/\y.2<=p+400/\LogOkP y.1)/\d7 Tryz.prog 108 [.c (.box [.d (.sl 1 m λi=>[eU (b i)]),.d (eI p)]),.c (.d (eI n))] ⟨.one (.c (.own 5 y.1.n λi=>n9 (y.1.g i))),[some (.box [.d (.sl 1 m λi=>[eU (b i)]),.d (eI y.2)]),none]⟩:=by
  refine meets_ex (H:=[]) (EX:=EXD) l6 e8 ([some (.box [.d (.sl 1 m λi=>[eU (b i)]),.d (eI 0)]),none]) Tryz.func108 rfl (by kernel_rfl) (by decide) (λ_=>rfl) ?_
  generalize hA:real=A
  generalize hM:d4 Tryz.prog=M
  cbv
  repeat' first|apply And.intro|exact True.intro|with_reducible rfl|exact b7 hA rfl|apply c8 hA<;>intro _|exact c6 hA id | (subst hA;exact λh=>h) | (refine c5 hA ?_;decide +kernel) | (refine d6 hA hM (m7 m hm b hb _ (by omega) 5 (by omega)) ?_;rintro ⟨x5,q5⟩ ⟨hx5a,hx5b,hq5⟩;dsimp only at hx5a hx5b hq5;cbv) | (refine d6 hA hM (m7 m hm b hb _ (by omega) 6 (by omega)) ?_;rintro ⟨x6,q6⟩ ⟨hx6a,hx6b,hq6⟩;dsimp only at hx6a hx6b hq6;cbv) | (refine d8 hA (λ_ => ?_);(first|omega | (constructor<;>omega)))|fail
  refine i7 hA (α := { y:Nat × Int × Int × Int × Nat × (Nat->ItmT) // y.1<=n/\p<=y.2.1/\y.2.1<=p+20+10*(y.1:Int)/\0<=y.2.2.2.1/\y.2.2.2.2.1<=y.1/\LogI y.2.2.2.2.1 y.2.2.2.2.2 y.2.2.2.1 }) (λy=>st_lg m b n (real.sel [0,0,1,3,7,12] (real.add 0 (real.nat x6))) y.1.1 y.1.2.1 y.1.2.2.1 y.1.2.2.2.1 y.1.2.2.2.2.1 y.1.2.2.2.2.2) (λy=>n-y.1.1) ⟨(0,q6,x5,0,0,λ_=>endE),Nat.zero_le _,by (show p<=q6);omega,by (show q6<=p+20+10*0);omega,Int.le_refl _,Nat.le_refl _,logI_zero _⟩ ?_ ?_
  · refine c7 ?_ ?_ ?_
    · subst hA;(repeat' first|exact True.intro|exact rfl|apply And.intro)
    · subst hA;(repeat' first|exact True.intro|exact rfl|apply And.intro | (intro k hk;exact absurd hk (Nat.not_lt_zero k)))
    · subst hA;(repeat' first|exact True.intro|exact rfl|apply And.intro|exact .inl rfl|exact .inr (b8 rfl))
  generalize real.sel [0,0,1,3,7,12] (real.add 0 (real.nat x6))=bh
  rintro ⟨⟨k,q,t,mk,c,G⟩,hk,hp0,hp1,hmk,hck,hG⟩
  have hk:k<=n:=hk
  have hp0:p<=q:=hp0
  have hp1:q<=p+20+10*(k:Int):=hp1
  have hpb:q<=p+290:=by omega
  have hpn:q+9<=p+20+10*((k+1:Nat):Int):=by omega
  have hmk:0<=mk:=hmk
  have hck:c<=k:=hck
  have hG:LogI c G mk:=hG
  have hnM:n<=maxLen:=Nat.le_trans hn (by decide)
  clear hq5 hq6 hx5a hx5b hx6a hx6b
  cbv
  repeat' first|apply And.intro|exact True.intro|with_reducible rfl|exact b7 hA rfl|apply c8 hA<;>intro _|exact c6 hA id | (subst hA;exact λh=>h) | (refine c5 hA ?_;decide +kernel) | (refine d6 hA hM (m7 m hm b hb _ (by omega) 6 (by omega)) ?_;rintro ⟨x6,q6⟩ ⟨hx6a,hx6b,hq6⟩;dsimp only at hx6a hx6b hq6;cbv) | (refine d6 hA hM (m7 m hm b hb _ (by omega) 4 (by omega)) ?_;rintro ⟨x4,q4⟩ ⟨hx4a,hx4b,hq4⟩;dsimp only at hx4a hx4b hq4;cbv) | (refine d6 hA hM (x2_rec m hm b hb _ (by omega)) ?_;rintro ⟨it,qr⟩ ⟨hr0,hr1,hrec⟩;dsimp only at hr0 hr1 hrec;cbv) | (refine d6 hA hM (m7 m hm b hb _ (by omega) 20 (by omega)) ?_;rintro ⟨x20,q20⟩ ⟨hx20a,hx20b,hq20⟩;dsimp only at hx20a hx20b hq20;cbv) | (refine d6 hA hM (m7 m hm b hb _ (by omega) 7 (by omega)) ?_;rintro ⟨x7,q7⟩ ⟨hx7a,hx7b,hq7⟩;dsimp only at hx7a hx7b hq7;cbv) | (refine d6 hA hM (m7 m hm b hb _ (by omega) 3 (by omega)) ?_;rintro ⟨x3,q3⟩ ⟨hx3a,hx3b,hq3⟩;dsimp only at hx3a hx3b hq3;cbv) | (refine d8 hA (λ_ => ?_);(first|omega | (constructor<;>omega)))|exact f6 hA (by omega) (by decide)|exact room_n hA (by omega) (by decide)|fail
  · rename_i hlt h0 h60 hgt
    have hlt':k<n:=by first|exact f9 hA hlt|exact l5 hA hlt
    have hgt:mk<60:=by
      have h9:=hgt
      subst hA
      exact of_decide_eq_true (show decide ((60:Int)>mk)=true from h9)
    refine ⟨⟨(k+1,q4,real.ar .add .i64 t x6,60,c+1,(λi=>if i<c then G i else ⟨2,60,0,0,0⟩)),hlt',by (show p<=q4);omega,Int.le_trans (by (show q4<=q+9);omega) hpn,(by decide:(0:Int)<=60),by (show c+1<=k+1);omega,logI_mark hG hgt (by decide)⟩,by simp only;omega,c7 ?_ ?_ ?_⟩
    · subst hA;(repeat' first|exact True.intro|exact rfl|exact congrArg (λx=>DV.v (.int .i64 x)) (o0 hlt' hnM)|apply And.intro)
    · subst hA
      (repeat' first|exact True.intro|exact rfl|apply And.intro | (intro _ _;first|rfl|trivial))
      all_goals
        intro i hi
        exact m8 n9 rfl c G ⟨2,60,0,0,0⟩ _ i hi
    · subst hA;(repeat' first|exact True.intro|exact rfl|apply And.intro|exact .inl rfl|exact .inr (b8 rfl))
  · rename_i hlt h0 h60 hgt
    have hlt':k<n:=by first|exact f9 hA hlt|exact l5 hA hlt
    refine ⟨⟨(k+1,q4,real.ar .add .i64 t x6,mk,c,G),hlt',by (show p<=q4);omega,Int.le_trans (by (show q4<=q+9);omega) hpn,hmk,by (show c<=k+1);omega,hG⟩,by simp only;omega,c7 ?_ ?_ ?_⟩
    · subst hA;(repeat' first|exact True.intro|exact rfl|exact congrArg (λx=>DV.v (.int .i64 x)) (o0 hlt' hnM)|apply And.intro)
    · subst hA
      (repeat' first|exact True.intro|exact rfl|apply And.intro | (intro _ _;first|rfl|trivial))
    · subst hA;(repeat' first|exact True.intro|exact rfl|apply And.intro|exact .inl rfl|exact .inr (b8 rfl))
  · rename_i hlt h0 h60 hgt
    have hlt':k<n:=by first|exact f9 hA hlt|exact l5 hA hlt
    have hgt:mk<real.ar .sub .i64 (real.ar .add .i64 t x6) bh:=by
      have h9:=hgt
      subst hA
      exact of_decide_eq_true (show decide (real.ar .sub .i64 (real.ar .add .i64 t x6) bh>mk)=true from h9)
    have h60:real.ar .sub .i64 (real.ar .add .i64 t x6) bh<=60:=by
      have h9:=h60
      subst hA
      have h9:decide (real.ar .sub .i64 (real.ar .add .i64 t x6) bh>60)=false:=h9
      have h9:=of_decide_eq_false h9
      omega
    refine ⟨⟨(k+1,q4,real.ar .add .i64 t x6,real.ar .sub .i64 (real.ar .add .i64 t x6) bh,c+1,(λi=>if i<c then G i else ⟨2,(real.ar .sub .i64 (real.ar .add .i64 t x6) bh),0,0,0⟩)),hlt',by (show p<=q4);omega,Int.le_trans (by (show q4<=q+9);omega) hpn,(by (show 0<=real.ar .sub .i64 (real.ar .add .i64 t x6) bh);omega),by (show c+1<=k+1);omega,logI_mark hG hgt h60⟩,by simp only;omega,c7 ?_ ?_ ?_⟩
    · subst hA;(repeat' first|exact True.intro|exact rfl|exact congrArg (λx=>DV.v (.int .i64 x)) (o0 hlt' hnM)|apply And.intro)
    · subst hA
      (repeat' first|exact True.intro|exact rfl|apply And.intro | (intro _ _;first|rfl|trivial))
      all_goals
        intro i hi
        exact m8 n9 rfl c G ⟨2,(real.ar .sub .i64 (real.ar .add .i64 t x6) bh),0,0,0⟩ _ i hi
    · subst hA;(repeat' first|exact True.intro|exact rfl|apply And.intro|exact .inl rfl|exact .inr (b8 rfl))
  · rename_i hlt h0 h60 hgt
    have hlt':k<n:=by first|exact f9 hA hlt|exact l5 hA hlt
    refine ⟨⟨(k+1,q4,real.ar .add .i64 t x6,mk,c,G),hlt',by (show p<=q4);omega,Int.le_trans (by (show q4<=q+9);omega) hpn,hmk,by (show c<=k+1);omega,hG⟩,by simp only;omega,c7 ?_ ?_ ?_⟩
    · subst hA;(repeat' first|exact True.intro|exact rfl|exact congrArg (λx=>DV.v (.int .i64 x)) (o0 hlt' hnM)|apply And.intro)
    · subst hA
      (repeat' first|exact True.intro|exact rfl|apply And.intro | (intro _ _;first|rfl|trivial))
    · subst hA;(repeat' first|exact True.intro|exact rfl|apply And.intro|exact .inl rfl|exact .inr (b8 rfl))
  · rename_i hlt h0 hlo hhi
    exfalso
    subst hA
    exact absurd (of_decide_eq_true (show decide ((0:Int)>60)=true from hhi)) (by decide)
  · rename_i hlt h0 hlo hhi
    have hlt':k<n:=by first|exact f9 hA hlt|exact l5 hA hlt
    refine ⟨⟨(k+1,q3,real.ar .add .i64 t x6,mk,c+1,(λi=>if i<c then G i else ⟨it.kind,0,x3,it.v,it.n⟩)),hlt',by (show p<=q3);omega,Int.le_trans (by (show q3<=q+9);omega) hpn,hmk,by (show c+1<=k+1);omega,logI_rec hG hrec (by decide) ⟨hx3a,hx3b⟩⟩,by simp only;omega,c7 ?_ ?_ ?_⟩
    · subst hA;(repeat' first|exact True.intro|exact rfl|exact congrArg (λx=>DV.v (.int .i64 x)) (o0 hlt' hnM)|apply And.intro)
    · subst hA
      (repeat' first|exact True.intro|exact rfl|apply And.intro | (intro _ _;first|rfl|trivial))
      all_goals
        intro i hi
        exact m8 n9 rfl c G ⟨it.kind,0,x3,it.v,it.n⟩ _ i hi
    · subst hA;(repeat' first|exact True.intro|exact rfl|apply And.intro|exact .inl rfl|exact .inr (b8 rfl))
  · rename_i hlt h0 hlo hhi
    have hlt':k<n:=by first|exact f9 hA hlt|exact l5 hA hlt
    refine ⟨⟨(k+1,q3,real.ar .add .i64 t x6,mk,c+1,(λi=>if i<c then G i else ⟨it.kind,60,x3,it.v,it.n⟩)),hlt',by (show p<=q3);omega,Int.le_trans (by (show q3<=q+9);omega) hpn,hmk,by (show c+1<=k+1);omega,logI_rec hG hrec (by decide) ⟨hx3a,hx3b⟩⟩,by simp only;omega,c7 ?_ ?_ ?_⟩
    · subst hA;(repeat' first|exact True.intro|exact rfl|exact congrArg (λx=>DV.v (.int .i64 x)) (o0 hlt' hnM)|apply And.intro)
    · subst hA
      (repeat' first|exact True.intro|exact rfl|apply And.intro | (intro _ _;first|rfl|trivial))
      all_goals
        intro i hi
        exact m8 n9 rfl c G ⟨it.kind,60,x3,it.v,it.n⟩ _ i hi
    · subst hA;(repeat' first|exact True.intro|exact rfl|apply And.intro|exact .inl rfl|exact .inr (b8 rfl))
  · rename_i hlt h0 hlo hhi
    have hlt':k<n:=by first|exact f9 hA hlt|exact l5 hA hlt
    have h60:0<=real.ar .sub .i64 (real.ar .add .i64 t x6) (real.sel [0,0,1,2,4,8,x20] (real.add 0 (real.nat x7)))/\real.ar .sub .i64 (real.ar .add .i64 t x6) (real.sel [0,0,1,2,4,8,x20] (real.add 0 (real.nat x7)))<=60:=by
      have h8:=hlo
      have h9:=hhi
      subst hA
      have h8:decide (real.ar .sub .i64 (real.ar .add .i64 t x6) (real.sel [0,0,1,2,4,8,x20] (real.add 0 (real.nat x7)))<0)=false:=h8
      have h8:=of_decide_eq_false h8
      have h9:decide (real.ar .sub .i64 (real.ar .add .i64 t x6) (real.sel [0,0,1,2,4,8,x20] (real.add 0 (real.nat x7)))>60)=false:=h9
      have h9:=of_decide_eq_false h9
      omega
    refine ⟨⟨(k+1,q3,real.ar .add .i64 t x6,mk,c+1,(λi=>if i<c then G i else ⟨it.kind,(real.ar .sub .i64 (real.ar .add .i64 t x6) (real.sel [0,0,1,2,4,8,x20] (real.add 0 (real.nat x7)))),x3,it.v,it.n⟩)),hlt',by (show p<=q3);omega,Int.le_trans (by (show q3<=q+9);omega) hpn,hmk,by (show c+1<=k+1);omega,logI_rec hG hrec h60 ⟨hx3a,hx3b⟩⟩,by simp only;omega,c7 ?_ ?_ ?_⟩
    · subst hA;(repeat' first|exact True.intro|exact rfl|exact congrArg (λx=>DV.v (.int .i64 x)) (o0 hlt' hnM)|apply And.intro)
    · subst hA
      (repeat' first|exact True.intro|exact rfl|apply And.intro | (intro _ _;first|rfl|trivial))
      all_goals
        intro i hi
        exact m8 n9 rfl c G ⟨it.kind,(real.ar .sub .i64 (real.ar .add .i64 t x6) (real.sel [0,0,1,2,4,8,x20] (real.add 0 (real.nat x7)))),x3,it.v,it.n⟩ _ i hi
    · subst hA;(repeat' first|exact True.intro|exact rfl|apply And.intro|exact .inl rfl|exact .inr (b8 rfl))
  · obtain ⟨G2,hG2⟩:∃ G2:Nat->ItmT,G2=λi=>if i<c then G i else if i-c<1 then endE else ⟨0,0,0,0,0⟩:=⟨_,rfl⟩
    have hRow:(λi=>n9 (G2 i))=real.app c (λi=>n9 (G i)) (real.sub 0 (real.app 1 (real.rep (n9 endE)) (real.rep (n9 ⟨0,0,0,0,0⟩)))):=by
      funext i
      subst hG2
      show n9 (if i<c then G i else if i-c<1 then endE else ⟨0,0,0,0,0⟩)=(if i<c then n9 (G i) else (if 0+(i-c)<1 then n9 endE else n9 ⟨0,0,0,0,0⟩))
      rw [Nat.zero_add]
      by_cases e:i<c
      · rw [if_pos e,if_pos e]
      · rw [if_neg e,if_neg e]
        by_cases e2:i-c<1
        · rw [if_pos e2,if_pos e2]
        · rw [if_neg e2,if_neg e2]
    have hl1:∀ i,i<c->G2 i=G i:=λi hi=>by rw [hG2];exact if_pos hi
    have hl2:G2 c=endE:=by
      rw [hG2]
      show (if c<c then G c else if c-c<1 then endE else _)=endE
      rw [if_neg (Nat.lt_irrefl c),if_pos (by omega)]
    have hcm:c+1<=maxLen:=Nat.le_trans (show c+1<=28 by omega) (by decide)
    have hlok:=logI_end hG (by omega) hl1 hl2 hcm
    refine i8 hA ⟨⟨⟨c+1,G2,hcm⟩,q⟩,⟨hp0,by (show q<=p+400);omega,hlok⟩,?_,rfl⟩
    subst hA
    exact congrArg (λr=>XA.one (.c (.own 5 (c+1) r))) hRow.symm
end Go.Rk
namespace Go.Rk
set_option linter.unusedSimpArgs false
set_option linter.unusedVariables false
theorem tellS_len (j:JobT) (m:Int) (r:RowT):(tellS j m r).2.length<=1:=by
  unfold tellS
  split
  · exact Nat.zero_le _
  · exact Nat.le_refl _
theorem intoL_pan {j:JobT} {m k v:Int} {w:WinT} {l:List RowT} {q:List RowT × List PaneT} (h:intoL j m k v w l=some q):q.2.length+q.1.length<=l.length+2:=by
  unfold intoL at h
  split at h
  · cases h
  · cases h
    have h1:=tellS_len j m (addR ((rFind k w l).getD (nrow k w)) v)
    have h2:=rPut_len (tellS j m (addR ((rFind k w l).getD (nrow k w)) v)).1 l
    dsimp only
    omega
theorem old_rest (k:Int) (w:WinT) (l:List RowT):(s6 k w l).length+(restL k w l).length=l.length:=by
  unfold s6 restL
  induction l with
  | nil=>rfl
  | cons r l ih=>
    rw [List.filter_cons,List.filter_cons]
    cases tchR k w r with
    | true=>rw [if_pos rfl,if_neg (by simp)];simp only [List.length_cons];omega
    | false=>rw [if_neg (by simp),if_pos (show (!false)=true from rfl)];simp only [List.length_cons];omega
theorem sessL_pan {j:JobT} {m k v:Int} {w:WinT} {l:List RowT} {q:List RowT × List PaneT} (h:sessL j m k v w l=some q):q.2.length+q.1.length<=l.length+2:=by
  unfold sessL at h
  split at h
  · cases h
  · split at h
    · exact intoL_pan h
    · cases h
      generalize spanL w (s6 k w l)=sp
      generalize (⟨k,sp,((s6 k w l).map (·.all)).foldl aggB (agg1 v),((s6 k w l).map (·.all)).foldl aggB (agg1 v),0,false⟩:RowT)=nr
      have h1:=tellS_len j m nr
      have h2:=rPut_len (tellS j m nr).1 (restL k w l)
      have h3:=old_rest k w l
      have h4:(goneL (s6 k w l)).length<=(s6 k w l).length:=by
        unfold goneL
        rw [List.length_map]
        exact List.length_filter_le _ _
      simp only [List.length_append]
      omega
theorem takeS_pan (j:JobT) (m:Int) (x:ItmT) (a:List RowT × List PaneT × List LatT) (w:WinT) :
    (takeS j m x a w).2.1.length+(takeS j m x a w).1.length<=a.2.1.length+a.1.length+2/\(takeS j m x a w).2.2.length<=a.2.2.length+1:=by
  unfold takeS
  split
  · rename_i q hq
    have h:q.2.length+q.1.length<=a.1.length+2:=by
      unfold stepT at hq
      split at hq
      · exact sessL_pan hq
      · exact intoL_pan hq
    simp only [List.length_append]
    omega
  · simp only [List.length_append,List.length_cons,List.length_nil]
    omega
theorem takeF_pan (j:JobT) (m:Int) (x:ItmT):∀ (ws:List WinT) (a:List RowT × List PaneT × List LatT),
    (ws.foldl (takeS j m x) a).2.1.length+(ws.foldl (takeS j m x) a).1.length<=a.2.1.length+a.1.length+2*ws.length/\(ws.foldl (takeS j m x) a).2.2.length<=a.2.2.length+ws.length
  | [],a=>⟨Nat.le_refl _,Nat.le_refl _⟩
  | w::ws,a=>by
    have h1:=takeS_pan j m x a w
    have h2:=takeF_pan j m x ws (takeS j m x a w)
    simp only [List.foldl_cons,List.length_cons]
    omega
theorem take_few {j:JobT} {s:OpStT} {x:ItmT} (h280:s.rows.n<=280):(w5 j s x).2.2.1.length<=288/\(w5 j s x).2.2.2.length<=4:=by
  unfold w5
  split
  · rename_i hc
    have h:=takeF_pan j s.mark x (x1 j x.t) (n6 s,[],[])
    have h2:=winsL_len4 hc.1.1 (recP_t hc.2.1)
    have h3:(n6 s).length=s.rows.n:=by unfold n6;simp
    have h:(takeL j s.mark x (x1 j x.t) (n6 s)).2.1.length+(takeL j s.mark x (x1 j x.t) (n6 s)).1.length<=0+(n6 s).length+2*(x1 j x.t).length/\(takeL j s.mark x (x1 j x.t) (n6 s)).2.2.length<=0+(x1 j x.t).length:=h
    show (takeL j s.mark x (x1 j x.t) (n6 s)).2.1.length<=288/\(takeL j s.mark x (x1 j x.t) (n6 s)).2.2.length<=4
    omega
  · exact ⟨Nat.zero_le _,Nat.zero_le _⟩
theorem take_stays2 {j:JobT} {s:OpStT} {m:ItmT} {x:Int × List RowT × List PaneT × List LatT} {B:Int} (hx:x=w5 j s m) (hok:OpOkP j s) (hr:RecP m) (h280:s.rows.n<=280) (hB:0<=B/\B<=880) (hb:Bd B (n6 s)) {k:Nat} {G:Nat->RowT} (hG:Lst u6 x.2.1 k G) (hkL:k<=maxLen) :
    OpOkP j ⟨x.1,⟨k,G,hkL⟩⟩/\x.1=s.mark/\Bd (B+4) (n6 ⟨x.1,⟨k,G,hkL⟩⟩)/\(∀ p,p∈x.2.2.1->PaneOkP p):=by
  obtain ⟨h1,h2,h3,h4⟩:=take_ok (T:=B) hok hr h280 (by have:=hb.1;omega) (by omega) λr hr=>(hb.2 r hr).2
  have e1:x.1=s.mark:=by rw [hx];unfold w5;rw [if_pos ⟨hok,hr,h280⟩]
  have hbd:Bd (B+4) x.2.1:=by rw [hx];exact bd_take hb hB
  have hlen:=opTakeL_rows j s m
  rw [<- hx] at h1 h4 hlen
  have hk:k<=300:=by have:=hG.1;omega
  exact ⟨ok_of (mk:=x.1) hG hkL hok.1 (by rw [e1];exact hok.2.1) hk (by rw [e1];exact h1),e1,bd_lst hbd hG hkL,λp hp=>(h4 p hp).1⟩
def insT (t:TskT) (g:Nat->TskInT):TskT:=⟨⟨t.ins.n,g,t.ins.hn⟩,t.op,t.wall,t.pend⟩
def setC (t:TskT) (k:Nat) (c:TskInT):TskT:=insT t λi=>if i=k then c else t.ins.g i
theorem cntB_same {p q:Nat->Bool} {n:Nat} (h:∀ i,i<n->p i=q i):cntB p n=cntB q n:=by
  induction n with
  | zero=>rfl
  | succ n ih=>
    unfold cntB
    rw [ih λi hi=>h i (by omega),h n (by omega)]
theorem lowP_same {z:Int} {n:Nat} {g h:Nat->Int} {x:Int} (he:∀ i,i<n->g i=h i) (hl:LowP z n g x):LowP z n h x:=by
  refine ⟨hl.1,λi hi=>by rw [<- he i hi];exact hl.2.1 i hi,?_⟩
  rcases hl.2.2 with h|⟨i,hi,e⟩
  · exact .inl h
  · exact .inr ⟨i,hi,by rw [<- he i hi];exact e⟩
theorem tsk_ins {j:JobT} {t:TskT} {g:Nat->TskInT} (h:s9 j t) (hg:∀ i,i<t.ins.n->InOkP j (g i)/\(g i).mark=(t.ins.g i).mark/\(g i).held=(t.ins.g i).held):s9 j (insT t g):=by
  obtain ⟨h1,h2,h3,h4,h5,h6,h7,h8⟩:=h
  refine ⟨h1,h2,h3,h4,h5,λi hi=>(hg i hi).1,?_,lowP_same (λi hi=>(hg i hi).2.1.symm) h8⟩
  show cntB (λi=>(g i).held) t.ins.n<t.ins.n
  rw [cntB_same (q:=λi=>(t.ins.g i).held) λi hi=>(hg i hi).2.2]
  exact h7
theorem tsk_chan {j:JobT} {t:TskT} {k:Nat} {c:TskInT} (h:s9 j t) (hk:k<t.ins.n) (hc:InOkP j c) (hm:c.mark=(t.ins.g k).mark) (hh:c.held=(t.ins.g k).held):s9 j (setC t k c):=
  tsk_ins h λi hi=>by
    by_cases e:i=k
    · rw [if_pos e,e];exact ⟨hc,hm,hh⟩
    · rw [if_neg e];exact ⟨h.2.2.2.2.2.1 i hi,rfl,rfl⟩
def popC (c:TskInT):TskInT:=⟨⟨c.queue.n-1,λi=>c.queue.g (i+1),Nat.le_trans (Nat.sub_le _ _) c.queue.hn⟩,c.mark,c.held⟩
theorem popC_ok {j:JobT} {c:TskInT} (h:InOkP j c):InOkP j (popC c):=by
  refine ⟨?_,h.2.1,λi hi=>h.2.2 (i+1) ?_⟩
  · have h1:=h.1
    show ((c.queue.n-1:Nat):Int)<=j.room
    omega
  · have hi:i<c.queue.n-1:=hi
    omega
theorem putI_ok {j:JobT} {c:TskInT} {x:ItmT} {hm:c.queue.n+1<=maxLen} (h:InOkP j c) (hr:(c.queue.n:Int)<j.room) (hx:ItmOkP x):InOkP j (putI c x hm):=by
  refine ⟨?_,h.2.1,λi hi => ?_⟩
  · show ((c.queue.n+1:Nat):Int)<=j.room
    omega
  · show ItmOkP (if i<c.queue.n then c.queue.g i else x)
    split
    · rename_i hlt;exact h.2.2 i hlt
    · exact hx
theorem tsk_op {j:JobT} {t:TskT} {op:OpStT} {pend:TxnT} (h:s9 j t) (ho:OpOkP j op) (hm:op.mark=t.op.mark) (hp:TxnOkP pend) (hn:pend.n=0):s9 j ⟨t.ins,op,t.wall,pend⟩:=by
  obtain ⟨h1,h2,h3,h4,h5,h6,h7,h8⟩:=h
  refine ⟨ho,h2,h3,hp,hn,h6,h7,?_⟩
  show LowP 1000 t.ins.n (λi=>(t.ins.g i).mark) op.mark
  rw [hm];exact h8
def appS {α:Type} (s:Sl α) (c:Nat) (P:Nat -> α) (h:s.n+c<=maxLen):Sl α:=⟨s.n+c,λi=>if i<s.n then s.g i else P (i-s.n),h⟩
theorem appS_all {α:Type} {Q : α->Prop} {s:Sl α} {c:Nat} {P:Nat -> α} {h:s.n+c<=maxLen} (h1:∀ i,i<s.n->Q (s.g i)) (h2:∀ i,i<c->Q (P i)):∀ i,i<(appS s c P h).n->Q ((appS s c P h).g i):=λi hi=>by
  have hi:i<s.n+c:=hi
  show Q (if i<s.n then s.g i else P (i-s.n))
  split
  · rename_i hlt;exact h1 i hlt
  · exact h2 _ (by omega)
theorem txn_app {x:TxnT} {c d:Nat} {P:Nat->PaneT} {Q:Nat->LatT} {h1:x.panes.n+c<=maxLen} {h2:x.lates.n+d<=maxLen} (h:TxnOkP x) (hc:x.panes.n+c<=1500) (hd:x.lates.n+d<=1500) (hP:∀ i,i<c->PaneOkP (P i)) (hQ:∀ i,i<d->LatOkP (Q i)):TxnOkP ⟨x.n,appS x.panes c P h1,appS x.lates d Q h2⟩:=by
  refine ⟨h.1,?_,?_,appS_all h.2.2.2.1 hP,appS_all h.2.2.2.2 hQ⟩
  · show ((x.panes.n+c:Nat):Int)<=1500;omega
  · show ((x.lates.n+d:Nat):Int)<=1500;omega
theorem tsk_marks {j:JobT} {t:TskT} {g:Nat->TskInT} {low:Int} {op:OpStT} {pend:TxnT} (h:s9 j t) (hg:∀ i,i<t.ins.n->InOkP j (g i)/\(g i).held=(t.ins.g i).held) (hl:LowP 1000 t.ins.n (λi=>(g i).mark) low)
    (ho:OpOkP j op) (hm:op.mark=low) (hp:TxnOkP pend) (hn:pend.n=0):s9 j ⟨⟨t.ins.n,g,t.ins.hn⟩,op,t.wall,pend⟩:=by
  obtain ⟨h1,h2,h3,h4,h5,h6,h7,h8⟩:=h
  refine ⟨ho,h2,h3,hp,hn,λi hi=>(hg i hi).1,?_,by show LowP 1000 t.ins.n (λi=>(g i).mark) op.mark;rw [hm];exact hl⟩
  show cntB (λi=>(g i).held) t.ins.n<t.ins.n
  rw [cntB_same (q:=λi=>(t.ins.g i).held) λi hi=>(hg i hi).2]
  exact h7
theorem low_rise {j:JobT} {t:TskT} {g:Nat->TskInT} {low:Int} (h:s9 j t) (hg:∀ i,i<t.ins.n->(t.ins.g i).mark<=(g i).mark) (hl:LowP 1000 t.ins.n (λi=>(g i).mark) low):t.op.mark<=low/\0<=low/\low<=1000:=by
  have h8:=h.2.2.2.2.2.2.2
  have h0:=h.1.2.1
  have e:t.op.mark<=low:=by
    rcases hl.2.2 with e|⟨i,hi,e⟩
    · rw [e];exact h8.1
    · have a:=hg i hi
      have b:=h8.2.1 i hi
      have b:t.op.mark<=(t.ins.g i).mark:=b
      have e:low=(g i).mark:=e
      omega
  exact ⟨e,by omega,hl.1⟩
theorem mark_eq {j:JobT} {s:OpStT} {m:Int} (hok:OpOkP j s) (hm:0<=m/\m<=1000) (h:s.mark<=m):(opMarkL j s m).1=m:=by
  rw [opMarkL_L hok hm]
  unfold markL
  split
  · show s.mark=m;omega
  · rfl
theorem mark_pan {j:JobT} {s:OpStT} {m:Int}:(opMarkL j s m).2.2.length<=s.rows.n:=(opMarkL_len j s m).2
theorem mark_stays2 {j:JobT} {s:OpStT} {m B:Int} {x:Int × List RowT × List PaneT} (hx:x=opMarkL j s m) (hok:OpOkP j s) (hm:0<=m/\m<=1000) (hB:0<=B) (hb:Bd B (n6 s)) {k:Nat} {G:Nat->RowT} (hG:Lst u6 x.2.1 k G) (hkL:k<=maxLen) :
    OpOkP j ⟨x.1,⟨k,G,hkL⟩⟩/\Bd (B+1) (n6 ⟨x.1,⟨k,G,hkL⟩⟩)/\∀ p,p∈x.2.2->PaneOkP p:=by
  obtain ⟨h1,h2,h3⟩:=mark_stays hx hok hm hG hkL
  obtain ⟨_,_,g1,g2,g3,_⟩:=mark_ok (T:=B) hok hm hB λr hr=>(hb.2 r hr).2
  rw [<- hx] at g1 g2 g3
  refine ⟨h1,bd_lst ⟨Int.le_trans g3 (by have:=hb.1;omega),λr hr=>⟨?_,g2 r hr⟩⟩ hG hkL,h3⟩
  have h:=(rowOk_n (g1.1 r hr)).1
  omega
theorem cntB_false (n:Nat):cntB (λ_=>false) n=0:=by
  induction n with
  | zero=>rfl
  | succ n ih=>unfold cntB;rw [ih];rfl
theorem tsk_held {j:JobT} {t:TskT} {g:Nat->TskInT} {wall:Int} {pend:TxnT} (h:s9 j t) (hw:0<=wall/\wall<=900) (hg:∀ i,i<t.ins.n->(g i).queue=(t.ins.g i).queue/\(g i).mark=(t.ins.g i).mark) (hc:cntB (λi=>(g i).held) t.ins.n<t.ins.n) (hp:TxnOkP pend) (hn:pend.n=0):s9 j ⟨⟨t.ins.n,g,t.ins.hn⟩,t.op,wall,pend⟩:=by
  obtain ⟨h1,h2,h3,h4,h5,h6,h7,h8⟩:=h
  refine ⟨h1,h2,hw,hp,hn,λi hi => ?_,hc,lowP_same (λi hi=>(hg i hi).2.symm) h8⟩
  have a:=h6 i hi
  have e1:(g i).queue=(t.ins.g i).queue:=(hg i hi).1
  have e2:=(hg i hi).2
  show InOkP j (g i)
  unfold InOkP at a ⊢
  rw [e1,e2];exact a
theorem newC_ok {j:JobT} (h:t9 j) {a b:Nat} (ha1:1<=a) (ha3:a<=3) (hb2:b<=2) (ja:(a:Int)=j.srcs) (jb:(b:Int)=j.tsks):CkpOkP j (newC a b ha3 hb2):=by
  have hs:SnapOkP j (nSnp a ha3):=⟨⟨h,⟨by show (0:Int)<=0;decide,by show (0:Int)<=1000;decide⟩,Nat.zero_le _,λi hi=>absurd hi (Nat.not_lt_zero i)⟩,⟨ja,λ_ _=>⟨by show (0:Int)<=0;decide,by show (0:Int)<=1000;decide⟩⟩,⟨by show (0:Int)<=1000;decide,λ_ _=>by show (0:Int)<=0;decide,.inr ⟨0,ha1,rfl⟩⟩⟩
  refine ⟨h,⟨⟨by show (0:Int)<=0;decide,by show (0:Int)<=900;decide⟩,ja,λ_ _=>⟨by show (0:Int)<=0;decide,by show (0:Int)<=40;decide⟩,jb,λ_ _=>hs⟩,⟨by show (0:Int)<=0;decide,by show (0:Int)<=900;decide⟩,λ(e:false=true/\_)=>absurd e.1 (by decide),ja,jb,jb,λ_ _=>⟨⟨by show (-1:Int) <= -1;decide,by show (-1:Int)<=40;decide⟩,.inr rfl⟩,λ_ _=>⟨λ(e:false=true)=>absurd e (by decide),λ_=>⟨rfl,rfl,rfl⟩⟩⟩
theorem rd_get {m:Int} {g:Nat->TxnT} {n:Nat} (h:∀ i,i<n->RdI m g i) {i:Nat} (hi:i<n):TxnOkP (g i)/\m<(g i).n:=⟨(h i hi).1,rd_low h i hi⟩
theorem rd_two {m:Int} {g:Nat->TxnT} {n:Nat} (h:∀ i,i<n->RdI m g i) {i:Nat} (hi:i+1<n):(g i).n<(g (i+1)).n:=by
  have:=(h (i+1) hi).2
  unfold lastR at this
  rw [if_neg (by omega)] at this
  exact this
theorem rd_push {m:Int} {g:Nat->TxnT} {n:Nat} {x:TxnT} (h:∀ i,i<n->RdI m g i) (hx:TxnOkP x) (hm:m<x.n) (hl:0<n->(g (n-1)).n<x.n):∀ i,i<n+1->RdI m (λi=>if i<n then g i else x) i:=λi hi=>by
  unfold RdI lastR
  dsimp only
  by_cases c:i<n
  · rw [if_pos c]
    have:=h i c
    unfold RdI lastR at this
    by_cases z:i=0
    · rw [if_pos z] at this ⊢;exact this
    · rw [if_neg z] at this ⊢;rw [if_pos (by omega)];exact this
  · have e:i=n:=by omega
    subst e
    rw [if_neg (Nat.lt_irrefl i)]
    by_cases z:i=0
    · rw [if_pos z];exact ⟨hx,hm⟩
    · rw [if_neg z,if_pos (by omega)];exact ⟨hx,hl (by omega)⟩
theorem rd_less {m:Int} {g:Nat->TxnT} {n k:Nat} (h:∀ i,i<n->RdI m g i) (hk:k<=n):∀ i,i<k->RdI m g i:=λi hi=>h i (by omega)
theorem txn_join {x y:TxnT} {h1:y.panes.n+x.panes.n<=maxLen} {h2:y.lates.n+x.lates.n<=maxLen} (hx:TxnOkP x) (hy:TxnOkP y) (hc:y.panes.n+x.panes.n<=1500) (hd:y.lates.n+x.lates.n<=1500):TxnOkP ⟨x.n,appS y.panes x.panes.n x.panes.g h1,appS y.lates x.lates.n x.lates.g h2⟩:=by
  have h:=txn_app (x:=y) (P:=x.panes.g) (Q:=x.lates.g) (h1:=h1) (h2:=h2) hy hc hd hx.2.2.2.1 hx.2.2.2.2
  exact ⟨hx.1,h.2⟩
theorem sink_new {s:SinkT} {x:TxnT} {hm:s.ready.n+1<=maxLen} (h:w6 s) (hx:TxnOkP x) (h12:s.ready.n<12) (hn:s.n<x.n) (hl:0<s.ready.n->(s.ready.g (s.ready.n-1)).n<x.n):w6 ⟨⟨s.ready.n+1,λi=>if i<s.ready.n then s.ready.g i else x,hm⟩,s.n,s.panes,s.lates⟩:=
  ⟨h12,h.2.1,h.2.2.1,rd_push h.2.2.2 hx hn hl⟩
theorem sink_join {s:SinkT} {x:TxnT} {hm:s.ready.n-1+1<=maxLen} (h:w6 s) (hx:TxnOkP x) (h0:0<s.ready.n) (hl:(s.ready.g (s.ready.n-1)).n<x.n):w6 ⟨⟨s.ready.n-1+1,λi=>if i<s.ready.n-1 then s.ready.g i else x,hm⟩,s.n,s.panes,s.lates⟩:=by
  have hr:=rd_get h.2.2.2 (show s.ready.n-1<s.ready.n by omega)
  refine ⟨by show s.ready.n-1+1<=12;have:=h.1;omega,h.2.1,h.2.2.1,rd_push (rd_less h.2.2.2 (Nat.sub_le _ _)) hx (by have:=hr.2;show s.n<x.n;omega) λh1 => ?_⟩
  have:=rd_two (i:=s.ready.n-1-1) h.2.2.2 (by omega)
  rw [show s.ready.n-1-1+1=s.ready.n-1 by omega] at this
  omega
theorem ask_ok {j:JobT} {x:CkpT} (h:CkpOkP j x):CkpOkP j (askP j x):=by
  unfold askP
  rw [if_pos h,asks_if]
  by_cases c:x.opn=false/\x.n<900
  · rw [if_pos c,if_pos c]
    obtain ⟨h1,h2,h3,h4,h5,h6,h7,h8,h9⟩:=h
    refine ⟨h1,h2,⟨by show x.safe.n<=x.n+1;omega,by show x.n+1<=900;omega⟩,λ(e:true=true/\x.n+1=x.safe.n)=>by omega,h5,h6,h7,λi hi=>⟨(h8 i hi).1,.inl rfl⟩,λi hi=>⟨λe=>⟨rfl,?_⟩,(h9 i hi).2⟩⟩
    have:=((h9 i hi).1 e).1
    rw [c.1] at this;cases this
  · rw [if_neg c,if_neg c];exact h
theorem idle_ok {j:JobT} {x:CkpT} (hj:t9 j) (hs:SafeOkP j x.safe) (hn:x.safe.n<=x.n/\x.n<=900):CkpOkP j (idleP j hj x):=by
  have e1:=jobS hj
  have e2:=jobT hj
  refine ⟨hj,hs,hn,λe=>absurd e.1 (show ¬ (false=true) by decide),e1.2.2,e2.2.2,e2.2.2,λi hi=>⟨⟨by show (-1:Int) <= -1;decide,by show (-1:Int)<=40;decide⟩,.inr rfl⟩,λi hi=>⟨λe=>absurd e (show ¬ (false=true) by decide),λ_=>⟨rfl,rfl,rfl⟩⟩⟩
theorem drop_ok {j:JobT} {x:CkpT} (h:CkpOkP j x):CkpOkP j (dropP j x):=by
  unfold dropP
  rw [dif_pos h]
  exact idle_ok _ h.2.1 h.2.2.1
theorem save_ok {j:JobT} {x:CkpT} (h:CkpOkP j x):CkpOkP j (saveP j x).1:=by
  unfold saveP
  rw [dif_pos h]
  by_cases c:ReadyP x
  · rw [if_pos c]
    obtain ⟨h1,h2,h3,h4,h5,h6,h7,h8,h9⟩:=h
    have e0:=h2.1
    refine idle_ok (x:=⟨x.n,x.opn,x.src,x.tsk,x.snaps,⟨x.n,x.src,x.snaps⟩⟩) h1 ⟨⟨by show 0<=x.n;omega,h3.2⟩,h5,λi hi => ?_,h7,λi hi => ?_⟩ ⟨Int.le_refl _,h3.2⟩
    · have a:=(h8 i hi).1
      have b:=c.2.1 i hi
      show 0<=x.src.g i/\x.src.g i<=40
      omega
    · have hi:i<x.snaps.n:=hi
      have hi2:i<x.tsk.n:=by omega
      exact ((h9 i hi2).1 (c.2.2 i hi2)).2
  · rw [if_neg c];exact h
end Go.Rk
