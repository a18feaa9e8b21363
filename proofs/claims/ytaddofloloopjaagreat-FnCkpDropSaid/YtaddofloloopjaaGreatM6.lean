/- What each of this seat's functions answers, at all data, part 6: no condition. -/
import Derived.Test.YtaddofloloopjaaGreatM5
namespace Go.Rk
set_option linter.unusedSimpArgs false
set_option linter.unusedVariables false
theorem inl_call {A:Ar} (hA:real=A) {Q:AV->List (Nat × Nat × HO)->List (Nat × Nat × HO)->Prop} (x:AV) (kn us:List (Nat × Nat × HO)) (h:Q x kn us):A.hold λ_=>∃ x kn us,Q x kn us:=by
  subst hA;exact ⟨x,kn,us,h⟩
theorem meets_slice {P:Program} {f:FuncId} {sz n:Nat} {row:Nat->List DV} {out:Out}
    (h0:n=0->∀ (ad:Option Addr) (cap:Nat),d7 P f [.c (.d (.v (.slice ad 0 cap)))] out) (h1:0<n->d7 P f [.c (.d (.sl sz n row))] out):d7 P f [.c (.d (.sl sz n row))] out:=by
  refine ⟨?_,λw vals F N hx hF hb hN => ?_⟩
  · by_cases hn:n=0
    · exact (h0 hn none 0).1
    · exact (h1 (by omega)).1
  · by_cases hn:n=0
    · match vals,hx with
      | [],hx=>exact hx.elim
      | v::s,hx=>
        obtain ⟨F1,F2,e,⟨rfl,hd⟩,h2⟩:=hx
        have hd:DRep w N (.sl sz n row) v:=hd
        obtain ⟨ad,cap,rfl⟩:∃ ad cap,v=.slice ad 0 cap:=by
          subst hn
          cases hd with
          | nil=>exact ⟨_,_,rfl⟩
          | empty=>exact ⟨_,_,rfl⟩
          | sl _ _ _ b off cap=>exact ⟨_,_,rfl⟩
        exact (h0 hn ad cap).2 w _ F N ⟨[],F2,e,⟨rfl,DRep.v _ rfl⟩,h2⟩ hF hb hN
    · exact (h1 (by omega)).2 w vals F N hx hF hb hN
def UpV (x y:XV):Prop:=x=y\/(∃ sz row,x=.d (.v c9)/\y=.own sz 0 row)\/∃ sz n row row',(∀ i,i<n->row i=row' i)/\x=.own sz n row/\y=.own sz n row'
def UpVs:List XV->List XV->Prop
  | [],[]=>True
  | x::r,y::s=>UpV x y/\UpVs r s
  | _,_=>False
def UpT:XT->XT->Prop
  | .c x,.c y=>UpV x y
  | .agg xs,.agg ys=>UpVs xs ys
  | _,_=>False
def UpTs:List XT->List XT->Prop
  | [],[]=>True
  | x::r,y::s=>UpT x y/\UpTs r s
  | _,_=>False
def UpA:XA->XA->Prop
  | .one x,.one y=>UpT x y
  | .tup xs,.tup ys=>UpTs xs ys
  | _,_=>False
section
variable {w:World} {N:Nat->Prop}
theorem UpV.rep {x y:XV} {v:Value} {F:List Nat} (h:UpV x y) (hx:XVRep w N x v F):XVRep w N y v F:=by
  rcases h with rfl|⟨sz,row,rfl,rfl⟩|⟨sz,n,row,row',he,rfl,rfl⟩
  · exact hx
  · obtain ⟨rfl,hd⟩:=hx
    cases hd
    exact ⟨λi hi=>absurd hi (Nat.not_lt_zero i),.inl ⟨rfl,rfl,_,rfl⟩⟩
  · obtain ⟨h1,h2⟩:=hx
    refine ⟨λi hi=>by rw [<- he i hi];exact h1 i hi,h2.imp id ?_⟩
    rintro ⟨b,base,cap,cs,e,g1,g2,g3,g4,g5,g6,g7⟩
    exact ⟨b,base,cap,cs,e,g1,g2,g3,g4,g5,g6,λi j x hi hj=>g7 i j x hi (by rw [he i hi];exact hj)⟩
theorem UpVs.rep:∀ {xs ys:List XV} {vs:List Value} {F:List Nat},UpVs xs ys->XVsRep w N xs vs F->XVsRep w N ys vs F
  | [],[],_,_,_,h=>h
  | _::_,_::_,_::_,_,hu,⟨F1,F2,e,h1,h2⟩=>⟨F1,F2,e,hu.1.rep h1,UpVs.rep hu.2 h2⟩
  | _::_,_::_,[],_,_,h=>h.elim
  | [],_::_,_,_,hu,_=>hu.elim
  | _::_,[],_,_,hu,_=>hu.elim
theorem UpT.rep {x y:XT} {v:Value} {F:List Nat} (hu:UpT x y) (hx:XTRep w N x v F):XTRep w N y v F:=by
  cases x with
  | c x=>cases y with
    | c y=>exact UpV.rep hu hx
    | agg _=>exact hu.elim
  | agg xs=>cases y with
    | c y=>exact hu.elim
    | agg ys=>obtain ⟨cs,e,h⟩:=hx;exact ⟨cs,e,UpVs.rep hu h⟩
theorem UpTs.rep:∀ {xs ys:List XT} {vs:List Value} {F:List Nat},UpTs xs ys->XTsRep w N xs vs F->XTsRep w N ys vs F
  | [],[],_,_,_,h=>h
  | _::_,_::_,_::_,_,hu,⟨F1,F2,e,h1,h2⟩=>⟨F1,F2,e,hu.1.rep h1,UpTs.rep hu.2 h2⟩
  | _::_,_::_,[],_,_,h=>h.elim
  | [],_::_,_,_,hu,_=>hu.elim
  | _::_,[],_,_,hu,_=>hu.elim
theorem UpA.rep {x y:XA} {v:Value} {F:List Nat} (hu:UpA x y) (hx:XARep w N x v F):XARep w N y v F:=by
  cases x with
  | one x=>cases y with
    | one y=>exact UpT.rep hu hx
    | tup _=>exact hu.elim
  | tup xs=>cases y with
    | one y=>exact hu.elim
    | tup ys=>obtain ⟨cs,e,h⟩:=hx;exact ⟨cs,e,UpTs.rep hu h⟩
end
theorem UpV.refl (x:XV):UpV x x:=.inl rfl
theorem UpV.nil (sz:Nat) (row:Nat->List DV):UpV (.d (.v c9)) (.own sz 0 row):=.inr (.inl ⟨sz,row,rfl,rfl⟩)
theorem UpV.row {sz n:Nat} {row row':Nat->List DV} (h:∀ i,i<n->row i=row' i):UpV (.own sz n row) (.own sz n row'):=.inr (.inr ⟨sz,n,row,row',h,rfl,rfl⟩)
theorem add0 {A:Ar} (hA:real=A) (n:Nat):A.add 0 n=n:=by subst hA;exact Nat.zero_add n
theorem cp_row2 {A:Ar} (hA:real=A) (z row:Nat->List DV):A.app 0 z row=row:=by
  subst hA;funext i
  show (if i<0 then z i else row (i-0))=row i
  rw [if_neg (Nat.not_lt_zero _)];rfl
theorem own_cp {A:Ar} (hA:real=A) {sz n:Nat} {z row row':Nat->List DV} (h:row=row'):XA.one (.c (.own sz (A.add 0 n) (A.app 0 z row)))=XA.one (.c (.own sz n row')):=by
  rw [add0 hA,cp_row2 hA,h]
theorem w9 {A:Ar} (hA:real=A) {n b:Nat} (hn:n<=2000000) (hb:b<=100000):A.room n b:=by
  subst hA
  refine ⟨Nat.le_trans (Nat.mul_le_mul hn hb) (by decide),by omega⟩
theorem meets_up {P:Program} {f:FuncId} {args:List XT} {res res':XA} {back:List (Option XV)} (hu:UpA res res') (h:d7 P f args ⟨res,back⟩):d7 P f args ⟨res',back⟩:=by
  refine ⟨h.1,λw vals F N hx hF hb hN => ?_⟩
  refine (h.2 w vals F N hx hF hb hN).mono ?_
  rintro e w' ⟨v,F1,F2,h1,h2,h3,h4,h5,h6,h7,h8,h9⟩
  exact ⟨v,F1,F2,h1,h2,h3,h4,h5,h6,h7,hu.rep h8,h9⟩
theorem own_cp2 {A:Ar} (hA:real=A) {sz n:Nat} {m:XV} {z row row':Nat->List DV} (h:row=row'):XA.one (.agg [m,.own sz (A.add 0 n) (A.app 0 z row)])=XA.one (.agg [m,.own sz n row']):=by
  rw [add0 hA,cp_row2 hA,h]
theorem bnot_t {A:Ar} (hA:real=A) {b:Bool} (h:A.bnot b=true):b=false:=by
  subst hA
  cases b with
  | false=>rfl
  | true=>exact absurd h (by decide)
theorem bnot_f {A:Ar} (hA:real=A) {b:Bool} (h:A.bnot b=false):b=true:=by
  subst hA
  cases b with
  | true=>rfl
  | false=>exact absurd h (by decide)
theorem room_z {A:Ar} (hA:real=A) {n b:Nat} (hn:n<=2000000) (hb:b<=100000):A.room (A.add 0 n) b:=by
  rw [add0 hA];exact w9 hA hn hb
theorem CsRep.mid {σ:p9} {μ:Place} {w:World} {N:Nat->Prop} {x y:CV} (h:∀ v,CRep σ μ w N x v->CRep σ μ w N y v):∀ {xs ys:List CV} {vs:List Value},CsRep σ μ w N (xs++x::ys) vs->CsRep σ μ w N (xs++y::ys) vs
  | [],_,[],hx=>hx.elim
  | [],_,_::_,hx=>⟨h _ hx.1,hx.2⟩
  | _::_,_,[],hx=>hx.elim
  | _::xs,_,_::_,hx=>⟨hx.1,CsRep.mid h hx.2⟩
theorem cov_promC {fr:Bool} {nt:Nat} {σ τ:St} (l L ver sz:Nat) (row:Nat->List DV) {v:Nat} (xs ys:List CV) (ho:m4 σ.objs l=(v,.box (xs ++ .d (.v c9)::ys))) (hne:nbeq L l=false) (hv:nblt (σ.o L).1 ver=true)
    (h:CovG fr nt ⟨σ.slots,(l,v,.box (xs ++ .own L 0 0 ver::ys))::(L,ver,.arr sz 0 row) :: σ.objs⟩ τ):CovG fr nt σ τ:=by
  refine cov_trans ?_ h
  rintro w0 S a w hfo ⟨μ,R⟩
  have hne:L≠l:=λe=>by subst e;simp at hne
  obtain ⟨st,R'⟩:=R.bare L ver (by simpa [nblt_eq] using hv) (.arr sz 0 row) (.inr (.inl ⟨_,_,rfl⟩))
  have eo:St.o ⟨σ.slots,(l,v,.box (xs ++ .own L 0 0 ver::ys))::(L,ver,.arr sz 0 row) :: σ.objs⟩=updO (updO σ.o L (ver,.arr sz 0 row)) l (v,.box (xs ++ .own L 0 0 ver::ys)):=by
    show m4 ((l,v,.box (xs ++ .own L 0 0 ver::ys))::(L,ver,.arr sz 0 row) :: σ.objs)=_
    rw [lookO_upd,lookO_upd];rfl
  refine ⟨updP μ L none,?_⟩
  rw [eo]
  generalize hσ':updO σ.o L (ver,.arr sz 0 row) = σ' at R' st ⊢
  generalize hμ':updP μ L none = μ' at R' st ⊢
  have hl : σ' l=(v,.box (xs ++ .d (.v c9)::ys)):=by rw [<- hσ',s7 _ _ hne.symm];exact ho
  have hL : σ' L=(ver,.arr sz 0 row):=by rw [<- hσ'];exact updO_same _ _ _
  have hlive:∀ k,m5 (updO σ' l (v,.box (xs ++ .own L 0 0 ver::ys))) k->m5 σ' k:=λk hk=>by
    by_cases e:k=l
    · subst e;unfold m5;rw [hl];exact HO.noConfusion
    · unfold m5 at hk ⊢;rwa [s7 _ _ e] at hk
  have hst:Step S σ' (updO σ' l (v,.box (xs ++ .own L 0 0 ver::ys))) μ' μ' w w:=by
    refine ⟨Nat.le_refl _,λb hb=>⟨rfl,hb.1,hb.2.1,λk hk=>hb.2.2 k (hlive k hk)⟩,λk => ?_⟩
    right
    by_cases e:k=l
    · subst e
      rw [updO_same]
      exact ⟨by rw [hl],rfl,λc _=>⟨_,by rw [hl]⟩,λsz n row hr=>(nomatch hr),λsz n row foc hr=>(nomatch hr),λb base cs e' hm hex hb=>⟨cs,hb,rfl⟩⟩
    · rw [s7 _ _ e]
      exact ⟨rfl,rfl,λc hc=>⟨c,hc⟩,λsz n row hr=>⟨n,row,hr,Nat.le_refl _⟩,λsz n row foc hr=>⟨row,foc,hr⟩,λb base cs' e' hm _ hb=>⟨cs',hb,rfl⟩⟩
  refine R'.carry hst ⟨rfl,rfl,rfl⟩ (λ_ _ _=>rfl) (λb cs e fr hb=>⟨cs,hb,rfl⟩) (λk b hk hm=>R'.ownH k b (hlive k hk) hm) (λk k' b hk hk' hm hm'=>R'.injH k k' b (hlive k hk) (hlive k' hk') hm hm') (λk hk hn=>R'.kz k (hlive k hk) ?_) (λk => ?_)
  · by_cases e:k=l
    · subst e;rw [hl];rfl
    · rw [s7 _ _ e] at hn;exact hn
  by_cases e:k=l
  · right
    subst e
    rw [updO_same]
    have hr:=R'.objs k
    rw [hl] at hr
    obtain ⟨b,cs,e,h1,h2,h3⟩:=hr
    refine ⟨b,cs,e,h1,h2,CsRep.mid (λu hu => ?_) (h3.step hst)⟩
    have hu:DRep w _ (.v c9) u:=hu
    cases hu
    refine ⟨rfl,by rw [s7 _ _ hne,hL];exact Nat.le_refl _,λsz' n row' e => ?_⟩
    rw [s7 _ _ hne,hL] at e
    cases e
    exact ⟨Nat.le_refl _,.inl ⟨by rw [<- hμ'];exact updP_same _ _ _,rfl,_,rfl⟩⟩
  · left
    exact ⟨s7 _ _ e,rfl,rfl,λ_ _ _=>rfl⟩
section
variable {w0:World} {S:Sets} {nt:Nat} {sl:Nat->AV} {σ:p9} {a:Act} {w:World} {μ:Place}
theorem CsRep.mid2 {σ σ':p9} {μ μ':Place} {w w':World} {N N':Nat->Prop} {x y:CV} (hs:∀ z v,CRep σ μ w N z v->CRep σ' μ' w' N' z v) (h:∀ v,CRep σ μ w N x v->CRep σ' μ' w' N' y v):∀ {xs ys:List CV} {vs:List Value},CsRep σ μ w N (xs++x::ys) vs->CsRep σ' μ' w' N' (xs++y::ys) vs
  | [],_,[],hx=>hx.elim
  | [],ys,_::vs,hx=>⟨h _ hx.1,by
      have h2:=hx.2
      clear hx
      induction ys generalizing vs with
      | nil=>cases vs with
        | nil=>trivial
        | cons _ _=>exact h2.elim
      | cons z r ih=>cases vs with
        | nil=>exact h2.elim
        | cons v s=>exact ⟨hs _ _ h2.1,ih _ h2.2⟩⟩
  | _::_,_,[],hx=>hx.elim
  | _::xs,_,_::_,hx=>⟨hs _ _ hx.1,CsRep.mid2 hs h hx.2⟩
end
theorem DRep.rows {w:World} {N:Nat->Prop} {sz n:Nat} {row row':Nat->List DV} {v:Value} (h:∀ i,i<n->row i=row' i) (hx:DRep w N (.sl sz n row) v):DRep w N (.sl sz n row') v:=by
  cases hx with
  | nil=>exact .nil _ _
  | empty=>exact .empty _ _ _
  | sl _ _ _ b off cap cs e fr val hN hb hcap hcs hl hval hrow=>
    exact .sl _ _ _ b off cap cs e fr val hN hb hcap hcs (λi hi=>by rw [<- h i hi];exact hl i hi) (λi j x hi hj=>hval i j x hi (by rw [h i hi];exact hj)) (λi j x hi hj=>hrow i j x hi (by rw [h i hi];exact hj))
theorem cov_dB {fr:Bool} {nt:Nat} {σ τ:St} (l sz:Nat) (row row':Nat->List DV) {v n:Nat} (xs ys:List CV) (hb:m4 σ.objs l=(v,.box (xs ++ .d (.sl sz n row)::ys))) (hr:∀ i,i<n->row i=row' i)
    (h:CovG fr nt ⟨σ.slots,(l,v,.box (xs ++ .d (.sl sz n row')::ys)) :: σ.objs⟩ τ):CovG fr nt σ τ:=by
  refine cov_trans ?_ h
  rintro w0 S a w hfo ⟨μ,R⟩
  have eo:St.o ⟨σ.slots,(l,v,.box (xs ++ .d (.sl sz n row')::ys)) :: σ.objs⟩=updO σ.o l (v,.box (xs ++ .d (.sl sz n row')::ys)):=by
    show m4 ((l,v,.box (xs ++ .d (.sl sz n row')::ys)) :: σ.objs)=_
    rw [lookO_upd];rfl
  refine ⟨μ,?_⟩
  rw [eo]
  have hl : σ.o l=(v,.box (xs ++ .d (.sl sz n row)::ys)):=hb
  have hlive:∀ k,m5 (updO σ.o l (v,.box (xs ++ .d (.sl sz n row')::ys))) k->m5 σ.o k:=λk hk=>by
    by_cases e:k=l
    · subst e;unfold m5;rw [hl];exact HO.noConfusion
    · unfold m5 at hk ⊢;rwa [s7 _ _ e] at hk
  have hst:Step S σ.o (updO σ.o l (v,.box (xs ++ .d (.sl sz n row')::ys))) μ μ w w:=by
    refine ⟨Nat.le_refl _,λb hb=>⟨rfl,hb.1,hb.2.1,λk hk=>hb.2.2 k (hlive k hk)⟩,λk => ?_⟩
    right
    by_cases e:k=l
    · subst e
      rw [updO_same]
      exact ⟨by rw [hl],rfl,λc _=>⟨_,by rw [hl]⟩,λsz n row hr=>(nomatch hr),λsz n row foc hr=>(nomatch hr),λb base cs e' hm hex hb=>⟨cs,hb,rfl⟩⟩
    · rw [s7 _ _ e]
      exact ⟨rfl,rfl,λc hc=>⟨c,hc⟩,λsz n row hr=>⟨n,row,hr,Nat.le_refl _⟩,λsz n row foc hr=>⟨row,foc,hr⟩,λb base cs' e' hm _ hb=>⟨cs',hb,rfl⟩⟩
  refine R.carry hst ⟨rfl,rfl,rfl⟩ (λ_ _ _=>rfl) (λb cs e fr hb=>⟨cs,hb,rfl⟩) (λk b hk hm=>R.ownH k b (hlive k hk) hm) (λk k' b hk hk' hm hm'=>R.injH k k' b (hlive k hk) (hlive k' hk') hm hm') (λk hk hn=>R.kz k (hlive k hk) ?_) (λk => ?_)
  · by_cases e:k=l
    · subst e;rw [hl];rfl
    · rw [s7 _ _ e] at hn;exact hn
  by_cases e:k=l
  · right
    subst e
    rw [updO_same]
    have hrB:=R.objs k
    rw [hl] at hrB
    obtain ⟨b,cs,e,q1,q2,q3⟩:=hrB
    exact ⟨b,cs,e,q1,q2,CsRep.mid2 (x:=.d (.sl sz n row)) (λz u hz=>hz.step hst) (λu hu=>CRep.step hst (x:=.d (.sl sz n row')) (DRep.rows hr hu)) q3⟩
  · left
    exact ⟨s7 _ _ e,rfl,rfl,λ_ _ _=>rfl⟩
theorem meets_at {P:Program} {f:FuncId} {F:Nat->List XT} {out:Out} {q u:Nat} (e:q=u) (h:d7 P f (F u) out):d7 P f (F q) out:=by subst e;exact h
def DLe (d d':DV):Prop:=∀ (w:World) (N:Nat->Prop) (v:Value),DRep w N d v->DRep w N d' v
theorem DLe.rfl {d:DV}:DLe d d:=λ_ _ _ h=>h
theorem f8 (sz:Nat) (row:Nat->List DV):DLe (.v c9) (.sl sz 0 row):=λw N u hu=>by cases hu;exact .nil _ _
def LsLe:List DV->List DV->Prop
  | [],[]=>True
  | x::r,y::s=>DLe x y/\LsLe r s
  | _,_=>False
theorem LsLe.rfl:∀ {l:List DV},LsLe l l
  | []=>trivial
  | _::_=>⟨DLe.rfl,LsLe.rfl⟩
theorem LsLe.len:∀ {l m:List DV},LsLe l m->l.length=m.length
  | [],[],_=>by rfl
  | [],_::_,h=>h.elim
  | _::_,[],h=>h.elim
  | _::r,_::s,h=>by rw [List.length_cons,List.length_cons,LsLe.len h.2]
theorem LsLe.at:∀ {l m:List DV} {j:Nat} {y:DV},LsLe l m->m[j]? = some y->∃ x,l[j]? = some x/\DLe x y
  | [],[],j,y,_,h=>by simp at h
  | [],_::_,_,_,h,_=>h.elim
  | _::_,[],_,_,h,_=>h.elim
  | x::r,z::s,0,y,h,hy=>by simp at hy;subst hy;exact ⟨x,by simp,h.1⟩
  | x::r,z::s,j+1,y,h,hy=>by
    obtain ⟨q,h1,h2⟩:=LsLe.at (j:=j) h.2 (by simpa using hy)
    exact ⟨q,by simpa using h1,h2⟩
theorem dle_sl {sz n:Nat} {row row':Nat->List DV} (h:∀ i,i<n->LsLe (row i) (row' i)):DLe (.sl sz n row) (.sl sz n row'):=λw N v hv=>by
  cases hv with
  | nil _ _=>exact .nil _ _
  | empty _ _ ad=>exact .empty _ _ ad
  | sl _ _ _ b off cap cs e fr u hN hb hc hs hr hu hd=>
    refine .sl sz n row' b off cap cs e fr u hN hb hc hs (λi hi=>by rw [<- (h i hi).len];exact hr i hi) (λi j y hi hj => ?_) (λi j y hi hj => ?_)
    · obtain ⟨x,h1,_⟩:=(h i hi).at hj
      exact hu i j x hi h1
    · obtain ⟨x,h1,h2⟩:=(h i hi).at hj
      exact h2 _ _ _ (hd i j x hi h1)
def NLe (d d':DV):Prop:=∀ (w:World) (v:Value) (F:Nat->Prop),NRep w d v F->NRep w d' v F
theorem NLe.rfl {d:DV}:NLe d d:=λ_ _ _ h=>h
theorem nle_nil (sz:Nat) (row:Nat->List DV):NLe (.v c9) (.sl sz 0 row):=λw u F hu=>by
  cases hu with
  | v _ _ _ hF=>exact .nil _ _ _ _ hF
def NsLe:List DV->List DV->Prop
  | [],[]=>True
  | x::r,y::s=>NLe x y/\NsLe r s
  | _,_=>False
theorem NsLe.rfl:∀ {l:List DV},NsLe l l
  | []=>trivial
  | _::_=>⟨NLe.rfl,NsLe.rfl⟩
theorem NsLe.len:∀ {l m:List DV},NsLe l m->l.length=m.length
  | [],[],_=>by rfl
  | [],_::_,h=>h.elim
  | _::_,[],h=>h.elim
  | _::r,_::s,h=>by rw [List.length_cons,List.length_cons,NsLe.len h.2]
theorem NsLe.at:∀ {l m:List DV} {j:Nat} {y:DV},NsLe l m->m[j]? = some y->∃ x,l[j]? = some x/\NLe x y
  | [],[],j,y,_,h=>by simp at h
  | [],_::_,_,_,h,_=>h.elim
  | _::_,[],_,_,h,_=>h.elim
  | x::r,z::s,0,y,h,hy=>by simp at hy;subst hy;exact ⟨x,by simp,h.1⟩
  | x::r,z::s,j+1,y,h,hy=>by
    obtain ⟨q,h1,h2⟩:=NsLe.at (j:=j) h.2 (by simpa using hy)
    exact ⟨q,by simpa using h1,h2⟩
theorem nle_sl {sz n:Nat} {row row':Nat->List DV} (h:∀ i,i<n->NsLe (row i) (row' i)):NLe (.sl sz n row) (.sl sz n row'):=λw v F hv=>by
  cases hv with
  | nil _ _ a _ hF=>exact .nil _ _ _ _ hF
  | sl _ _ _ b base cap cs e u G _ hb hc hp hs hr hu hd hF hG hGb=>
    refine .sl sz n row' b base cap cs e u G _ hb hc hp hs (λi hi=>by rw [<- (h i hi).len];exact hr i hi) (λi j y hi hj => ?_) (λi j y hi hj => ?_) hF hG hGb
    · obtain ⟨x,h1,_⟩:=(h i hi).at hj
      exact hu i j x hi h1
    · obtain ⟨x,h1,h2⟩:=(h i hi).at hj
      exact h2 _ _ _ (hd i j x hi h1)
theorem NestRep.le {w:World} {sz n:Nat} {row row':Nat->List DV} {v:Value} {F:List Nat} (h:NLe (.sl sz n row) (.sl sz n row')) (hx:NestRep w sz n row v F):NestRep w sz n row' v F:=⟨hx.1,h _ _ _ hx.2.1,hx.2.2⟩
theorem OwnRep.nest {w:World} {N:Nat->Prop} {sz n:Nat} {row:Nat->List DV} {v:Value} {F:List Nat} (hf:∀ i,i<n->∀ x,x∈row i->∃ u,x=.v u) (hx:OwnRep w N sz n row v F):NestRep w sz n row v F:=by
  obtain ⟨h0,⟨h1,rfl,ad,rfl⟩|⟨b,base,cap,cs,e,rfl,rfl,hp,hc,hb,hs,hcs⟩⟩:=hx
  · subst h1
    exact ⟨List.nodup_nil,.nil _ _ _ _ (λk hk=>by simp at hk),λb base cap e hc=>by simp at e;omega⟩
  · refine ⟨by simp,.sl sz n row b base cap cs e (λi j=>cs.getD (base+i*sz+j) undef) (λ_ _ _=>False) _ hb hc hp hs h0 (λi j x hi hj => ?_) (λi j x hi hj => ?_) (λk=>⟨λhk=>.inl (by simpa using hk),λhk => ?_⟩) (λ_ _ _ _ _ _ _ _ _ hg=>hg.elim) (λ_ _ _ _ hg=>hg),λb2 base2 cap2 e2 _ => ?_⟩
    · obtain ⟨u,hu,_⟩:=hcs i j x hi hj
      rw [hu,Array.getD_eq_getD_getElem?,hu];rfl
    · obtain ⟨u,hu,hd⟩:=hcs i j x hi hj
      rw [Array.getD_eq_getD_getElem?,hu]
      obtain ⟨q,rfl⟩:=hf i hi x (List.mem_of_getElem? hj)
      cases hd with
      | v _ h1=>exact .v _ _ h1 λk hk=>hk
    · rcases hk with rfl|⟨_,_,_,_,hg⟩
      · simp
      · exact hg.elim
    · simp at e2;obtain ⟨⟨rfl,rfl⟩,_⟩:=e2
      exact ⟨[],rfl⟩
def VLe:XV->XV->Prop
  | .d x,.d y=>DLe x y
  | .own sz n row,.own sz' n' row'=>sz=sz'/\n=n'/\∀ i,i<n->LsLe (row i) (row' i)
  | .d x,.own _ n _=>n=0/\x=.v c9
  | .d x,.nown _ n _=>n=0/\x=.v c9
  | .own sz n row,.nown sz' n' row'=>sz=sz'/\n=n'/\(∀ i,i<n->∀ x,x∈row i->∃ u,x=.v u)/\∀ i,i<n->NsLe (row i) (row' i)
  | .nown sz n row,.nown sz' n' row'=>sz=sz'/\n=n'/\∀ i,i<n->NsLe (row i) (row' i)
  | _,_=>False
def VsLe:List XV->List XV->Prop
  | [],[]=>True
  | x::r,y::s=>VLe x y/\VsLe r s
  | _,_=>False
def TLe:XT->XT->Prop
  | .c x,.c y=>VLe x y
  | .agg xs,.agg ys=>VsLe xs ys
  | _,_=>False
def TsLe:List XT->List XT->Prop
  | [],[]=>True
  | x::r,y::s=>TLe x y/\TsLe r s
  | _,_=>False
def ALe:XA->XA->Prop
  | .one x,.one y=>TLe x y
  | .tup xs,.tup ys=>TsLe xs ys
  | _,_=>False
theorem VLe.rep {w:World} {N:Nat->Prop} {x y:XV} {v:Value} {F:List Nat} (h:VLe x y) (hx:XVRep w N x v F):XVRep w N y v F:=by
  cases x with
  | d x=>
    cases y with
    | d y=>exact ⟨hx.1,h _ _ _ hx.2⟩
    | own sz n row=>
      obtain ⟨e1,rfl⟩:=h
      subst e1
      obtain ⟨e,hd⟩:=hx
      refine ⟨λi hi=>absurd hi (Nat.not_lt_zero i),.inl ⟨rfl,e,none,?_⟩⟩
      cases hd with
      | v _ _=>rfl
    | nown sz n row=>
      obtain ⟨e1,rfl⟩:=h
      subst e1
      obtain ⟨e,hd⟩:=hx
      subst e
      cases hd with
      | v _ _=>exact ⟨List.nodup_nil,.nil _ _ _ _ (λk hk=>by simp at hk),λb base cap e hc=>by simp at e⟩
    | box _=>exact h.elim
  | own sz n row=>
    cases y with
    | d _=>exact h.elim
    | box _=>exact h.elim
    | own sz' n' row'=>
      obtain ⟨e1,e2,h⟩:=h
      subst e1;subst e2
      refine ⟨λi hi=>by rw [<- (h i hi).len];exact hx.1 i hi,hx.2.imp id λ⟨b,base,cap,cs,e,h1,h2,h3,h4,h5,h6,h7⟩=>⟨b,base,cap,cs,e,h1,h2,h3,h4,h5,h6,λi j y hi hj => ?_⟩⟩
      obtain ⟨q,g1,g2⟩:=(h i hi).at hj
      obtain ⟨u,hu,hd⟩:=h7 i j q hi g1
      exact ⟨u,hu,g2 _ _ _ hd⟩
    | nown sz' n' row'=>
      obtain ⟨e1,e2,hf,h⟩:=h
      subst e1;subst e2
      exact (OwnRep.nest hf hx).le (nle_sl h)
  | nown sz n row=>
    cases y with
    | d _=>exact h.elim
    | box _=>exact h.elim
    | own _ _ _=>exact h.elim
    | nown sz' n' row'=>
      obtain ⟨e1,e2,h⟩:=h
      subst e1;subst e2
      exact NestRep.le (nle_sl h) hx
  | box _=>cases y<;>exact h.elim
theorem VsLe.rep {w:World} {N:Nat->Prop}:∀ {xs ys:List XV} {vs:List Value} {F:List Nat},VsLe xs ys->XVsRep w N xs vs F->XVsRep w N ys vs F
  | [],[],_,_,_,h=>h
  | [],_::_,_,_,h,_=>h.elim
  | _::_,[],_,_,h,_=>h.elim
  | _::_,_::_,[],_,_,h=>h.elim
  | x::r,y::s,v::vs,F,h,⟨F1,F2,e,h1,h2⟩=>⟨F1,F2,e,h.1.rep h1,VsLe.rep h.2 h2⟩
theorem TLe.rep {w:World} {N:Nat->Prop} {x y:XT} {v:Value} {F:List Nat} (h:TLe x y) (hx:XTRep w N x v F):XTRep w N y v F:=by
  cases x with
  | c x=>cases y with
    | c y=>exact VLe.rep h hx
    | agg _=>exact h.elim
  | agg xs=>cases y with
    | c _=>exact h.elim
    | agg ys=>
      obtain ⟨cs,e,hx⟩:=hx
      exact ⟨cs,e,VsLe.rep h hx⟩
theorem TsLe.rep {w:World} {N:Nat->Prop}:∀ {xs ys:List XT} {vs:List Value} {F:List Nat},TsLe xs ys->XTsRep w N xs vs F->XTsRep w N ys vs F
  | [],[],_,_,_,h=>h
  | [],_::_,_,_,h,_=>h.elim
  | _::_,[],_,_,h,_=>h.elim
  | _::_,_::_,[],_,_,h=>h.elim
  | x::r,y::s,v::vs,F,h,⟨F1,F2,e,h1,h2⟩=>⟨F1,F2,e,h.1.rep h1,TsLe.rep h.2 h2⟩
theorem ALe.rep {w:World} {N:Nat->Prop} {x y:XA} {v:Value} {F:List Nat} (h:ALe x y) (hx:XARep w N x v F):XARep w N y v F:=by
  cases x with
  | one x=>cases y with
    | one y=>exact TLe.rep h hx
    | tup _=>exact h.elim
  | tup xs=>cases y with
    | one _=>exact h.elim
    | tup ys=>
      obtain ⟨cs,e,hx⟩:=hx
      exact ⟨cs,e,TsLe.rep h hx⟩
theorem meets_wk {P:Program} {f:FuncId} {args:List XT} {r r':XA} {back:List (Option XV)} (hm:d7 P f args ⟨r,back⟩) (h:ALe r r'):d7 P f args ⟨r',back⟩:=by
  refine ⟨hm.1,λw vals F N h1 h2 h3 h4 => ?_⟩
  refine (hm.2 w vals F N h1 h2 h3 h4).mono ?_
  rintro e w' ⟨v,F1,F2,g1,g2,g3,g4,g5,g6,g7,g8,g9⟩
  exact ⟨v,F1,F2,g1,g2,g3,g4,g5,g6,g7,h.rep g8,g9⟩
theorem meets_args {P:Program} {f:FuncId} {args args':List XT} {out:Out} (hm:d7 P f args' out) (h:TsLe args args'):d7 P f args out:=by
  refine ⟨hm.1,λw vals F N h1 h2 h3 h4 => ?_⟩
  exact hm.2 w vals F N (h.rep h1) h2 h3 h4
def FlatR (n:Nat) (row:Nat->List DV):Prop:=∀ i,i<n->∀ x,x∈row i->∃ u,x=.v u
section
variable {w:World} {N:Nat->Prop}
theorem NRep.own {sz n:Nat} {row:Nat->List DV} {v:Value} {G:Nat->Prop} (hf:FlatR n row) (hx:NRep w (.sl sz n row) v G):∃ F:List Nat,OwnRep w N sz n row v F/\F.Nodup/\∀ k,k∈F↔G k:=by
  cases hx with
  | nil _ _ a _ hF=>exact ⟨[],⟨λi hi=>absurd hi (Nat.not_lt_zero i),.inl ⟨rfl,rfl,a,rfl⟩⟩,List.nodup_nil,λk=>⟨λh=>by simp at h,λh=>(hF k h).elim⟩⟩
  | sl _ _ _ b base cap cs e u G' _ hb hc hp hs hr hu hd hF hG hGb=>
    refine ⟨[b],⟨hr,.inr ⟨b,base,cap,cs,e,rfl,rfl,hp,hc,hb,hs,λi j x hi hj=>⟨u i j,hu i j x hi hj,?_⟩⟩⟩,by simp,λk => ?_⟩
    · obtain ⟨q,rfl⟩:=hf i hi x (List.mem_of_getElem? hj)
      have:=hd i j _ hi hj
      cases this with
      | v _ _ h1 _=>exact .v _ h1
    · rw [hF]
      simp only [List.mem_singleton]
      refine ⟨.inl,λh=>h.resolve_right ?_⟩
      rintro ⟨i,j,q1,q2,q3⟩
      have hjl:j<(row i).length:=by rw [hr i q1];exact q2
      obtain ⟨q,hq⟩:=hf i q1 _ (List.getElem_mem hjl)
      have h5:=hd i j _ q1 (List.getElem?_eq_getElem hjl)
      rw [hq] at h5
      cases h5 with
      | v _ _ _ h2=>exact h2 k q3
theorem NRep.nest {sz n:Nat} {row:Nat->List DV} {v:Value} {G:Nat->Prop} {L:List Nat} (hL:L.Nodup) (hx:NRep w (.sl sz n row) v G) (hm:∀ k,G k->k∈L):∃ F:List Nat,NestRep w sz n row v F/\∀ k,k∈F↔G k:=by
  classical
  cases hx with
  | nil _ _ a _ hF=>exact ⟨[],⟨List.nodup_nil,.nil _ _ _ _ (λk h=>by simp at h),λb base cap e hc=>by simp at e;omega⟩,λk=>⟨λh=>by simp at h,λh=>(hF k h).elim⟩⟩
  | sl _ _ _ b base cap cs e u G' _ hb hc hp hs hr hu hd hF hG hGb=>
    have hmem:∀ k,k∈b::L.filter (λk=>decide (G k/\k≠b))↔G k:=λk=>by
      simp only [List.mem_cons,List.mem_filter,decide_eq_true_eq]
      constructor
      · rintro (rfl|⟨_,h,_⟩)
        · exact (hF _).2 (.inl rfl)
        · exact h
      · intro h
        by_cases e:k=b
        · exact .inl e
        · exact .inr ⟨hm k h,h,e⟩
    refine ⟨b::L.filter (λk=>decide (G k/\k≠b)),⟨?_,?_,λb2 base2 cap2 e2 _ => ?_⟩,hmem⟩
    · rw [List.nodup_cons]
      exact ⟨λh=>by simp at h,hL.filter _⟩
    · exact (NRep.sl sz n row b base cap cs e u G' G hb hc hp hs hr hu hd hF hG hGb).eqv hmem
    · simp at e2;obtain ⟨⟨rfl,rfl⟩,_⟩:=e2
      exact ⟨_,rfl⟩
theorem OwnRep.nrep {sz n:Nat} {row:Nat->List DV} {v:Value} {F:List Nat} (hf:FlatR n row) (hx:OwnRep w N sz n row v F):NRep w (.sl sz n row) v (λk=>k∈F):=(OwnRep.nest hf hx).2.1
end
def openC (L v:Nat) (kd:Nat->Bool):Nat->List DV->List CV × List (Nat × Nat × HO)
  | _,[]=>([],[])
  | j,x::r=>match x with
    | .sl sz n rw=>bif kd j then (.nown (L+j) n v::(openC L v kd (j+1) r).1,(L+j,v,.nest sz n rw none)::(openC L v kd (j+1) r).2)
      else (.own (L+j) 0 n v::(openC L v kd (j+1) r).1,(L+j,v,.arr sz n rw)::(openC L v kd (j+1) r).2)
    | x=>(.d x::(openC L v kd (j+1) r).1,(openC L v kd (j+1) r).2)
def flatC (kd:Nat->Bool):Nat->List DV->Prop
  | _,[]=>True
  | j,x::r=>(match x with | .sl _ n rw=>kd j=true\/FlatR n rw|_=>True)/\flatC kd (j+1) r
theorem openC_lab {L v:Nat} {kd:Nat->Bool}:∀ {ds:List DV} {j l:Nat},l4 (openC L v kd j ds).2 l=true->∃ q,j<=q/\q<j+ds.length/\l=L+q
  | [],j,l,h=>by cases h
  | x::r,j,l,h=>by
    have ih:=λh=>openC_lab (L:=L) (v:=v) (kd:=kd) (ds:=r) (j:=j+1) (l:=l) h
    have step:l4 (openC L v kd (j+1) r).2 l=true->∃ q,j<=q/\q<j+(x::r).length/\l=L+q:=λh=>by
      obtain ⟨q,h1,h2,h3⟩:=ih h
      exact ⟨q,by omega,by simp;omega,h3⟩
    have hd:∀ o:HO,l4 ((L+j,v,o)::(openC L v kd (j+1) r).2) l=true->∃ q,j<=q/\q<j+(x::r).length/\l=L+q:=λo h=>by
      unfold l4 at h
      cases hb:nbeq (L+j) l with
      | true=>have:=i3 hb;exact ⟨j,Nat.le_refl _,by simp,this.symm⟩
      | false=>rw [hb] at h;exact step h
    cases x with
    | sl sz n rw=>
      simp only [openC] at h
      cases hk:kd j with
      | true=>rw [hk] at h;exact hd _ h
      | false=>rw [hk] at h;exact hd _ h
    | _=>exact step h
theorem openC_nodup {L v:Nat} {kd:Nat->Bool}:∀ (ds:List DV) (j:Nat),u9 (openC L v kd j ds).2=true
  | [],_=>rfl
  | x::r,j=>by
    have ih:=openC_nodup (L:=L) (v:=v) (kd:=kd) r (j+1)
    have hd:∀ o:HO,u9 ((L+j,v,o)::(openC L v kd (j+1) r).2)=true:=λo=>by
      unfold u9
      cases hb:l4 (openC L v kd (j+1) r).2 (L+j) with
      | true=>obtain ⟨q,h1,_,h3⟩:=openC_lab hb;omega
      | false=>exact ih
    cases x with
    | sl sz n rw=>
      simp only [openC]
      cases kd j with
      | true=>exact hd _
      | false=>exact hd _
    | _=>exact ih
section
variable {σ:p9} {μ:Place} {w:World}
theorem openC_taken {L v:Nat} {kd:Nat->Bool} {G:Nat->Nat->Prop} {K:List Nat} (hK:K.Nodup) (hG:∀ j j' k,G j k->G j' k->j=j') (hGK:∀ j k,G j k->k∈K) :
    ∀ {ds:List DV} {j:Nat} {us:List Value},us.length=ds.length->flatC kd j ds->(∀ q,j<=q->q<j+ds.length->(σ (L+q)).1<v)->(∀ (q:Nat) x u,ds[q]? = some x->us[q]? = some u->NRep w x u (G (j+q))) ->
      ∃ τ F,usOf τ=(openC L v kd j ds).2/\TakenOk σ μ w (λ_=>False) τ F (λσ' μ' N'=>CsRep σ' μ' w N' (openC L v kd j ds).1 us)/\F.Nodup/\∀ k,k∈F ↔ ∃ q,j<=q/\q<j+ds.length/\G q k
  | [],j,[],_,_,_,_=>⟨[],[],rfl,.nothing λ_ _ _ _=>trivial,List.nodup_nil,λk=>⟨λh=>by simp at h,λ⟨q,h1,h2,_⟩=>by simp at h2;omega⟩⟩
  | [],_,_::_,hl,_,_,_=>by simp at hl
  | _::_,_,[],hl,_,_,_=>by simp at hl
  | x::r,j,u::s,hl,hf,hver,hr=>by
    obtain ⟨τ,F,h1,h2,h3,h4⟩:=openC_taken hK hG hGK (ds:=r) (j:=j+1) (us:=s) (by simpa using hl) hf.2 (λq q1 q2=>hver q (by omega) (by simp;omega)) (λq x u hx hu=>by
      have:=hr (q+1) x u (by simpa using hx) (by simpa using hu)
      rwa [show j+(q+1)=j+1+q by omega] at this)
    have hx:=hr 0 x u rfl rfl
    rw [Nat.add_zero] at hx
    have hmem:∀ {F1:List Nat},(∀ k,k∈F1↔G j k)->F1.Nodup->(F1++F).Nodup/\∀ k,k∈F1++F ↔ ∃ q,j<=q/\q<j+(x::r).length/\G q k:=λ{F1} hF hn=>by
      refine ⟨List.nodup_append.2 ⟨hn,h3,λa ha b hb e => ?_⟩,λk => ?_⟩
      · subst e
        obtain ⟨q,q1,_,q3⟩:=(h4 a).1 hb
        have:=hG j q a ((hF a).1 ha) q3
        omega
      · rw [List.mem_append,hF,h4]
        constructor
        · rintro (h|⟨q,q1,q2,q3⟩)
          · exact ⟨j,Nat.le_refl _,by simp,h⟩
          · exact ⟨q,by omega,by simp;omega,q3⟩
        · rintro ⟨q,q1,q2,q3⟩
          by_cases e:q=j
          · subst e;exact .inl q3
          · exact .inr ⟨q,by omega,by simp at q2;omega,q3⟩
    have data:∀ y:Value,x=.v y->∃ τ F,usOf τ=(openC L v kd j (x::r)).2/\TakenOk σ μ w (λ_=>False) τ F (λσ' μ' N'=>CsRep σ' μ' w N' (openC L v kd j (x::r)).1 (u::s))/\F.Nodup/\∀ k,k∈F ↔ ∃ q,j<=q/\q<j+(x::r).length/\G q k:=λy e=>by
      subst e
      cases hx with
      | v _ _ hone hF=>
        obtain ⟨g1,g2⟩:=hmem (F1:=[]) (λk=>⟨λh=>by simp at h,λh=>(hF k h).elim⟩) List.nodup_nil
        exact ⟨τ,F,h1,h2.imp λσ' μ' N' _ hz=>⟨.v _ hone,hz⟩,g1,g2⟩
    cases x with
    | v y=>exact data y rfl
    | p _=>cases hx
    | fn _ _=>cases hx
    | sl sz n rw=>
      have hlt:=hver j (Nat.le_refl _) (by simp)
      cases hk:kd j with
      | true=>
        obtain ⟨F1,n1,n2⟩:=hx.nest hK (λk h=>hGK j k h)
        obtain ⟨p,ho⟩:=nest_taken (σ := σ) (μ := μ) (w:=w) (N:=λ_=>False) (L:=L+j) (ver:=v) n1 (.inl hlt)
        obtain ⟨g1,g2⟩:=hmem n2 n1.1
        refine ⟨[(L+j,(v,.nest sz n rw none),p)] ++ τ,F1++F,?_,?_,g1,g2⟩
        · rw [usOf_append,h1];simp [openC,hk,usOf]
        · have:=ho.both h2
          simpa [openC,hk,CsRep] using this
      | false=>
        have hfl:FlatR n rw:=by
          have:=hf.1
          simp only at this
          rcases this with h|h
          · rw [hk] at h;cases h
          · exact h
        obtain ⟨F1,n1,n2,n3⟩:=hx.own (N:=λ_=>False) hfl
        obtain ⟨p,ho⟩:=own_taken (σ := σ) (μ := μ) (w:=w) (N:=λ_=>False) (L:=L+j) (ver:=v) n1 (.inl hlt)
        obtain ⟨g1,g2⟩:=hmem n3 n2
        refine ⟨[(L+j,(v,.arr sz n rw),p)] ++ τ,F1++F,?_,?_,g1,g2⟩
        · rw [usOf_append,h1];simp [openC,hk,usOf]
        · have:=ho.both h2
          simpa [openC,hk,CsRep] using this
end
def labsOk (objs:List (Nat × Nat × HO)) (l L v:Nat):Nat->Bool
  | 0=>true
  | k+1=>bif nbeq l (L+k) then false else bif nblt (m4 objs (L+k)).1 v then labsOk objs l L v k else false
theorem labsOk_at {objs:List (Nat × Nat × HO)} {l L v:Nat}:∀ {k:Nat},labsOk objs l L v k=true->∀ q,q<k->l≠L+q/\(m4 objs (L+q)).1<v
  | 0,_,q,hq=>by omega
  | k+1,h,q,hq=>by
    unfold labsOk at h
    cases h1:nbeq l (L+k) with
    | true=>rw [h1] at h;cases h
    | false=>
      rw [h1] at h
      cases h2:nblt (m4 objs (L+k)).1 v with
      | false=>rw [h2] at h;cases h
      | true=>
        rw [h2] at h
        by_cases e:q=k
        · subst e
          refine ⟨λe=>by rw [e] at h1;simp at h1,by simpa [nblt_eq] using h2⟩
        · exact labsOk_at h q (by omega)
theorem lookO_app (us objs:List (Nat × Nat × HO)):m4 (us++objs)=putO (m4 objs) us:=lookO_put objs us
theorem cov_open {fr:Bool} {nt:Nat} {σ τ:St} (l L v x:Nat) (kd:Nat->Bool) {ver sz n:Nat} {row:Nat->List DV} (ds:List DV) (ho:m4 σ.objs l=(ver,.nest sz n row none)) (hx:x<n) (hds:row x=ds) (hfl:flatC kd 0 ds)
    (hlab:labsOk σ.objs l L v ds.length=true)
    (h:CovG fr nt ⟨σ.slots,((l,ver,.nest sz n row (some (x,(openC L v kd 0 ds).1)))::(openC L v kd 0 ds).2) ++ σ.objs⟩ τ):CovG fr nt σ τ:=by
  classical
  refine cov_trans ?_ h
  rintro w0 S a w hfo ⟨μ,R⟩
  have hσ : σ.o l=(ver,.nest sz n row none):=ho
  have hlv:m5 σ.o l:=by simp [m5,hσ]
  have ob:=R.objs l
  rw [hσ] at ob
  rcases ob with ⟨_,h0,_⟩|⟨b,base,cs,e,hμ,hb,hsz,⟨k0,G,k1,k2,k3⟩,hkb,hknd,_⟩
  · omega
  have k2:∀ k,k ∈ μ.k l ↔ ∃ i j,i<n/\¬ isFoc none i/\j<sz/\G i j k:=k2
  have hnf:∀ k,¬ isFoc none k:=λk ⟨c,hc⟩=>by cases hc
  have hdl:ds.length=sz:=by rw [<- hds];exact k0 x hx (hnf x)
  have hvals:∀ j,j<sz->∃ u,cs[base+x*sz+j]? = some u/\∀ y,ds[j]? = some y->NRep w y u (G x j):=λj hj=>by
    obtain ⟨u,hu,hd⟩:=k1 x j _ hx (hnf x) (by rw [hds];exact List.getElem?_eq_getElem (by omega))
    exact ⟨u,hu,λy hy=>by rw [List.getElem?_eq_getElem (by omega)] at hy;cases hy;exact hd⟩
  let us:List Value:=(List.range sz).map λj=>cs.getD (base+x*sz+j) undef
  have husl:us.length=ds.length:=by simp [us,hdl]
  have husg:∀ j u,us[j]? = some u->cs[base+x*sz+j]? = some u:=λj u hj=>by
    simp only [us,List.getElem?_map,Option.map_eq_some_iff] at hj
    obtain ⟨k,hk,rfl⟩:=hj
    obtain ⟨hlt,rfl⟩:=List.getElem?_eq_some_iff.1 hk
    simp at hlt ⊢
    obtain ⟨u,hu,_⟩:=hvals j hlt
    simp [hu]
  obtain ⟨τ',F,t1,t2,t3,t4⟩:=openC_taken (σ := σ.o) (μ := μ) (w:=w) (L:=L) (v:=v) (kd:=kd) (G:=λj k=>j<sz/\G x j k) hknd (λj j' k h h'=>(k3 x j x j' k hx (hnf x) h.1 hx (hnf x) h'.1 h.2 h'.2).2)
    (λj k h=>(k2 k).2 ⟨x,j,hx,hnf x,h.1,h.2⟩) (ds:=ds) (j:=0) (us:=us) husl hfl (λq _ hq=>(labsOk_at hlab q (by omega)).2) (λq y u hy hu=>by
      have hq:q<sz:=by rw [<- hdl];exact (List.getElem?_eq_some_iff.1 hy).1
      obtain ⟨u',hu',hd⟩:=hvals q hq
      have:=husg q u hu
      rw [hu'] at this;cases this
      refine (hd y hy).eqv λk => ?_
      rw [Nat.zero_add]
      exact ⟨λh=>h.2,λh=>⟨hq,h⟩⟩)
  have t4':∀ k,k∈F ↔ ∃ j,j<sz/\G x j k:=λk=>by
    rw [t4 k]
    exact ⟨λ⟨q,_,_,q3,q4⟩=>⟨q,q3,q4⟩,λ⟨q,q1,q2⟩=>⟨q,Nat.zero_le _,by omega,q1,q2⟩⟩
  let ks:List Nat:=(μ.k l).filter λk=>decide (¬ ∃ j,j<sz/\G x j k)
  have hks:∀ k,k∈ks↔k ∈ μ.k l/\¬ ∃ j,j<sz/\G x j k:=λk=>by simp only [ks,List.mem_filter,decide_eq_true_eq]
  have hFk:∀ k,k∈F->k ∈ μ.k l:=λk hk=>by
    obtain ⟨j,q1,q2⟩:=(t4' k).1 hk
    exact (k2 k).2 ⟨x,j,hx,hnf x,q1,q2⟩
  let t0:Nat × (Nat × HO) × Option (Nat × Nat) × List Nat:=(l,(ver,.nest sz n row (some (x,(openC L v kd 0 ds).1))),some (b,base),ks)
  have hus:usOf (t0 :: τ')=(l,ver,.nest sz n row (some (x,(openC L v kd 0 ds).1)))::(openC L v kd 0 ds).2:=by rw [<- t1];rfl
  have hnd:u9 (usOf (t0 :: τ'))=true:=by
    rw [hus]
    unfold u9
    cases hb:l4 (openC L v kd 0 ds).2 l with
    | true=>obtain ⟨q,_,h2,h3⟩:=openC_lab hb;exact ((labsOk_at hlab q (by omega)).1 h3).elim
    | false=>exact openC_nodup ds 0
  have hblk0:∀ k,k∈blk μ [(l,ver)]↔k=b\/k ∈ μ.k l:=λk=>by
    rw [blk_one]
    show k∈blkP (μ l) (μ.k l)↔_
    rw [mem_blkP,hμ]
    constructor
    · rintro (⟨_,e⟩|h)
      · simp at e;exact .inl e.1.symm
      · exact .inr h
    · rintro (rfl|h)
      · exact .inl ⟨base,rfl⟩
      · exact .inr h
  have hblkT:blkT (t0 :: τ')=b::(ks++F):=by
    have:blkT (t0 :: τ')=blkP (some (b,base)) ks++blkT τ':=rfl
    rw [this,t2.1];rfl
  obtain ⟨q1,q2,q3⟩:=R.turned (w':=w) (τ:=t0 :: τ') (ex:=[(l,ver)]) (gone:=[]) (F':=b::(ks++F)) hnd
    (λp hp=>by simp at hp;subst hp;exact ⟨hlv,by rw [hσ]⟩)
    (λt ht=>by
      rcases List.mem_cons.1 ht with rfl|ht
      · exact ⟨λh=>(nomatch h),.inr ⟨by rw [hσ],hμ.symm,λ_ h=>(nomatch h),λ_ _ _ h=>(nomatch h),λsz' n' row' foc' h=>by simp [t0] at h;obtain ⟨rfl,rfl,_⟩:=h;exact ⟨row,none,by rw [hσ]⟩⟩⟩
      · exact t2.2.1 t ht)
    (λp hp=>by simp at hp;subst hp;exact ⟨t0,by simp,rfl⟩) ⟨rfl,rfl,rfl⟩ (Nat.le_refl _) (λ_ _ _=>rfl) (λb cs e fr hb=>⟨cs,hb,rfl⟩)
    (λk hk=>by
      have:k∈blk μ [(l,ver)]:=by
        rw [hblk0]
        simp only [List.mem_cons,List.mem_append] at hk
        rcases hk with rfl|hk|hk
        · exact .inl rfl
        · exact .inr ((hks k).1 hk).1
        · exact .inr (hFk k hk)
      obtain ⟨p,hp,hm⟩:=blk_mem this
      simp at hp;subst hp
      exact ⟨(R.ownH l k hlv hm).1,.inl ‹_›⟩)
    (by
      rw [List.nodup_cons,List.nodup_append]
      refine ⟨λhm => ?_,hknd.filter _,t3,λk hk k' hk' e => ?_⟩
      · rcases List.mem_append.1 hm with hm|hm
        · exact hkb ((hks b).1 hm).1
        · exact hkb (hFk b hm)
      · subst e
        exact ((hks k).1 hk).2 ((t4' k).1 hk'))
    hblkT
    (λN' hN' hf t ht=>by
      have hft:Fits τ' (putO σ.o (usOf (t0 :: τ'))) (placeT μ (t0 :: τ')):=λt ht=>hf t (by simp [ht])
      obtain ⟨z1,z2⟩:=t2.2.2 _ _ N' (λ_ h=>h.elim) hft
      rcases List.mem_cons.1 ht with rfl|ht
      · obtain ⟨f1,f2,f3⟩:=hf t0 (by simp)
        refine .inr ⟨b,base,cs,e,f2,hb,hsz,⟨λi hi _=>k0 i hi (hnf i),G,λi j y hi _ hj=>k1 i j y hi (hnf i) hj,λk => ?_,λi j i' j' k h1 _ h3 h4 _ h6=>k3 i j i' j' k h1 (hnf i) h3 h4 (hnf i') h6⟩,by rw [f3];exact λhm=>hkb ((hks b).1 hm).1,by rw [f3];exact hknd.filter _,λi cells hfc => ?_⟩
        · show k∈(placeT μ (t0 :: τ')).k l↔_
          rw [f3]
          show k∈ks↔_
          rw [hks,k2]
          constructor
          · rintro ⟨⟨i,j,g1,_,g2,g3⟩,hno⟩
            refine ⟨i,j,g1,λ⟨c,hc⟩ => ?_,g2,g3⟩
            simp at hc;obtain ⟨rfl,_⟩:=hc
            exact hno ⟨j,g2,g3⟩
          · rintro ⟨i,j,g1,g0,g2,g3⟩
            refine ⟨⟨i,j,g1,hnf i,g2,g3⟩,λ⟨j',h1,h2⟩ => ?_⟩
            have:=(k3 i j x j' k g1 (hnf i) g2 hx (hnf x) h1 g3 h2).1
            subst this
            exact g0 ⟨_,rfl⟩
        · simp at hfc;obtain ⟨rfl,rfl⟩:=hfc
          refine ⟨hx,by rw [<- z1.length,husl,hdl],λj y hj => ?_⟩
          obtain ⟨u,hu,hc⟩:=z1.get hj
          exact ⟨u,husg j u hu,hc⟩
      · exact z2 t ht)
  refine ⟨placeT μ (t0 :: τ'),?_⟩
  have eo:St.o ⟨σ.slots,((l,ver,.nest sz n row (some (x,(openC L v kd 0 ds).1)))::(openC L v kd 0 ds).2) ++ σ.objs⟩=putO σ.o (usOf (t0 :: τ')):=by
    show m4 (_ ++ σ.objs)=_
    rw [lookO_app,hus];rfl
  rw [eo]
  exact q3
def ownAs (so:Nat->Nat × HO) (l v sz n:Nat) (rw:Nat->List DV):Prop:=match so l with
  | (v',.arr sz' n' rw')=>v=v'/\sz=sz'/\n=n'/\(∀ i,i<n->rw' i=rw i)/\FlatR n rw
  | _=>False
def nestAs (so:Nat->Nat × HO) (l v sz n:Nat) (rw:Nat->List DV):Prop:=match so l with
  | (v',.nest sz' n' rw' none)=>v=v'/\sz=sz'/\n=n'/\∀ i,i<n->NsLe (rw' i) (rw i)
  | _=>False
def dvOk (u:Value):DV->Prop
  | .v u'=>u=u'
  | .sl _ n _=>u=c9/\n=0
  | _=>False
def zcOk:DV->Prop
  | .sl _ n _=>n=0
  | _=>False
def closeOk (so:Nat->Nat × HO):List CV->List DV->List (Nat × Nat)->Prop
  | [],[],[]=>True
  | x::r,y::s,ls=>match x with
    | .d (.v u)=>dvOk u y/\closeOk so r s ls
    | .zc=>zcOk y/\closeOk so r s ls
    | .own l off len v=>match y,ls with
      | .sl sz n rw,p::ls=>(p=(l,v)/\off=0/\len=n/\ownAs so l v sz n rw)/\closeOk so r s ls
      | _,_=>False
    | .nown l len v=>match y,ls with
      | .sl sz n rw,p::ls=>(p=(l,v)/\len=n/\nestAs so l v sz n rw)/\closeOk so r s ls
      | _,_=>False
    | _=>False
  | _,_,_=>False
def deadT (ls:List (Nat × Nat)):Turns:=ls.map λp=>(p.1,(p.2+1,.dead),none,[])
def deadO (ls:List (Nat × Nat)):List (Nat × Nat × HO):=ls.map λp=>(p.1,p.2+1,.dead)
theorem usOf_deadT (ls:List (Nat × Nat)):usOf (deadT ls)=deadO ls:=by simp [usOf,deadT,deadO]
theorem blkT_deadT:∀ ls:List (Nat × Nat),blkT (deadT ls)=[]
  | []=>rfl
  | p::r=>by
    show blkP none []++blkT (deadT r)=[]
    rw [blkT_deadT r];rfl
theorem hasLab_deadO {ls:List (Nat × Nat)} {l:Nat} (h:l4 (deadO ls) l=true):∃ p∈ls,p.1=l:=by
  obtain ⟨q,hq,e⟩:=hasLab_iff.1 h
  obtain ⟨p,hp,rfl⟩:=List.mem_map.1 hq
  exact ⟨p,hp,e⟩
theorem nodup_deadO:∀ {ls:List (Nat × Nat)},(ls.map (·.1)).Nodup->u9 (deadO ls)=true
  | [],_=>rfl
  | p::r,h=>by
    simp only [List.map_cons,List.nodup_cons] at h
    show u9 ((p.1,p.2+1,HO.dead)::deadO r)=true
    unfold u9
    cases hb:l4 (deadO r) p.1 with
    | true=>obtain ⟨q,hq,e⟩:=hasLab_deadO hb;exact (h.1 (List.mem_map.2 ⟨q,hq,e⟩)).elim
    | false=>exact nodup_deadO h.2
section
variable {w0:World} {S:Sets} {nt:Nat} {slots:List (Nat × AV)} {σ:p9} {a:Act} {w:World} {μ:Place}
theorem close_rep (R:RelM w0 S nt (i5 slots) σ a w μ):∀ {cells:List CV} {ds:List DV} {ls:List (Nat × Nat)} {vs:List Value},closeOk σ cells ds ls->CsRep σ μ w (Nof S σ μ w) cells vs->(ls.map (·.1)).Nodup ->
    ds.length=cells.length/\(∀ p∈ls,Valid σ p)/\∃ G:Nat->Nat->Prop,(∀ (j:Nat) y u,ds[j]? = some y->vs[j]? = some u->NRep w y u (G j))/\(∀ k,k∈blk μ ls ↔ ∃ j,j<ds.length/\G j k) /\
      ∀ j j' k,j<ds.length->j'<ds.length->G j k->G j' k->j=j'
  | [],[],[],[],_,_,_=>⟨rfl,λp hp=>by simp at hp,λ_ _=>False,λj y u h=>by simp at h,λk=>⟨λh=>by simp [blk] at h,λ⟨_,h,_⟩=>by simp at h⟩,λ_ _ _ h=>by simp at h⟩
  | [],[],[],_::_,_,h,_=>h.elim
  | [],[],_::_,_,h,_,_=>h.elim
  | [],_::_,_,_,h,_,_=>h.elim
  | _::_,[],_,_,h,_,_=>h.elim
  | _::_,_::_,_,[],_,h,_=>h.elim
  | x::r,y::s,ls,v::vs,hc,hv,hn=>by
    have data:closeOk σ r s ls->NRep w y v (λ_=>False)->(y::s).length=(x::r).length/\(∀ p∈ls,Valid σ p)/\∃ G:Nat->Nat->Prop,(∀ (j:Nat) z u,(y::s)[j]? = some z->(v::vs)[j]? = some u->NRep w z u (G j))/\(∀ k,k∈blk μ ls ↔ ∃ j,j<(y::s).length/\G j k) /\
        ∀ j j' k,j<(y::s).length->j'<(y::s).length->G j k->G j' k->j=j':=λh0 hy=>by
      obtain ⟨g0,g1,G,g2,g3,g4⟩:=close_rep R h0 hv.2 hn
      refine ⟨by simp [g0],g1,λj k=>match j with|0=>False|j+1=>G j k,λj z u hz hu => ?_,λk=>(g3 k).trans ⟨λ⟨j,h1,h2⟩=>⟨j+1,by simp;omega,h2⟩,λ⟨j,h1,h2⟩ => ?_⟩,λj j' k h1 h2 h3 h4 => ?_⟩
      · cases j with
        | zero=>simp at hz hu;subst hz hu;exact hy
        | succ j=>exact g2 j z u (by simpa using hz) (by simpa using hu)
      · cases j with
        | zero=>exact h2.elim
        | succ j=>exact ⟨j,by simp at h1;omega,h2⟩
      · cases j with
        | zero=>exact h3.elim
        | succ j=>cases j' with
          | zero=>exact h4.elim
          | succ j'=>rw [g4 j j' k (by simp at h1;omega) (by simp at h2;omega) h3 h4]
    have lab:∀ (p:Nat × Nat) (ls':List (Nat × Nat)),ls=p::ls'->closeOk σ r s ls'->Valid σ p->NRep w y v (λk=>k∈blk μ [p])->(y::s).length=(x::r).length/\(∀ p∈ls,Valid σ p)/\∃ G:Nat->Nat->Prop,(∀ (j:Nat) z u,(y::s)[j]? = some z->(v::vs)[j]? = some u->NRep w z u (G j))/\(∀ k,k∈blk μ ls ↔ ∃ j,j<(y::s).length/\G j k) /\
        ∀ j j' k,j<(y::s).length->j'<(y::s).length->G j k->G j' k->j=j':=λp ls' e h0 hp hy=>by
      subst e
      simp only [List.map_cons,List.nodup_cons] at hn
      obtain ⟨g0,g1,G,g2,g3,g4⟩:=close_rep R h0 hv.2 hn.2
      have hsep:∀ k,k∈blk μ [p]->k∈blk μ ls'->False:=λk h1 h2=>by
        obtain ⟨q1,hq1,hm1⟩:=blk_mem h1
        obtain ⟨q2,hq2,hm2⟩:=blk_mem h2
        simp at hq1;subst hq1
        have:=R.injH q1.1 q2.1 k hp.1 (g1 q2 hq2).1 hm1 hm2
        exact hn.1 (List.mem_map.2 ⟨q2,hq2,this.symm⟩)
      refine ⟨by simp [g0],λq hq => ?_,λj k=>match j with|0=>k∈blk μ [p]|j+1=>G j k,λj z u hz hu => ?_,λk => ?_,λj j' k h1 h2 h3 h4 => ?_⟩
      · rcases List.mem_cons.1 hq with rfl|hq
        · exact hp
        · exact g1 q hq
      · cases j with
        | zero=>simp at hz hu;subst hz hu;exact hy
        | succ j=>exact g2 j z u (by simpa using hz) (by simpa using hu)
      · have e:blk μ (p::ls')=blk μ [p]++blk μ ls':=blk_append μ [p] ls'
        rw [e,List.mem_append,g3]
        constructor
        · rintro (h|⟨j,h1,h2⟩)
          · exact ⟨0,by simp,h⟩
          · exact ⟨j+1,by simp;omega,h2⟩
        · rintro ⟨j,h1,h2⟩
          cases j with
          | zero=>exact .inl h2
          | succ j=>exact .inr ⟨j,by simp at h1;omega,h2⟩
      · cases j with
        | zero=>cases j' with
          | zero=>rfl
          | succ j'=>exact (hsep k h3 ((g3 k).2 ⟨j',by simp at h2;omega,h4⟩)).elim
        | succ j=>cases j' with
          | zero=>exact (hsep k h4 ((g3 k).2 ⟨j,by simp at h1;omega,h3⟩)).elim
          | succ j'=>rw [g4 j j' k (by simp at h1;omega) (by simp at h2;omega) h3 h4]
    have hv1:=hv.1
    cases x with
    | d d=>
      cases d with
      | v u=>
        obtain ⟨h1,h2⟩:dvOk u y/\closeOk σ r s ls:=hc
        refine data h2 ?_
        cases hv1 with
        | v _ hone=>
          cases y with
          | v u'=>have h1:_=u':=h1;subst h1;exact .v _ _ hone λ_ h=>h
          | sl sz n rw=>obtain ⟨e1,e2⟩:v=c9/\n=0:=h1;subst e1;subst e2;exact .nil _ _ _ _ λ_ h=>h
          | p _=>exact h1.elim
          | fn _ _=>exact h1.elim
      | _=>exact (show False from hc).elim
    | zc=>
      obtain ⟨h1,h2⟩:zcOk y/\closeOk σ r s ls:=hc
      refine data h2 ?_
      obtain ⟨ad,rfl⟩:=hv1
      cases y with
      | sl sz n rw=>have h1:n=0:=h1;subst h1;exact .nil _ _ _ _ λ_ h=>h
      | _=>exact h1.elim
    | own l off len ver=>
      cases y with
      | sl sz n rw=>
        cases ls with
        | nil=>exact (show False from hc).elim
        | cons p ls'=>
          obtain ⟨⟨rfl,rfl,rfl,h3⟩,h2⟩:(p=(l,ver)/\off=0/\len=n/\ownAs σ l ver sz n rw)/\closeOk σ r s ls':=hc
          unfold ownAs at h3
          split at h3
          · rename_i v' sz' n' rw' hσ
            obtain ⟨rfl,rfl,rfl,hrw,hfl⟩:=h3
            refine lab _ _ rfl h2 ⟨by simp [m5,hσ],by simp [hσ]⟩ ?_
            have:=own_whole R hσ hv1 (N:=Nof S σ μ w) λ_ h=>h
            exact (this.rows hrw).nrep hfl
          · exact h3.elim
      | _=>exact (show False from hc).elim
    | nown l len ver=>
      cases y with
      | sl sz n rw=>
        cases ls with
        | nil=>exact (show False from hc).elim
        | cons p ls'=>
          obtain ⟨⟨rfl,rfl,h3⟩,h2⟩:(p=(l,ver)/\len=n/\nestAs σ l ver sz n rw)/\closeOk σ r s ls':=hc
          unfold nestAs at h3
          split at h3
          · rename_i v' sz' n' rw' hσ
            obtain ⟨rfl,rfl,rfl,hrw⟩:=h3
            refine lab _ _ rfl h2 ⟨by simp [m5,hσ],by simp [hσ]⟩ ?_
            exact nle_sl hrw _ _ _ (nest_whole R hσ hv1).2.1
          · exact h3.elim
      | _=>exact (show False from hc).elim
    | _=>exact (show False from hc).elim
end
theorem cov_close {fr:Bool} {nt:Nat} {σ τ:St} (l:Nat) (row':Nat->List DV) (ds:List DV) (ls:List (Nat × Nat)) {ver sz n x:Nat} {row:Nat->List DV} {cells:List CV} (ho:m4 σ.objs l=(ver,.nest sz n row (some (x,cells))))
    (hc:closeOk σ.o cells ds ls) (hd:exOk ((l,ver)::ls) []=true) (h1:row' x=ds) (h2:∀ i,i<n->i≠x->row' i=row i)
    (h:CovG fr nt ⟨σ.slots,((l,ver,.nest sz n row' none)::deadO ls) ++ σ.objs⟩ τ):CovG fr nt σ τ:=by
  refine cov_trans ?_ h
  rintro w0 S a w hfo ⟨μ,R⟩
  have hσ : σ.o l=(ver,.nest sz n row (some (x,cells))):=ho
  have hlv:m5 σ.o l:=by simp [m5,hσ]
  have ob:=R.objs l
  rw [hσ] at ob
  rcases ob with ⟨_,_,h0,_⟩|⟨b,base,cs,e,hμ,hb,hsz,⟨k0,G,k1,k2,k3⟩,hkb,hknd,hfoc⟩
  · cases h0
  have k2:∀ k,k ∈ μ.k l ↔ ∃ i j,i<n/\¬ isFoc (some (x,cells)) i/\j<sz/\G i j k:=k2
  obtain ⟨hx,hcl,hcs⟩:=hfoc _ _ rfl
  obtain ⟨hnd0,_⟩:=exOk_spec hd
  have hnd0:(l::ls.map (·.1)).Nodup:=hnd0
  rw [List.nodup_cons] at hnd0
  have hff:∀ i,isFoc (some (x,cells)) i↔i=x:=λi=>⟨λ⟨c,hc⟩=>by simp at hc;exact hc.1.symm,λe=>⟨cells,by rw [e]⟩⟩
  have hnf:∀ k,¬ isFoc none k:=λk ⟨c,hc⟩=>by cases hc
  let us:List Value:=(List.range sz).map λj=>cs.getD (base+x*sz+j) undef
  have husg:∀ (j:Nat) y,cells[j]? = some y->∃ u,us[j]? = some u/\CRep σ.o μ w (Nof S σ.o μ w) y u:=λj y hj=>by
    obtain ⟨u,hu,hc⟩:=hcs j y hj
    have hjl:j<sz:=by rw [<- hcl];exact (List.getElem?_eq_some_iff.1 hj).1
    exact ⟨u,by simp [us,hjl,Array.getD_eq_getD_getElem?,hu],hc⟩
  have hus:CsRep σ.o μ w (Nof S σ.o μ w) cells us:=CsRep.of_get (by simp [us,hcl]) husg
  obtain ⟨c0,c1,Gx,c2,c3,c4⟩:=close_rep R hc hus hnd0.2
  have hdl:ds.length=sz:=by rw [c0,hcl]
  have husv:∀ j,j<sz->∃ u,us[j]? = some u/\cs[base+x*sz+j]? = some u:=λj hj=>by
    obtain ⟨u,hu,_⟩:=hcs j _ (List.getElem?_eq_getElem (by omega))
    exact ⟨u,by simp [us,hj,Array.getD_eq_getD_getElem?,hu],hu⟩
  have hsepl:∀ k,k∈blk μ ls->k≠b/\k ∉ μ.k l:=λk hk=>by
    obtain ⟨p,hp,hm⟩:=blk_mem hk
    have hno:¬ Has μ l k:=λhm'=>by
      have:=R.injH p.1 l k (c1 p hp).1 hlv hm hm'
      exact hnd0.1 (List.mem_map.2 ⟨p,hp,this⟩)
    exact ⟨λe=>hno (.inl ⟨base,by rw [e];exact hμ⟩),λh=>hno (.inr h)⟩
  let ks:List Nat := μ.k l++blk μ ls
  let t0:Nat × (Nat × HO) × Option (Nat × Nat) × List Nat:=(l,(ver,.nest sz n row' none),some (b,base),ks)
  have hus':usOf (t0::deadT ls)=(l,ver,.nest sz n row' none)::deadO ls:=by rw [<- usOf_deadT];rfl
  have hnd:u9 (usOf (t0::deadT ls))=true:=by
    rw [hus']
    unfold u9
    cases hb:l4 (deadO ls) l with
    | true=>obtain ⟨q,hq,e⟩:=hasLab_deadO hb;exact (hnd0.1 (List.mem_map.2 ⟨q,hq,e⟩)).elim
    | false=>exact nodup_deadO hnd0.2
  have hblk0:∀ k,k∈blk μ ((l,ver)::ls)↔(k=b\/k ∈ μ.k l)\/k∈blk μ ls:=λk=>by
    have e:blk μ ((l,ver)::ls)=blk μ [(l,ver)]++blk μ ls:=blk_append μ [(l,ver)] ls
    rw [e,List.mem_append,blk_one]
    show k∈blkP (μ l) (μ.k l)\/_↔_
    rw [mem_blkP,hμ]
    constructor
    · rintro ((⟨_,e⟩|h)|h)
      · simp at e;exact .inl (.inl e.1.symm)
      · exact .inl (.inr h)
      · exact .inr h
    · rintro ((rfl|h)|h)
      · exact .inl (.inl ⟨base,rfl⟩)
      · exact .inl (.inr h)
      · exact .inr h
  have hblkT:blkT (t0::deadT ls)=b::ks:=by
    have:blkT (t0::deadT ls)=blkP (some (b,base)) ks++blkT (deadT ls):=rfl
    rw [this,blkT_deadT];simp [blkP]
  have hvex:∀ p∈(l,ver)::ls,Valid σ.o p:=λp hp=>by
    rcases List.mem_cons.1 hp with rfl|hp
    · exact ⟨hlv,by rw [hσ]⟩
    · exact c1 p hp
  have hksn:ks.Nodup:=List.nodup_append.2 ⟨hknd,blk_nodup R hnd0.2 c1,λk hk k' hk' e=>by subst e;exact (hsepl k hk').2 hk⟩
  obtain ⟨q1,q2,q3⟩:=R.turned (w':=w) (τ:=t0::deadT ls) (ex:=(l,ver)::ls) (gone:=[]) (F':=b::ks) hnd hvex
    (λt ht=>by
      rcases List.mem_cons.1 ht with rfl|ht
      · exact ⟨λh=>(nomatch h),.inr ⟨by rw [hσ],hμ.symm,λ_ h=>(nomatch h),λ_ _ _ h=>(nomatch h),λsz' n' r' foc' h=>by simp [t0] at h;obtain ⟨rfl,rfl,_⟩:=h;exact ⟨row,_,by rw [hσ]⟩⟩⟩
      · obtain ⟨p,hp,rfl⟩:=List.mem_map.1 ht
        refine ⟨λ_=>rfl,.inl ?_⟩
        have:=(c1 p hp).2
        simp only
        omega)
    (λp hp=>by
      rw [List.append_nil] at hp
      rcases List.mem_cons.1 hp with rfl|hp
      · exact ⟨t0,by simp,rfl⟩
      · exact ⟨(p.1,(p.2+1,.dead),none,[]),List.mem_cons_of_mem _ (List.mem_map.2 ⟨p,hp,rfl⟩),rfl⟩)
    ⟨rfl,rfl,rfl⟩ (Nat.le_refl _) (λ_ _ _=>rfl) (λb cs e fr hb=>⟨cs,hb,rfl⟩)
    (λk hk=>by
      have hin:k∈blk μ ((l,ver)::ls):=by
        rw [hblk0]
        simp only [List.mem_cons,ks,List.mem_append] at hk
        rcases hk with rfl|hk|hk
        · exact .inl (.inl rfl)
        · exact .inl (.inr hk)
        · exact .inr hk
      obtain ⟨p,hp,hm⟩:=blk_mem hin
      exact ⟨(R.ownH p.1 k (hvex p hp).1 hm).1,.inl hin⟩)
    (by
      rw [List.nodup_cons]
      refine ⟨λhm => ?_,hksn⟩
      rcases List.mem_append.1 hm with hm|hm
      · exact hkb hm
      · exact (hsepl b hm).1 rfl)
    hblkT
    (λN' hN' hf t ht=>by
      rcases List.mem_cons.1 ht with rfl|ht
      · obtain ⟨f1,f2,f3⟩:=hf t0 (by simp)
        let G':Nat->Nat->Nat->Prop:=λi j k=>(i=x/\Gx j k)\/(i≠x/\G i j k)
        have hrow:∀ i,i<n->(row' i).length=sz:=λi hi=>by
          by_cases ei:i=x
          · rw [ei,h1,hdl]
          · rw [h2 i hi ei];exact k0 i hi λh=>ei ((hff i).1 h)
        refine .inr ⟨b,base,cs,e,f2,hb,hsz,⟨λi hi _=>hrow i hi,G',λi j y hi _ hj => ?_,λk => ?_,λi j i' j' k g1 _ g3 g4 _ g6 g7 g8 => ?_⟩,by
            rw [f3]
            intro hm
            rcases List.mem_append.1 hm with hm|hm
            · exact hkb hm
            · exact (hsepl b hm).1 rfl,by rw [f3];exact hksn,λi cells hfc=>by cases hfc⟩
        · by_cases ei:i=x
          · subst ei
            rw [h1] at hj
            have hjl:j<sz:=by rw [<- hdl];exact (List.getElem?_eq_some_iff.1 hj).1
            obtain ⟨u,hu1,hu2⟩:=husv j hjl
            exact ⟨u,hu2,(c2 j y u hj hu1).eqv λk=>⟨λh=>h.elim (λh=>h.2) λh=>(h.1 rfl).elim,λh=>.inl ⟨rfl,h⟩⟩⟩
          · rw [h2 i hi ei] at hj
            obtain ⟨u,hu,hd⟩:=k1 i j y hi (λh=>ei ((hff i).1 h)) hj
            exact ⟨u,hu,hd.eqv λk=>⟨λh=>h.elim (λh=>(ei h.1).elim) λh=>h.2,λh=>.inr ⟨ei,h⟩⟩⟩
        · show k∈(placeT μ (t0::deadT ls)).k l↔_
          rw [f3]
          show k ∈ μ.k l++blk μ ls↔_
          rw [List.mem_append,k2,c3]
          constructor
          · rintro (⟨i,j,g1,g0,g2,g3⟩|⟨j,g1,g2⟩)
            · exact ⟨i,j,g1,hnf i,g2,.inr ⟨λe=>g0 ((hff i).2 e),g3⟩⟩
            · exact ⟨x,j,hx,hnf x,by omega,.inl ⟨rfl,g2⟩⟩
          · rintro ⟨i,j,g1,_,g2,⟨rfl,g3⟩|⟨g3,g4⟩⟩
            · exact .inr ⟨j,by omega,g3⟩
            · exact .inl ⟨i,j,g1,λh=>g3 ((hff i).1 h),g2,g4⟩
        · rcases g7 with ⟨rfl,g7⟩|⟨n7,g7⟩<;>rcases g8 with ⟨rfl,g8⟩|⟨n8,g8⟩
          · exact ⟨rfl,c4 j j' k (by omega) (by omega) g7 g8⟩
          · exact ((hsepl k ((c3 k).2 ⟨j,by omega,g7⟩)).2 ((k2 k).2 ⟨i',j',g4,λh=>n8 ((hff i').1 h),g6,g8⟩)).elim
          · exact ((hsepl k ((c3 k).2 ⟨j',by omega,g8⟩)).2 ((k2 k).2 ⟨i,j,g1,λh=>n7 ((hff i).1 h),g3,g7⟩)).elim
          · exact k3 i j i' j' k g1 (λh=>n7 ((hff i).1 h)) g3 g4 (λh=>n8 ((hff i').1 h)) g6 g7 g8
      · obtain ⟨p,hp,rfl⟩:=List.mem_map.1 ht
        trivial)
  refine ⟨placeT μ (t0::deadT ls),?_⟩
  have eo:St.o ⟨σ.slots,((l,ver,.nest sz n row' none)::deadO ls) ++ σ.objs⟩=putO σ.o (usOf (t0::deadT ls)):=by
    show m4 (_ ++ σ.objs)=_
    rw [lookO_app,hus'];rfl
  rw [eo]
  exact q3
theorem cov_promN {fr:Bool} {nt:Nat} {σ τ:St} (k L ver sz:Nat) (row:Nat->List DV) (hx:bareB (i5 σ.slots k)=true) (hv:nblt (σ.o L).1 ver=true)
    (h:CovG fr nt ⟨(k,.c (.nown L 0 ver)) :: σ.slots,(L,ver,.nest sz 0 row none) :: σ.objs⟩ τ):CovG fr nt σ τ:=by
  refine cov_trans ?_ h
  rintro w0 S a w hfo ⟨μ,R⟩
  obtain ⟨st,R'⟩:=R.bare L ver (by simpa [nblt_eq] using hv) (.nest sz 0 row none) (.inr (.inr ⟨_,_,rfl⟩))
  have eo:St.o ⟨(k,.c (.nown L 0 ver)) :: σ.slots,(L,ver,.nest sz 0 row none) :: σ.objs⟩=updO σ.o L (ver,.nest sz 0 row none):=lookO_upd
  refine ⟨updP μ L none,?_⟩
  rw [eo]
  refine { R' with slots:=slot_cons (tm:=λk=>a.tmps.getD k undef) ?_ R'.slots }
  have hs:∃ ad,a.tmps.getD k undef=.slice ad 0 0:=by
    have r:=R.slots k
    revert hx r
    generalize i5 σ.slots k=x
    generalize a.tmps.getD k undef=u
    intro hx r
    unfold bareB at hx
    split at hx
    · exact r
    · cases r with
      | v _ _=>exact ⟨none,rfl⟩
    · cases hx
  obtain ⟨ad,hs⟩:=hs
  refine ⟨by rw [hs];rfl,by simp,λsz' n row' foc' e => ?_⟩
  simp at e
  obtain ⟨rfl,rfl,rfl,rfl⟩:=e
  exact ⟨rfl,.inl ⟨by simp,rfl,ad,hs⟩⟩
theorem cov_promCN {fr:Bool} {nt:Nat} {σ τ:St} (l L ver sz:Nat) (row:Nat->List DV) {v:Nat} (xs ys:List CV) (ho:m4 σ.objs l=(v,.box (xs ++ .d (.v c9)::ys))) (hne:nbeq L l=false) (hv:nblt (σ.o L).1 ver=true)
    (h:CovG fr nt ⟨σ.slots,(l,v,.box (xs ++ .nown L 0 ver::ys))::(L,ver,.nest sz 0 row none) :: σ.objs⟩ τ):CovG fr nt σ τ:=by
  refine cov_trans ?_ h
  rintro w0 S a w hfo ⟨μ,R⟩
  have hne:L≠l:=λe=>by subst e;simp at hne
  obtain ⟨st,R'⟩:=R.bare L ver (by simpa [nblt_eq] using hv) (.nest sz 0 row none) (.inr (.inr ⟨_,_,rfl⟩))
  have eo:St.o ⟨σ.slots,(l,v,.box (xs ++ .nown L 0 ver::ys))::(L,ver,.nest sz 0 row none) :: σ.objs⟩=updO (updO σ.o L (ver,.nest sz 0 row none)) l (v,.box (xs ++ .nown L 0 ver::ys)):=by
    show m4 ((l,v,.box (xs ++ .nown L 0 ver::ys))::(L,ver,.nest sz 0 row none) :: σ.objs)=_
    rw [lookO_upd,lookO_upd];rfl
  refine ⟨updP μ L none,?_⟩
  rw [eo]
  generalize hσ':updO σ.o L (ver,.nest sz 0 row none) = σ' at R' st ⊢
  generalize hμ':updP μ L none = μ' at R' st ⊢
  have hl : σ' l=(v,.box (xs ++ .d (.v c9)::ys)):=by rw [<- hσ',s7 _ _ hne.symm];exact ho
  have hL : σ' L=(ver,.nest sz 0 row none):=by rw [<- hσ'];exact updO_same _ _ _
  have hlive:∀ k,m5 (updO σ' l (v,.box (xs ++ .nown L 0 ver::ys))) k->m5 σ' k:=λk hk=>by
    by_cases e:k=l
    · subst e;unfold m5;rw [hl];exact HO.noConfusion
    · unfold m5 at hk ⊢;rwa [s7 _ _ e] at hk
  have hst:Step S σ' (updO σ' l (v,.box (xs ++ .nown L 0 ver::ys))) μ' μ' w w:=by
    refine ⟨Nat.le_refl _,λb hb=>⟨rfl,hb.1,hb.2.1,λk hk=>hb.2.2 k (hlive k hk)⟩,λk => ?_⟩
    right
    by_cases e:k=l
    · subst e
      rw [updO_same]
      exact ⟨by rw [hl],rfl,λc _=>⟨_,by rw [hl]⟩,λsz n row hr=>(nomatch hr),λsz n row foc hr=>(nomatch hr),λb base cs e' hm hex hb=>⟨cs,hb,rfl⟩⟩
    · rw [s7 _ _ e]
      exact ⟨rfl,rfl,λc hc=>⟨c,hc⟩,λsz n row hr=>⟨n,row,hr,Nat.le_refl _⟩,λsz n row foc hr=>⟨row,foc,hr⟩,λb base cs' e' hm _ hb=>⟨cs',hb,rfl⟩⟩
  refine R'.carry hst ⟨rfl,rfl,rfl⟩ (λ_ _ _=>rfl) (λb cs e fr hb=>⟨cs,hb,rfl⟩) (λk b hk hm=>R'.ownH k b (hlive k hk) hm) (λk k' b hk hk' hm hm'=>R'.injH k k' b (hlive k hk) (hlive k' hk') hm hm') (λk hk hn=>R'.kz k (hlive k hk) ?_) (λk => ?_)
  · by_cases e:k=l
    · subst e;rw [hl];rfl
    · rw [s7 _ _ e] at hn;exact hn
  by_cases e:k=l
  · right
    subst e
    rw [updO_same]
    have hr:=R'.objs k
    rw [hl] at hr
    obtain ⟨b,cs,e,h1,h2,h3⟩:=hr
    refine ⟨b,cs,e,h1,h2,CsRep.mid (λu hu => ?_) (h3.step hst)⟩
    have hu:DRep w _ (.v c9) u:=hu
    cases hu
    refine ⟨rfl,by rw [s7 _ _ hne,hL];exact Nat.le_refl _,λsz' n row' foc' e => ?_⟩
    rw [s7 _ _ hne,hL] at e
    cases e
    exact ⟨rfl,.inl ⟨by rw [<- hμ'];exact updP_same _ _ _,rfl,_,rfl⟩⟩
  · left
    exact ⟨s7 _ _ e,rfl,rfl,λ_ _ _=>rfl⟩
theorem cov_nestOf {fr:Bool} {nt:Nat} {σ τ:St} (k l l' v':Nat) (row':Nat->List DV) {v sz n:Nat} {row:Nat->List DV} (hk:i5 σ.slots k=.c (.own l 0 n v)) (ho:m4 σ.objs l=(v,.arr sz n row)) (hne:nbeq l l'=false) (hv:nblt (m4 σ.objs l').1 v'=true)
    (hf:FlatR n row) (hr:∀ i,i<n->NsLe (row i) (row' i))
    (h:CovG fr nt ⟨(k,.c (.nown l' n v')) :: σ.slots,(l',v',.nest sz n row' none)::(l,v+1,.dead) :: σ.objs⟩ τ):CovG fr nt σ τ:=by
  refine cov_trans ?_ h
  rintro w0 S a w hfo ⟨μ,R⟩
  have hne:l≠l':=λe=>by subst e;simp at hne
  have hv:(σ.o l').1<v':=by
    have hv:nblt (σ.o l').1 v'=true:=hv
    simpa [nblt_eq] using hv
  have hσ : σ.o l=(v,.arr sz n row):=ho
  have hlv:m5 σ.o l:=by simp [m5,hσ]
  have hs:=R.slots k
  rw [hk] at hs
  have hown:=own_whole R hσ hs (N:=λ_=>True) λ_ _=>trivial
  have hnest:NestRep w sz n row' (a.tmps.getD k undef) (blk μ [(l,v)]):=(hown.nest hf).le (nle_sl hr)
  obtain ⟨p,tk⟩:=nest_taken (σ := σ.o) (μ := μ) (N:=λ_=>False) (L:=l') (ver:=v') hnest (.inl hv)
  have hvex:∀ p ∈ [(l,v)],Valid σ.o p:=λp hp=>by simp at hp;subst hp;exact ⟨hlv,by rw [hσ]⟩
  let τs:Turns:=[(l',(v',.nest sz n row' none),p),(l,(v+1,.dead),none,[])]
  have hblkT:blkT τs=blk μ [(l,v)]:=by
    have h1:=tk.1
    have:blkT τs=blkT [(l',(v',HO.nest sz n row' none),p)]++blkT [(l,(v+1,HO.dead),none,[])]:=blkT_append [_] [_]
    rw [this,h1];simp [blkT,blkP]
  have hus:usOf τs=[(l',v',.nest sz n row' none),(l,v+1,.dead)]:=rfl
  have hnd:u9 (usOf τs)=true:=by
    rw [hus]
    unfold u9
    have:nbeq l l'=false:=by cases hb:nbeq l l' with|false=>rfl|true=>exact absurd (i3 hb) hne
    simp [l4,this,u9]
  obtain ⟨q1,q2,q3⟩:=R.turned (w':=w) (τ := τs) (ex:=[(l,v)]) (gone:=[]) (F':=blk μ [(l,v)]) hnd hvex
    (λt ht=>by
      rcases List.mem_cons.1 ht with rfl|ht
      · exact tk.2.1 _ (by simp)
      · simp at ht;subst ht
        exact ⟨λ_=>rfl,.inl (by simp [hσ])⟩)
    (λp hp=>by simp at hp;subst hp;exact ⟨(l,(v+1,.dead),none,[]),by simp [τs],rfl⟩) ⟨rfl,rfl,rfl⟩ (Nat.le_refl _) (λ_ _ _=>rfl) (λb cs e fr hb=>⟨cs,hb,rfl⟩)
    (λb hb=>by
      obtain ⟨p,hp,hm⟩:=blk_mem hb
      exact ⟨(R.ownH p.1 b (hvex p hp).1 hm).1,.inl hb⟩)
    (blk_nodup R (by simp) hvex) hblkT
    (λN' _ hf t ht=>by
      rcases List.mem_cons.1 ht with rfl|ht
      · exact (tk.2.2 _ _ N' (λ_ h=>h.elim) (λt ht=>hf t (by simp at ht;subst ht;simp [τs]))).2 _ (by simp)
      · simp at ht;subst ht;trivial)
  refine ⟨placeT μ τs,?_⟩
  have eo:St.o ⟨(k,.c (.nown l' n v')) :: σ.slots,(l',v',.nest sz n row' none)::(l,v+1,.dead) :: σ.objs⟩=putO σ.o (usOf τs):=by
    show m4 ([(l',v',HO.nest sz n row' none),(l,v+1,HO.dead)] ++ σ.objs)=_
    rw [lookO_app,hus];rfl
  rw [eo]
  refine { q3 with slots:=slot_cons (tm:=λk=>a.tmps.getD k undef) ?_ q3.slots }
  exact (tk.2.2 _ _ _ (λ_ h=>h.elim) (λt ht=>q2 t (by simp at ht;subst ht;simp [τs]))).1
theorem close_end {so:Nat->Nat × HO}:closeOk so [] [] []:=trivial
theorem close_v {so:Nat->Nat × HO} {u:Value} {r:List CV} {s:List DV} {ls:List (Nat × Nat)} (h:closeOk so r s ls):closeOk so (.d (.v u)::r) (.v u::s) ls:=⟨rfl,h⟩
theorem close_nil {so:Nat->Nat × HO} {sz:Nat} {rw:Nat->List DV} {r:List CV} {s:List DV} {ls:List (Nat × Nat)} (h:closeOk so r s ls):closeOk so (.d (.v c9)::r) (.sl sz 0 rw::s) ls:=⟨⟨rfl,rfl⟩,h⟩
theorem close_own {so:Nat->Nat × HO} {l v sz n:Nat} {rw rw':Nat->List DV} {r:List CV} {s:List DV} {ls:List (Nat × Nat)} (ho:so l=(v,.arr sz n rw')) (he:∀ i,i<n->rw' i=rw i) (hf:FlatR n rw) (h:closeOk so r s ls) :
    closeOk so (.own l 0 n v::r) (.sl sz n rw::s) ((l,v)::ls):=by
  refine ⟨⟨rfl,rfl,rfl,?_⟩,h⟩
  unfold ownAs
  rw [ho]
  exact ⟨rfl,rfl,rfl,he,hf⟩
theorem close_nown {so:Nat->Nat × HO} {l v sz n:Nat} {rw rw':Nat->List DV} {r:List CV} {s:List DV} {ls:List (Nat × Nat)} (ho:so l=(v,.nest sz n rw' none)) (he:∀ i,i<n->NsLe (rw' i) (rw i)) (h:closeOk so r s ls) :
    closeOk so (.nown l n v::r) (.sl sz n rw::s) ((l,v)::ls):=by
  refine ⟨⟨rfl,rfl,?_⟩,h⟩
  unfold nestAs
  rw [ho]
  exact ⟨rfl,rfl,rfl,he⟩
def FlatL:List DV->Prop
  | []=>True
  | x::r=>(∃ u,x=.v u)/\FlatL r
theorem flatL {l:List DV} (h:FlatL l):∀ x,x∈l->∃ u,x=.v u:=by
  induction l with
  | nil=>intro x hx;simp at hx
  | cons y r ih=>
    intro x hx
    rcases List.mem_cons.1 hx with rfl|hx
    · exact h.1
    · exact ih h.2 x hx
theorem flatR {n:Nat} {row:Nat->List DV} (h:∀ i,FlatL (row i)):FlatR n row:=λi _=>flatL (h i)
theorem nsle_of_eq {l m:List DV} (h:l=m):NsLe l m:=h▸NsLe.rfl
def mapT (f:CV->CV):TV->TV
  | .c x=>.c (f x)
  | .agg xs=>.agg (xs.map f)
def mapA (f:CV->CV):AV->AV
  | .c x=>.c (f x)
  | .agg xs=>.agg (xs.map f)
  | .tup xs=>.tup (xs.map (mapT f))
  | .gd t x=>.gd t (mapA f x)
def mapH (f:CV->CV):HO->HO
  | .box cells=>.box (cells.map f)
  | .nest sz n row (some (x,cells))=>.nest sz n row (some (x,cells.map f))
  | o=>o
section
variable {σ σ':p9} {μ μ':Place} {w:World} {N N':Nat->Prop} {f:CV->CV}
theorem CsRep.remap (hc:∀ x u,CRep σ μ w N x u->CRep σ' μ' w N' (f x) u):∀ {xs:List CV} {vs:List Value},CsRep σ μ w N xs vs->CsRep σ' μ' w N' (xs.map f) vs
  | [],[],_=>trivial
  | _::_,_::_,hx=>⟨hc _ _ hx.1,CsRep.remap hc hx.2⟩
  | [],_::_,hx=>hx.elim
  | _::_,[],hx=>hx.elim
theorem TRep.remap (hc:∀ x u,CRep σ μ w N x u->CRep σ' μ' w N' (f x) u) {x:TV} {v:Value} (hx:TRep σ μ w N x v):TRep σ' μ' w N' (mapT f x) v:=by
  cases x with
  | c x=>exact hc _ _ hx
  | agg xs=>obtain ⟨cs,h1,h2⟩:=hx;exact ⟨cs,h1,h2.remap hc⟩
theorem TsRep.remap (hc:∀ x u,CRep σ μ w N x u->CRep σ' μ' w N' (f x) u):∀ {xs:List TV} {vs:List Value},TsRep σ μ w N xs vs->TsRep σ' μ' w N' (xs.map (mapT f)) vs
  | [],[],_=>trivial
  | _::_,_::_,hx=>⟨hx.1.remap hc,TsRep.remap hc hx.2⟩
  | [],_::_,hx=>hx.elim
  | _::_,[],hx=>hx.elim
theorem ARep.remap (hc:∀ x u,CRep σ μ w N x u->CRep σ' μ' w N' (f x) u):∀ {x:AV} {v:Value},ARep σ μ w N x v->ARep σ' μ' w N' (mapA f x) v
  | .c _,_,hx=>hc _ _ hx
  | .agg _,_,⟨cs,h1,h2⟩=>⟨cs,h1,h2.remap hc⟩
  | .tup _,_,⟨cs,h1,h2⟩=>⟨cs,h1,h2.remap hc⟩
  | .gd _ x,_,hx=>⟨λht=>ARep.remap hc (x:=x) (hx.1 ht),hx.2⟩
end
section
variable {w0:World} {S:Sets} {nt:Nat} {sl:Nat->AV} {σ:p9} {a:Act} {w:World} {μ:Place}
def recell (σ:p9) (l:Nat) (x:Nat × HO) (f:CV->CV):p9:=λk=>if k=l then x else ((σ k).1,mapH f (σ k).2)
theorem mapH_box {f:CV->CV} {o:HO} {cells:List CV} (h:mapH f o=.box cells):∃ c,o=.box c:=by
  cases o with
  | box c=>exact ⟨c,rfl⟩
  | dead=>cases h
  | arr _ _ _=>cases h
  | nest _ _ _ foc=>cases foc with
    | none=>cases h
    | some p=>cases h
theorem mapH_arr {f:CV->CV} {o:HO} {sz n:Nat} {row:Nat->List DV} (h:mapH f o=.arr sz n row):o=.arr sz n row:=by
  cases o with
  | box c=>cases h
  | dead=>cases h
  | arr _ _ _=>exact h
  | nest _ _ _ foc=>cases foc with
    | none=>cases h
    | some p=>cases h
theorem mapH_nest {f:CV->CV} {o:HO} {sz n:Nat} {row:Nat->List DV} {foc:Option (Nat × List CV)} (h:mapH f o=.nest sz n row foc):∃ foc',o=.nest sz n row foc':=by
  cases o with
  | box c=>cases h
  | dead=>cases h
  | arr _ _ _=>cases h
  | nest _ _ _ foc'=>cases foc' with
    | none=>cases h;exact ⟨_,rfl⟩
    | some p=>cases h;exact ⟨_,rfl⟩
theorem mapH_dead {f:CV->CV} {o:HO} (h:mapH f o ≠ .dead):o ≠ .dead:=λe=>by subst e;exact h rfl
theorem mapH_isNest {f:CV->CV} {o:HO}:isNest (mapH f o)=isNest o:=by
  cases o with
  | nest _ _ _ foc=>cases foc<;>rfl
  | _=>rfl
theorem live_recell {f:CV->CV} {l k:Nat} {x:Nat × HO} (hk:k≠l) (h:m5 (recell σ l x f) k):m5 σ k:=by
  unfold m5 recell at h
  rw [if_neg hk] at h
  exact mapH_dead h
theorem recell_step {l v:Nat} {o:HO} {f:CV->CV} {ks:List Nat} (hl:m5 σ l) (hv:(σ l).1=v) (hks:∀ b,b∈ks->b ∈ μ.k l):Step S σ (recell σ l (v+1,o) f) μ (updK μ l (μ l) ks) w w:=by
  refine ⟨Nat.le_refl _,λb hb=>⟨rfl,hb.1,hb.2.1,λk hk hh => ?_⟩,λk => ?_⟩
  · by_cases e:k=l
    · subst e
      refine hb.2.2 k hl ?_
      rcases has_updK_same.1 hh with ⟨base,h⟩|h
      · exact .inl ⟨base,h⟩
      · exact .inr (hks b h)
    · exact hb.2.2 k (live_recell e hk) ((has_updK_ne e).1 hh)
  · by_cases e:k=l
    · subst e;left;simp [recell,hv]
    · right
      have:recell σ l (v+1,o) f k=((σ k).1,mapH f (σ k).2):=by simp [recell,e]
      rw [this,updK_ne _ _ _ e]
      exact ⟨rfl,rfl,λc hc=>mapH_box hc,λsz n row hr=>⟨n,row,mapH_arr hr,Nat.le_refl _⟩,λsz n row foc hr=>(mapH_nest hr).elim λfoc2 h=>⟨row,foc2,h⟩,λb base cs e' hm _ hb=>⟨cs,hb,rfl⟩⟩
theorem ObjRep.remap {σ':p9} {μ':Place} {f:CV->CV} (h:Step S σ σ' μ μ' w w) (hc:∀ x u,CRep σ μ w (Nof S σ μ w) x u->CRep σ' μ' w (Nof S σ' μ' w) (f x) u) {k:Nat} (hm : μ' k = μ k) (hmk : μ'.k k = μ.k k) {o:HO} (ho:ObjRep σ μ w (Nof S σ μ w) k o) :
    ObjRep σ' μ' w (Nof S σ' μ' w) k (mapH f o):=by
  cases o with
  | dead=>trivial
  | box cells=>
    obtain ⟨b,cs,e,h1,h2,h3⟩:=ho
    exact ⟨b,cs,e,by rw [hm];exact h1,h2,h3.remap hc⟩
  | arr sz n row=>exact ObjRep.step h hm hmk (λ_ _=>rfl) ho
  | nest sz n row foc=>
    rcases ho with ⟨h1,h2,h3,h4⟩|⟨b,base,cs,e,h1,h2,h3,h4,h5,h6,h7⟩
    · subst h3
      exact .inl ⟨by rw [hm];exact h1,h2,rfl,by rw [hmk];exact h4⟩
    · cases foc with
      | none=>exact .inr ⟨b,base,cs,e,by rw [hm];exact h1,h2,h3,by rw [hmk];exact h4,by rw [hmk];exact h5,by rw [hmk];exact h6,λi cells hf=>by cases hf⟩
      | some p=>
        obtain ⟨x,cells⟩:=p
        have hsk:isFoc (some (x,cells.map f))=isFoc (some (x,cells)):=by
          funext i
          refine propext ⟨λ⟨c,h⟩ => ?_,λ⟨c,h⟩ => ?_⟩
          · cases h;exact ⟨_,rfl⟩
          · cases h;exact ⟨_,rfl⟩
        refine .inr ⟨b,base,cs,e,by rw [hm];exact h1,h2,h3,by rw [hmk,hsk];exact h4,by rw [hmk];exact h5,by rw [hmk];exact h6,λi cells' hf => ?_⟩
        cases hf
        obtain ⟨q1,q2,q3⟩:=h7 x cells rfl
        refine ⟨q1,by simp [q2],λj y hj => ?_⟩
        simp only [List.getElem?_map,Option.map_eq_some_iff] at hj
        obtain ⟨z,hz,rfl⟩:=hj
        obtain ⟨u,hu,hcr⟩:=q3 j z hz
        exact ⟨u,hu,hc _ _ hcr⟩
theorem RelM.recell (R:RelM w0 S nt sl σ a w μ) {l v:Nat} {o:HO} {f:CV->CV} {ks:List Nat} (hl:m5 σ l) (hv:(σ l).1=v) (hks:∀ b,b∈ks->b ∈ μ.k l) (hkz:o ≠ .dead->isNest o=false->ks=[])
    (hc:∀ x u,CRep σ μ w (Nof S σ μ w) x u->CRep (recell σ l (v+1,o) f) (updK μ l (μ l) ks) w (Nof S (recell σ l (v+1,o) f) (updK μ l (μ l) ks) w) (f x) u)
    (ho:ObjRep (recell σ l (v+1,o) f) (updK μ l (μ l) ks) w (Nof S (recell σ l (v+1,o) f) (updK μ l (μ l) ks) w) l o) :
    RelM w0 S nt (λk=>mapA f (sl k)) (recell σ l (v+1,o) f) a w (updK μ l (μ l) ks):=by
  have hst:=recell_step (S:=S) (w:=w) (o:=o) (f:=f) hl hv hks
  have hlive:∀ k,m5 (Rk.recell σ l (v+1,o) f) k->m5 σ k:=λk hk=>by
    by_cases e:k=l
    · subst e;exact hl
    · exact live_recell e hk
  have hhas:∀ k b,Has (updK μ l (μ l) ks) k b->Has μ k b:=λk b hh=>by
    by_cases e:k=l
    · subst e
      rcases has_updK_same.1 hh with ⟨base,h⟩|h
      · exact .inl ⟨base,h⟩
      · exact .inr (hks b h)
    · exact (has_updK_ne e).1 hh
  have R':=R.carry hst ⟨rfl,rfl,rfl⟩ (λ_ _ _=>rfl) (λb cs e fr hb=>⟨cs,hb,rfl⟩) (λk b hk hm=>R.ownH k b (hlive k hk) (hhas k b hm)) (λk k' b hk hk' hm hm'=>R.injH k k' b (hlive k hk) (hlive k' hk') (hhas k b hm) (hhas k' b hm'))
    (λk hk hn=>by
      by_cases e:k=l
      · subst e
        rw [updK_k_same]
        unfold m5 Rk.recell at hk
        unfold Rk.recell at hn
        rw [if_pos rfl] at hk hn
        exact hkz hk hn
      · rw [updK_k_ne _ _ _ e]
        refine R.kz k (hlive k hk) ?_
        unfold Rk.recell at hn
        rw [if_neg e] at hn
        rw [<- mapH_isNest (f:=f)];exact hn)
    (λk=>by
      right
      by_cases e:k=l
      · subst e
        have:Rk.recell σ k (v+1,o) f k=(v+1,o):=if_pos rfl
        rw [this];exact ho
      · have:Rk.recell σ l (v+1,o) f k=((σ k).1,mapH f (σ k).2):=if_neg e
        rw [this]
        exact ObjRep.remap hst hc (updK_ne _ _ _ e) (updK_k_ne _ _ _ e) (R.objs k))
  exact { R' with slots:=λk=>(R.slots k).remap hc }
theorem nof_gone (R:RelM w0 S nt sl σ a w μ) {l v:Nat} {o:HO} {f:CV->CV} {ks:List Nat} (hl:m5 σ l) (hks:∀ b,b∈ks->b ∈ μ.k l) {b:Nat} (hb:Has μ l b) (hno:o ≠ .dead->¬ Has (updK μ l (μ l) ks) l b):Nof S (recell σ l (v+1,o) f) (updK μ l (μ l) ks) w b:=by
  have h1:=R.ownH l b hl hb
  refine ⟨h1.1,R.reach b h1.2,λk hk hh => ?_⟩
  by_cases e:k=l
  · subst e
    unfold m5 recell at hk
    rw [if_pos rfl] at hk
    exact hno hk hh
  · exact e (R.injH k l b (live_recell e hk) hl ((has_updK_ne e).1 hh) hb)
def focD (foc:Option (Nat × List CV)) (row':Nat->List DV):Prop:=match foc with
  | none=>True
  | some (x,cells)=>toDs cells=some (row' x)
theorem toDs_get:∀ {cells:List CV} {ds:List DV},toDs cells=some ds->cells.length=ds.length/\∀ (j:Nat) y,ds[j]? = some y->cells[j]? = some (.d y)
  | [],ds,h=>by cases h;exact ⟨rfl,λj y h=>by simp at h⟩
  | x::r,ds,h=>by
    unfold toDs at h
    cases h1:toD x with
    | none=>rw [h1] at h;simp at h
    | some a=>
      cases h2:toDs r with
      | none=>rw [h1,h2] at h;simp at h
      | some b=>
        rw [h1,h2] at h
        cases h
        obtain ⟨q1,q2⟩:=toDs_get h2
        have hx:x=.d a:=by
          cases x with
          | d y=>cases h1;rfl
          | _=>cases h1
        refine ⟨by simp [q1],λj y hj => ?_⟩
        cases j with
        | zero=>simp at hj;subst hj;simp [hx]
        | succ j=>simp at hj ⊢;exact q2 j y hj
theorem nest_cells {N N':Nat->Prop} {cs:Array Value} {base sz n:Nat} {row row':Nat->List DV} {foc:Option (Nat × List CV)} {F:Nat->Prop} (hk:Kids w cs base sz n row (isFoc foc) F) (hF:∀ k,F k->N' k) (hfo:FocRep σ μ w N cs base sz n foc) (hN:∀ b,N b->N' b)
    (hd:focD foc row') (hr:∀ i,i<n->¬ isFoc foc i->row' i=row i):∀ i,i<n->(row' i).length=sz/\∀ (j:Nat) x,(row' i)[j]? = some x->∃ u,cs[base+i*sz+j]? = some u/\DRep w N' x u:=by
  classical
  intro i hi
  obtain ⟨k0,G,k1,k2,_⟩:=hk
  by_cases hs:isFoc foc i
  · obtain ⟨cells,e⟩:=hs
    subst e
    obtain ⟨_,q2,q3⟩:=hfo i cells rfl
    have hd:toDs cells=some (row' i):=hd
    obtain ⟨g1,g2⟩:=toDs_get hd
    refine ⟨by omega,λj x hj => ?_⟩
    obtain ⟨u,hu,hc⟩:=q3 j _ (g2 j x hj)
    exact ⟨u,hu,DRep.mono hN hc⟩
  · rw [hr i hi hs]
    refine ⟨k0 i hi hs,λj x hj => ?_⟩
    obtain ⟨u,hu,hd⟩:=k1 i j x hi hs hj
    have hj2:j<sz:=by rw [<- k0 i hi hs];exact (List.getElem?_eq_some_iff.1 hj).1
    exact ⟨u,hu,hd.data λb hb=>hF b ((k2 b).2 ⟨i,j,hi,hs,hj2,hb⟩)⟩
end
def frzC (l v sz:Nat) (row:Nat->List DV):CV->CV
  | .own l' off len v'=>bif nbeq l' l then (bif nbeq off 0 then (bif nbeq v' v then .d (.sl sz len row) else .own l' off len v') else .own l' off len v') else .own l' off len v'
  | x=>x
def frzN (l v sz:Nat) (row:Nat->List DV):CV->CV
  | .nown l' len v'=>bif nbeq l' l then (bif nbeq v' v then .d (.sl sz len row) else .nown l' len v') else .nown l' len v'
  | x=>x
def hafC (l v:Nat):CV->CV
  | .nown l' len v'=>bif nbeq l' l then (bif nbeq v' v then .own l 0 len (v+1) else .nown l' len v') else .nown l' len v'
  | x=>x
def mapSt (f:CV->CV) (σ:St) (l:Nat) (x:Nat × HO):St:=⟨σ.slots.map λp=>(p.1,mapA f p.2),(l,x) :: σ.objs.map λp=>(p.1,p.2.1,mapH f p.2.2)⟩
theorem lookS_map {f:CV->CV} (hf:f .junk=.junk):∀ (s:List (Nat × AV)) (k:Nat),i5 (s.map λp=>(p.1,mapA f p.2)) k=mapA f (i5 s k)
  | [],_=>by show AV.c .junk=.c (f .junk);rw [hf]
  | (j,x)::r,k=>by
    show (bif nbeq j k then mapA f x else i5 (r.map λp=>(p.1,mapA f p.2)) k)=mapA f (bif nbeq j k then x else i5 r k)
    cases nbeq j k with
    | true=>rfl
    | false=>exact lookS_map hf r k
theorem lookO_map {f:CV->CV}:∀ (s:List (Nat × Nat × HO)) (k:Nat),m4 (s.map λp=>(p.1,p.2.1,mapH f p.2.2)) k=((m4 s k).1,mapH f (m4 s k).2)
  | [],_=>rfl
  | (j,x)::r,k=>by
    show (bif nbeq j k then (x.1,mapH f x.2) else m4 (r.map λp=>(p.1,p.2.1,mapH f p.2.2)) k)=((bif nbeq j k then x else m4 r k).1,mapH f (bif nbeq j k then x else m4 r k).2)
    cases nbeq j k with
    | true=>rfl
    | false=>exact lookO_map r k
theorem mapSt_o {f:CV->CV} {σ:St} {l:Nat} {x:Nat × HO}:(mapSt f σ l x).o=recell σ.o l x f:=by
  funext k
  show m4 ((l,x) :: σ.objs.map λp=>(p.1,p.2.1,mapH f p.2.2)) k=_
  rw [lookO_upd]
  unfold updO recell
  by_cases e:k=l
  · rw [if_pos e,if_pos e]
  · rw [if_neg e,if_neg e];exact lookO_map σ.objs k
section
variable {σ σ':p9} {μ μ':Place} {w:World} {N N':Nat->Prop} {l v sz:Nat} {row:Nat->List DV}
theorem frzC_conv (hs:∀ x u,CRep σ μ w N x u->CRep σ' μ' w N' x u) (h1:∀ len u,CRep σ μ w N (.own l 0 len v) u->DRep w N' (.sl sz len row) u):∀ x u,CRep σ μ w N x u->CRep σ' μ' w N' (frzC l v sz row x) u:=λx u hx=>by
  cases x with
  | own l' off len v'=>
    show CRep σ' μ' w N' (bif nbeq l' l then (bif nbeq off 0 then (bif nbeq v' v then .d (.sl sz len row) else .own l' off len v') else .own l' off len v') else .own l' off len v') u
    cases b1:nbeq l' l with
    | false=>exact hs _ _ hx
    | true=>cases b2:nbeq off 0 with
      | false=>exact hs _ _ hx
      | true=>cases b3:nbeq v' v with
        | false=>exact hs _ _ hx
        | true=>
          have e1:=i3 b1;have e2:=i3 b2;have e3:=i3 b3
          subst e1;subst e2;subst e3
          exact h1 len u hx
  | _=>exact hs _ _ hx
theorem frzN_conv (hs:∀ x u,CRep σ μ w N x u->CRep σ' μ' w N' x u) (h1:∀ len u,CRep σ μ w N (.nown l len v) u->DRep w N' (.sl sz len row) u):∀ x u,CRep σ μ w N x u->CRep σ' μ' w N' (frzN l v sz row x) u:=λx u hx=>by
  cases x with
  | nown l' len v'=>
    show CRep σ' μ' w N' (bif nbeq l' l then (bif nbeq v' v then .d (.sl sz len row) else .nown l' len v') else .nown l' len v') u
    cases b1:nbeq l' l with
    | false=>exact hs _ _ hx
    | true=>cases b3:nbeq v' v with
        | false=>exact hs _ _ hx
        | true=>
          have e1:=i3 b1;have e3:=i3 b3
          subst e1;subst e3
          exact h1 len u hx
  | _=>exact hs _ _ hx
theorem hafC_conv (hs:∀ x u,CRep σ μ w N x u->CRep σ' μ' w N' x u) (h1:∀ len u,CRep σ μ w N (.nown l len v) u->CRep σ' μ' w N' (.own l 0 len (v+1)) u):∀ x u,CRep σ μ w N x u->CRep σ' μ' w N' (hafC l v x) u:=λx u hx=>by
  cases x with
  | nown l' len v'=>
    show CRep σ' μ' w N' (bif nbeq l' l then (bif nbeq v' v then .own l 0 len (v+1) else .nown l' len v') else .nown l' len v') u
    cases b1:nbeq l' l with
    | false=>exact hs _ _ hx
    | true=>cases b3:nbeq v' v with
        | false=>exact hs _ _ hx
        | true=>
          have e1:=i3 b1;have e3:=i3 b3
          subst e1;subst e3
          exact h1 len u hx
  | _=>exact hs _ _ hx
end
theorem p7 {fr:Bool} {nt:Nat} {σ τ:St} (l:Nat) {v sz n:Nat} {row:Nat->List DV} (ho:m4 σ.objs l=(v,.arr sz n row)) (h:CovG fr nt (mapSt (frzC l v sz row) σ l (v+1,.dead)) τ):CovG fr nt σ τ:=by
  refine cov_trans ?_ h
  rintro w0 S a w hfo ⟨μ,R⟩
  have hσ : σ.o l=(v,.arr sz n row):=ho
  have hl:m5 σ.o l:=by unfold m5;rw [hσ];exact HO.noConfusion
  have hst:=recell_step (v:=v) (S:=S) (μ := μ) (w:=w) (o:=.dead) (f:=frzC l v sz row) (ks:=[]) hl (by rw [hσ]) (λb hb=>by simp at hb)
  obtain ⟨_,hd⟩:=R.freeze hσ
  have hN:∀ b,Nof S (updO σ.o l (v,.dead)) μ w b->Nof S (recell σ.o l (v+1,.dead) (frzC l v sz row)) (updK μ l (μ l) []) w b:=λb hb=>⟨hb.1,hb.2.1,λk hk hh=>by
    by_cases e:k=l
    · subst e;unfold m5 recell at hk;rw [if_pos rfl] at hk;exact hk rfl
    · exact hb.2.2 k (by have:=live_recell e hk;unfold m5 at this ⊢;rwa [s7 _ _ e]) ((has_updK_ne e).1 hh)⟩
  have R':=R.recell (v:=v) (o:=.dead) (f:=frzC l v sz row) (ks:=[]) hl (by rw [hσ]) (λb hb=>by simp at hb) (λh=>(h rfl).elim)
    (frzC_conv (λx u hx=>hx.step hst) (λlen u hu=>DRep.mono hN (hd len u hu))) trivial
  refine ⟨updK μ l (μ l) [],?_⟩
  rw [mapSt_o]
  have e:i5 (mapSt (frzC l v sz row) σ l (v+1,.dead)).slots=λk=>mapA (frzC l v sz row) (i5 σ.slots k):=funext λk=>lookS_map rfl σ.slots k
  rw [e];exact R'
theorem rowEq {n:Nat} {row row':Nat->List DV} {foc:Option (Nat × List CV)} (h:∀ i,i<n->(∀ x c,foc=some (x,c)->i≠x)->row' i=row i):∀ i,i<n->¬ isFoc foc i->row' i=row i:=λi hi hn=>h i hi λx c e ei=>hn ⟨c,by rw [ei];exact e⟩
theorem s8 {fr:Bool} {nt:Nat} {σ τ:St} (l:Nat) (row':Nat->List DV) {v sz n:Nat} {row:Nat->List DV} {foc:Option (Nat × List CV)} (ho:m4 σ.objs l=(v,.nest sz n row foc)) (hd:focD foc row') (hr:∀ i,i<n->(∀ x c,foc=some (x,c)->i≠x)->row' i=row i)
    (h:CovG fr nt (mapSt (frzN l v sz row') σ l (v+1,.dead)) τ):CovG fr nt σ τ:=by
  refine cov_trans ?_ h
  rintro w0 S a w hfo ⟨μ,R⟩
  have hσ : σ.o l=(v,.nest sz n row foc):=ho
  have hl:m5 σ.o l:=by unfold m5;rw [hσ];exact HO.noConfusion
  have hst:=recell_step (v:=v) (S:=S) (μ := μ) (w:=w) (o:=.dead) (f:=frzN l v sz row') (ks:=[]) hl (by rw [hσ]) (λb hb=>by simp at hb)
  have hN:∀ b,Has μ l b->Nof S (recell σ.o l (v+1,.dead) (frzN l v sz row')) (updK μ l (μ l) []) w b:=λb hb=>nof_gone R hl (λb hb=>by simp at hb) hb λh=>(h rfl).elim
  have R':=R.recell (v:=v) (o:=.dead) (f:=frzN l v sz row') (ks:=[]) hl (by rw [hσ]) (λb hb=>by simp at hb) (λh=>(h rfl).elim)
    (frzN_conv (λx u hx=>hx.step hst) λlen u hu=>by
      obtain ⟨_,_,hu⟩:=hu
      obtain ⟨e0,hu⟩:=hu sz n row foc hσ
      subst e0
      have ob:=R.objs l
      rw [hσ] at ob
      rcases hu with ⟨h1,rfl,ad,rfl⟩|⟨b,base,cap,cs,e,h1,rfl,h3,h4,h5,h6⟩
      · cases ad with
        | none=>exact .nil _ _
        | some ad=>exact .empty _ _ _
      · rcases ob with ⟨h8,_⟩|⟨b',base',cs',e',h8,h9,h10,h11,h12,h13,h14⟩
        · rw [h1] at h8;cases h8
        · rw [h1] at h8;cases h8
          rw [h5] at h9;cases h9
          have hall:=nest_cells h11 (λk hk=>hN k (.inr hk)) h14 (λb hb=>(hst.old b hb).2) hd (rowEq hr)
          refine .sl sz _ row' b base cap cs e (0,0) (λi j=>cs.getD (base+i*sz+j) undef) (hN b (.inl ⟨base,h1⟩)) h5 h3 h6 (λi hi=>(hall i hi).1) (λi j x hi hj => ?_) (λi j x hi hj => ?_)
          · obtain ⟨u,hu,_⟩:=(hall i hi).2 j x hj
            simp only [Array.getD_eq_getD_getElem?,hu,Option.getD_some]
          · obtain ⟨u,hu,hd⟩:=(hall i hi).2 j x hj
            simp only [Array.getD_eq_getD_getElem?,hu,Option.getD_some]
            exact hd) trivial
  refine ⟨updK μ l (μ l) [],?_⟩
  rw [mapSt_o]
  have e:i5 (mapSt (frzN l v sz row') σ l (v+1,.dead)).slots=λk=>mapA (frzN l v sz row') (i5 σ.slots k):=funext λk=>lookS_map rfl σ.slots k
  rw [e];exact R'
theorem cov_half {fr:Bool} {nt:Nat} {σ τ:St} (l:Nat) (row':Nat->List DV) {v sz n:Nat} {row:Nat->List DV} {foc:Option (Nat × List CV)} (ho:m4 σ.objs l=(v,.nest sz n row foc)) (hd:focD foc row') (hr:∀ i,i<n->(∀ x c,foc=some (x,c)->i≠x)->row' i=row i)
    (h:CovG fr nt (mapSt (hafC l v) σ l (v+1,.arr sz n row')) τ):CovG fr nt σ τ:=by
  refine cov_trans ?_ h
  rintro w0 S a w hfo ⟨μ,R⟩
  have hσ : σ.o l=(v,.nest sz n row foc):=ho
  have hl:m5 σ.o l:=by unfold m5;rw [hσ];exact HO.noConfusion
  have hst:=recell_step (v:=v) (S:=S) (μ := μ) (w:=w) (o:=.arr sz n row') (f:=hafC l v) (ks:=[]) hl (by rw [hσ]) (λb hb=>by simp at hb)
  have hsl:recell σ.o l (v+1,.arr sz n row') (hafC l v) l=(v+1,.arr sz n row'):=if_pos rfl
  have ob:=R.objs l
  rw [hσ] at ob
  have R':=R.recell (v:=v) (o:=.arr sz n row') (f:=hafC l v) (ks:=[]) hl (by rw [hσ]) (λb hb=>by simp at hb) (λ_ _=>rfl)
    (hafC_conv (λx u hx=>hx.step hst) λlen u hu=>by
      obtain ⟨q1,_,hu⟩:=hu
      obtain ⟨e0,hu⟩:=hu sz n row foc hσ
      subst e0
      refine ⟨q1,by rw [hsl];exact Nat.le_refl _,λsz' n' row2 e2 => ?_⟩
      rw [hsl] at e2
      cases e2
      refine ⟨by omega,?_⟩
      rcases hu with ⟨h1,rfl,ad,rfl⟩|⟨b,base,cap,cs,e,h1,rfl,h3,h4,h5,h6⟩
      · exact .inl ⟨by rw [updK_same];exact h1,rfl,ad,rfl⟩
      · exact .inr ⟨b,base,base,cap,cs,e,by rw [updK_same];exact h1,rfl,h3,λ_=>by omega,h5,h6,λ_=>h4⟩)
    (by
      rcases ob with ⟨h1,h2,h3,h4⟩|⟨b',base',cs',e',h8,h9,h10,h11,h12,h13,h14⟩
      · subst h2
        exact ⟨λi hi=>absurd hi (Nat.not_lt_zero i),.inl ⟨by rw [updK_same];exact h1,rfl⟩⟩
      · have hN:∀ b,b ∈ μ.k l->Nof S (recell σ.o l (v+1,.arr sz n row') (hafC l v)) (updK μ l (μ l) []) w b:=λb hb=>nof_gone R hl (λb hb=>by simp at hb) (.inr hb) λ_ hh=>by
          rcases has_updK_same.1 hh with ⟨base,h⟩|h
          · rw [h8] at h;cases h;exact h12 hb
          · simp at h
        have hall:=nest_cells h11 (λk hk=>hN k hk) h14 (λb hb=>(hst.old b hb).2) hd (rowEq hr)
        exact ⟨λi hi=>(hall i hi).1,.inr ⟨b',base',cs',e',by rw [updK_same];exact h8,h9,h10,λi j x hi hj=>(hall i hi).2 j x hj⟩⟩)
  refine ⟨updK μ l (μ l) [],?_⟩
  rw [mapSt_o]
  have e:i5 (mapSt (hafC l v) σ l (v+1,.arr sz n row')).slots=λk=>mapA (hafC l v) (i5 σ.slots k):=funext λk=>lookS_map rfl σ.slots k
  rw [e];exact R'
theorem u0 {P:Program} {T:TypeId->Option TI} {EX:FuncId->List Nat × Bool} (hT:TTok P T) (hm:P.follows .mixedOrders=true) (sh:List (Option XV)) {f:FuncId} {fn:Func} {c:Code} {H:List Nat} {args:List XT} {β:Type} {R : β->Prop} {out : β->Out}
    (hf:P.funcs[f]? = some fn) (hb:fn.body=some c) (hcall:callable P f=true) (hrl:fn.results.toList.length<=3) (hs:∀ y,shapeB (out y).back=shapeB sh)
    (h:awpFnX real T EX (d4 P) sh (λr b=>∃ y,R y/\nbA r=true/\ALe (frzA r) (out y).res/\b=(out y).back) fn.ntmps H c fn.results.toList args):∃ y,R y/\d7 P f args (out y):=by
  have e:(λr b=>∃ y,R y/\nbA r=true/\ALe (frzA r) (out y).res/\b=(out y).back)=λ(r:XA) (b:List (Option XV))=>∃ q:XA × β,(R q.2/\nbA q.1=true/\ALe (frzA q.1) (out q.2).res)/\r=((⟨q.1,(out q.2).back⟩:Out)).res/\b=((⟨q.1,(out q.2).back⟩:Out)).back:=by
    funext r b
    refine propext ⟨λ⟨y,h1,h2,h3,h4⟩=>⟨(r,y),⟨h1,h2,h3⟩,rfl,h4⟩,?_⟩
    rintro ⟨⟨r',y⟩,⟨h1,h2,h3⟩,h4,h5⟩
    have h4:r=r':=h4
    subst h4
    exact ⟨y,h1,h2,h3,h5⟩
  rw [e] at h
  obtain ⟨q,⟨h1,h2,h3⟩,hq⟩:=meets_ex (R:=λq:XA × β=>R q.2/\nbA q.1=true/\ALe (frzA q.1) (out q.2).res) (out:=λq:XA × β=>⟨q.1,(out q.2).back⟩) hT hm sh hf hb hcall hrl (λq=>hs q.2) h
  exact ⟨q.2,h1,meets_wk (meets_frz hq h2) h3⟩
theorem meets_exW {P:Program} {T:TypeId->Option TI} {EX:FuncId->List Nat × Bool} (hT:TTok P T) (hm:P.follows .mixedOrders=true) (sh:List (Option XV)) {f:FuncId} {fn:Func} {c:Code} {H:List Nat} {args:List XT} {β:Type} {R : β->Prop} {out : β->Out}
    (hf:P.funcs[f]? = some fn) (hb:fn.body=some c) (hcall:callable P f=true) (hrl:fn.results.toList.length<=3) (hs:∀ y,shapeB (out y).back=shapeB sh)
    (h:awpFnX real T EX (d4 P) sh (λr b=>∃ y,R y/\ALe r (out y).res/\b=(out y).back) fn.ntmps H c fn.results.toList args):∃ y,R y/\d7 P f args (out y):=by
  have e:(λr b=>∃ y,R y/\ALe r (out y).res/\b=(out y).back)=λ(r:XA) (b:List (Option XV))=>∃ q:XA × β,(R q.2/\ALe q.1 (out q.2).res)/\r=((⟨q.1,(out q.2).back⟩:Out)).res/\b=((⟨q.1,(out q.2).back⟩:Out)).back:=by
    funext r b
    refine propext ⟨λ⟨y,h1,h3,h4⟩=>⟨(r,y),⟨h1,h3⟩,rfl,h4⟩,?_⟩
    rintro ⟨⟨r',y⟩,⟨h1,h3⟩,h4,h5⟩
    have h4:r=r':=h4
    subst h4
    exact ⟨y,h1,h3,h5⟩
  rw [e] at h
  obtain ⟨q,⟨h1,h3⟩,hq⟩:=meets_ex (R:=λq:XA × β=>R q.2/\ALe q.1 (out q.2).res) (out:=λq:XA × β=>⟨q.1,(out q.2).back⟩) hT hm sh hf hb hcall hrl (λq=>hs q.2) h
  exact ⟨q.2,h1,meets_wk hq h3⟩
theorem m9 {x y:DV} (h:x=y):DLe x y:=h▸DLe.rfl
theorem dle_rows {sz n:Nat} {row row':Nat->List DV} (h:∀ i,i<n->row i=row' i):DLe (.sl sz n row) (.sl sz n row'):=dle_sl λi hi=>by rw [h i hi];exact LsLe.rfl
theorem dle_none {sz sz' n:Nat} {row row':Nat->List DV} (hn:n=0) (hs:sz=sz'):DLe (.sl sz n row) (.sl sz' 0 row'):=by
  subst hn;subst hs
  exact dle_rows λi hi=>absurd hi (Nat.not_lt_zero i)
theorem dle_app1 {sz:Nat} {x:List DV} {z row':Nat->List DV} (h:row' 0=x):DLe (.sl sz 1 (real.app 1 (real.rep x) z)) (.sl sz 1 row'):=dle_rows λi hi=>by
  have e:i=0:=by omega
  subst e
  rw [h];rfl
theorem dle_appG {α:Type} {e : α->List DV} {sz n c:Nat} {r1 r2:Nat->List DV} {g P:Nat -> α} (h1:∀ i,i<n->r1 i=e (g i)) (h2:∀ i,i<c->r2 i=e (P i)):DLe (.sl sz (real.add n c) (real.app n r1 r2)) (.sl sz (n+c) λi=>e (if i<n then g i else P (i-n))):=dle_rows λi hi=>by
  have hi:i<n+c:=hi
  show (if i<n then r1 i else r2 (i-n))=e (if i<n then g i else P (i-n))
  by_cases h:i<n
  · rw [if_pos h,if_pos h];exact h1 i h
  · rw [if_neg h,if_neg h];exact h2 _ (by omega)
theorem dle_push {α:Type} {e : α->List DV} {sz n m:Nat} {r1 r2:Nat->List DV} {g:Nat -> α} {x : α} (hn:n=m) (h1:∀ i,i<m->r1 i=e (g i)) (h2:r2 0=e x):DLe (.sl sz (real.add n 1) (real.app n r1 r2)) (.sl sz (m+1) λi=>e (if i<m then g i else x)):=by
  subst hn
  refine dle_rows λi hi => ?_
  have hi:i<n+1:=hi
  show (if i<n then r1 i else r2 (i-n))=e (if i<n then g i else x)
  by_cases h:i<n
  · rw [if_pos h,if_pos h];exact h1 i h
  · rw [if_neg h,if_neg h,show i-n=0 by omega];exact h2
theorem sl_app {α:Type} {e : α->List DV} {sz n c:Nat} {g P:Nat -> α}:DV.sl sz (real.add n c) (real.app n (λi=>e (g i)) (λi=>e (P i)))=DV.sl sz (n+c) (λi=>e (if i<n then g i else P (i-n))):=by
  have:real.app n (λi=>e (g i)) (λi=>e (P i))=λi=>e (if i<n then g i else P (i-n)):=by
    funext i
    show (if i<n then e (g i) else e (P (i-n)))=_
    by_cases h:i<n
    · rw [if_pos h,if_pos h]
    · rw [if_neg h,if_neg h]
  rw [this];rfl
theorem push_rows {n:Nat} {R R' z:Nat->List DV} {x:List DV} (h1:∀ q,q<n->R q=R' q) (h2:x=R' n):∀ q,q<n+1->real.app n R (real.sub 0 (real.app 1 (real.rep x) z)) q=R' q:=λq hq=>by
  show (if q<n then R q else (if 0+(q-n)<1 then x else z (0+(q-n)-1)))=R' q
  by_cases e:q<n
  · rw [if_pos e];exact h1 q e
  · have e:q=n:=by omega
    subst e
    rw [if_neg (Nat.lt_irrefl q),if_pos (by omega)];exact h2
theorem upd_rows {α:Type} {e : α->List DV} {g:Nat -> α} {ix k:Nat} {x:List DV} {s : α} (hk:ix=k) (hx:x=e s) (q:Nat):real.upd (λq=>e (g q)) ix x q=e (if q=k then s else g q):=by
  subst hk
  show (if q=ix then x else e (g q))=e (if q=ix then s else g q)
  by_cases h:q=ix
  · rw [if_pos h,if_pos h];exact hx
  · rw [if_neg h,if_neg h]
theorem dle_upd {α:Type} {e : α->List DV} {g:Nat -> α} {sz n ix k:Nat} {x:List DV} {s : α} (hk:ix=k) (hx:x=e s):DLe (.sl sz n (real.upd (λq=>e (g q)) ix x)) (.sl sz n λq=>e (if q=k then s else g q)):=dle_rows λq _=>upd_rows hk hx q
theorem app_rows {α:Type} {e : α->List DV} {n:Nat} {g P:Nat -> α} (q:Nat):real.app n (λi=>e (g i)) (λi=>e (P i)) q=e (if q<n then g q else P (q-n)):=by
  show (if q<n then e (g q) else e (P (q-n)))=e (if q<n then g q else P (q-n))
  by_cases h:q<n
  · rw [if_pos h,if_pos h]
  · rw [if_neg h,if_neg h]
end Go.Rk
