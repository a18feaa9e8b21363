/- What each of this seat's functions answers, at all data, part 4: no condition. -/
import Derived.Test.YtaddofloloopjaaGreatM1
import Derived.Test.YtaddofloloopjaaGreatM3
namespace Go.Rk
set_option linter.unusedSimpArgs false
set_option linter.unusedVariables false
def Env (w w':World):Prop:=w'.os=w.os/\w'.output=w.output/\w'.tape=w.tape
def Nout (w w':World) (N:Nat->Prop) (I F:List Nat) (b:Nat):Prop:=b<w'.heap.size/\b∉F/\(N b\/b∈I\/w.heap.size<=b)
def callable (P : Program) (f : FuncId) : Bool := match P.funcs[f]? with | some fn => !(fn.name == "runtime.NumGoroutine") && fn.body.isSome | none => false
def Post (w:World) (N:Nat->Prop) (F:List Nat) (vals:List Value) (out:Out) (e:Ending) (w':World):Prop:=
  ∃ v F1 F2,e=.returned v/\Env w w'/\w.heap.size<=w'.heap.size/\(∀ b,b<w.heap.size->b∉F->w'.heap[b]? = w.heap[b]?) /\
    (∀ (b:Nat) cs e fr,w.heap[b]? = some (Obj.cells cs e fr)->∃ cs',w'.heap[b]? = some (Obj.cells cs' e fr)/\cs'.size=cs.size) /\
    (∀ b,b∈F1++F2->b<w'.heap.size/\(b∈F\/w.heap.size<=b))/\(F1++F2).Nodup /\
    XARep w' (Nout w w' N F (F1++F2)) out.res v F1/\BackRep w' (Nout w w' N F (F1++F2)) out.back vals F2
def d7 (P:Program) (f:FuncId) (args:List XT) (out:Out):Prop:=
  callable P f=true/\∀ (w:World) (vals:List Value) (F:List Nat) (N:Nat->Prop),XTsRep w N args vals F->F.Nodup->(∀ b,b∈F->b<w.heap.size/\¬ N b)->(∀ b,N b->b<w.heap.size) ->
    Calls P f vals.toArray w (Post w N F vals out)
def AvsRep (σ:p9) (μ:Place) (w:World) (N:Nat->Prop):List AV->List Value->Prop
  | [],[]=>True
  | x::r,v::s=>ARep σ μ w N x v/\AvsRep σ μ w N r s
  | _,_=>False
def ownK (kn:List (Nat × Nat × HO)) (μ:Place) (b:Nat):Prop:=∃ l,m5 (m4 kn) l/\Has μ l b
def setsK (w:World) (N:Nat->Prop) (kn:List (Nat × Nat × HO)) (μ:Place):Sets:=
  ⟨ownK kn μ,λb=>N b\/ownK kn μ b\/w.heap.size<=b,[],true,kn.map λp=>(p.1,p.2.1,μ p.1)⟩
def MeetsO (P:Program) (f:FuncId) (avs:List AV) (kn:List (Nat × Nat × HO)) (x:AV) (us:List (Nat × Nat × HO)):Prop:=
  callable P f=true/\∀ (w:World) (vals:List Value) (N:Nat->Prop) (μ:Place),
    (∀ b,N b->b<w.heap.size/\¬ ownK kn μ b)->(∀ b,ownK kn μ b->b<w.heap.size) ->
    (∀ l l' b,m5 (m4 kn) l->m5 (m4 kn) l'->Has μ l b->Has μ l' b->l=l')->(∀ l,m5 (m4 kn) l->isNest (m4 kn l).2=false -> μ.k l=[]) ->
    (∀ l,ObjRep (m4 kn) μ w N l (m4 kn l).2)->AvsRep (m4 kn) μ w N avs vals ->
    Calls P f vals.toArray w λe w'=>∃ v nt sl a μ',e=.returned v/\RelM w (setsK w N kn μ) nt sl (m4 us) a w' μ'/\ARep (m4 us) μ' w' (Nof (setsK w N kn μ) (m4 us) μ' w') x v
def d4 (P:Program):Ms:=⟨d7 P,MeetsO P⟩
section
variable {w:World} {N N':Nat->Prop} {σ:p9}
theorem OwnRep.tr {sz n:Nat} {row:Nat->List DV} {v:Value} {F:List Nat} (h:(∀ b,N b->N' b)\/real.flat n row) (hx:OwnRep w N sz n row v F):OwnRep w N' sz n row v F:=by
  refine ⟨hx.1,hx.2.imp id λ⟨b,base,cap,cs,e,h1,h2,h3,h4,h5,h6,h7⟩=>⟨b,base,cap,cs,e,h1,h2,h3,h4,h5,h6,λi j x hi hj => ?_⟩⟩
  obtain ⟨u,hu,hd⟩:=h7 i j x hi hj
  refine ⟨u,hu,?_⟩
  rcases h with h|h
  · exact hd.mono h
  · obtain ⟨q,rfl⟩:=h i hi x (List.mem_of_getElem? hj)
    cases hd with
    | v _ h1=>exact DRep.v _ h1
theorem DRep.plain {u v:Value} (hx:DRep w N (.v u) v):DRep w N' (.v u) v:=by
  cases hx with
  | v _ h1=>exact DRep.v _ h1
def TrC (N N':Nat->Prop) (x:XC):Prop:=(∀ b,N b->N' b)\/(match x with | .d x=>∃ u,x=.v u | .own _ n row=>real.flat n row)
def TrV (N N':Nat->Prop) (x:XV):Prop:=(∀ b,N b->N' b)\/(match x with | .d x=>∃ u,x=.v u | .own _ n row=>real.flat n row | .box cells=>∀ c∈cells,TrC N N' c | .nown _ _ _=>True)
theorem XCRep.tr {x:XC} {v:Value} {F:List Nat} (h:TrC N N' x) (hx:XCRep w N x v F):XCRep w N' x v F:=by
  cases x with
  | d x=>
    rcases h with h|⟨u,rfl⟩
    · exact ⟨hx.1,hx.2.mono h⟩
    · exact ⟨hx.1,hx.2.plain⟩
  | own sz n row=>exact OwnRep.tr h hx
theorem XCsRep.tr:∀ {xs:List XC} {vs:List Value} {F:List Nat},(∀ c∈xs,TrC N N' c)->XCsRep w N xs vs F->XCsRep w N' xs vs F
  | [],[],_,_,hx=>hx
  | [],_::_,_,_,hx=>hx.elim
  | _::_,[],_,_,hx=>hx.elim
  | x::r,v::s,F,h,⟨F1,F2,e,h1,h2⟩=>⟨F1,F2,e,h1.tr (h x (by simp)),XCsRep.tr (λc hc=>h c (by simp [hc])) h2⟩
theorem XVRep.tr {x:XV} {v:Value} {F:List Nat} (h:TrV N N' x) (hx:XVRep w N x v F):XVRep w N' x v F:=by
  cases x with
  | d x=>
    rcases h with h|⟨u,rfl⟩
    · exact ⟨hx.1,hx.2.mono h⟩
    · exact ⟨hx.1,hx.2.plain⟩
  | own sz n row=>exact OwnRep.tr h hx
  | nown sz n row=>exact hx
  | box cells=>
    obtain ⟨b,cs,e,F',h1,h2,h3,h4⟩:=hx
    exact ⟨b,cs,e,F',h1,h2,h3,h4.tr λc hc=>by
      rcases h with h|h
      · exact .inl h
      · exact h c hc⟩
theorem XVsRep.tr:∀ {xs:List XV} {vs:List Value} {F:List Nat},(∀ c∈xs,TrV N N' c)->XVsRep w N xs vs F->XVsRep w N' xs vs F
  | [],[],_,_,hx=>hx
  | [],_::_,_,_,hx=>hx.elim
  | _::_,[],_,_,hx=>hx.elim
  | x::r,v::s,F,h,⟨F1,F2,e,h1,h2⟩=>⟨F1,F2,e,h1.tr (h x (by simp)),XVsRep.tr (λc hc=>h c (by simp [hc])) h2⟩
def XT.parts:XT->List XV
  | .c x=>[x]
  | .agg xs=>xs
theorem XTRep.tr {x:XT} {v:Value} {F:List Nat} (h:∀ c∈x.parts,TrV N N' c) (hx:XTRep w N x v F):XTRep w N' x v F:=by
  cases x with
  | c x=>exact XVRep.tr (h x (by simp [XT.parts])) hx
  | agg xs=>obtain ⟨cs,h1,h2⟩:=hx;exact ⟨cs,h1,h2.tr h⟩
theorem XTsRep.tr:∀ {xs:List XT} {vs:List Value} {F:List Nat},(∀ x∈xs,∀ c∈x.parts,TrV N N' c)->XTsRep w N xs vs F->XTsRep w N' xs vs F
  | [],[],_,_,hx=>hx
  | [],_::_,_,_,hx=>hx.elim
  | _::_,[],_,_,hx=>hx.elim
  | x::r,v::s,F,h,⟨F1,F2,e,h1,h2⟩=>⟨F1,F2,e,h1.tr (h x (by simp)),XTsRep.tr (λc hc=>h c (by simp [hc])) h2⟩
def XA.parts:XA->List XV
  | .one x=>x.parts
  | .tup xs=>xs.flatMap XT.parts
theorem XARep.tr {x:XA} {v:Value} {F:List Nat} (h:∀ c∈x.parts,TrV N N' c) (hx:XARep w N x v F):XARep w N' x v F:=by
  cases x with
  | one x=>exact XTRep.tr h hx
  | tup xs=>obtain ⟨cs,h1,h2⟩:=hx;exact ⟨cs,h1,h2.tr λx hx c hc=>h c (by simp only [XA.parts,List.mem_flatMap];exact ⟨x,hx,hc⟩)⟩
theorem BackRep.tr:∀ {xs:List (Option XV)} {vs:List Value} {F:List Nat},(∀ c,some c∈xs->TrV N N' c)->BackRep w N xs vs F->BackRep w N' xs vs F
  | [],[],_,_,hx=>hx
  | [],_::_,_,_,hx=>hx.elim
  | none::_,[],_,_,hx=>hx.elim
  | some _::_,[],_,_,hx=>hx.elim
  | none::r,v::s,F,h,hx=>BackRep.tr (xs:=r) (λc hc=>h c (by simp [hc])) hx
  | some x::r,v::s,F,h,⟨F1,F2,e,h1,h2⟩=>⟨F1,F2,e,h1.tr (h x (by simp)),BackRep.tr (λc hc=>h c (by simp [hc])) h2⟩
theorem plainC_spec {x:XC} {Q:Bool->Prop} (h:(plainC real x).run σ Q):TrC N N' x/\∃ b,Q b:=by
  unfold plainC at h
  split at h
  · exact ⟨.inr ⟨_,rfl⟩,_,h⟩
  · exact ⟨.inr h.1,_,h.2⟩
  · exact h.elim
theorem plainCs_spec:∀ {xs:List XC} {Q:Bool->Prop},(plainCs real xs).run σ Q->(∀ c∈xs,TrC N N' c)/\∃ b,Q b
  | [],Q,h=>⟨λc hc=>by simp at hc,_,h⟩
  | x::r,Q,h=>by
    simp only [plainCs,G.run_bind] at h
    obtain ⟨h1,b,h⟩:=plainC_spec (N:=N) (N':=N') h
    obtain ⟨h2,h3⟩:=plainCs_spec h
    exact ⟨λc hc=>by rcases List.mem_cons.1 hc with rfl|hc;exact h1;exact h2 c hc,h3⟩
theorem plainV_spec {x:XV} {Q:Bool->Prop} (h:(plainV real x).run σ Q):TrV N N' x/\∃ b,Q b:=by
  unfold plainV at h
  split at h
  · exact ⟨.inr ⟨_,rfl⟩,_,h⟩
  · exact ⟨.inr h.1,_,h.2⟩
  · obtain ⟨h1,h2⟩:=plainCs_spec (N:=N) (N':=N') h
    exact ⟨.inr h1,h2⟩
  · exact ⟨.inr trivial,_,h⟩
  · exact h.elim
theorem plainVs_spec:∀ {xs:List XV} {Q:Bool->Prop},(plainVs real xs).run σ Q->(∀ c∈xs,TrV N N' c)/\∃ b,Q b
  | [],Q,h=>⟨λc hc=>by simp at hc,_,h⟩
  | x::r,Q,h=>by
    simp only [plainVs,G.run_bind] at h
    obtain ⟨h1,b,h⟩:=plainV_spec (N:=N) (N':=N') h
    obtain ⟨h2,h3⟩:=plainVs_spec h
    exact ⟨λc hc=>by rcases List.mem_cons.1 hc with rfl|hc;exact h1;exact h2 c hc,h3⟩
theorem plainT_spec {x:XT} {Q:Bool->Prop} (h:(plainT real x).run σ Q):(∀ c∈x.parts,TrV N N' c)/\∃ b,Q b:=by
  cases x with
  | c x=>
    obtain ⟨h1,h2⟩:=plainV_spec (N:=N) (N':=N') (x:=x) h
    exact ⟨λc hc=>by simp [XT.parts] at hc;subst hc;exact h1,h2⟩
  | agg xs=>exact plainVs_spec h
theorem plainTs_spec:∀ {xs:List XT} {Q:Bool->Prop},(plainTs real xs).run σ Q->(∀ x∈xs,∀ c∈x.parts,TrV N N' c)/\∃ b,Q b
  | [],Q,h=>⟨λc hc=>by simp at hc,_,h⟩
  | x::r,Q,h=>by
    simp only [plainTs,G.run_bind] at h
    obtain ⟨h1,b,h⟩:=plainT_spec (N:=N) (N':=N') h
    obtain ⟨h2,h3⟩:=plainTs_spec h
    exact ⟨λc hc=>by rcases List.mem_cons.1 hc with rfl|hc;exact h1;exact h2 c hc,h3⟩
theorem plainA_spec {x:XA} {Q:Bool->Prop} (h:(plainA real x).run σ Q):(∀ c∈x.parts,TrV N N' c)/\∃ b,Q b:=by
  cases x with
  | one x=>exact plainT_spec h
  | tup xs=>
    obtain ⟨h1,h2⟩:=plainTs_spec (N:=N) (N':=N') (xs:=xs) h
    exact ⟨λc hc=>by simp only [XA.parts,List.mem_flatMap] at hc;obtain ⟨x,hx,hc⟩:=hc;exact h1 x hx c hc,h2⟩
theorem plainB_spec:∀ {xs:List (Option XV)} {Q:Bool->Prop},(plainB real xs).run σ Q->(∀ c,some c∈xs->TrV N N' c)/\∃ b,Q b
  | [],Q,h=>⟨λc hc=>by simp at hc,_,h⟩
  | none::r,Q,h=>by
    obtain ⟨h2,h3⟩:=plainB_spec (xs:=r) h
    exact ⟨λc hc=>h2 c (by simpa using hc),h3⟩
  | some x::r,Q,h=>by
    simp only [plainB,G.run_bind] at h
    obtain ⟨h1,b,h⟩:=plainV_spec (N:=N) (N':=N') h
    obtain ⟨h2,h3⟩:=plainB_spec h
    exact ⟨λc hc=>by rcases List.mem_cons.1 hc with e|hc;exact (by injection e with e;subst e;exact h1);exact h2 c hc,h3⟩
theorem allNone_spec:∀ {bs:List (Option XV)} {vs:List Value} {F:List Nat},allNone bs=true->BackRep w N bs vs F->F=[]
  | [],[],_,_,h=>h
  | [],_::_,_,_,h=>h.elim
  | none::r,[],_,_,h=>h.elim
  | none::r,v::s,_,h1,h=>allNone_spec (bs:=r) h1 h
  | some _::_,_,_,h1,_=>by simp [allNone] at h1
theorem splitB_spec:∀ {n:Nat} {bs bs':List (Option XV)} {v1 v2:List Value} {F:List Nat},splitB n bs=some bs'->v1.length=n->BackRep w N bs (v1++v2) F->BackRep w N bs' v1 F/\∀ c,some c∈bs'->some c∈bs
  | 0,bs,bs',[],v2,F,h,_,hx=>by
    unfold splitB at h
    split at h
    · rename_i h0
      simp at h;subst h
      exact ⟨allNone_spec h0 hx,λc hc=>by simp at hc⟩
    · simp at h
  | n+1,[],bs',v1,v2,F,h,_,hx=>by simp [splitB] at h
  | n+1,x::r,bs',v::s,v2,F,h,hl,hx=>by
    simp only [splitB,Option.map_eq_some_iff] at h
    obtain ⟨r',h',rfl⟩:=h
    cases x with
    | none=>
      obtain ⟨h1,h2⟩:=splitB_spec (v1:=s) h' (by simpa using hl) hx
      exact ⟨h1,λc hc=>by simp at hc ⊢;exact h2 c hc⟩
    | some x=>
      obtain ⟨F1,F2,e,h1,h2⟩:=hx
      obtain ⟨h3,h4⟩:=splitB_spec (v1:=s) h' (by simpa using hl) h2
      exact ⟨⟨F1,F2,e,h1,h3⟩,λc hc=>by simp at hc ⊢;exact hc.imp id (h4 c)⟩
  | 0,_,_,_::_,_,_,_,h,_=>by simp at h
  | n+1,_::_,_,[],_,_,_,h,_=>by simp at h
end
theorem hasLab_iff:∀ {us:List (Nat × Nat × HO)} {l:Nat},l4 us l=true ↔ ∃ p∈us,p.1=l
  | [],l=>by simp [l4]
  | p::r,l=>by
    unfold l4
    cases hb:nbeq p.1 l with
    | true=>have:=i3 hb;simp [this]
    | false=>
      have:p.1≠l:=λe=>by rw [e] at hb;simp at hb
      simp only [cond_false,hasLab_iff,List.mem_cons]
      exact ⟨λ⟨q,hq,e⟩=>⟨q,.inr hq,e⟩,λ⟨q,hq,e⟩=>by rcases hq with rfl|hq;exact (this e).elim;exact ⟨q,hq,e⟩⟩
theorem putO_spec {σ:p9}:∀ {us:List (Nat × Nat × HO)},u9 us=true->(∀ p∈us,putO σ us p.1=p.2)/\∀ l,(∀ p∈us,p.1≠l)->putO σ us l = σ l
  | [],_=>⟨λp hp=>by simp at hp,λl _=>rfl⟩
  | p::r,h=>by
    unfold u9 at h
    cases hb:l4 r p.1 with
    | true=>simp [hb] at h
    | false=>
      simp only [hb,cond_false] at h
      obtain ⟨h1,h2⟩:=putO_spec (σ := σ) h
      have hn:∀ q∈r,q.1≠p.1:=λq hq e=>by
        have:l4 r p.1=true:=hasLab_iff.2 ⟨q,hq,e⟩
        rw [hb] at this;simp at this
      refine ⟨λq hq => ?_,λl hl => ?_⟩
      · rcases List.mem_cons.1 hq with rfl|hq
        · simp [putO]
        · simp only [putO,s7 _ _ (hn q hq)];exact h1 q hq
      · have:l≠p.1:=λe=>hl p (by simp) e.symm
        simp only [putO,s7 _ _ this]
        exact h2 l λq hq=>hl q (by simp [hq])
def findT:Turns->Nat->Option (Option (Nat × Nat) × List Nat)
  | [],_=>none
  | t::r,l=>if t.1=l then some t.2.2 else findT r l
def placeT (μ:Place) (τ:Turns):Place:=⟨λl=>((findT τ l).map (·.1)).getD (μ l),λl=>((findT τ l).map (·.2)).getD (μ.k l)⟩
theorem findT_spec:∀ {τ:Turns},u9 (usOf τ)=true->(∀ t ∈ τ,findT τ t.1=some t.2.2)/\∀ l,(∀ t ∈ τ,t.1≠l)->findT τ l=none
  | [],_=>⟨λt ht=>by simp at ht,λl _=>rfl⟩
  | t::r,h=>by
    have h:u9 ((t.1,t.2.1)::usOf r)=true:=h
    unfold u9 at h
    cases hb:l4 (usOf r) t.1 with
    | true=>simp [hb] at h
    | false=>
      simp only [hb,cond_false] at h
      obtain ⟨h1,h2⟩:=findT_spec h
      have hn:∀ q∈r,q.1≠t.1:=λq hq e=>by
        have:l4 (usOf r) t.1=true:=hasLab_iff.2 ⟨(q.1,q.2.1),List.mem_map.2 ⟨q,hq,rfl⟩,e⟩
        rw [hb] at this;simp at this
      refine ⟨λq hq => ?_,λl hl => ?_⟩
      · rcases List.mem_cons.1 hq with rfl|hq
        · simp [findT]
        · simp only [findT,if_neg (hn q hq).symm];exact h1 q hq
      · simp only [findT,if_neg (hl t (by simp))]
        exact h2 l λq hq=>hl q (by simp [hq])
theorem blkT_inj:∀ {τ:Turns},(blkT τ).Nodup->∀ {t t'},t ∈ τ->t' ∈ τ->∀ {b},b∈blkP t.2.2.1 t.2.2.2->b∈blkP t'.2.2.1 t'.2.2.2->t=t'
  | [],_,t,t',h0,_,_,_,_=>by simp at h0
  | x::r,hn,t,t',h0,h0',b,e,e'=>by
    have hmem:∀ t∈r,∀ b,b∈blkP t.2.2.1 t.2.2.2->b∈blkT r:=λt ht b e=>List.mem_flatMap.2 ⟨t,ht,e⟩
    have hcons:blkT (x::r)=blkT [x]++blkT r:=blkT_append [x] r
    rw [hcons,List.nodup_append] at hn
    have hx:∀ b,b∈blkP x.2.2.1 x.2.2.2->b∈blkT [x]:=λb e=>by simp [blkT,e]
    rcases List.mem_cons.1 h0 with rfl|h<;>rcases List.mem_cons.1 h0' with rfl|h'
    · rfl
    · exact (hn.2.2 b (hx b e) b (hmem t' h' b e') rfl).elim
    · exact (hn.2.2 b (hx b e') b (hmem t h b e) rfl).elim
    · exact blkT_inj hn.2.1 h h' e e'
def killT (new:List (Nat × Nat × HO)):List (Nat × Nat)->Turns
  | []=>[]
  | p::r=>bif l4 new p.1 then killT new r else (p.1,(p.2+1,.dead),none,[])::killT new r
theorem killT_us (new:List (Nat × Nat × HO)):∀ ls,usOf (killT new ls)=killed new ls
  | []=>rfl
  | p::r=>by
    unfold killT killed
    cases l4 new p.1 with
    | true=>exact killT_us new r
    | false=>simp only [cond_false];rw [<- killT_us new r];rfl
theorem killT_blk (new:List (Nat × Nat × HO)):∀ ls,blkT (killT new ls)=[]
  | []=>rfl
  | p::r=>by
    unfold killT
    cases l4 new p.1 with
    | true=>exact killT_blk new r
    | false=>
      show blkP none []++blkT (killT new r)=[]
      rw [killT_blk new r];rfl
theorem killT_mem (new:List (Nat × Nat × HO)):∀ {ls t},t∈killT new ls->(t.1,t.2.1.1-1)∈ls/\t.2.1.2=.dead/\0<t.2.1.1/\t.2.2.2=[]
  | p::r,t,h=>by
    unfold killT at h
    cases hb:l4 new p.1 with
    | true=>
      simp only [hb,cond_true] at h
      obtain ⟨h1,h2⟩:=killT_mem new h
      exact ⟨List.mem_cons_of_mem _ h1,h2⟩
    | false=>
      simp only [hb,cond_false] at h
      rcases List.mem_cons.1 h with rfl|h
      · exact ⟨by simp,rfl,by simp,rfl⟩
      · obtain ⟨h1,h2⟩:=killT_mem new h
        exact ⟨List.mem_cons_of_mem _ h1,h2⟩
theorem killT_all (new:List (Nat × Nat × HO)):∀ {ls p},p∈ls->(∃ q∈new,q.1=p.1)\/∃ t∈killT new ls,t.1=p.1
  | q::r,p,h=>by
    unfold killT
    cases hb:l4 new q.1 with
    | true=>
      simp only [cond_true]
      rcases List.mem_cons.1 h with rfl|h
      · exact .inl (hasLab_iff.1 hb)
      · exact killT_all new h
    | false=>
      simp only [cond_false]
      rcases List.mem_cons.1 h with rfl|h
      · exact .inr ⟨_,List.mem_cons_self ..,rfl⟩
      · exact (killT_all new h).imp id λ⟨t,ht,e⟩=>⟨t,List.mem_cons_of_mem _ ht,e⟩
section
variable {P:Program} {T:TypeId->Option TI} {EX:FuncId->List Nat × Bool}
variable {w0:World} {S:Sets} {nt:Nat} {slots:List (Nat × AV)} {σ:p9} {a:Act} {w:World} {μ:Place}
variable {o:Oper} {K:AV->List (Nat × Nat × HO)->Prop}
theorem RelM.turned (R:RelM w0 S nt (i5 slots) σ a w μ) {w':World} {τ:Turns} {ex gone:List (Nat × Nat)} {F':List Nat}
    (hnd:u9 (usOf τ)=true) (hex:∀ p∈ex,Valid σ p)
    (hturn:∀ t ∈ τ,Turn σ μ t) (hall:∀ p∈ex++gone,∃ t ∈ τ,t.1=p.1)
    (env:Env w w') (hsize:w.heap.size<=w'.heap.size) (hsame:∀ b,b<w.heap.size->b∉blk μ ex->w'.heap[b]? = w.heap[b]?)
    (shape:∀ (b:Nat) cs e fr,w.heap[b]? = some (Obj.cells cs e fr)->∃ cs',w'.heap[b]? = some (Obj.cells cs' e fr)/\cs'.size=cs.size)
    (hF:∀ b,b∈F'->b<w'.heap.size/\(b∈blk μ ex\/w.heap.size<=b)) (hFn:F'.Nodup) (hblk:blkT τ=F')
    (hobj:∀ N':Nat->Prop,(∀ b,(b<w'.heap.size/\b∉F'/\S.lent b/\∀ l,m5 σ l->(∀ p∈ex++gone,p.1≠l)->¬ Has μ l b)->N' b)->Fits τ (putO σ (usOf τ)) (placeT μ τ) ->
      ∀ t ∈ τ,ObjRep (putO σ (usOf τ)) (placeT μ τ) w' N' t.1 t.2.1.2) :
    (∀ b,(b<w'.heap.size/\b∉F'/\S.lent b/\∀ l,m5 σ l->(∀ p∈ex++gone,p.1≠l)->¬ Has μ l b)->Nof S (putO σ (usOf τ)) (placeT μ τ) w' b) /\
    Fits τ (putO σ (usOf τ)) (placeT μ τ)/\RelM w0 S nt (i5 slots) (putO σ (usOf τ)) a w' (placeT μ τ):=by
  obtain ⟨p1,p2⟩:=putO_spec (σ := σ) hnd
  obtain ⟨f1,f2⟩:=findT_spec hnd
  have hfits:Fits τ (putO σ (usOf τ)) (placeT μ τ):=λt ht=>⟨p1 (t.1,t.2.1) (List.mem_map.2 ⟨t,ht,rfl⟩),by simp [placeT,f1 t ht],by simp [placeT,f1 t ht]⟩
  have hrest:∀ l,(∀ t ∈ τ,t.1≠l)->putO σ (usOf τ) l = σ l/\placeT μ τ l = μ l/\(placeT μ τ).k l = μ.k l:=λl hl=>
    ⟨p2 l λp hp=>by obtain ⟨t,ht,rfl⟩:=List.mem_map.1 hp;exact hl t ht,by simp [placeT,f2 l hl],by simp [placeT,f2 l hl]⟩
  have hcase:∀ l,(∃ t ∈ τ,t.1=l)\/∀ t ∈ τ,t.1≠l:=λl=>by
    by_cases h:∃ t ∈ τ,t.1=l
    · exact .inl h
    · exact .inr λt ht e=>h ⟨t,ht,e⟩
  have hbmem:∀ t ∈ τ,∀ b,b∈blkP t.2.2.1 t.2.2.2->b∈F':=λt ht b e=>by rw [<- hblk];exact List.mem_flatMap.2 ⟨t,ht,e⟩
  have hhas:∀ t ∈ τ,∀ b,Has (placeT μ τ) t.1 b->b∈blkP t.2.2.1 t.2.2.2:=λt ht b h=>by
    rw [mem_blkP]
    unfold Has at h
    rw [(hfits t ht).2.1,(hfits t ht).2.2] at h
    exact h
  have hhas':∀ l,(∀ t ∈ τ,t.1≠l)->∀ b,Has (placeT μ τ) l b->Has μ l b:=λl hl b h=>by
    unfold Has at h ⊢
    rw [(hrest l hl).2.1,(hrest l hl).2.2] at h
    exact h
  have hnotin:∀ l,(∀ t ∈ τ,t.1≠l)->∀ p∈ex++gone,p.1≠l:=λl hl p hp e=>by
    obtain ⟨t,ht,e'⟩:=hall p hp
    exact hl t ht (e'.trans e)
  have hother:∀ l b,m5 σ l->(∀ t ∈ τ,t.1≠l)->Has μ l b->b∉F'/\b∉blk μ ex:=λl b hl hn hm=>by
    have h1:b∉blk μ ex:=λhb=>by
      obtain ⟨p,hp,hm'⟩:=blk_mem hb
      exact hnotin l hn p (by simp [hp]) (R.injH p.1 l b (hex p hp).1 hl hm' hm)
    refine ⟨λhb => ?_,h1⟩
    rcases (hF b hb).2 with h|h
    · exact h1 h
    · have:=(R.ownH l b hl hm).1;omega
  have hN:∀ b,(b<w'.heap.size/\b∉F'/\S.lent b/\∀ l,m5 σ l->(∀ p∈ex++gone,p.1≠l)->¬ Has μ l b)->Nof S (putO σ (usOf τ)) (placeT μ τ) w' b:=λb ⟨h1,h2,hz,h3⟩=>by
    refine ⟨h1,hz,λl hl hm => ?_⟩
    rcases hcase l with ⟨t,ht,rfl⟩|hn
    · exact h2 (hbmem t ht b (hhas t ht b hm))
    · obtain ⟨e1,e2⟩:=hrest l hn
      exact h3 l (by simpa [m5,e1] using hl) (hnotin l hn) (hhas' l hn b hm)
  have hblk_live:∀ b,b∈blk μ ex->∃ l,m5 σ l/\Has μ l b:=λb hb=>by
    obtain ⟨p,hp,hm⟩:=blk_mem hb
    exact ⟨p.1,(hex p hp).1,hm⟩
  have hold:∀ b,Nof S σ μ w b->b∉blk μ ex:=λb hb hin=>by
    obtain ⟨l,hl,hm⟩:=hblk_live b hin
    exact hb.2.2 l hl hm
  have hst:Step S σ (putO σ (usOf τ)) μ (placeT μ τ) w w':=by
    refine ⟨hsize,λb hb=>⟨hsame b hb.1 (hold b hb),hN b ⟨by have:=hb.1;omega,λh => ?_,hb.2.1,λl hl _=>hb.2.2 l hl⟩⟩,λl => ?_⟩
    · rcases (hF b h).2 with h|h
      · exact hold b hb h
      · have:=hb.1;omega
    · rcases hcase l with ⟨t,ht,rfl⟩|hn
      · obtain ⟨e1,e2,_⟩:=hfits t ht
        rcases (hturn t ht).2 with h|⟨h1,h2,h3,h4,h5⟩
        · left;rw [e1];exact h
        · right
          rw [e1,e2]
          refine ⟨h1,h2,h3,λsz n row h => ?_,h5,λb base cs e hm _ hb=>shape b cs e (0,0) hb⟩
          obtain ⟨row',hr⟩:=h4 sz n row h
          exact ⟨n,row',hr,Nat.le_refl _⟩
      · right
        obtain ⟨e1,e2,_⟩:=hrest l hn
        rw [e1,e2]
        exact ⟨rfl,rfl,λc hc=>⟨c,hc⟩,λsz n row hr=>⟨n,row,hr,Nat.le_refl _⟩,λsz n row foc hr=>⟨row,foc,hr⟩,λb base cs e hm _ hb=>shape b cs e (0,0) hb⟩
  refine ⟨hN,hfits,R.carry hst env (λb hb hs=>hsame b (Nat.lt_of_lt_of_le hb R.grow) λhin => ?_) shape (λl b hl hm => ?_) (λl l' b hl hl' hm hm' => ?_) (λl hl hn => ?_) (λl => ?_)⟩
  · obtain ⟨l,hl,hm⟩:=hblk_live b hin
    rcases (R.ownH l b hl hm).2 with h|h
    · omega
    · exact hs h
  · rcases hcase l with ⟨t,ht,rfl⟩|hn
    · obtain ⟨h1,h2⟩:=hF b (hbmem t ht b (hhas t ht b hm))
      refine ⟨h1,?_⟩
      rcases h2 with h2|h2
      · obtain ⟨l',hl',hm'⟩:=hblk_live b h2
        exact (R.ownH l' b hl' hm').2
      · exact .inl (by have:=R.grow;omega)
    · obtain ⟨e1,e2⟩:=hrest l hn
      have:=R.ownH l b (by simpa [m5,e1] using hl) (hhas' l hn b hm)
      exact ⟨by omega,this.2⟩
  · rcases hcase l with ⟨t,ht,rfl⟩|hn<;>rcases hcase l' with ⟨t',ht',rfl⟩|hn'
    · rw [blkT_inj (by rw [hblk];exact hFn) ht ht' (hhas t ht b hm) (hhas t' ht' b hm')]
    · obtain ⟨e1,e2⟩:=hrest l' hn'
      exact ((hother l' b (by simpa [m5,e1] using hl') hn' (hhas' l' hn' b hm')).1 (hbmem t ht b (hhas t ht b hm))).elim
    · obtain ⟨e1,e2⟩:=hrest l hn
      exact ((hother l b (by simpa [m5,e1] using hl) hn (hhas' l hn b hm)).1 (hbmem t' ht' b (hhas t' ht' b hm'))).elim
    · obtain ⟨e1,e2⟩:=hrest l hn
      obtain ⟨e1',e2'⟩:=hrest l' hn'
      exact R.injH l l' b (by simpa [m5,e1] using hl) (by simpa [m5,e1'] using hl') (hhas' l hn b hm) (hhas' l' hn' b hm')
  · rcases hcase l with ⟨t,ht,rfl⟩|hnt
    · rw [(hfits t ht).1] at hn
      rw [(hfits t ht).2.2]
      exact (hturn t ht).1 hn
    · obtain ⟨e1,e2,e3⟩:=hrest l hnt
      rw [e1] at hn
      rw [e3]
      exact R.kz l (by simpa [m5,e1] using hl) hn
  · rcases hcase l with ⟨t,ht,rfl⟩|hn
    · right
      rw [(hfits t ht).1]
      exact hobj _ hN hfits t ht
    · left
      obtain ⟨e1,e2,e3⟩:=hrest l hn
      exact ⟨e1,e2,e3,λb hl hm=>hsame b (R.ownH l b hl hm).1 (hother l b hl hn hm).2⟩
theorem usOf_killT (new:List (Nat × Nat × HO)) (ls:List (Nat × Nat)):usOf (killT new ls)=killed new ls:=killT_us new ls
theorem XTsRep.snoc {N:Nat->Prop}:∀ {xs:List XT} {vs:List Value} {F:List Nat} {ys:List DV} {us:List Value},XTsRep w N xs vs F->us.length=ys.length ->
    (∀ (j:Nat) y,ys[j]? = some y->∃ u,us[j]? = some u/\DRep w N y u)->XTsRep w N (xs++ys.map λx=>.c (.d x)) (vs++us) F
  | [],[],F,[],[],h,_,_=>h
  | [],[],F,y::r,u::s,h,hl,hy=>by
    have h:F=[]:=h
    subst h
    obtain ⟨u',hu,hd⟩:=hy 0 y rfl
    simp at hu;subst hu
    exact ⟨[],[],rfl,⟨rfl,hd⟩,XTsRep.snoc (xs:=[]) (vs:=[]) rfl (by simpa using hl) λj z hj=>by
      obtain ⟨u',hu,hd⟩:=hy (j+1) z (by simpa using hj)
      exact ⟨u',by simpa using hu,hd⟩⟩
  | [],[],_,[],_::_,_,hl,_=>by simp at hl
  | [],[],_,_::_,[],_,hl,_=>by simp at hl
  | [],_::_,_,_,_,h,_,_=>h.elim
  | _::_,[],_,_,_,h,_,_=>h.elim
  | x::r,v::s,F,ys,us,⟨F1,F2,e,h1,h2⟩,hl,hy=>⟨F1,F2,e,h1,h2.snoc hl hy⟩
theorem sound_callSem (R:RelM w0 S nt (i5 slots) σ a w μ) (hd:∀ d,o.dst=some d->d<nt) {f:FuncId} {args:Array Operand} {cs:Array Value} {caps:List DV} {bo:List (Nat × Nat)} {L:Nat}
    (hexec:callable P f=true->(execOp a.eval o).run P w=.ok (.enter f (args.map a.eval++cs)) w)
    (hcl:cs.toList.length=caps.length) (hbo:∀ p∈bo,Valid σ p)
    (hcaps:∀ N:Nat->Prop,(∀ b,Nof S σ μ w b->N b)->(∀ p∈bo,∀ b,Has μ p.1 b->N b)->∀ (j:Nat) y,caps[j]? = some y->∃ u,cs.toList[j]? = some u/\DRep w N y u)
    (hK:∀ x us,K x us->u9 us=true)
    (h:(callSem real EX true (rho slots) L f args.toList caps bo).run σ (OpOut.run (d4 P) σ K)):Sound P w0 S nt slots σ a w o K:=by
  unfold callSem at h
  rw [G.run_bind] at h
  obtain ⟨as,le,h1,hv,hgiven⟩:=givenArgs_spec R h
  clear h
  cases hok:exOk le.ex (le.bo++bo) with
  | false=>rw [hok] at h1;exact h1.elim
  | true=>
  rw [hok] at h1
  obtain ⟨hnd,hsep⟩:=exOk_spec hok
  have h1:∃ out,d7 P f (as++caps.map λx=>.c (.d x)) out/\(callRet real true (rho slots) L (EX f).2 args.toList ⟨le.ex,le.bo++bo⟩ out).run σ λr=>K r.1 r.2:=h1
  obtain ⟨out,⟨hcall,hm⟩,hret⟩:=h1
  have hvex:∀ p∈le.ex,Valid σ p:=λp hp=>hv p (by simp [hp])
  have hvbo:∀ p∈le.bo++bo,Valid σ p:=λp hp=>by
    rcases List.mem_append.1 hp with hp|hp
    · exact hv p (by simp [hp])
    · exact hbo p hp
  generalize hB:le.bo++bo=B at hsep hret hvbo
  let N:Nat->Prop:=λb=>Nof S σ μ w b\/∃ p∈B,Has μ p.1 b
  have hNof:∀ b,Nof S σ μ w b->N b:=λb hb=>.inl hb
  have hNB:∀ p∈B,∀ b,Has μ p.1 b->N b:=λp hp b hm=>.inr ⟨p,hp,hm⟩
  have hargs:XTsRep w N (as++caps.map λx=>.c (.d x)) (args.toList.map a.eval++cs.toList) (blk μ le.ex):=
    (hgiven N hNof λp hp=>hNB p (by rw [<- hB];simp [hp])).snoc hcl (hcaps N hNof λp hp=>hNB p (by rw [<- hB];simp [hp]))
  have hFlt:∀ b,b∈blk μ le.ex->b<w.heap.size/\¬ N b:=λb hb=>by
    obtain ⟨p,hp,hmp⟩:=blk_mem hb
    refine ⟨(R.ownH p.1 b (hvex p hp).1 hmp).1,λhn => ?_⟩
    rcases hn with hn|⟨q,hq,hmq⟩
    · exact hn.2.2 p.1 (hvex p hp).1 hmp
    · exact hsep p hp q hq (R.injH q.1 p.1 b (hvbo q hq).1 (hvex p hp).1 hmq hmp)
  have hNlt:∀ b,N b->b<w.heap.size:=λb hn=>by
    rcases hn with hn|⟨q,hq,hmq⟩
    · exact hn.1
    · exact (R.ownH q.1 b (hvbo q hq).1 hmq).1
  have hcalls:=hm w _ _ N hargs (blk_nodup R hnd hvex) hFlt hNlt
  intro next Q hn
  unfold Oper.wp
  rw [hexec hcall,Oper.upon_enter]
  have hvals:(args.toList.map a.eval++cs.toList).toArray=args.map a.eval++cs:=by apply Array.ext';simp
  rw [hvals] at hcalls
  refine hcalls.mono λe w' hp => ?_
  obtain ⟨v,F1,F2,rfl,env,hsize,hsame,shape,hFs,hFn,hres,hback⟩:=hp
  refine hn _ _ ?_
  have hfin:∀ (gone:List (Nat × Nat)) (N':Nat->Prop),(gone=[]->B=[] )->(B ≠ []->gone=B) ->
      (∀ b,(b<w'.heap.size/\b∉F1++F2/\S.lent b/\∀ l,m5 σ l->(∀ p∈le.ex++gone,p.1≠l)->¬ Has μ l b)->N' b)->∀ b,Nout w w' N (blk μ le.ex) (F1++F2) b->N' b:=by
    intro gone N' _ hg hN' b ⟨h1,h2,h3⟩
    refine hN' b ⟨h1,h2,?_,λl hl hnl hml => ?_⟩
    · rcases h3 with (h3|⟨q,hq,hmq⟩)|h3|h3
      · exact h3.2.1
      · exact R.reach b (R.ownH q.1 b (hvbo q hq).1 hmq).2
      · obtain ⟨p,hp,hmp⟩:=blk_mem h3
        exact R.reach b (R.ownH p.1 b (hvex p hp).1 hmp).2
      · exact R.reach b (.inl (Nat.le_trans R.grow h3))
    rcases h3 with (h3|⟨q,hq,hmq⟩)|h3|h3
    · exact h3.2.2 l hl hml
    · have hBne:B ≠ []:=λe=>by rw [e] at hq;simp at hq
      have:=R.injH q.1 l b (hvbo q hq).1 hl hmq hml
      exact hnl q (by rw [hg hBne];simp [hq]) this
    · obtain ⟨p,hp,hmp⟩:=blk_mem h3
      have:=R.injH p.1 l b (hvex p hp).1 hl hmp hml
      exact hnl p (by simp [hp]) this
    · have:=(R.ownH l b hl hml).1;omega
  unfold callRet at hret
  rw [G.run_bind] at hret
  have core:∀ (gone:List (Nat × Nat)) (Nf:Nat->Prop),(∀ p∈gone,p∈B) ->
      (∀ N':Nat->Prop,(∀ b,(b<w'.heap.size/\b∉F1++F2/\S.lent b/\∀ l,m5 σ l->(∀ p∈le.ex++gone,p.1≠l)->¬ Has μ l b)->N' b)->∀ b,Nf b->N' b) ->
      XARep w' Nf out.res v F1->(∀ bs,splitB args.toList.length out.back=some bs->BackRep w' Nf bs (args.toList.map a.eval) F2) ->
      ((taken L out.res).run σ λr=>((optv (splitB args.toList.length out.back)).bind λbs=>(backArgs real true (rho slots) args.toList bs).bind λus=>G.ret (r.1,r.2++us++killed (r.2++us) (le.ex++gone))).run σ λr=>K r.1 r.2) ->
      Cont w0 S nt slots σ o K (a.put o.dst v) w':=by
    intro gone Nf hgone hNf hres hback hrun
    obtain ⟨x,τ1,h2,t1⟩:=taken_spec (μ := μ) hrun hres
    rw [G.run_bind] at h2
    obtain ⟨bs,hbs,h3⟩:=optv_run h2
    rw [G.run_bind] at h3
    obtain ⟨τ2,hk,t2⟩:=backArgs_spec R h3 (hback bs hbs)
    let τ:Turns := τ1 ++ τ2++killT (usOf τ1++usOf τ2) (le.ex++gone)
    have hus:usOf τ=usOf τ1++usOf τ2++killed (usOf τ1++usOf τ2) (le.ex++gone):=by simp only [τ,usOf_append,usOf_killT]
    have hk:K x (usOf τ):=by rw [hus];exact hk
    have hblk:blkT τ=F1++F2:=by simp only [τ,blkT_append,killT_blk,t1.1,t2.1,List.append_nil]
    have hvgone:∀ p∈le.ex++gone,Valid σ p:=λp hp=>by
      rcases List.mem_append.1 hp with hp|hp
      · exact hvex p hp
      · exact hvbo p (hgone p hp)
    have hturn:∀ t ∈ τ,Turn σ μ t:=λt ht=>by
      rcases List.mem_append.1 ht with ht|ht
      · rcases List.mem_append.1 ht with ht|ht
        · exact t1.2.1 t ht
        · exact t2.2.1 t ht
      · obtain ⟨h1,h2,h3,h4⟩:=killT_mem _ ht
        have:=(hvgone _ h1).2
        refine ⟨λ_=>h4,.inl ?_⟩
        simp only at this
        omega
    have hall:∀ p∈le.ex++gone,∃ t ∈ τ,t.1=p.1:=λp hp=>by
      rcases killT_all (usOf τ1++usOf τ2) hp with ⟨q,hq,e⟩|⟨t,ht,e⟩
      · rw [<- usOf_append] at hq
        obtain ⟨t,ht,rfl⟩:=List.mem_map.1 hq
        exact ⟨t,List.mem_append.2 (.inl ht),e⟩
      · exact ⟨t,List.mem_append.2 (.inr ht),e⟩
    have hobj:∀ N':Nat->Prop,(∀ b,(b<w'.heap.size/\b∉F1++F2/\S.lent b/\∀ l,m5 σ l->(∀ p∈le.ex++gone,p.1≠l)->¬ Has μ l b)->N' b)->∀ σ' μ',Fits τ σ' μ' ->
        ARep σ' μ' w' N' x v/\∀ t ∈ τ,ObjRep σ' μ' w' N' t.1 t.2.1.2:=by
      intro N' hN' σ' μ' hf
      have r1:=t1.2.2 σ' μ' N' (hNf N' hN') (Fits.left (Fits.left hf))
      have r2:=t2.2.2 σ' μ' N' (hNf N' hN') (Fits.right (Fits.left hf))
      refine ⟨r1.1,λt ht => ?_⟩
      rcases List.mem_append.1 ht with ht|ht
      · rcases List.mem_append.1 ht with ht|ht
        · exact r1.2 t ht
        · exact r2.2 t ht
      · obtain ⟨_,h2,_,_⟩:=killT_mem _ ht
        rw [h2];trivial
    obtain ⟨hN',hf,R'⟩:=R.turned (gone:=gone) (hK x _ hk) hvex hturn hall env hsize hsame shape hFs hFn hblk λN' hN' hf=>(hobj N' hN' _ _ hf).2
    exact ⟨x,usOf τ,hk,placeT μ τ,R'.put hd (hobj _ hN' _ _ hf).1⟩
  have hsplit:∀ bs,splitB args.toList.length out.back=some bs->BackRep w' (Nout w w' N (blk μ le.ex) (F1++F2)) bs (args.toList.map a.eval) F2/\∀ c,some c∈bs->some c∈out.back:=
    λbs hbs=>splitB_spec hbs (by simp) hback
  cases B with
  | nil=>
    refine core [] (Nout w w' N (blk μ le.ex) (F1++F2)) (λp hp=>by simp at hp) (λN' hN'=>hfin [] N' (λ_=>rfl) (λh=>(h rfl).elim) hN') hres (λbs hbs=>(hsplit bs hbs).1) ?_
    simpa using hret
  | cons q B'=>
    cases hkeep:(EX f).2 with
    | true=>
      rw [hkeep] at hret
      refine core (q::B') (Nout w w' N (blk μ le.ex) (F1++F2)) (λp hp=>hp) (λN' hN'=>hfin (q::B') N' (λh=>by simp at h) (λ_=>rfl) hN') hres (λbs hbs=>(hsplit bs hbs).1) hret
    | false=>
      rw [hkeep] at hret
      have hpl:(∀ N N':Nat->Prop,∀ c∈out.res.parts,TrV N N' c)/\(∀ N N':Nat->Prop,∀ c,some c∈out.back->TrV N N' c) /\
          ((taken L out.res).run σ λr=>((optv (splitB args.toList.length out.back)).bind λbs=>(backArgs real true (rho slots) args.toList bs).bind λus=>G.ret (r.1,r.2++us++killed (r.2++us) (le.ex ++ []))).run σ λr=>K r.1 r.2):=by
        have aux:∀ {α:Type} {m:G α} {Q Q' : α->Prop} {p:Prop},m.run σ Q->(∀ x,Q x->p/\Q' x)->p/\m.run σ Q':=by
          intro α m Q Q' p hm hq
          induction m with
          | ret x=>exact hq x hm
          | get l k ih=>exact ih _ hm
          | vc q k ih=>obtain ⟨h1,h2⟩:=ih hm.2;exact ⟨h1,hm.1,h2⟩
          | fail=>exact hm.elim
        have h5:=aux (p:=(∀ N N':Nat->Prop,∀ c∈out.res.parts,TrV N N' c)/\∀ N N':Nat->Prop,∀ c,some c∈out.back->TrV N N' c) hret (Q':=λr=>((optv (splitB args.toList.length out.back)).bind λbs=>(backArgs real true (rho slots) args.toList bs).bind λus=>G.ret (r.1,r.2++us++killed (r.2++us) (le.ex ++ []))).run σ λr=>K r.1 r.2) ?_
        · exact ⟨h5.1.1,h5.1.2,h5.2⟩
        intro r hr
        simp only [G.run_bind] at hr ⊢
        refine aux hr λbs hbs=>aux hbs λus hus => ?_
        obtain ⟨q1,b1,h6⟩:=plainA_spec (N:=λ_=>True) (N':=λ_=>True) hus
        obtain ⟨q2,b2,h7⟩:=plainB_spec (N:=λ_=>True) (N':=λ_=>True) h6
        refine ⟨⟨λN N' c hc => ?_,λN N' c hc => ?_⟩,by simpa using h7⟩
        · obtain ⟨q1,_⟩:=plainA_spec (N:=N) (N':=N') hus
          exact q1 c hc
        · obtain ⟨q2,_⟩:=plainB_spec (N:=N) (N':=N') h6
          exact q2 c hc
      obtain ⟨g1,g2,g3⟩:=hpl
      refine core [] (λ_=>False) (λp hp=>by simp at hp) (λN' _ b hb=>hb.elim) (hres.tr (g1 _ _)) (λbs hbs => ?_) g3
      obtain ⟨s1,s2⟩:=hsplit bs hbs
      exact s1.tr λc hc=>g2 _ _ c (s2 c hc)
theorem opvs_run {N:Nat->Prop}:∀ {xs:List Operand} {Q:List AV->Prop},(opvs real true (rho slots) xs).run σ Q->(∀ x,ARep σ μ w N (rho slots x) (a.eval x))->∃ as,AvsRep σ μ w N as (xs.map a.eval)/\Q as
  | [],Q,h,_=>⟨[],trivial,h⟩
  | x::r,Q,h,hr=>by
    simp only [opvs,G.run_bind] at h
    obtain ⟨y,hy,h⟩:=opv_run h (hr x)
    obtain ⟨ys,hys,h⟩:=opvs_run h hr
    exact ⟨y::ys,⟨hy,hys⟩,h⟩
theorem hasLab_look {kn:List (Nat × Nat × HO)}:∀ {l:Nat},l4 kn l=false->m4 kn l=(0,.dead):=by
  induction kn with
  | nil=>intro l _;rfl
  | cons p r ih=>
    intro l h
    obtain ⟨j,x⟩:=p
    unfold l4 at h
    unfold m4
    cases hb:nbeq j l with
    | true=>rw [hb] at h;cases h
    | false=>rw [hb] at h;exact ih h
theorem hasLab_mem {kn:List (Nat × Nat × HO)} {p:Nat × Nat × HO} (h:p∈kn):l4 kn p.1=true:=by
  induction kn with
  | nil=>simp at h
  | cons q r ih=>
    obtain ⟨j,x⟩:=q
    unfold l4
    cases hb:nbeq j p.1 with
    | true=>rfl
    | false=>
      rcases List.mem_cons.1 h with rfl|h
      · simp at hb
      · exact ih h
theorem look_mem {kn:List (Nat × Nat × HO)}:∀ {l:Nat},l4 kn l=true->(l,m4 kn l)∈kn:=by
  induction kn with
  | nil=>intro l h;cases h
  | cons p r ih=>
    intro l h
    obtain ⟨j,x⟩:=p
    unfold l4 at h
    unfold m4
    cases hb:nbeq j l with
    | true=>have:=i3 hb;subst this;simp
    | false=>rw [hb] at h;exact List.mem_cons_of_mem _ (ih h)
theorem agrees_at {kn:List (Nat × Nat × HO)} (h:agrees σ kn):∀ {l:Nat},l4 kn l=true->m4 kn l = σ l:=by
  induction kn with
  | nil=>intro l h;cases h
  | cons p r ih=>
    intro l hl
    obtain ⟨j,x⟩:=p
    unfold l4 at hl
    unfold m4
    cases hb:nbeq j l with
    | true=>have:=i3 hb;subst this;exact h.1.symm
    | false=>rw [hb] at hl;exact ih h.2 hl
theorem putO_at {us:List (Nat × Nat × HO)} (h:u9 us=true):∀ {l:Nat},l4 us l=true->putO σ us l=m4 us l:=by
  intro l hl
  have:=(putO_spec (σ := σ) h).1 _ (look_mem hl)
  exact this
theorem putO_not {us:List (Nat × Nat × HO)} (h:u9 us=true) {l:Nat} (hl:l4 us l=false):putO σ us l = σ l:=by
  refine (putO_spec (σ := σ) h).2 l λp hp e => ?_
  have:=hasLab_mem hp
  rw [e] at this;rw [this] at hl;cases hl
theorem okTs_at {kn:List (Nat × Nat × HO)}:∀ {us:List (Nat × Nat × HO)},okTs σ kn us->∀ {l:Nat},l4 us l=true->okTn (σ l) (m4 us l)/\(l4 kn l=true\/(σ l).1<(m4 us l).1)
  | [],_,_,h=>by cases h
  | (j,x)::r,h,l,hl=>by
    unfold l4 at hl
    unfold m4
    cases hb:nbeq j l with
    | true=>have:=i3 hb;subst this;exact ⟨h.1,h.2.1⟩
    | false=>rw [hb] at hl;exact okTs_at h.2.2 hl
theorem CRep.same {σ σ':p9} {μ μ':Place} {w:World} {N N':Nat->Prop} {kn:List (Nat × Nat × HO)} (hs:∀ l,l4 kn l=true -> σ' l = σ l/\(m5 σ l -> μ' l = μ l)) (hN:∀ b,N b->N' b) {x:CV} {v:Value} (hi:inC kn x=true) (h:CRep σ μ w N x v):CRep σ' μ' w N' x v:=by
  have lv:∀ {l ver:Nat} {o:HO},σ l=(ver,o)->o ≠ .dead->m5 σ l:=λe hd=>by unfold m5;rw [e];exact hd
  cases x with
  | junk=>trivial
  | d x=>exact DRep.mono hN h
  | zc=>exact h
  | own l off len ver=>
    obtain ⟨e1,e2⟩:=hs l hi
    obtain ⟨h1,h2,h3⟩:=h
    refine ⟨h1,by rw [e1];exact h2,λsz n row e => ?_⟩
    rw [e1] at e
    have:=h3 sz n row e
    rw [e2 (lv e HO.noConfusion)]
    exact this
  | bp l ver off=>
    obtain ⟨e1,e2⟩:=hs l hi
    obtain ⟨h1,h2,h3⟩:=h
    refine ⟨h1,by rw [e1];exact h2,λcells e => ?_⟩
    rw [e1] at e
    rw [e2 (lv e HO.noConfusion)]
    exact h3 cells e
  | op l ver row off=>
    obtain ⟨e1,e2⟩:=hs l hi
    obtain ⟨h1,h2,h3⟩:=h
    refine ⟨h1,by rw [e1];exact h2,λsz n rw' e => ?_⟩
    rw [e1] at e
    rw [e2 (lv e HO.noConfusion)]
    exact h3 sz n rw' e
  | nown l len ver=>
    obtain ⟨e1,e2⟩:=hs l hi
    obtain ⟨h1,h2,h3⟩:=h
    refine ⟨h1,by rw [e1];exact h2,λsz n row foc e => ?_⟩
    rw [e1] at e
    have:=h3 sz n row foc e
    rw [e2 (lv e HO.noConfusion)]
    exact this
  | nop l ver row off=>
    obtain ⟨e1,e2⟩:=hs l hi
    obtain ⟨h1,h2,h3⟩:=h
    refine ⟨h1,by rw [e1];exact h2,λsz n rw' foc e => ?_⟩
    rw [e1] at e
    rw [e2 (lv e HO.noConfusion)]
    exact h3 sz n rw' foc e
  | clo f caps=>
    obtain ⟨cs,h1,h2,h3⟩:=h
    refine ⟨cs,h1,h2,λj l ver hj => ?_⟩
    have hi':caps.all (λp=>l4 kn p.1)=true:=hi
    rw [List.all_eq_true] at hi'
    obtain ⟨e1,e2⟩:=hs l (hi' (l,ver) (List.mem_of_getElem? hj))
    obtain ⟨g1,g2⟩:=h3 j l ver hj
    refine ⟨by rw [e1];exact g1,λcells e => ?_⟩
    rw [e1] at e
    rw [e2 (lv e HO.noConfusion)]
    exact g2 cells e
theorem CsRep.same {σ σ':p9} {μ μ':Place} {w:World} {N N':Nat->Prop} {kn:List (Nat × Nat × HO)} (hs:∀ l,l4 kn l=true -> σ' l = σ l/\(m5 σ l -> μ' l = μ l)) (hN:∀ b,N b->N' b):∀ {xs:List CV} {vs:List Value},xs.all (inC kn)=true->CsRep σ μ w N xs vs->CsRep σ' μ' w N' xs vs
  | [],[],_,_=>trivial
  | x::r,v::s,hi,h=>by
    simp only [List.all_cons,Bool.and_eq_true] at hi
    exact ⟨h.1.same hs hN hi.1,CsRep.same hs hN hi.2 h.2⟩
  | [],_::_,_,h=>h.elim
  | _::_,[],_,h=>h.elim
theorem ARep.same {σ σ':p9} {μ μ':Place} {w:World} {N N':Nat->Prop} {kn:List (Nat × Nat × HO)} (hs:∀ l,l4 kn l=true -> σ' l = σ l/\(m5 σ l -> μ' l = μ l)) (hN:∀ b,N b->N' b) {x:AV} {v:Value} (hi:inR kn x=true) (h:ARep σ μ w N x v):ARep σ' μ' w N' x v:=by
  cases x with
  | c x=>exact CRep.same hs hN hi h
  | agg xs=>obtain ⟨cs,h1,h2⟩:=h;exact ⟨cs,h1,h2.same hs hN hi⟩
  | tup xs=>
    cases xs with
    | nil=>
      obtain ⟨cs,h1,h2⟩:=h
      refine ⟨cs,h1,?_⟩
      generalize cs.toList=l at h2
      cases l with
      | nil=>trivial
      | cons _ _=>exact h2.elim
    | cons _ _=>cases hi
  | gd _ _=>cases hi
theorem ObjRep.same {σ σ':p9} {μ μ':Place} {w:World} {N N':Nat->Prop} {kn:List (Nat × Nat × HO)} (hs:∀ l,l4 kn l=true -> σ' l = σ l/\(m5 σ l -> μ' l = μ l)) (hN:∀ b,N b->N' b) {l:Nat} {o:HO} (hm : μ' l = μ l) (hmk : μ'.k l = μ.k l) (hi:inH kn o=true) (h:ObjRep σ μ w N l o):ObjRep σ' μ' w N' l o:=by
  cases o with
  | dead=>trivial
  | nest sz n row foc=>
    rcases h with ⟨h1,h2,h3,h4⟩|⟨b,base,cs,e,h1,h2,h3,h4,h5,h6,h7⟩
    · exact .inl ⟨by rw [hm];exact h1,h2,h3,by rw [hmk];exact h4⟩
    · refine .inr ⟨b,base,cs,e,by rw [hm];exact h1,h2,h3,by rw [hmk];exact h4,by rw [hmk];exact h5,by rw [hmk];exact h6,λi cells hf => ?_⟩
      obtain ⟨q1,q2,q3⟩:=h7 i cells hf
      refine ⟨q1,q2,λj x hj => ?_⟩
      obtain ⟨u,hu,hc⟩:=q3 j x hj
      subst hf
      exact ⟨u,hu,hc.same hs hN (List.all_eq_true.1 hi x (List.mem_of_getElem? hj))⟩
  | box cells=>
    obtain ⟨b,cs,e,h1,h2,h3⟩:=h
    exact ⟨b,cs,e,by rw [hm];exact h1,h2,h3.same hs hN hi⟩
  | arr sz n row=>
    refine ⟨h.1,?_⟩
    rcases h.2 with ⟨h1,h2⟩|⟨b,base,cs,e,h1,h2,h3,h4⟩
    · exact .inl ⟨by rw [hm];exact h1,h2⟩
    · refine .inr ⟨b,base,cs,e,by rw [hm];exact h1,h2,h3,λi j x hi hj => ?_⟩
      obtain ⟨u,hu,hd⟩:=h4 i j x hi hj
      exact ⟨u,hu,hd.mono hN⟩
theorem AvsRep.same {σ σ':p9} {μ μ':Place} {w:World} {N N':Nat->Prop} {kn:List (Nat × Nat × HO)} (hs:∀ l,l4 kn l=true -> σ' l = σ l/\(m5 σ l -> μ' l = μ l)) (hN:∀ b,N b->N' b):∀ {xs:List AV} {vs:List Value},xs.all (inA kn)=true->AvsRep σ μ w N xs vs->AvsRep σ' μ' w N' xs vs
  | [],[],_,_=>trivial
  | x::r,v::s,hi,h=>by
    simp only [List.all_cons,Bool.and_eq_true] at hi
    refine ⟨h.1.same hs hN ?_,AvsRep.same hs hN hi.2 h.2⟩
    cases x with
    | tup xs=>cases xs with
      | nil=>rfl
      | cons _ _=>exact hi.1
    | _=>exact hi.1
  | [],_::_,_,h=>h.elim
  | _::_,[],_,h=>h.elim
theorem sound_inl (R:RelM w0 S nt (i5 slots) σ a w μ) (hd:∀ d,o.dst=some d->d<nt) {f:FuncId} {args:Array Operand}
    (hexec:callable P f=true->(execOp a.eval o).run P w=.ok (.enter f (args.map a.eval)) w)
    (h:(inlSem real true (rho slots) f args.toList []).run σ (OpOut.run (d4 P) σ K)):Sound P w0 S nt slots σ a w o K:=by
  have h:((opvs real true (rho slots) args.toList).bind λas=>G.ret (OpOut.inl f as)).run σ (OpOut.run (d4 P) σ K):=h
  rw [G.run_bind] at h
  obtain ⟨avs,hav,h⟩:=opvs_run h (p8 R)
  obtain ⟨x,kn,us,⟨hcall,hm⟩,⟨o1,o2,o3,o4,o5,o6,o7,o8,o9⟩,hk⟩:∃ x kn us,MeetsO P f avs kn x us/\okI σ avs kn x us/\K x us:=h
  have hkn:∀ l,l4 kn l=true->m4 kn l = σ l/\(m5 σ l -> μ l = μ l):=λl hl=>⟨agrees_at o3 hl,λ_=>rfl⟩
  have hlive:∀ l,m5 (m4 kn) l->l4 kn l=true/\m5 σ l:=λl hl=>by
    cases hb:l4 kn l with
    | false=>unfold m5 at hl;rw [hasLab_look hb] at hl;exact absurd rfl hl
    | true=>refine ⟨rfl,?_⟩;unfold m5 at hl ⊢;rw [<- (hkn l hb).1];exact hl
  have hown:∀ b,ownK kn μ b->b<w.heap.size/\(w0.heap.size<=b\/S b):=λb ⟨l,hl,hmm⟩=>R.ownH l b (hlive l hl).2 hmm
  have hNo:∀ b,Nof S σ μ w b->b<w.heap.size/\¬ ownK kn μ b:=λb hb=>⟨hb.1,λ⟨l,hl,hmm⟩=>hb.2.2 l (hlive l hl).2 hmm⟩
  have hcalls:=hm w (args.toList.map a.eval) (Nof S σ μ w) μ hNo (λb hb=>(hown b hb).1)
    (λl l' b h1 h2 h3 h4=>R.injH l l' b (hlive l h1).2 (hlive l' h2).2 h3 h4)
    (λl h1 h2=>R.kz l (hlive l h1).2 (by rw [<- (hkn l (hlive l h1).1).1];exact h2))
    (λl=>by
      cases hb:l4 kn l with
      | false=>rw [hasLab_look hb];trivial
      | true=>
        rw [(hkn l hb).1]
        have hi:inH kn (σ l).2=true:=by
          have:=List.all_eq_true.1 o7 _ (look_mem hb)
          rw [(hkn l hb).1] at this
          exact this
        exact (R.objs l).same hkn (λ_ h=>h) rfl rfl hi)
    (hav.same hkn (λ_ h=>h) o6)
  have hvals:(args.toList.map a.eval).toArray=args.map a.eval:=by apply Array.ext';simp
  rw [hvals] at hcalls
  intro next Q hn
  unfold Oper.wp
  rw [hexec hcall,Oper.upon_enter]
  refine hcalls.mono λe w' hp => ?_
  obtain ⟨v,nt2,sl2,a2,μ',rfl,R',hx⟩:=hp
  refine hn _ _ ?_
  obtain ⟨N',hN'⟩:∃ N':Nat->Prop,N'=Nof (setsK w (Nof S σ μ w) kn μ) (m4 us) μ' w':=⟨_,rfl⟩
  obtain ⟨σ',hσ'⟩:∃ σ',σ'=putO σ us:=⟨_,rfl⟩
  let μ2:Place:=⟨λl=>bif l4 us l then (match (m4 us l).2 with | .dead => μ l|_ => μ' l) else μ l,λl=>bif l4 us l then μ'.k l else μ.k l⟩
  have u1:∀ l,l4 us l=true -> σ' l=m4 us l:=λl hl=>by rw [hσ'];exact putO_at o2 hl
  have u2:∀ l,l4 us l=false -> σ' l = σ l /\ μ2 l = μ l /\ μ2.k l = μ.k l:=λl hl=>⟨by rw [hσ'];exact putO_not o2 hl,by simp only [μ2,hl,cond_false],by simp only [μ2,hl,cond_false]⟩
  have u3:∀ l,l4 us l=true->m5 (m4 us) l -> μ2 l = μ' l:=λl hl hv=>by
    simp only [μ2,hl,cond_true]
    unfold m5 at hv
    split
    · rename_i hd;exact absurd hd hv
    · rfl
  have u4:∀ l,l4 us l=true -> μ2.k l = μ'.k l:=λl hl=>by simp only [μ2,hl,cond_true]
  have h2:∀ l b,l4 us l=false->Has μ2 l b->Has μ l b:=λl b hl hh=>by
    unfold Has at hh ⊢
    rw [(u2 l hl).2.1,(u2 l hl).2.2] at hh
    exact hh
  have h3:∀ l b,l4 us l=true->m5 (m4 us) l->Has μ2 l b->Has μ' l b:=λl b hl hv hh=>by
    unfold Has at hh ⊢
    rw [u3 l hl hv,u4 l hl] at hh
    exact hh
  have hus:∀ l,l4 us l=true -> σ' l=m4 us l/\(m5 (m4 us) l -> μ2 l = μ' l):=λl hl=>⟨u1 l hl,u3 l hl⟩
  have lus:∀ l,m5 (m4 us) l->l4 us l=true:=λl hl=>by
    cases hb:l4 us l with
    | true=>rfl
    | false=>unfold m5 at hl;rw [hasLab_look hb] at hl;exact absurd rfl hl
  have hkus:∀ l,l4 kn l=true->l4 us l=true:=λl hl=>by
    have:=List.all_eq_true.1 o4 _ (look_mem hl)
    exact this
  have hownus:∀ l b,m5 (m4 us) l->Has μ' l b->b<w'.heap.size/\(w.heap.size<=b\/ownK kn μ b):=λl b hl hmm=>R'.ownH l b hl hmm
  have hoff:∀ l b,l4 us l=false->m5 σ l->Has μ l b->b<w.heap.size/\¬ ownK kn μ b:=λl b hl hlv hmm=>by
    refine ⟨(R.ownH l b hlv hmm).1,λ⟨l',hl',hm'⟩ => ?_⟩
    have:=R.injH l' l b (hlive l' hl').2 hlv hm' hmm
    subst this
    rw [hkus _ (hlive _ hl').1] at hl;cases hl
  have hlu:∀ l,l4 us l=true->m5 σ' l->m5 (m4 us) l:=λl hb hl=>by unfold m5 at hl ⊢;rw [<- u1 l hb];exact hl
  have hln:∀ l,l4 us l=false->m5 σ' l->m5 σ l:=λl hb hl=>by unfold m5 at hl ⊢;rw [<- (u2 l hb).1];exact hl
  have hNsub:∀ b,N' b->Nof S σ' μ2 w' b:=λb hb=>by
    rw [hN'] at hb
    obtain ⟨g1,g2,g3⟩:=hb
    have hb2:Nof S σ μ w b\/ownK kn μ b\/w.heap.size<=b:=g2
    refine ⟨g1,?_,λl hl hmm => ?_⟩
    · rcases hb2 with h|h|h
      · exact h.2.1
      · exact R.reach b (hown b h).2
      · exact R.reach b (.inl (Nat.le_trans R.grow h))
    · cases hb:l4 us l with
      | true=>exact g3 l (hlu l hb hl) (h3 l b hb (hlu l hb hl) hmm)
      | false=>
        obtain ⟨k1,k2⟩:=hoff l b hb (hln l hb hl) (h2 l b hb hmm)
        rcases hb2 with h|h|h
        · exact h.2.2 l (hln l hb hl) (h2 l b hb hmm)
        · exact k2 h
        · omega
  have hst:Step S σ σ' μ μ2 w w':=by
    refine ⟨R'.grow,λb hb=>⟨?_,?_⟩,λl => ?_⟩
    · exact R'.frame b hb.1 λ⟨l,hl,hmm⟩=>hb.2.2 l (hlive l hl).2 hmm
    · refine ⟨Nat.lt_of_lt_of_le hb.1 R'.grow,hb.2.1,λl hl hmm => ?_⟩
      cases hh:l4 us l with
      | true=>
        rcases (hownus l b (hlu l hh hl) (h3 l b hh (hlu l hh hl) hmm)).2 with h|h
        · have:=hb.1;omega
        · exact (hNo b hb).2 h
      | false=>exact hb.2.2 l (hln l hh hl) (h2 l b hh hmm)
    · cases hh:l4 us l with
      | false=>
        obtain ⟨e1,e2,_⟩:=u2 l hh
        right
        rw [e1,e2]
        exact ⟨rfl,rfl,λc hc=>⟨c,hc⟩,λsz n row hr=>⟨n,row,hr,Nat.le_refl _⟩,λsz n row foc hr=>⟨row,foc,hr⟩,λb base cs e hm _ hb=>R'.shape b cs e (0,0) hb⟩
      | true=>
        obtain ⟨t1,t2⟩:=okTs_at o5 hh
        unfold Keeps
        rw [u1 l hh]
        rcases t1 with t1|⟨t1,t3⟩
        · exact .inl t1
        · right
          have hkl:l4 kn l=true:=t2.resolve_right (by omega)
          refine ⟨t1,?_,λcells hc => ?_,λsz n row hr => ?_,λsz n row foc hr => ?_,λb base cs e hm _ hb=>R'.shape b cs e (0,0) hb⟩
          · simp only [μ2,hh,cond_true]
            split
            · rfl
            · rename_i hnd
              have hlv:m5 (m4 us) l:=hnd
              have:=(R'.keep rfl (l,(σ l).1,μ l) (List.mem_map.2 ⟨_,look_mem hkl,by simp only;rw [(hkn l hkl).1]⟩)).2 t1.symm hlv
              exact this
          · rw [hc] at t3
            cases hs:(σ l).2 with
            | box c=>exact ⟨c,rfl⟩
            | _=>rw [hs] at t3;exact t3.elim
          · rw [hr] at t3
            cases hs:(σ l).2 with
            | arr sz' n' row'=>rw [hs] at t3;obtain ⟨rfl,rfl⟩:=t3;exact ⟨_,row',rfl,Nat.le_refl _⟩
            | _=>rw [hs] at t3;exact t3.elim
          · rw [hr] at t3
            cases hs:(σ l).2 with
            | nest sz' n' row' foc'=>rw [hs] at t3;obtain ⟨rfl,rfl⟩:=t3;exact ⟨row',foc',rfl⟩
            | _=>rw [hs] at t3;exact t3.elim
  have R2:RelM w0 S nt (i5 slots) σ' a w' μ2:=by
    refine R.carry hst R'.env (λb hb hs=>R'.frame b (Nat.lt_of_lt_of_le hb R.grow) λho => ?_) R'.shape (λl b hl hmm => ?_) (λl l' b hl hl' hmm hmm' => ?_) (λl hl hn => ?_) (λl => ?_)
    · rcases (hown b ho).2 with h|h
      · omega
      · exact hs h
    · cases hh:l4 us l with
      | true=>
        obtain ⟨g1,g2⟩:=hownus l b (hlu l hh hl) (h3 l b hh (hlu l hh hl) hmm)
        refine ⟨g1,?_⟩
        rcases g2 with h|h
        · exact .inl (Nat.le_trans R.grow h)
        · exact (hown b h).2
      | false=>
        have:=R.ownH l b (hln l hh hl) (h2 l b hh hmm)
        exact ⟨Nat.lt_of_lt_of_le this.1 R'.grow,this.2⟩
    · have key:∀ l l' b,l4 us l=true->l4 us l'=false->m5 σ' l->m5 σ' l'->Has μ2 l b->Has μ2 l' b->False:=λl l' b hh hh' hl hl' hmm hmm'=>by
        obtain ⟨g1,g2⟩:=hoff l' b hh' (hln l' hh' hl') (h2 l' b hh' hmm')
        rcases (hownus l b (hlu l hh hl) (h3 l b hh (hlu l hh hl) hmm)).2 with h|h
        · omega
        · exact g2 h
      cases hh:l4 us l with
      | true=>
        cases hh':l4 us l' with
        | true=>exact R'.injH l l' b (hlu l hh hl) (hlu l' hh' hl') (h3 l b hh (hlu l hh hl) hmm) (h3 l' b hh' (hlu l' hh' hl') hmm')
        | false=>exact (key l l' b hh hh' hl hl' hmm hmm').elim
      | false=>
        cases hh':l4 us l' with
        | true=>exact (key l' l b hh' hh hl' hl hmm' hmm).elim
        | false=>exact R.injH l l' b (hln l hh hl) (hln l' hh' hl') (h2 l b hh hmm) (h2 l' b hh' hmm')
    · cases hh:l4 us l with
      | true=>rw [u4 l hh];rw [u1 l hh] at hn;exact R'.kz l (hlu l hh hl) hn
      | false=>rw [(u2 l hh).2.2];rw [(u2 l hh).1] at hn;exact R.kz l (hln l hh hl) hn
    · cases hh:l4 us l with
      | true=>
        right
        rw [u1 l hh]
        have hob:=R'.objs l
        rw [<- hN'] at hob
        cases hd:(m4 us l).2 with
        | dead=>trivial
        | _=>
          rw [<- hd]
          have hlv:m5 (m4 us) l:=by unfold m5;rw [hd];exact HO.noConfusion
          refine hob.same hus hNsub (u3 l hh hlv) (u4 l hh) ?_
          exact List.all_eq_true.1 o9 _ (look_mem hh)
      | false=>
        obtain ⟨e1,e2,e3⟩:=u2 l hh
        left
        refine ⟨e1,e2,e3,λb hl hmm => ?_⟩
        obtain ⟨g1,g2⟩:=hoff l b hh hl hmm
        exact R'.frame b g1 g2
  refine ⟨x,us,hk,μ2,?_⟩
  rw [<- hσ']
  refine R2.put hd ?_
  rw [<- hN'] at hx
  exact hx.same hus hNsub o8
end
section
variable {P:Program} {T:TypeId->Option TI} {EX:FuncId->List Nat × Bool}
variable {w0:World} {S:Sets} {nt:Nat} {slots:List (Nat × AV)} {σ:p9} {a:Act} {w:World} {μ:Place}
variable {o:Oper} {K:AV->List (Nat × Nat × HO)->Prop}
theorem callFunc_run {f:FuncId} (h:callable P f=true) (args:Array Value) (w:World):(callFunc f args).run P w=.ok (.enter f args) w:=by
  unfold callable at h
  cases hf:P.funcs[f]? with
  | none=>simp [hf] at h
  | some fn=>
    simp only [hf,Bool.and_eq_true,Bool.not_eq_true'] at h
    obtain ⟨h1,h2⟩:=h
    have h1' : ¬ fn.name = "runtime.NumGoroutine" := by simpa using h1
    have h3:¬ fn.body=none:=λe=>by simp [e] at h2
    simp [callFunc,hf,h1',h3]
theorem sound_callV (R:RelM w0 S nt (i5 slots) σ a w μ) (hd:∀ d,o.dst=some d->d<nt) {g:Operand} {args:Array Operand} {ts:Array TypeId} (ho:o.op=.call ⟨.value g,args,ts⟩)
    (hK:∀ x us,K x us->u9 us=true)
    (h:(t6 real T EX o true (rho slots)).run σ (OpOut.run (d4 P) σ K)):Sound P w0 S nt slots σ a w o K:=by
  simp only [t6,ho,G.run_bind] at h
  obtain ⟨c,hc,h1⟩:=cellv_run h (p8 R g)
  clear h
  have hexec:∀ (f:FuncId) (cs:Array Value),a.eval g=.func (.func f) #[] cs->callable P f=true->(execOp a.eval o).run P w=.ok (.enter f (args.map a.eval++cs)) w:=by
    intro f cs he hcall
    simp [execOp,ho,resolve,he,Deferred.ofValue,invoke,callFunc_run hcall]
  split at h1
  · rename_i f caps
    generalize he:a.eval g=pv at hc
    cases hc with
    | fn _ _ cs u hn hu hdd=>
      cases hfl:(EX f).1.contains 99 with
      | true=>
        rw [hfl] at h1
        cases caps with
        | cons _ _=>exact h1.elim
        | nil=>
          have hcs : cs = #[] := by have : cs.size = 0 := by simpa using hn
                                    exact Array.eq_empty_of_size_eq_zero this
          exact sound_inl R hd (λhc=>by have:=hexec f cs he hc;rw [hcs] at this;simpa using this) h1
      | false=>
      rw [hfl] at h1
      refine sound_callSem R hd (hexec f cs he) (by simpa using hn) (λp hp=>by simp at hp) (λN hN _ j y hj=>⟨u j,by simpa using hu j y hj,(hdd j y hj).mono hN⟩) hK h1
  · rename_i f caps
    rw [G.run_bind] at h1
    obtain ⟨ys,ls,h2,hlen,hv,hb,hN⟩:=capsD_spec R h1
    obtain ⟨cs,he,hcl,hcs⟩:=hc
    refine sound_callSem R hd (hexec f cs he) (by rw [Array.length_toList,hcl,hlen]) hv (λN hn hl j y hj => ?_) hK h2
    have hjl:j<caps.length:=by rw [<- hlen];exact (List.getElem?_eq_some_iff.1 hj).1
    have hcj:caps[j]? = some (caps[j].1,caps[j].2):=by rw [List.getElem?_eq_getElem hjl]
    obtain ⟨cells,hσ⟩:=hb j _ _ hcj
    obtain ⟨b,hm,hu⟩:=(hcs j _ _ hcj).2 cells hσ
    exact ⟨_,by simpa using hu,hN N hn hl j y _ _ b hj hcj hm⟩
  · exact h1.elim
theorem op_sound (hT:TTok P T) (R:RelM w0 S nt (i5 slots) σ a w μ) (hd:∀ d,o.dst=some d->d<nt) (hK:∀ x us,K x us->u9 us=true)
    (h:(t6 real T EX o true (rho slots)).run σ (OpOut.run (d4 P) σ K)):Sound P w0 S nt slots σ a w o K:=by
  cases ho:o.op with
  | move x=>exact sound_move R hd (.inl ho) h
  | assign x=>exact sound_move R hd (.inr ho) h
  | pick c x y=>exact sound_pick R hd ho h
  | alloc t=>exact sound_alloc hT R hd ho h
  | box t x=>exact sound_box R hd ho h
  | build t parts=>exact sound_build hT R hd ho h
  | buildSlice t len parts=>exact sound_buildSlice hT R hd ho h
  | load t p=>exact sound_load hT R hd ho h
  | store t p x=>exact sound_store hT R hd ho h
  | nilCheck x=>exact sound_nilCheck R hd ho h
  | binOp op t x y yt=>exact sound_binOp hT R hd ho h
  | unOp u t x=>exact sound_unOp R hd ho h
  | convert s t x=>exact sound_convert hT R hd ho h
  | makeFunc fn first caps=>exact sound_makeFunc R hd ho h
  | makeSlice t l c=>exact sound_makeSlice hT R hd ho h
  | slice t x lo hi mx=>exact sound_slice hT R hd ho h
  | fieldAddr t p f=>exact sound_fieldAddr hT R hd ho h
  | field t x f=>exact sound_field hT R hd ho h
  | indexAddr t x i=>exact sound_indexAddr hT R hd ho h
  | extract x i=>exact sound_extract R hd ho h
  | call c=>
    obtain ⟨callee,args,ts⟩:=c
    cases callee with
    | value g=>exact sound_callV R hd ho hK h
    | builtin b=>
      cases b with
      | len=>exact sound_len hT R hd ho h
      | append=>exact sound_append hT R hd ho hK h
      | copy=>exact sound_copy hT R hd ho h
      | clear=>exact sound_clear hT R hd ho h
      | min=>exact sound_min R hd ho h
      | max=>exact sound_max R hd ho h
      | _=>simp only [t6,ho] at h;exact h.elim
    | invoke r m=>simp only [t6,ho] at h;exact h.elim
  | _=>simp only [t6,ho] at h;exact h.elim
end
section
variable {A:Ar} {T:TypeId->Option TI} {EX:FuncId->List Nat × Bool} {ρ ρ':Operand->AV} {g:Bool}
theorem partsv_congr:∀ ps:List (Nat × Operand),(∀ p,p∈ps -> ρ p.2 = ρ' p.2)->partsv A g ρ ps=partsv A g ρ' ps
  | [],_=>rfl
  | (i,x)::r,h=>by
    have h1 : ρ x = ρ' x:=h (i,x) (by simp)
    have h2:=partsv_congr r λp hp=>h p (by simp [hp])
    simp only [partsv,h1,h2]
theorem capvs_congr:∀ ps:List Operand,(∀ p,p∈ps -> ρ p = ρ' p)->capvs A g ρ ps=capvs A g ρ' ps
  | [],_=>rfl
  | x::r,h=>by
    have h1 : ρ x = ρ' x:=h x (by simp)
    have h2:=capvs_congr r λp hp=>h p (by simp [hp])
    simp only [capvs,h1,h2]
theorem givenArgs_congr {ex:Nat->Bool}:∀ (i:Nat) (ps:List Operand),(∀ p,p∈ps -> ρ p = ρ' p)->givenArgs A g ex ρ i ps=givenArgs A g ex ρ' i ps
  | _,[],_=>rfl
  | i,x::r,h=>by
    have h1 : ρ x = ρ' x:=h x (by simp)
    have h2:=givenArgs_congr (ex:=ex) (i+1) r λp hp=>h p (by simp [hp])
    simp only [givenArgs,h1,h2]
theorem backArgs_congr:∀ (ps:List Operand) (bs:List (Option XV)),(∀ p,p∈ps -> ρ p = ρ' p)->backArgs A g ρ ps bs=backArgs A g ρ' ps bs
  | [],bs,_=>by cases bs<;>rfl
  | x::r,[],_=>rfl
  | x::r,b::s,h=>by
    have h1 : ρ x = ρ' x:=h x (by simp)
    have h2:=backArgs_congr r s λp hp=>h p (by simp [hp])
    simp only [backArgs,h1,h2]
theorem callRet_congr {L:Nat} {keeps:Bool} {args:List Operand} {le:Lent} (h:∀ p,p∈args -> ρ p = ρ' p):callRet A g ρ L keeps args le=callRet A g ρ' L keeps args le:=by
  funext out
  simp only [callRet,backArgs_congr args _ h]
theorem callSem_congr {L:Nat} {f:FuncId} {args:List Operand} {caps:List DV} {bo:List (Nat × Nat)} (h:∀ p,p∈args -> ρ p = ρ' p) :
    callSem A EX g ρ L f args caps bo=callSem A EX g ρ' L f args caps bo:=by
  simp only [callSem,givenArgs_congr 0 args h,callRet_congr h]
theorem loSem_congr:∀ lo:Option Operand,(∀ p,lo=some p -> ρ p = ρ' p)->loSem A g ρ lo=loSem A g ρ' lo
  | none,_=>rfl
  | some p,h=>by simp only [loSem,h p rfl]
theorem hiSem_congr {s:CV}:∀ hi:Option Operand,(∀ p,hi=some p -> ρ p = ρ' p)->hiSem A g ρ s hi=hiSem A g ρ' s hi
  | none,_=>rfl
  | some p,h=>by simp only [hiSem,h p rfl]
theorem opvs_congr:∀ ps:List Operand,(∀ p,p∈ps -> ρ p = ρ' p)->opvs A g ρ ps=opvs A g ρ' ps
  | [],_=>rfl
  | x::r,h=>by
    have h1 : ρ x = ρ' x:=h x (by simp)
    have h2:=opvs_congr r λp hp=>h p (by simp [hp])
    simp only [opvs,h1,h2]
theorem inlSem_congr {f:FuncId} {args:List Operand} {caps:List DV} (h:∀ p,p∈args -> ρ p = ρ' p):inlSem A g ρ f args caps=inlSem A g ρ' f args caps:=by
  cases caps with
  | nil=>simp only [inlSem,opvs_congr args h]
  | cons _ _=>rfl
theorem semOp_congr (o:Oper) (h:∀ x,x∈o.op.operands -> ρ x = ρ' x):t6 A T EX o g ρ=t6 A T EX o g ρ':=by
  unfold t6
  generalize (o.dst.getD 0*64+baseOf EX)=L
  cases ho:o.op with
  | build t ps=>
    simp only [ho,Op.operands] at h ⊢
    have:=partsv_congr (A:=A) (g:=g) ps.toList λp hp=>h p.2 (by simp;exact ⟨p.1,by simpa using hp⟩)
    rw [this]
  | buildSlice t n ps=>
    simp only [ho,Op.operands] at h ⊢
    have:=partsv_congr (A:=A) (g:=g) ps.toList λp hp=>h p.2 (by simp;exact ⟨p.1,by simpa using hp⟩)
    rw [this]
  | makeFunc f first caps=>
    simp only [ho,Op.operands] at h ⊢
    cases f<;>try rfl
    have:=capvs_congr (A:=A) (g:=g) caps.toList λp hp=>h p (by simp;exact .inr (by simpa using hp))
    simp only [this]
  | slice t x lo hi mx=>
    simp only [ho,Op.operands] at h ⊢
    have hx:=h x (by simp)
    have hl:=loSem_congr (A:=A) (g:=g) lo λp hp=>h p (by simp [hp])
    have hh:=λs=>hiSem_congr (A:=A) (g:=g) (s:=s) hi λp hp=>h p (by simp [hp])
    simp only [hx,hl,hh]
  | call c=>
    obtain ⟨callee,args,ts⟩:=c
    simp only [ho,Op.operands,Call.operands] at h ⊢
    cases callee with
    | value f=>
      have hf:=h f (by simp)
      have ha:=λ(caps:List DV) (bo:List (Nat × Nat)) (f:FuncId)=>callSem_congr (A:=A) (EX:=EX) (g:=g) (L:=L) (f:=f) (args:=args.toList) (caps:=caps) (bo:=bo) λp hp=>h p (by simp;exact .inr (by simpa using hp))
      have hb:=λ(caps:List DV) (f:FuncId)=>inlSem_congr (A:=A) (g:=g) (f:=f) (args:=args.toList) (caps:=caps) λp hp=>h p (by simp;exact .inr (by simpa using hp))
      simp only [hf,ha,hb]
    | builtin b=>
      obtain ⟨l⟩:=args
      have ha:∀ x,x∈l -> ρ x = ρ' x:=λp hp=>h p (by simpa using hp)
      clear h ho
      cases b with
      | len => rcases l with _ | ⟨x, _ | ⟨y, l⟩⟩ <;> first | rfl | skip
               have hx:=ha x (by simp)
               split
               all_goals rename_i e
               all_goals first | (cases e;generalize ts[0]? = q;cases q<;>first|rfl | (simp only [hx];done)) | (exfalso;simp_all;done)|simp_all
      | clear => rcases l with _ | ⟨x, _ | ⟨y, l⟩⟩ <;> first | rfl | skip
                 have hx:=ha x (by simp)
                 split
                 all_goals rename_i e
                 all_goals first | (cases e;generalize ts[0]? = q;cases q<;>first|rfl | (simp only [hx];done)) | (exfalso;simp_all;done)|simp_all
      | append => rcases l with _ | ⟨x, _ | ⟨y, _ | ⟨z, l⟩⟩⟩ <;> first | rfl | skip
                  have hx:=ha x (by simp)
                  have hy:=ha y (by simp)
                  split
                  all_goals rename_i e
                  all_goals first | (cases e;generalize ts[0]? = q;generalize ts[1]? = q';cases q<;>cases q'<;>first|rfl | (simp only [hx,hy];done)) | (exfalso;simp_all;done)|simp_all
      | copy => rcases l with _ | ⟨x, _ | ⟨y, _ | ⟨z, l⟩⟩⟩ <;> first | rfl | skip
                have hx:=ha x (by simp)
                have hy:=ha y (by simp)
                split
                all_goals rename_i e
                all_goals first | (cases e;generalize ts[0]? = q;generalize ts[1]? = q';cases q<;>cases q'<;>first|rfl | (simp only [hx,hy];done)) | (exfalso;simp_all;done)|simp_all
      | min => rcases l with _ | ⟨x, _ | ⟨y, _ | ⟨z, l⟩⟩⟩ <;> first | rfl | skip
               have hx:=ha x (by simp)
               have hy:=ha y (by simp)
               simp only [hx,hy]
      | max => rcases l with _ | ⟨x, _ | ⟨y, _ | ⟨z, l⟩⟩⟩ <;> first | rfl | skip
               have hx:=ha x (by simp)
               have hy:=ha y (by simp)
               simp only [hx,hy]
      | _=>rfl
    | invoke r m=>rfl
  | pick c x y=>
    simp only [ho,Op.operands] at h ⊢
    have h1:=h c (by simp)
    have h2:=h x (by simp)
    have h3:=h y (by simp)
    simp only [h1,h2,h3]
  | unOp u t x=>
    simp only [ho,Op.operands] at h ⊢
    have h1:=h x (by simp)
    cases u<;>simp only [h1]
  | move x|assign x|box t x|load t x|nilCheck x|convert s t x|fieldAddr t x f|field t x f|extract x i=>
    simp only [ho,Op.operands] at h ⊢
    have h1:=h x (by simp)
    simp only [h1]
  | store t x y|binOp b t x y u|makeSlice t x y|indexAddr t x y=>
    simp only [ho,Op.operands] at h ⊢
    have h1:=h x (by simp)
    have h2:=h y (by simp)
    simp only [h1,h2]
  | _=>rfl
end
section
variable (A:Ar) (T:TypeId->Option TI) (EX:FuncId->List Nat × Bool) (M:Ms)
def OpOut.wp (o:OpOut) (g:Bool) (σ:Nat->Nat × HO) (K:AV->List (Nat × Nat × HO)->List Nat->Prop):Prop:=
  match o with
  | .val x us=>K x us []
  | .call f args ret=>A.hold λ_=>∃ out,(g=true->M.m f args out)/\(ret out).wp σ λr lk=>K r.1 r.2 lk
  | .inl f avs=>A.hold λ_=>∃ x kn us,(g=true->M.i f avs kn x us)/\okI σ avs kn x us/\K x us (kn.map (·.1)++us.map (·.1))
def guardv (ops:Array Oper) (sl:List (Nat × AV)) (o:Oper):G Bool:=
  match o.guard with
  | none=>.ret true
  | some (j,want)=>match (ops[j]?).bind (·.dst) with
    | some d=>match i5 sl d with
      | .gd t (.c (.d (.v (.bool b))))=>.ret (A.band t (bif want then b else A.bnot b))
      | .c (.d (.v (.bool b)))=>.ret (bif want then b else A.bnot b)
      | _=>.fail
    | none=>.fail
def wrapG (o:Oper) (g:Bool) (x:AV):AV:=match o.guard with|none=>x|some _=>.gd g x
def usOk (o:Oper) (g:Bool) (us:List (Nat × Nat × HO)):Bool:=match o.guard with|none=>true|some _=>bif g then true else us.isEmpty
def gsp (o:Oper) (g:Bool) (us:List (Nat × Nat × HO)) (K:List (Nat × Nat × HO)->Prop):Prop:=match o.guard with
  | none=>K us
  | some _=>match us with
    | []=>K []
    | _::_=>A.br g (K us) (K [])
def Oper.pre (o:Oper):List Nat:=(o.after.toList.filter λe=>Region.binds .any e).map (·.on)
def dstOk (nt:Nat) (d:Option Nat):Bool:=match d with|some k=>nblt k nt|none=>true
def awpOps (nt:Nat) (draw:Bool) (ops:Array Oper) (Q:St->Prop):List Oper->List Rec->St->Prop
  | [],rs,σ=>bif draw then A.ind rs.reverse/\Q σ else Q σ
  | o::rest,rs,σ=>(guardv A ops σ.slots o).wp σ.o λg _=>
      (t6 A T EX o g (rho σ.slots)).wp σ.o λout lk=>
        out.wp A M g σ.o λx us lk'=>dstOk nt o.dst=true/\u9 us=true /\
          gsp A o g us λus=>awpOps nt draw ops Q rest (⟨o.dst,Oper.pre o,o.looksAt ops,lk++lk',us.map (·.1)⟩::rs) (σ.put o.dst (wrapG o g x) us)
inductive AE where
  | normal
  | exit (id:Nat)
  | ret
def smallL (l:Nat):Bool:=bif nblt l 3000 then true else bif nblt l 8000 then false else nblt l 9000
def FrOk (fr:Bool) (S:Sets):Prop:=(fr=false->S.free=false)/\(S.free=true->∀ p,p∈S.kp->smallL p.1=true)
def CovG (fr:Bool) (nt:Nat) (σ τ:St):Prop:=∀ (w0:World) (S:Sets) (a:Act) (w:World),FrOk fr S->Rel w0 S nt (i5 σ.slots) σ.o a w->Rel w0 S nt (i5 τ.slots) τ.o a w
def Cov (nt:Nat) (σ τ:St):Prop:=CovG false nt σ τ
def LoopG (fr:Bool) (nt:Nat) (body:(AE->St->Prop)->St->Prop) (Q:AE->St->Prop) (σ:St):Prop:=
  ∃ (α:Type) (st : α->St) (m : α->Nat),(∃ x,CovG fr nt σ (st x))/\∀ x,body (λe τ=>match e with
    | .normal=>∃ y,m y<m x/\CovG fr nt τ (st y)
    | e=>Q e τ) (st x)
def LoopA (nt:Nat) (body:(AE->St->Prop)->St->Prop) (Q:AE->St->Prop) (σ:St):Prop:=LoopG false nt body Q σ
def awp (nt:Nat) (H:List Nat):Code->(AE->St->Prop)->St->Prop
  | .skip,Q,σ=>Q .normal σ
  | .region id ops draw,Q,σ=>bif memN H id then A.hold λ_=>∃ τ,CovG (memN H 999) nt σ τ/\awpOps A T EX M nt draw ops (Q .normal) ops.toList [] τ
      else awpOps A T EX M nt draw ops (Q .normal) ops.toList [] σ
  | .seq a b,Q,σ=>awp nt H a (λe τ=>match e with | .normal=>awp nt H b Q τ|e=>Q e τ) σ
  | .cond c t f,Q,σ=>(boolv A true (rho σ.slots c)).wp σ.o λb _=>A.br b (awp nt H t Q σ) (awp nt H f Q σ)
  | .block id c,Q,σ=>awp nt H c (λe τ=>match e with | .exit j=>bif nbeq j id then Q .normal τ else Q (.exit j) τ|e=>Q e τ) σ
  | .loop c,Q,σ=>A.hold λ_=>LoopG (memN H 999) nt (λQ' τ=>awp nt H c Q' τ) Q σ
  | .exit id,Q,σ=>Q (.exit id) σ
  | .ret,Q,σ=>Q .ret σ
  | _,_,_=>False
end
structure Ev where
  o:Oper
  g:Bool
  x:AV
  us:List (Nat × Nat × HO)
  lk:List Nat
def Ev.rc (ops:Array Oper) (e:Ev):Rec:=⟨e.o.dst,Oper.pre e.o,e.o.looksAt ops,e.lk,e.us.map (·.1)⟩
def Ev.put (e:Ev) (σ:St):St := σ.put e.o.dst (wrapG e.o e.g e.x) e.us
section
variable (P:Program) (T:TypeId->Option TI) (EX:FuncId->List Nat × Bool) (nt:Nat) (ops:Array Oper)
def Good (e:Ev) (σ:St):Prop:=
  dstOk nt e.o.dst=true/\usOk e.o e.g e.us=true/\u9 e.us=true/\guardv real ops σ.slots e.o=.ret e.g /\
  (e.g=true->∀ σ':p9,(∀ l,l∈e.lk -> σ' l = σ.o l)->(t6 real T EX e.o true (rho σ.slots)).run σ' (OpOut.run (d4 P) σ' λx us=>x=e.x/\us=e.us))
def chain:List Ev->St->Prop
  | [],_=>True
  | e::r,σ=>Good P T EX nt ops e σ/\chain r (e.put σ)
end
def puts:List Ev->St->St
  | [],σ => σ
  | e::r,σ=>puts r (e.put σ)
section
variable {P:Program} {T:TypeId->Option TI} {EX:FuncId->List Nat × Bool} {nt:Nat} {ops:Array Oper}
theorem guardv_ret {sl:List (Nat × AV)} {o:Oper} {σ:p9} {Q:Bool->List Nat->Prop} (h:(guardv real ops sl o).wp σ Q):∃ g,guardv real ops sl o=.ret g/\Q g []:=by
  unfold guardv at *
  split at h
  · exact ⟨_,rfl,h⟩
  · split at h
    · split at h
      · exact ⟨_,rfl,h⟩
      · exact ⟨_,rfl,h⟩
      · exact h.elim
    · exact h.elim
theorem gsp_real {o:Oper} {g:Bool} {us:List (Nat × Nat × HO)} {K:List (Nat × Nat × HO)->Prop} (hn:u9 us=true) (h:gsp real o g us K) :
    ∃ us',usOk o g us'=true/\u9 us'=true/\(g=true->us'=us)/\K us'/\∀ K':List (Nat × Nat × HO)->Prop,K' us'->gsp real o g us K':=by
  unfold gsp at *
  unfold usOk
  cases hg:o.guard with
  | none=>simp only [hg] at h;exact ⟨us,rfl,hn,λ_=>rfl,h,λK' h=>h⟩
  | some q=>
    simp only [hg] at h
    cases us with
    | nil=>exact ⟨[],by cases g<;>rfl,rfl,λ_=>rfl,h,λK' h=>h⟩
    | cons p r=>
      cases g with
      | true=>exact ⟨p::r,rfl,hn,λ_=>rfl,h.1 rfl,λK' h=>⟨λ_=>h,λe=>Bool.noConfusion e⟩⟩
      | false=>exact ⟨[],rfl,rfl,λe=>Bool.noConfusion e,h.2 rfl,λK' h=>⟨λe=>Bool.noConfusion e,λ_=>h⟩⟩
theorem awp_chain {draw:Bool} {Q:St->Prop}:∀ (l:List Oper) (rs:List Rec) (σ:St),awpOps real T EX (d4 P) nt draw ops Q l rs σ ->
    ∃ evs:List Ev,evs.map (·.o)=l/\chain P T EX nt ops evs σ/\(draw=true->indep (rs.reverse++evs.map (Ev.rc ops))=true)/\Q (puts evs σ):=by
  intro l
  induction l with
  | nil=>
    intro rs σ h
    refine ⟨[],rfl,trivial,?_⟩
    cases draw with
    | false=>exact ⟨λh=>(by cases h),h⟩
    | true=>exact ⟨λ_=>by rw [List.map_nil,List.append_nil];exact h.1,h.2⟩
  | cons o r ih=>
    intro rs σ h
    obtain ⟨g,hg,h⟩:=guardv_ret h
    obtain ⟨out,lk,h,hrun⟩:=G.wp_det h
    have key:∃ x us lk',(dstOk nt o.dst=true/\u9 us=true /\
          gsp real o g us λus=>awpOps real T EX (d4 P) nt draw ops Q r (⟨o.dst,Oper.pre o,o.looksAt ops,lk++lk',us.map (·.1)⟩::rs) (σ.put o.dst (wrapG o g x) us)) /\
        (g=true->∀ σ':p9,(∀ l,l∈lk++lk' -> σ' l = σ.o l)->OpOut.run (d4 P) σ' (λx' us'=>x'=x/\us'=us) out):=by
      cases out with
      | val x us=>exact ⟨x,us,[],h,λ_ _ _=>⟨rfl,rfl⟩⟩
      | inl f avs=>
        obtain ⟨x,kn,us,hM,hok,h⟩:∃ x kn us,(g=true->MeetsO P f avs kn x us)/\okI σ.o avs kn x us/\_:=h
        refine ⟨x,us,kn.map (·.1)++us.map (·.1),h,λhg σ' hl=>⟨x,kn,us,hM hg,?_,rfl,rfl⟩⟩
        obtain ⟨o1,o2,o3,o4,o5,o6⟩:=hok
        refine ⟨o1,o2,?_,o4,?_,o6⟩
        · have hl':∀ l,l∈kn.map (·.1) -> σ' l = σ.o l:=λl hm=>hl l (by simp only [List.mem_append];exact .inr (.inl hm))
          clear hl h o1 o4 o5 o6 hM
          induction kn with
          | nil=>trivial
          | cons p r ih=>obtain ⟨j,y⟩:=p;exact ⟨by rw [hl' j (by simp)];exact o3.1,ih o3.2 λl hm=>hl' l (by simp [hm])⟩
        · have hl':∀ l,l∈us.map (·.1) -> σ' l = σ.o l:=λl hm=>hl l (by simp only [List.mem_append];exact .inr (.inr hm))
          clear hl h o1 o2 o3 o4 o6 hM
          induction us with
          | nil=>trivial
          | cons p r ih=>obtain ⟨j,y⟩:=p;exact ⟨by rw [hl' j (by simp)];exact o5.1,by rw [hl' j (by simp)];exact o5.2.1,ih o5.2.2 λl hm=>hl' l (by simp [hm])⟩
      | call f args ret=>
        obtain ⟨out,hM,h⟩:∃ out,(g=true->d7 P f args out)/\_:=h
        obtain ⟨q,lk',h,hrun'⟩:=G.wp_det h
        exact ⟨q.1,q.2,lk',h,λhg σ' hl=>⟨out,hM hg,hrun' σ' (λl hm=>hl l (by simp [hm])) _ ⟨rfl,rfl⟩⟩⟩
    obtain ⟨x,us0,lk',⟨h1,h3,h4⟩,h5⟩:=key
    obtain ⟨us,h2,h3,hu,h4,-⟩:=gsp_real h3 h4
    obtain ⟨evs,e1,e2,e3,e4⟩:=ih _ _ h4
    refine ⟨⟨o,g,x,us,lk++lk'⟩::evs,by simp [e1],⟨⟨h1,h2,h3,hg,λhgt σ' hl => ?_⟩,e2⟩,λhd => ?_,e4⟩
    · have hgt':g=true:=hgt
      subst hgt'
      cases hu rfl
      exact hrun σ' (λl hm=>hl l (by simp [hm])) _ (h5 rfl σ' hl)
    · have:=e3 hd
      simpa [Ev.rc] using this
theorem Region.wanted_of {σ:p9} {sl:List (Nat × AV)} {w0:World} {S:Sets} {a:Act} {w:World} {μ:Place} {o:Oper} {g:Bool}
    (R:RelM w0 S nt (i5 sl) σ a w μ) (h:guardv real ops sl o=.ret g) (hb:∀ j want d,o.guard=some (j,want)->(ops[j]?).bind (·.dst)=some d->d<nt) :
    Region.wanted o (yielded ops a.tmps)=g:=by
  unfold guardv at h
  unfold Region.wanted
  cases ho:o.guard with
  | none=>simp only [ho] at h;cases h;rfl
  | some q=>
    obtain ⟨j,want⟩:=q
    simp only [ho] at h ⊢
    unfold yielded
    cases hd:(ops[j]?).bind (·.dst) with
    | none=>simp only [hd] at h;cases h
    | some d=>
      simp only [hd] at h ⊢
      have hs:=R.slots d
      have hlt:d<a.tmps.size:=by rw [R.size];exact hb j want d ho hd
      have he:a.tmps[d]? = some (a.tmps.getD d undef):=by simp [hlt]
      simp only [Option.bind_some,he]
      generalize a.tmps.getD d undef=v at hs
      split at h
      · rename_i t b hq
        rw [hq] at hs
        cases h
        cases t with
        | true=>
          have:=hs.1 rfl
          cases this
          cases b<;>cases want<;>rfl
        | false=>
          have:=hs.2 rfl
          subst this
          rfl
      · rename_i b hq
        rw [hq] at hs
        cases h
        cases hs
        cases b<;>cases want<;>rfl
      · cases h
theorem ev_step (hT:TTok P T) {Q:Exit->Act->World->Prop} {K:Act->World->Prop} {w0:World} {S:Sets} {a:Act} {w:World} {μ:Place} {σ τ:St} {e:Ev} {j:Nat}
    (hj:ops[j]? = some e.o) (hb:∀ j want d,e.o.guard=some (j,want)->(ops[j]?).bind (·.dst)=some d->d<nt)
    (hg:Good P T EX nt ops e σ) (R:RelM w0 S nt (i5 τ.slots) τ.o a w μ) (hs:∀ k,k∈e.o.looksAt ops->i5 τ.slots k=i5 σ.slots k) (ho:∀ l,l∈e.lk -> τ.o l = σ.o l)
    (hn:∀ a' w',Rel w0 S nt (putS (i5 τ.slots) e.o.dst (wrapG e.o e.g e.x)) (putO τ.o e.us) a' w'->K a' w'):wpOp P ops Q j K a w:=by
  obtain ⟨h1,h2,h3,h4,h5⟩:=hg
  have hd:∀ d,e.o.dst=some d->d<nt:=λd hd=>by
    unfold dstOk at h1
    rw [hd] at h1
    exact of_decide_eq_true (by simpa using h1)
  have h4':guardv real ops τ.slots e.o=.ret e.g:=by
    rw [<- h4]
    unfold guardv
    cases hgu:e.o.guard with
    | none=>rfl
    | some q=>
      obtain ⟨i,want⟩:=q
      simp only
      cases hd:(ops[i]?).bind (·.dst) with
      | none=>rfl
      | some d=>
        have:=hs d (by unfold Oper.looksAt;simp only [hgu,hd];simp)
        simp only [this]
  unfold wpOp
  simp only [hj]
  rw [Region.wanted_of R h4' hb]
  cases hgt:e.g with
  | false=>
    simp only [Bool.false_eq_true,if_false]
    rw [hgt] at h4 hn
    cases hgu:e.o.guard with
    | none=>unfold guardv at h4;simp only [hgu] at h4;cases h4
    | some q=>
      have hu:e.us=[]:=by unfold usOk at h2;rw [hgu,hgt] at h2;simpa using h2
      apply hn
      rw [hu]
      unfold wrapG
      rw [hgu]
      have hx:ARep τ.o μ w (Nof S τ.o μ w) (.gd false e.x) undef:=⟨λh=>Bool.noConfusion h,λ_=>rfl⟩
      exact ⟨μ,R.put hd hx⟩
  | true=>
    simp only [if_true]
    left
    have hc:t6 real T EX e.o true (rho τ.slots)=t6 real T EX e.o true (rho σ.slots):=semOp_congr _ λx hx=>by
      cases x with
      | tmp t=>exact hs t (by unfold Oper.looksAt;exact List.mem_append_left _ (List.mem_filterMap.2 ⟨.tmp t,by simpa using hx,rfl⟩))
      | _=>rfl
    have:=h5 hgt τ.o ho
    rw [<- hc] at this
    refine op_sound hT R hd ?_ this K Q ?_
    · rintro x us ⟨-,rfl⟩;exact h3
    · rintro a' w' ⟨x,us,⟨rfl,rfl⟩,μ',R'⟩
      apply hn
      rw [hgt]
      unfold wrapG
      cases hgu:e.o.guard with
      | none=>exact ⟨μ',R'⟩
      | some q=>
        refine ⟨μ',R'.size,R'.defs,R'.env,R'.grow,R'.reach,R'.frame,R'.shape,R'.ownH,R'.injH,R'.kz,R'.ghost,R'.ghl,R'.keep,R'.objs,λk => ?_⟩
        have:=R'.slots k
        unfold putS at this ⊢
        split
        · rename_i hk;simp only [hk,if_true] at this;exact ⟨λ_=>this,λh=>by cases h⟩
        · rename_i hk;simpa only [hk,if_false] using this
def some' (E:Nat->Bool):Nat->List Ev->St->St
  | _,[],σ => σ
  | i,e::r,σ=>some' E (i+1) r (bif E i then e.put σ else σ)
theorem puts_some:∀ (evs:List Ev) (i:Nat) (σ:St) (E:Nat->Bool),(∀ m,m<evs.length->E (i+m)=true)->some' E i evs σ=puts evs σ
  | [],_,_,_,_=>rfl
  | e::r,i,σ,E,h=>by
    have h0:E i=true:=h 0 (by simp)
    simp only [some',puts,h0,cond_true]
    exact puts_some r (i+1) _ E λm hm=>by rw [Nat.add_assoc,Nat.add_comm 1 m];exact h (m+1) (by simpa using hm)
theorem Ev.put_s (e:Ev) (σ:St):i5 (e.put σ).slots=putS (i5 σ.slots) e.o.dst (wrapG e.o e.g e.x):=by
  unfold Ev.put St.put
  exact lookS_put _ _ _
theorem Ev.put_o (e:Ev) (σ:St):(e.put σ).o=putO σ.o e.us:=by
  funext l
  unfold Ev.put St.put St.o
  rw [lookO_put]
theorem putO_in {σ τ:p9} {l:Nat}:∀ {us:List (Nat × Nat × HO)},(l∉us.map (·.1) -> σ l = τ l)->putO σ us l=putO τ us l
  | [],h=>h (by simp)
  | (j,x)::r,h=>by
    simp only [putO,updO]
    split
    · rfl
    · rename_i hl
      exact putO_in λhr=>h (by simpa using ⟨hl,by simpa using hr⟩)
theorem putO_off {σ:p9} {l:Nat}:∀ {us:List (Nat × Nat × HO)},l∉us.map (·.1)->putO σ us l = σ l
  | [],_=>rfl
  | (j,x)::r,h=>by
    have h1:l≠j:=λe=>h (by simp [e])
    simp only [putO,updO,h1,if_false]
    exact putO_off λhr=>h (by simp only [List.map_cons,List.mem_cons];exact .inr hr)
theorem some_s {k:Nat}:∀ (evs:List Ev) (i:Nat) (σ τ:St) (E F:Nat->Bool),i5 σ.slots k=i5 τ.slots k ->
    (∀ m e,evs[m]? = some e->e.o.dst=some k->E (i+m)=F (i+m))->i5 (some' E i evs σ).slots k=i5 (some' F i evs τ).slots k
  | [],_,_,_,_,_,h,_=>h
  | e::r,i,σ,τ,E,F,h,hm=>by
    simp only [some']
    refine some_s r (i+1) _ _ E F ?_ λm e' he hd=>by rw [Nat.add_assoc,Nat.add_comm 1 m];exact hm (m+1) e' (by simpa using he) hd
    by_cases hd:e.o.dst=some k
    · have h0:E i=F i:=hm 0 e (by simp) hd
      rw [h0]
      cases F i with
      | false=>exact h
      | true=>simp only [cond_true,Ev.put_s,putS,hd,if_true]
    · have hp:∀ σ:St,i5 (e.put σ).slots k=i5 σ.slots k:=λσ=>by rw [Ev.put_s];simp only [putS,hd,if_false]
      cases E i<;>cases F i<;>simp only [cond_true,cond_false,hp,h]
theorem some_o {l:Nat}:∀ (evs:List Ev) (i:Nat) (σ τ:St) (E F:Nat->Bool),σ.o l = τ.o l ->
    (∀ m e,evs[m]? = some e->l∈e.us.map (·.1)->E (i+m)=F (i+m))->(some' E i evs σ).o l=(some' F i evs τ).o l
  | [],_,_,_,_,_,h,_=>h
  | e::r,i,σ,τ,E,F,h,hm=>by
    simp only [some']
    refine some_o r (i+1) _ _ E F ?_ λm e' he hd=>by rw [Nat.add_assoc,Nat.add_comm 1 m];exact hm (m+1) e' (by simpa using he) hd
    by_cases hd:l∈e.us.map (·.1)
    · have h0:E i=F i:=hm 0 e (by simp) hd
      rw [h0]
      cases F i with
      | false=>exact h
      | true=>simp only [cond_true,Ev.put_o];exact putO_in λhn=>absurd hd hn
    · have hp:∀ σ:St,(e.put σ).o l = σ.o l:=λσ=>by rw [Ev.put_o];exact putO_off hd
      cases E i<;>cases F i<;>simp only [cond_true,cond_false,hp,h]
theorem push_s {d:Option Nat} {x:AV}:∀ (evs:List Ev) (i:Nat) (σ τ:St) (E:Nat->Bool),i5 τ.slots=putS (i5 σ.slots) d x ->
    (∀ m e k,evs[m]? = some e->E (i+m)=true->d=some k->e.o.dst≠some k)->i5 (some' E i evs τ).slots=putS (i5 (some' E i evs σ).slots) d x
  | [],_,_,_,_,h,_=>h
  | e::r,i,σ,τ,E,h,hm=>by
    simp only [some']
    refine push_s r (i+1) _ _ E ?_ λm e' k he hE hd=>hm (m+1) e' k (by simpa using he) (by rw [<- hE,Nat.add_assoc,Nat.add_comm 1 m]) hd
    cases hE:E i with
    | false=>exact h
    | true=>
      have h0:=hm 0 e
      simp only [cond_true,Ev.put_s,h]
      funext k
      unfold putS
      by_cases h1:e.o.dst=some k
      · have:d≠some k:=λhd=>h0 k (by simp) hE hd h1
        simp [h1,this]
      · simp [h1]
theorem push_o {us:List (Nat × Nat × HO)}:∀ (evs:List Ev) (i:Nat) (σ τ:St) (E:Nat->Bool),τ.o=putO σ.o us ->
    (∀ m e l,evs[m]? = some e->E (i+m)=true->l∈us.map (·.1)->l∉e.us.map (·.1))->(some' E i evs τ).o=putO (some' E i evs σ).o us
  | [],_,_,_,_,h,_=>h
  | e::r,i,σ,τ,E,h,hm=>by
    simp only [some']
    refine push_o r (i+1) _ _ E ?_ λm e' k he hE hd=>hm (m+1) e' k (by simpa using he) (by rw [<- hE,Nat.add_assoc,Nat.add_comm 1 m]) hd
    cases hE:E i with
    | false=>exact h
    | true=>
      have h0:=hm 0 e
      simp only [cond_true,Ev.put_o,h]
      funext l
      by_cases h1:l∈us.map (·.1)
      · have h2:=h0 l (by simp) hE h1
        rw [putO_off h2]
        exact putO_in λhn=>absurd h1 hn
      · rw [putO_off (σ:=putO σ.o e.us) h1]
        exact putO_in λ_=>putO_off h1
theorem more_s {e:Ev}:∀ (evs:List Ev) (i j:Nat) (σ:St) (E:Nat->Bool),evs[j]? = some e->E (i+j)=false ->
    (∀ m e' k,evs[m]? = some e'->E (i+m)=true->j<m->e.o.dst=some k->e'.o.dst≠some k) ->
    i5 (some' (λn=>n==i+j||E n) i evs σ).slots=putS (i5 (some' E i evs σ).slots) e.o.dst (wrapG e.o e.g e.x)
  | [],_,_,_,_,h,_,_=>by simp at h
  | e0::r,i,0,σ,E,h,hE,hm=>by
    simp only [List.getElem?_cons_zero,Option.some.injEq] at h
    subst h
    have hE':E i=false:=hE
    have hr:∀ (σ:St),some' (λn=>n==i+0||E n) (i+1) r σ=some' E (i+1) r σ:=λσ=>by
      have:∀ (r:List Ev) (k:Nat) (σ:St),i<k->some' (λn=>n==i+0||E n) k r σ=some' E k r σ:=by
        intro r
        induction r with
        | nil=>intro k σ _;rfl
        | cons e r ih => intro k σ hk; simp only [some']; rw [ih _ _ (by omega)]; have : (k == i + 0) = false := by simp; omega
                         rw [this];rfl
      exact this r _ σ (by omega)
    simp only [some',hE',cond_false]
    rw [hr]
    simp only [Nat.add_zero,BEq.rfl,Bool.true_or,cond_true]
    exact push_s r (i+1) _ _ E (Ev.put_s _ _) λm e' k he hEm hd=>hm (m+1) e' k (by simpa using he) (by rw [<- hEm,Nat.add_assoc,Nat.add_comm 1 m]) (by omega) hd
  | e0::r,i,j+1,σ,E,h,hE,hm=>by
    have h':r[j]? = some e:=by simpa using h
    simp only [some']
    have e1:(i==i+(j+1))=false:=by simp
    rw [e1,Bool.false_or]
    have e2:i+(j+1)=i+1+j:=by omega
    rw [e2]
    exact more_s r (i+1) j _ E h' (by rw [<- e2];exact hE) λm e' k he hEm hj hd=>hm (m+1) e' k (by simpa using he) (by rw [<- hEm,Nat.add_assoc,Nat.add_comm 1 m]) (by omega) hd
theorem more_o {e:Ev}:∀ (evs:List Ev) (i j:Nat) (σ:St) (E:Nat->Bool),evs[j]? = some e->E (i+j)=false ->
    (∀ m e' l,evs[m]? = some e'->E (i+m)=true->j<m->l∈e.us.map (·.1)->l∉e'.us.map (·.1)) ->
    (some' (λn=>n==i+j||E n) i evs σ).o=putO (some' E i evs σ).o e.us
  | [],_,_,_,_,h,_,_=>by simp at h
  | e0::r,i,0,σ,E,h,hE,hm=>by
    simp only [List.getElem?_cons_zero,Option.some.injEq] at h
    subst h
    have hE':E i=false:=hE
    have hr:∀ (σ:St),some' (λn=>n==i+0||E n) (i+1) r σ=some' E (i+1) r σ:=λσ=>by
      have:∀ (r:List Ev) (k:Nat) (σ:St),i<k->some' (λn=>n==i+0||E n) k r σ=some' E k r σ:=by
        intro r
        induction r with
        | nil=>intro k σ _;rfl
        | cons e r ih => intro k σ hk; simp only [some']; rw [ih _ _ (by omega)]; have : (k == i + 0) = false := by simp; omega
                         rw [this];rfl
      exact this r _ σ (by omega)
    simp only [some',hE',cond_false]
    rw [hr]
    simp only [Nat.add_zero,BEq.rfl,Bool.true_or,cond_true]
    exact push_o r (i+1) _ _ E (Ev.put_o _ _) λm e' k he hEm hd=>hm (m+1) e' k (by simpa using he) (by rw [<- hEm,Nat.add_assoc,Nat.add_comm 1 m]) (by omega) hd
  | e0::r,i,j+1,σ,E,h,hE,hm=>by
    have h':r[j]? = some e:=by simpa using h
    simp only [some']
    have e1:(i==i+(j+1))=false:=by simp
    rw [e1,Bool.false_or]
    have e2:i+(j+1)=i+1+j:=by omega
    rw [e2]
    exact more_o r (i+1) j _ E h' (by rw [<- e2];exact hE) λm e' k he hEm hj hd=>hm (m+1) e' k (by simpa using he) (by rw [<- hEm,Nat.add_assoc,Nat.add_comm 1 m]) (by omega) hd
end
theorem memN_spec:∀ {l:List Nat} {k:Nat},memN l k=false->k∉l
  | [],_,_=>by simp
  | j::r,k,h=>by
    unfold memN at h
    cases hj:nbeq j k with
    | true=>simp [hj] at h
    | false=>
      simp only [hj,cond_false] at h
      have h1:=memN_spec h
      have h2:k≠j:=λe=>by subst e;simp at hj
      simp [h1,h2]
theorem apartN_spec:∀ {l m:List Nat},apartN l m=true->∀ k,k∈l->k∉m
  | [],_,_,k,hk=>by simp at hk
  | j::r,m,h,k,hk=>by
    unfold apartN at h
    cases hj:memN m j with
    | true=>simp [hj] at h
    | false=>
      simp only [hj,cond_false] at h
      rcases List.mem_cons.1 hk with rfl|hk
      · exact memN_spec hj
      · exact apartN_spec h k hk
theorem offN_spec {d:Option Nat} {l:List Nat} (h:offN d l=true) {k:Nat} (hd:d=some k):k∉l:=by
  subst hd
  exact memN_spec (by simpa [offN] using h)
theorem offD_spec {d e:Option Nat} (h:offD d e=true) {k:Nat} (hd:d=some k):e≠some k:=by
  subst hd
  cases e with
  | none=>simp
  | some j=>intro e;cases e;simp [offD] at h
theorem apartR_spec {x y:Rec} (h:apartR x y=true):(∀ k,x.dst=some k->k∉y.sl)/\(∀ k,y.dst=some k->k∉x.sl)/\(∀ k,x.dst=some k->y.dst≠some k) /\
    (∀ l,l∈x.us->l∉y.lk)/\(∀ l,l∈y.us->l∉x.lk)/\(∀ l,l∈x.us->l∉y.us):=by
  simp only [apartR,Bool.and_eq_true] at h
  obtain ⟨h1,h2,h3,h4,h5,h6⟩:=h
  exact ⟨λk hd=>offN_spec h1 hd,λk hd=>offN_spec h2 hd,λk hd=>offD_spec h3 hd,apartN_spec h4,apartN_spec h5,apartN_spec h6⟩
theorem preB_spec:∀ {rs:List Rec} {i:Nat},preB i rs=true->∀ (m:Nat) (r:Rec),rs[m]? = some r->∀ p,p∈r.pre->p<i+m
  | [],_,_,m,r,h,_,_=>by simp at h
  | r0::rs,i,h,0,r,hr,p,hp=>by
    simp only [List.getElem?_cons_zero,Option.some.injEq] at hr
    subst hr
    simp only [preB,Bool.and_eq_true,List.all_eq_true] at h
    have:=h.1 p hp
    simpa [nblt_eq] using this
  | r0::rs,i,h,m+1,r,hr,p,hp=>by
    simp only [preB,Bool.and_eq_true] at h
    have:=preB_spec h.2 m r (by simpa using hr) p hp
    omega
theorem pairsB_spec:∀ {rs:List Rec} {an:List Nat} {i:Nat},pairsB i rs an=true->∀ (m k:Nat) (x y:Rec) (b:Nat),m<k->rs[m]? = some x->rs[k]? = some y->an[k]? = some b ->
    b.testBit (i+m)=true\/apartR x y=true
  | [],_,_,_,m,k,x,y,b,_,h,_,_=>by simp at h
  | _::_,[],_,_,m,k,x,y,b,_,_,_,h=>by simp at h
  | r::rs,_::an,i,h,0,k+1,x,y,b,_,hx,hy,hb=>by
    simp only [List.getElem?_cons_zero,Option.some.injEq] at hx
    subst hx
    simp only [pairsB,Bool.and_eq_true,List.all_eq_true] at h
    have:=h.1 (y,b) (by
      apply List.mem_of_getElem? (i:=k)
      simp only [List.getElem?_cons_succ] at hy hb
      rw [List.getElem?_zip_eq_some]
      exact ⟨hy,hb⟩)
    simpa [Bool.or_eq_true] using this
  | r::rs,_::an,i,h,m+1,k+1,x,y,b,hm,hx,hy,hb=>by
    simp only [pairsB,Bool.and_eq_true] at h
    have:=pairsB_spec h.2 m k x y b (by omega) (by simpa using hx) (by simpa using hy) (by simpa using hb)
    rw [show i+(m+1)=i+1+m by omega]
    exact this
theorem orAll_spec {an:List Nat} {j:Nat}:∀ {l:List Nat},(orAll an l).testBit j=true->∃ p,p∈l/\(j=p\/(an.getD p 0).testBit j=true)
  | [],h=>by simp [orAll] at h
  | p::r,h=>by
    simp only [orAll,Nat.testBit_or,Bool.or_eq_true] at h
    rcases h with (h|h)|h
    · exact ⟨p,by simp,.inr h⟩
    · refine ⟨p,by simp,.inl ?_⟩
      rw [Nat.one_shiftLeft,Nat.testBit_two_pow] at h
      exact (of_decide_eq_true h).symm
    · obtain ⟨q,hq,h⟩:=orAll_spec h
      exact ⟨q,by simp [hq],h⟩
def InvA (E:Nat->Bool) (all:List Rec) (an:List Nat):Prop:=
  ∀ (i b:Nat) (r:Rec),an[i]? = some b->all[i]? = some r->(∀ p,p∈r.pre->E p=true)->∀ j,b.testBit j=true->E j=true
theorem ancs_spec {E:Nat->Bool} {all:List Rec} (hc:∀ (i:Nat) (r:Rec),all[i]? = some r->E i=true->∀ p,p∈r.pre->E p=true) :
    ∀ (rs pre:List Rec) (an:List Nat),all=pre++rs->an.length=pre.length->InvA E all an->InvA E all (ancs rs an)/\(ancs rs an).length=all.length
  | [],pre,an,ha,hl,hi=>⟨hi,by rw [ha];simpa [ancs] using hl⟩
  | r::rs,pre,an,ha,hl,hi=>by
    refine ancs_spec hc rs (pre ++ [r]) (an ++ [orAll an r.pre]) (by simp [ha]) (by simp [hl]) ?_
    intro i b r' hb hr' hp j hj
    by_cases hlt:i<an.length
    · exact hi i b r' (by rwa [List.getElem?_append_left hlt] at hb) hr' hp j hj
    · have hb':=hb
      rw [List.getElem?_append_right (by omega)] at hb'
      have h0:i-an.length=0:=by
        rcases Nat.eq_zero_or_pos (i-an.length) with h|h
        · exact h
        · rw [List.getElem?_eq_none (by simp;omega)] at hb';cases hb'
      rw [h0] at hb'
      simp only [List.getElem?_cons_zero,Option.some.injEq] at hb'
      subst hb'
      have hir:r'=r:=by
        rw [ha,List.getElem?_append_right (by omega),show i-pre.length=0 by omega] at hr'
        simpa using hr'.symm
      subst hir
      obtain ⟨p,hpm,h⟩:=orAll_spec hj
      rcases h with rfl|h
      · exact hp _ hpm
      · cases hq:an[p]? with
        | none=>simp [List.getD,hq] at h
        | some b=>
          have hpl:p<an.length:=(List.getElem?_eq_some_iff.1 hq).1
          have hall:all[p]? = some (all[p]'(by rw [ha];simp;omega)):=List.getElem?_eq_getElem _
          exact hi p b _ hq hall (hc p _ hall (hp p hpm)) j (by simpa [List.getD,hq] using h)
section
variable {P:Program} {T:TypeId->Option TI} {EX:FuncId->List Nat × Bool} {nt:Nat} {ops:Array Oper}
theorem chain_at:∀ {evs:List Ev} {σ:St} {j:Nat} {e:Ev},chain P T EX nt ops evs σ->evs[j]? = some e->Good P T EX nt ops e (puts (evs.take j) σ)
  | [],_,_,_,_,h=>by simp at h
  | e0::r,σ,0,e,hc,h=>by
    simp only [List.getElem?_cons_zero,Option.some.injEq] at h
    subst h
    exact hc.1
  | e0::r,σ,j+1,e,hc,h=>by
    simp only [List.take_succ_cons,puts]
    exact chain_at hc.2 (by simpa using h)
theorem some_none:∀ {evs:List Ev} {i:Nat} {σ:St} {E:Nat->Bool},(∀ m,m<evs.length->E (i+m)=false)->some' E i evs σ = σ
  | [],_,_,_,_=>rfl
  | e::r,i,σ,E,h=>by
    have h0:E i=false:=h 0 (by simp)
    simp only [some',h0,cond_false]
    exact some_none λm hm=>by rw [Nat.add_assoc,Nat.add_comm 1 m];exact h (m+1) (by simpa using hm)
theorem take_some:∀ (evs:List Ev) (i j:Nat) (σ:St),some' (λn=>decide (n<i+j)) i evs σ=puts (evs.take j) σ
  | [],_,j,_=>by simp [some',puts]
  | e::r,i,0,σ=>by
    rw [some_none (λm _=>by simp)]
    rfl
  | e::r,i,j+1,σ=>by
    simp only [some',List.take_succ_cons,puts]
    have h0:decide (i<i+(j+1))=true:=by simp
    rw [h0,show i+(j+1)=i+1+j by omega]
    exact take_some r (i+1) j _
variable {w0:World} {S:Sets}
theorem any_sound (hT:TTok P T) {Q:Exit->Act->World->Prop} {σ:St} {evs:List Ev} (he:evs.map (·.o)=ops.toList) (hc:chain P T EX nt ops evs σ)
    (hi:indep (evs.map (Ev.rc ops))=true) (hq:∀ a' w',Rel w0 S nt (i5 (puts evs σ).slots) (puts evs σ).o a' w'->Q .normal a' w') :
    ∀ (fuel:Nat) (listed:Array Bool) (a:Act) (w:World),listed.size=ops.size->((List.range ops.size).countP λi => !listed.getD i false)<=fuel ->
      (∀ i (r:Rec),(evs.map (Ev.rc ops))[i]? = some r->listed.getD i false=true->∀ p,p∈r.pre->listed.getD p false=true) ->
      Rel w0 S nt (i5 (some' (λn=>listed.getD n false) 0 evs σ).slots) (some' (λn=>listed.getD n false) 0 evs σ).o a w ->
      wpAny P .any ops Q fuel listed a w:=by
  have hlen:evs.length=ops.size:=by have:=congrArg List.length he;simpa using this
  have hop:∀ (j:Nat) (e:Ev),evs[j]? = some e->ops[j]? = some e.o:=λj e h=>by
    have:(evs.map (·.o))[j]? = some e.o:=by simp [h]
    rw [he] at this
    simpa using this
  have hop':∀ (j:Nat) (o:Oper),ops[j]? = some o->∃ e,evs[j]? = some e/\e.o=o:=λj o h=>by
    have:(evs.map (·.o))[j]? = some o:=by rw [he];simpa using h
    simpa using this
  simp only [indep,Bool.and_eq_true] at hi
  obtain ⟨hpre,hpairs⟩:=hi
  have hb:∀ (o:Oper) (j:Nat) (want:Bool) (d:Nat),o.guard=some (j,want)->(ops[j]?).bind (·.dst)=some d->d<nt:=λo j want d _ h=>by
    cases hj:ops[j]? with
    | none=>simp [hj] at h
    | some o'=>
      obtain ⟨e,he1,rfl⟩:=hop' j o' hj
      have:=(chain_at hc he1).1
      unfold dstOk at this
      simp only [hj,Option.bind_some] at h
      rw [h] at this
      exact of_decide_eq_true (by simpa using this)
  have hdone:∀ listed:Array Bool,listed.size=ops.size->Region.ready .any ops listed=[]->∀ i,i<ops.size->listed.getD i false=true:=by
    intro listed hsz hr i
    induction i using Nat.strongRecOn with
    | _ i ih=>
      intro hlt
      cases hl:listed.getD i false with
      | true=>rfl
      | false=>
        exfalso
        have hmem:i∈Region.ready .any ops listed:=by
          rw [mem_ready]
          refine ⟨?_,ops[i],by simp [hlt],λe hea hbi => ?_⟩
          · have:i<listed.size:=by omega
            simpa [this] using hl
          · obtain ⟨ev,hev,heo⟩:=hop' i ops[i] (by simp [hlt])
            have hp:=preB_spec hpre i (Ev.rc ops ev) (by simp [hev]) e.on (by
              simp only [Ev.rc,Oper.pre,heo,List.mem_map,List.mem_filter]
              exact ⟨e,⟨by simpa using hea,hbi⟩,rfl⟩)
            exact ih e.on (by omega) (by omega)
        rw [hr] at hmem
        simp at hmem
  have hfin:∀ (listed:Array Bool) (a:Act) (w:World),listed.size=ops.size->Region.ready .any ops listed=[] ->
      Rel w0 S nt (i5 (some' (λn=>listed.getD n false) 0 evs σ).slots) (some' (λn=>listed.getD n false) 0 evs σ).o a w->Q .normal a w:=by
    intro listed a w hsz hr R
    rw [puts_some evs 0 σ _ (λm hm=>hdone listed hsz hr _ (by omega))] at R
    exact hq a w R
  intro fuel
  induction fuel with
  | zero=>
    intro listed a w hsz hcnt _ R
    have hr:Region.ready .any ops listed=[]:=by
      cases hrr:Region.ready .any ops listed with
      | nil=>rfl
      | cons j r=>
        exfalso
        have hj:j∈Region.ready .any ops listed:=by rw [hrr];simp
        obtain ⟨h0,o,ho,-⟩:=mem_ready.1 hj
        have hlt:j<ops.size:=(Array.getElem?_eq_some_iff.1 ho).1
        have:listed.getD j false=false:=by
          have:j<listed.size:=by omega
          simpa [this] using h0
        have hz:=List.countP_eq_zero.1 (Nat.le_zero.1 hcnt) j (by simpa using hlt)
        simp [this] at hz
    exact ⟨hr,hfin listed a w hsz hr R⟩
  | succ fuel ih=>
    intro listed a w hsz hcnt hcl R
    refine ⟨λhr=>hfin listed a w hsz hr R,λj hj => ?_⟩
    obtain ⟨h0,o,ho,haft⟩:=mem_ready.1 hj
    have hlt:j<ops.size:=(Array.getElem?_eq_some_iff.1 ho).1
    have hEj:listed.getD j false=false:=by
      have:j<listed.size:=by omega
      simpa [this] using h0
    obtain ⟨e,hej,rfl⟩:=hop' j o ho
    have hpj:∀ p,p∈Oper.pre e.o->listed.getD p false=true:=λp hp=>by
      simp only [Oper.pre,List.mem_map,List.mem_filter] at hp
      obtain ⟨d,⟨hd1,hd2⟩,rfl⟩:=hp
      exact haft d (by simpa using hd1) hd2
    obtain ⟨hinv,hal⟩:=ancs_spec (E:=λn=>listed.getD n false) hcl (evs.map (Ev.rc ops)) [] [] rfl rfl (λi b r h=>by simp at h)
    generalize ancs (evs.map (Ev.rc ops)) []=an at hinv hal hpairs
    have hanc:∀ k,k<ops.size->∃ b,an[k]? = some b:=λk hk=>⟨an[k]'(by rw [hal];simp;omega),List.getElem?_eq_getElem _⟩
    have hlow:∀ (m:Nat) (e':Ev),evs[m]? = some e'->m<j->listed.getD m false=true\/apartR (Ev.rc ops e') (Ev.rc ops e)=true:=λm e' he' hm=>by
      obtain ⟨b,hb⟩:=hanc j hlt
      rcases pairsB_spec hpairs m j (Ev.rc ops e') (Ev.rc ops e) b hm (by simp [he']) (by simp [hej]) hb with h|h
      · exact .inl (hinv j b (Ev.rc ops e) hb (by simp [hej]) (λp hp=>hpj p hp) m (by simpa using h))
      · exact .inr h
    have hhigh:∀ (m:Nat) (e':Ev),evs[m]? = some e'->j<m->listed.getD m false=false\/apartR (Ev.rc ops e) (Ev.rc ops e')=true:=λm e' he' hm=>by
      cases hEm:listed.getD m false with
      | false=>exact .inl rfl
      | true=>
        have hml:m<ops.size:=by rw [<- hlen];exact (List.getElem?_eq_some_iff.1 he').1
        obtain ⟨b,hb⟩:=hanc m hml
        rcases pairsB_spec hpairs j m (Ev.rc ops e) (Ev.rc ops e') b hm (by simp [hej]) (by simp [he']) hb with h|h
        · have:=hinv m b (Ev.rc ops e') hb (by simp [he']) (hcl m _ (by simp [he']) hEm) j (by simpa using h)
          simp only at this
          rw [hEj] at this
          cases this
        · exact .inr h
    obtain ⟨μ,R⟩:=R
    refine ev_step hT (σ:=puts (evs.take j) σ) (τ:=some' (λn=>listed.getD n false) 0 evs σ) ho (hb _) (chain_at hc hej) R (λk hk => ?_) (λl hl => ?_) (λa' w' R' => ?_)
    · rw [<- take_some evs 0 j σ]
      refine some_s evs 0 σ σ _ _ rfl λm e' he' hd => ?_
      simp only [Nat.zero_add]
      rcases Nat.lt_trichotomy m j with h|h|h
      · rcases hlow m e' he' h with hE|hap
        · rw [hE];simp [h]
        · exact absurd hk ((apartR_spec hap).1 k hd)
      · subst h;rw [hEj];simp
      · rcases hhigh m e' he' h with hE|hap
        · rw [hE];simp;omega
        · exact absurd hk ((apartR_spec hap).2.1 k hd)
    · rw [<- take_some evs 0 j σ]
      refine some_o evs 0 σ σ _ _ rfl λm e' he' hd => ?_
      simp only [Nat.zero_add]
      rcases Nat.lt_trichotomy m j with h|h|h
      · rcases hlow m e' he' h with hE|hap
        · rw [hE];simp [h]
        · exact absurd hl ((apartR_spec hap).2.2.2.1 l hd)
      · subst h;rw [hEj];simp
      · rcases hhigh m e' he' h with hE|hap
        · rw [hE];simp;omega
        · exact absurd hl ((apartR_spec hap).2.2.2.2.1 l hd)
    · have hfun:(λn=>(listed.setIfInBounds j true).getD n false)=λn=>n==0+j||listed.getD n false:=by
        funext n
        simp only [Nat.zero_add]
        by_cases hn:n=j
        · subst hn
          have:n<listed.size:=by omega
          simp [this]
        · rw [getD_set_ne false (Ne.symm hn)]
          simp [hn]
      have hat:∀ n,(listed.setIfInBounds j true).getD n false=(n==j||listed.getD n false):=λn=>by have:=congrFun hfun n;simpa using this
      refine ih (listed.setIfInBounds j true) a' w' (by simpa using hsz) ?_ ?_ ?_
      · have hlt':((List.range ops.size).countP λi => !(listed.setIfInBounds j true).getD i false)<((List.range ops.size).countP λi => !listed.getD i false):=by
          have gen:∀ l:List Nat,j∈l->(l.countP λi => !(listed.setIfInBounds j true).getD i false)<(l.countP λi => !listed.getD i false):=by
            intro l
            induction l with
            | nil=>intro h;simp at h
            | cons x l ihl=>
              intro hx
              have hle:(l.countP λi => !(listed.setIfInBounds j true).getD i false)<=(l.countP λi => !listed.getD i false):=
                List.countP_mono_left λx _ h=>by rw [hat] at h;simp at h ⊢;exact h.2
              by_cases hxj:x=j
              · subst hxj
                rw [List.countP_cons_of_neg (by rw [hat];simp),List.countP_cons_of_pos (by rw [hEj];rfl)]
                omega
              · have:=ihl (by simpa [Ne.symm hxj] using hx)
                have hxx:(listed.setIfInBounds j true).getD x false=listed.getD x false:=by rw [hat];simp [hxj]
                simp only [List.countP_cons,hxx]
                omega
          exact gen _ (by simpa using hlt)
        omega
      · intro i r hr hEi p hp
        rw [hat] at hEi ⊢
        simp only [Bool.or_eq_true] at hEi ⊢
        right
        rcases hEi with h|h
        · have hij:i=j:=by simpa using h
          subst hij
          have:r=Ev.rc ops e:=by simp [hej] at hr;exact hr.symm
          subst this
          exact hpj p hp
        · exact hcl i r hr h p hp
      · rw [hfun]
        rw [more_s evs 0 j σ _ hej (by simpa using hEj) ?_,more_o evs 0 j σ _ hej (by simpa using hEj) ?_]
        · exact R'
        · intro m e' l he' hEm hm hl
          rcases hhigh m e' he' hm with h|h
          · simp only [Nat.zero_add] at hEm;rw [h] at hEm;cases hEm
          · exact (apartR_spec h).2.2.2.2.2 l hl
        · intro m e' k he' hEm hm hd
          rcases hhigh m e' he' hm with h|h
          · simp only [Nat.zero_add] at hEm;rw [h] at hEm;cases hEm
          · exact (apartR_spec h).2.2.1 k hd
theorem text_sound (hT:TTok P T) {Q:Exit->Act->World->Prop} {σ:St} {evs:List Ev} (he:evs.map (·.o)=ops.toList) (hc:chain P T EX nt ops evs σ)
    (hq:∀ a' w',Rel w0 S nt (i5 (puts evs σ).slots) (puts evs σ).o a' w'->Q .normal a' w') :
    ∀ (k j:Nat) (a:Act) (w:World),j+k=evs.length->Rel w0 S nt (i5 (puts (evs.take j) σ).slots) (puts (evs.take j) σ).o a w->wpOps P ops Q (List.range' j k) a w:=by
  have hop:∀ (j:Nat) (e:Ev),evs[j]? = some e->ops[j]? = some e.o:=λj e h=>by
    have:(evs.map (·.o))[j]? = some e.o:=by simp [h]
    rw [he] at this
    simpa using this
  have hb:∀ (o:Oper) (j:Nat) (want:Bool) (d:Nat),o.guard=some (j,want)->(ops[j]?).bind (·.dst)=some d->d<nt:=λo j want d _ h=>by
    cases hj:ops[j]? with
    | none=>simp [hj] at h
    | some o'=>
      have:(evs.map (·.o))[j]? = some o':=by rw [he];simpa using hj
      obtain ⟨e,he1,rfl⟩:∃ e:Ev,evs[j]? = some e/\e.o=o':=by simpa using this
      have:=(chain_at hc he1).1
      unfold dstOk at this
      simp only [hj,Option.bind_some] at h
      rw [h] at this
      exact of_decide_eq_true (by simpa using this)
  have hputs:∀ (l:List Ev) (σ:St) (e:Ev),puts (l ++ [e]) σ=e.put (puts l σ):=by
    intro l
    induction l with
    | nil=>intro σ e;rfl
    | cons x l ih=>intro σ e;exact ih _ _
  intro k
  induction k with
  | zero=>
    intro j a w hj R
    rw [List.take_of_length_le (by omega)] at R
    exact hq a w R
  | succ k ih=>
    intro j a w hj R
    have hlt:j<evs.length:=by omega
    obtain ⟨μ,R⟩:=R
    rw [List.range'_succ,wpOps_cons]
    have hej:evs[j]? = some evs[j]:=List.getElem?_eq_getElem _
    refine ev_step hT (hop j _ hej) (hb _) (chain_at hc hej) R (λ_ _=>rfl) (λ_ _=>rfl) λa' w' R'=>ih (j+1) a' w' (by omega) ?_
    rw [List.take_add_one,hej,Option.toList_some,hputs,Ev.put_s,Ev.put_o]
    exact R'
theorem region_sound (hT:TTok P T) (hm:P.follows .mixedOrders=true) {id:Nat} {draw:Bool} {Q:St->Prop} {Qc:Exit->Act->World->Prop} {σ:St} {a:Act} {w:World}
    (h:awpOps real T EX (d4 P) nt draw ops Q ops.toList [] σ) (R:Rel w0 S nt (i5 σ.slots) σ.o a w)
    (hq:∀ σ' a' w',Q σ'->Rel w0 S nt (i5 σ'.slots) σ'.o a' w'->Qc .normal a' w'):(Code.region id ops draw).wp P Qc a w:=by
  obtain ⟨evs,he,hc,hi,hQ⟩:=awp_chain _ _ _ h
  have hlen:evs.length=ops.size:=by have:=congrArg List.length he;simpa using this
  cases draw with
  | false=>
    refine wp_region ?_
    rw [List.range_eq_range']
    exact text_sound hT he hc (λa' w' R'=>hq _ a' w' hQ R') ops.size 0 a w (by omega) (by simpa [puts] using R)
  | true=>
    refine wp_region_any hm (any_sound hT he hc (by simpa using hi rfl) (λa' w' R'=>hq _ a' w' hQ R') ops.size _ a _ (by simp) ?_ ?_ ?_)
    · exact Nat.le_trans List.countP_le_length (by simp)
    · intro i r _ hE
      have hrep:(Array.replicate ops.size false).getD i false=false:=by
        simp only [Array.getD_eq_getD_getElem?,Array.getElem?_replicate]
        split<;>rfl
      rw [hrep] at hE;cases hE
    · have hrep:∀ i,(Array.replicate ops.size false).getD i false=false:=λi=>by
        simp only [Array.getD_eq_getD_getElem?,Array.getElem?_replicate]
        split<;>rfl
      rw [some_none λm _=>hrep _]
      obtain ⟨μ,R⟩:=R
      exact ⟨μ,R.drew⟩
end
def AE.ex:AE->Exit
  | .normal=>.normal
  | .exit id=>.exit id
  | .ret=>.ret
section
variable {P:Program} {T:TypeId->Option TI} {EX:FuncId->List Nat × Bool} {nt:Nat} {H:List Nat} {w0:World} {S:Sets}
def loopless (H:List Nat):Code->Bool
  | .region id _ _ => !memN H id
  | .seq a b=>loopless H a&&loopless H b
  | .cond _ a b=>loopless H a&&loopless H b
  | .block _ a=>loopless H a
  | .loop _=>false
  | _=>true
theorem frok_of (hkp:S.free=true->∀ p,p∈S.kp->memN H 999=true->smallL p.1=true) (h:S.free=true->memN H 999=true):FrOk (memN H 999) S:=
  ⟨λe=>(by cases hf:S.free with|false=>rfl|true=>(have:=h hf;rw [e] at this;cases this)),λhf p hp=>hkp hf p hp (h hf)⟩
theorem awp_sound (hT:TTok P T) (hm:P.follows .mixedOrders=true):∀ (c:Code) (_:S.free=true->memN H 999=true\/loopless H c=true) (_:S.free=true->∀ p,p∈S.kp->memN H 999=true->smallL p.1=true) (Q:AE->St->Prop) (Qc:Exit->Act->World->Prop) (σ:St) (a:Act) (w:World),
    awp real T EX (d4 P) nt H c Q σ->Rel w0 S nt (i5 σ.slots) σ.o a w->(∀ e σ' a' w',Q e σ'->Rel w0 S nt (i5 σ'.slots) σ'.o a' w'->Qc e.ex a' w')->c.wp P Qc a w:=by
  intro c
  induction c with
  | skip=>intro hfr hkp Q Qc σ a w h R hq;exact wp_skip (hq _ _ _ _ h R)
  | region id ops draw=>
    intro hfr hkp Q Qc σ a w h R hq
    unfold awp at h
    cases hh:memN H id with
    | false=>
      rw [hh] at h
      exact region_sound hT hm h R λσ' a' w' h' R'=>hq .normal _ _ _ h' R'
    | true=>
      rw [hh] at h
      obtain ⟨τ,hc,h⟩:∃ τ,CovG (memN H 999) nt σ τ/\awpOps real T EX (d4 P) nt draw ops (Q .normal) ops.toList [] τ:=h
      have hfo:FrOk (memN H 999) S:=frok_of hkp λhf=>(hfr hf).resolve_right (by simp [loopless,hh])
      exact region_sound hT hm h (hc w0 S a w hfo R) λσ' a' w' h' R'=>hq .normal _ _ _ h' R'
  | seq x y ihx ihy=>
    intro hfr hkp Q Qc σ a w h R hq
    refine wp_seq (ihx (λhf=>(hfr hf).imp (λh=>h) λh=>by simp [loopless] at h;exact h.1) hkp _ _ σ a w h R ?_)
    intro e σ' a' w' h' R'
    cases e with
    | normal=>exact ihy (λhf=>(hfr hf).imp (λh=>h) λh=>by simp [loopless] at h;exact h.2) hkp _ _ _ _ _ h' R' hq
    | exit id=>exact hq (.exit id) _ _ _ h' R'
    | ret=>exact hq .ret _ _ _ h' R'
  | cond t x y ihx ihy=>
    intro hfr hkp Q Qc σ a w h R hq
    obtain ⟨b,r,hb,hrun⟩:=G.wp_det h
    have h1:(boolv real true (rho σ.slots t)).run σ.o λb'=>b'=b:=hrun σ.o (λ_ _=>rfl) _ rfl
    obtain ⟨μ,R'⟩:=R
    obtain ⟨b',hv,rfl⟩:=boolv_run h1 λ_=>p8 R' t
    have hb:(b'=true->awp real T EX (d4 P) nt H x Q σ)/\(b'=false->awp real T EX (d4 P) nt H y Q σ):=hb
    exact wp_cond_split (hv rfl) (λht=>ihx (λhf=>(hfr hf).imp (λh=>h) λh=>by simp [loopless] at h;exact h.1) hkp _ _ _ _ _ (hb.1 ht) ⟨μ,R'⟩ hq) (λhf=>ihy (λhf=>(hfr hf).imp (λh=>h) λh=>by simp [loopless] at h;exact h.2) hkp _ _ _ _ _ (hb.2 hf) ⟨μ,R'⟩ hq)
  | block id x ih=>
    intro hfr hkp Q Qc σ a w h R hq
    refine wp_block (ih (λhf=>(hfr hf).imp (λh=>h) λh=>by simpa [loopless] using h) hkp _ _ σ a w h R ?_)
    intro e σ' a' w' h' R'
    cases e with
    | normal=>exact hq .normal _ _ _ h' R'
    | ret=>exact hq .ret _ _ _ h' R'
    | exit j=>
      show (if j=id then Qc .normal a' w' else Qc (.exit j) a' w')
      have h':bif nbeq j id then Q .normal σ' else Q (.exit j) σ':=h'
      by_cases e:j=id
      · subst e
        simp only [if_true]
        refine hq .normal _ _ _ ?_ R'
        have:nbeq j j=true:=nbeq_refl j
        rwa [this] at h'
      · simp only [e,if_false]
        have:nbeq j id=false:=by cases hb:nbeq j id with|false=>rfl|true=>exact absurd (i3 hb) e
        rw [this] at h'
        exact hq (.exit j) _ _ _ h' R'
  | loop x ih=>
    intro hfr hkp Q Qc σ a w h R hq
    have h:LoopG (memN H 999) nt (λQ' τ=>awp real T EX (d4 P) nt H x Q' τ) Q σ:=h
    obtain ⟨α,st,m,⟨x0,h0⟩,hb⟩:=h
    have hh:∀ hf:S.free=true,memN H 999=true:=λhf=>(hfr hf).resolve_right (by simp [loopless])
    have hnf:FrOk (memN H 999) S:=frok_of hkp hh
    intro b k cs
    have key:∀ (n:Nat) (y : α) (a:Act) (w:World),m y=n->Rel w0 S nt (i5 (st y).slots) (st y).o a w ->
        ∃ e a' w',Qc e a' w'/\Arrives P (lone (b.at a (.code x :: .inLoop x::k)) cs w) b k cs e a' w':=by
      intro n
      induction n using Nat.strongRecOn with
      | _ n ihn=>
        intro y a w hn hI
        have round:x.wp P (Exit.then (λa' w'=>∃ z,m z<m y/\Rel w0 S nt (i5 (st z).slots) (st z).o a' w') Qc) a w:=by
          refine ih (λhf=>.inl (hh hf)) hkp _ _ (st y) a w (hb y) hI ?_
          intro e σ' a' w' h' R'
          cases e with
          | exit id=>exact hq (.exit id) _ _ _ h' R'
          | ret=>exact hq .ret _ _ _ h' R'
          | normal=>
            obtain ⟨z,hz,hc⟩:=h'
            exact ⟨z,hz,hc w0 S a' w' hnf R'⟩
        obtain ⟨e,a₁,w₁,hq',harr⟩:=round b (.inLoop x::k) cs
        cases e with
        | normal=>
          obtain ⟨z,hlt,hI₁⟩:=hq'
          obtain ⟨e₂,a₂,w₂,hq₂,harr₂⟩:=ihn (m z) (hn▸hlt) z a₁ w₁ rfl hI₁
          exact ⟨e₂,a₂,w₂,hq₂,.of_steps (Steps.trans harr (.one step_inLoop)) harr₂⟩
        | exit id=>exact ⟨_,a₁,w₁,hq',.pass (x:=.inLoop x) rfl (λ_ _=>.inl (by simp)) harr⟩
        | goto l=>exact ⟨_,a₁,w₁,hq',.pass (x:=.inLoop x) rfl (λ_ _=>.inl (by simp)) harr⟩
        | ret=>exact ⟨_,a₁,w₁,hq',.pass (x:=.inLoop x) rfl (λ_ _=>.inl (by simp)) harr⟩
        | panic ch=>exact ⟨_,a₁,w₁,hq',.pass (x:=.inLoop x) rfl (λ_ _=>.inl (by simp)) harr⟩
        | outgrown=>exact ⟨_,a₁,w₁,hq',.pass (x:=.inLoop x) rfl (λ_ _=>.inl (by simp)) harr⟩
    obtain ⟨e,a',w',hq',harr⟩:=key _ x0 a w rfl (h0 w0 S a w hnf R)
    exact ⟨e,a',w',hq',.of_steps (.one step_loop) harr⟩
  | exit id=>intro hfr hkp Q Qc σ a w h R hq;exact wp_exit (hq (.exit id) _ _ _ h R)
  | ret=>intro hfr hkp Q Qc σ a w h R hq;exact wp_ret (hq .ret _ _ _ h R)
  | _=>intro hfr hkp Q Qc σ a w h R hq;exact h.elim
end
end Go.Rk
