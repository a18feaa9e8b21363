/- What each of this seat's functions answers, at all data, part 5: no condition. -/
import Derived.Test.YtaddofloloopjaaGreatM4
import Derived.Deep.Slices
import Derived.Carry
import Derived.SizedLaws
import Derived.OpenShut
import Derived.Below
import Derived.Laws.StructEq
import Derived.ChangeKeysEq
namespace Go.Rk
set_option linter.unusedSimpArgs false
set_option linter.unusedVariables false
def slotsOf:Nat->List TV->List (Nat × AV)
  | _,[]=>[]
  | i,x::r=>(i,x.av)::slotsOf (i+1) r
section
variable (A:Ar) (T:TypeId->Option TI) (EX:FuncId->List Nat × Bool) (M:Ms)
def exB:CV->Bool
  | .bp _ _ _=>false
  | _=>true
def exA:AV->Bool
  | .c x=>exB x
  | _=>true
def resG (σ:St):List ResultVar->G (List XT × Lent)
  | []=>.ret ([],.none)
  | .tmp t::r=>(givenArg A true (exA (σ.s t)) (σ.s t)).bind λa=>(resG σ r).bind λb=>.ret (a.1::b.1,a.2.both b.2)
  | .cell c t::r=>(cellv A true (σ.s c)).bind fun
    | .bp l ver off=>.get l λq=>match q with
      | (ver',.box cells)=>.vc (A.same ver ver') ((tiv T t).bind λi=>(optv (takeN i.size (dropN off cells))).bind λcs=>(mkAV (isAggT i.desc) cs).bind λx=>
          (givenArg A true (exA x) x).bind λa=>(resG σ r).bind λb=>.ret (a.1::b.1,a.2.both b.2))
      | _=>.fail
    | _=>.fail
def backG:List TV->List (Option XV)->G (List (Option XV) × Lent)
  | [],[]=>.ret ([],.none)
  | _::r,none::s=>(backG r s).bind λb=>.ret (none::b.1,b.2)
  | .c x::r,some _::s=>(givenCell A (exB x) x).bind λa=>(backG r s).bind λb=>.ret (some a.1::b.1,a.2.both b.2)
  | _,_=>.fail
def XAof:List XT->XA
  | [x]=>.one x
  | xs=>.tup xs
def Final (rs:List ResultVar) (tvs:List TV) (out:Out) (σ:St):Prop:=
  (resG A T σ rs).wp σ.o λr _=>(backG A tvs out.back).wp σ.o λb _=>
    exOk (r.2.ex++b.2.ex) []=true/\r.2.bo.isEmpty=true/\b.2.bo.isEmpty=true/\XAof r.1=out.res/\b.1=out.back
def awpFn (nt:Nat) (H:List Nat) (c:Code) (rs:List ResultVar) (args:List XT) (out:Out):Prop:=
  (takenTup 0 0 args).wp (m4 []) λr _=>u9 r.2=true/\nble r.1.length nt=true/\(r.1.all λx=>labA x.av)=true /\
    awp A T EX M nt H c (λe τ=>match e with | .exit _=>False|_=>Final A T rs r.1 out τ) ⟨slotsOf 0 r.1,r.2⟩
end
section
variable {P:Program} {T:TypeId->Option TI} {EX:FuncId->List Nat × Bool}
theorem wp_run {α:Type} {m:G α} {σ:p9} {Q : α->List Nat->Prop} (h:m.wp σ Q):m.run σ λa=>∃ r,Q a r:=by
  obtain ⟨a,r,hq,hr⟩:=G.wp_det h
  exact hr σ (λ_ _=>rfl) _ ⟨r,hq⟩
theorem slotsOf_none:∀ {tvs:List TV} {i k:Nat},k<i\/i+tvs.length<=k->i5 (slotsOf i tvs) k=.c .junk
  | [],_,_,_=>rfl
  | x::r,i,k,h=>by
    simp only [slotsOf,i5]
    have:nbeq i k=false:=by
      cases hb:nbeq i k with
      | false=>rfl
      | true=>have:=i3 hb;simp at h;omega
    rw [this]
    exact slotsOf_none (by simp at h;omega)
theorem slotsOf_some:∀ {tvs:List TV} {i k:Nat} {x:TV},tvs[k]? = some x->i5 (slotsOf i tvs) (i+k)=x.av
  | [],_,_,_,h=>by simp at h
  | y::r,i,0,x,h=>by
    simp at h;subst h
    simp [slotsOf,i5]
  | y::r,i,k+1,x,h=>by
    simp only [slotsOf,i5]
    have:nbeq i (i+(k+1))=false:=by
      cases hb:nbeq i (i+(k+1)) with
      | false=>rfl
      | true=>have:=i3 hb;omega
    rw [this,show i+(k+1)=i+1+k by omega]
    exact slotsOf_some (by simpa using h)
section
variable {σ:p9} {μ:Place} {w:World} {N:Nat->Prop}
theorem TRep.av {x:TV} {v:Value} (h:TRep σ μ w N x v):ARep σ μ w N x.av v:=by
  cases x with
  | c x=>exact h
  | agg xs=>exact h
theorem TsRep.len:∀ {xs:List TV} {vs:List Value},TsRep σ μ w N xs vs->xs.length=vs.length
  | [],[],_=>rfl
  | _::_,_::_,h=>by simp [TsRep.len h.2]
  | [],_::_,h=>h.elim
  | _::_,[],h=>h.elim
theorem TsRep.at:∀ {xs:List TV} {vs:List Value},TsRep σ μ w N xs vs->∀ {k:Nat} {x:TV},xs[k]? = some x->∃ v,vs[k]? = some v/\TRep σ μ w N x v
  | [],[],_,_,_,h=>by simp at h
  | x::_,v::_,h,0,y,e=>by simp at e;subst e;exact ⟨v,rfl,h.1⟩
  | x::_,v::_,h,k+1,y,e=>by obtain ⟨u,h1,h2⟩:=TsRep.at h.2 (by simpa using e);exact ⟨u,by simpa using h1,h2⟩
  | [],_::_,h,_,_,_=>h.elim
  | _::_,[],h,_,_,_=>h.elim
end
section
variable {w0:World} {S:Sets} {nt:Nat} {slots:List (Nat × AV)} {σ:p9} {a:Act} {w:World} {μ:Place}
def resV (P:Program) (tmps:Array Value) (w:World):List ResultVar->List Value->Prop
  | [],[]=>True
  | .tmp t::r,v::s=>v=tmps.getD t undef/\resV P tmps w r s
  | .cell c t::r,v::s=>(∃ ad,tmps.getD c undef=.pointer (some ad)/\(loadVar t ad).run P w=.ok v w)/\resV P tmps w r s
  | _,_=>False
theorem resG_spec (hT:TTok P T) {τ:St} (R:RelM w0 S nt (i5 τ.slots) τ.o a w μ):∀ {ts:List ResultVar} {Q:List XT × Lent->Prop},(resG real T τ ts).run τ.o Q ->
    ∃ vs ys le,Q (ys,le)/\resV P a.tmps w ts vs/\GivenOk S τ.o μ w le λN F=>XTsRep w N ys vs F
  | [],Q,h=>⟨[],[],.none,h,trivial,.none λ_=>rfl⟩
  | .tmp t::r,Q,h=>by
    simp only [resG,G.run_bind] at h
    obtain ⟨y,l1,h1,g1⟩:=givenArg_spec R h (R.slots t)
    obtain ⟨vs,ys,l2,h2,hv,g2⟩:=resG_spec hT R h1
    exact ⟨_::vs,_,_,h2,⟨rfl,hv⟩,g1.both g2⟩
  | .cell c t::r,Q,h=>by
    simp only [resG,G.run_bind] at h
    obtain ⟨x,hc,h⟩:=cellv_run h (R.slots c)
    split at h
    · rename_i l ver off
      simp only [G.run] at h
      split at h
      · rename_i ver' cells hσ
        obtain ⟨hv,h⟩:=h
        have hv:ver=ver':=hv
        subst hv
        rw [G.run_bind] at h
        obtain ⟨i,hi,h⟩:=tiv_run h
        rw [G.run_bind] at h
        obtain ⟨xs,hxs,h⟩:=optv_run h
        rw [G.run_bind] at h
        obtain ⟨hone,hle,hc⟩:=hc
        obtain ⟨b,hμ,he⟩:=hc cells hσ
        have ob:=R.objs l
        rw [hσ] at ob
        obtain ⟨b',cs,e,hμ',hb,hcs⟩:=ob
        rw [hμ] at hμ';simp at hμ';subst hμ'
        obtain ⟨hl,hg⟩:=takeN_spec hxs
        obtain ⟨v,hr,y,hy,hk⟩:=load_run hT hi (N:=Nof S τ.o μ w) (off:=off) hb hl (λj x hj=>by
          have:=hg j x hj
          rw [dropN_get] at this
          obtain ⟨u,hu,hc⟩:=hcs.get this
          exact ⟨u,by simpa using hu,hc⟩) h
        rw [G.run_bind] at hk
        obtain ⟨z,l1,h1,g1⟩:=givenArg_spec R hk hy
        rw [G.run_bind] at h1
        obtain ⟨vs,ys,l2,h2,hv,g2⟩:=resG_spec hT R h1
        exact ⟨v::vs,_,_,h2,⟨⟨_,he,hr⟩,hv⟩,g1.both g2⟩
      · exact h.elim
    · exact h.elim
theorem backG_spec (R:RelM w0 S nt (i5 slots) σ a w μ):∀ {tvs:List TV} {bs:List (Option XV)} {vals:List Value} {Q:List (Option XV) × Lent->Prop},tvs.length=vals.length ->
    (∀ (k:Nat) (x:TV) (v:Value),tvs[k]? = some x->vals[k]? = some v->ARep σ μ w (Nof S σ μ w) x.av v)->(backG real tvs bs).run σ Q ->
    ∃ ys le,Q (ys,le)/\GivenOk S σ μ w le λN F=>BackRep w N ys vals F
  | [],[],[],Q,_,_,h=>⟨[],.none,h,.none λ_=>rfl⟩
  | [],[],_::_,Q,hl,_,h=>by simp at hl
  | _::_,_,[],Q,hl,_,h=>by simp at hl
  | [],_::_,_,Q,_,_,h=>h.elim
  | x::r,[],_,Q,_,_,h=>h.elim
  | x::r,none::s,v::vs,Q,hl,hg,h=>by
    simp only [backG,G.run_bind] at h
    obtain ⟨ys,le,h1,g⟩:=backG_spec R (by simpa using hl) (λk y u hy hu=>hg (k+1) y u (by simpa using hy) (by simpa using hu)) h
    exact ⟨_,_,h1,g.1,λN hn hl=>g.2 N hn hl⟩
  | .agg x::r,some _::s,v::vs,Q,hl,hg,h=>h.elim
  | .c x::r,some _::s,v::vs,Q,hl,hg,h=>by
    simp only [backG,G.run_bind] at h
    obtain ⟨y,l1,h1,g1⟩:=givenCell_spec R h (hg 0 (.c x) v rfl rfl)
    obtain ⟨ys,l2,h2,g2⟩:=backG_spec R (by simpa using hl) (λk y u hy hu=>hg (k+1) y u (by simpa using hy) (by simpa using hu)) h1
    exact ⟨_,_,h2,g1.both g2⟩
end
def resF (tmps:Array Value):ResultVar->Sem Value
  | .tmp t=>pure (tmps.getD t undef)
  | .cell a t=>do loadVar t (<- asAddr (tmps.getD a undef))
theorem results_eq (fn:Func) (tmps:Array Value):results fn tmps=(do let vs <- fn.results.mapM (resF tmps);pure (if h:vs.size=1 then vs[0] else .tuple vs)):=by
  unfold results
  have:(λx:ResultVar=>match x with
    | .tmp t=>(pure (tmps.getD t undef):Sem Value)
    | .cell a t=>do loadVar t (<- asAddr (tmps.getD a undef)))=resF tmps:=by funext x;cases x<;>rfl
  rw [<- this]
  rfl
theorem resF_run {P:Program} {tmps:Array Value} {w:World} {x:ResultVar} {r:List ResultVar} {v:Value} {s:List Value} (h:resV P tmps w (x::r) (v::s)) :
    (resF tmps x).run P w=.ok v w/\resV P tmps w r s:=by
  cases x with
  | tmp t=>obtain ⟨rfl,h2⟩:=h;exact ⟨by simp [resF],h2⟩
  | cell c t=>obtain ⟨⟨ad,h1,h3⟩,h2⟩:=h;exact ⟨by simp [resF,h1,asAddr,h3],h2⟩
theorem resV_nil {P:Program} {tmps:Array Value} {w:World} {vs:List Value} (h:resV P tmps w [] vs):vs=[]:=by
  cases vs with
  | nil=>rfl
  | cons _ _=>exact h.elim
theorem resV_cons {P:Program} {tmps:Array Value} {w:World} {x:ResultVar} {r:List ResultVar} {vs:List Value} (h:resV P tmps w (x::r) vs):∃ v s,vs=v::s:=by
  cases vs with
  | nil=>cases x<;>exact h.elim
  | cons v s=>exact ⟨v,s,rfl⟩
def resOf:List Value->Value
  | [x]=>x
  | xs=>.tuple xs.toArray
theorem results_run {fn:Func} {tmps:Array Value} {P:Program} {w:World} {vs:List Value} (hl:fn.results.toList.length<=3) (h:resV P tmps w fn.results.toList vs) :
    (results fn tmps).run P w=.ok (resOf vs) w:=by
  rw [results_eq]
  rcases hf:fn.results with ⟨l⟩
  rw [hf] at h hl
  rcases l with _|⟨x,_|⟨y,_|⟨z,_|⟨u,l⟩⟩⟩⟩
  · obtain rfl:=resV_nil h
    simp [resOf]
  · obtain ⟨v,s,rfl⟩:=resV_cons h
    obtain ⟨h1,h⟩:=resF_run h
    obtain rfl:=resV_nil h
    simp [h1,resOf]
  · obtain ⟨v,s,rfl⟩:=resV_cons h
    obtain ⟨h1,h⟩:=resF_run h
    obtain ⟨v2,s,rfl⟩:=resV_cons h
    obtain ⟨h2,h⟩:=resF_run h
    obtain rfl:=resV_nil h
    simp [h1,h2,resOf]
  · obtain ⟨v,s,rfl⟩:=resV_cons h
    obtain ⟨h1,h⟩:=resF_run h
    obtain ⟨v2,s,rfl⟩:=resV_cons h
    obtain ⟨h2,h⟩:=resF_run h
    obtain ⟨v3,s,rfl⟩:=resV_cons h
    obtain ⟨h3,h⟩:=resF_run h
    obtain rfl:=resV_nil h
    simp [h1,h2,h3,resOf]
  · simp at hl
def noPlace:Place:=⟨λ_=>none,λ_=>[]⟩
theorem d5 (hT:TTok P T) (hm:P.follows .mixedOrders=true) {f:FuncId} {fn:Func} {c:Code} {H:List Nat} {args:List XT} {out:Out}
    (hf:P.funcs[f]? = some fn) (hb:fn.body=some c) (hcall:callable P f=true) (hrl:fn.results.toList.length<=3)
    (h:awpFn real T EX (d4 P) fn.ntmps H c fn.results.toList args out):d7 P f args out:=by
  refine ⟨hcall,λw vals F N hx hnd hF hN => ?_⟩
  obtain ⟨cvs,τ,⟨_,h1,h2,hlab,h3⟩,tk⟩:=takenTup_spec (μ:=noPlace) (wp_run h) hx
  have hlen2:cvs.length<=fn.ntmps:=b8 h2
  let S:Sets:=⟨λb=>b∈F,λb=>N b\/b∈F\/w.heap.size<=b,(cvs.map TV.av).zip vals,false,[]⟩
  obtain ⟨p1,p2⟩:=putO_spec (σ:=m4 []) h1
  obtain ⟨f1,f2⟩:=findT_spec h1
  let σ':p9:=putO (m4 []) (usOf τ)
  let μ':Place:=placeT noPlace τ
  have hσ':m4 (usOf τ) = σ':=by have:=lookO_put [] (usOf τ);simpa using this
  have hfits:Fits τ σ' μ':=λt ht=>⟨p1 (t.1,t.2.1) (List.mem_map.2 ⟨t,ht,rfl⟩),by simp [μ',placeT,f1 t ht],by simp [μ',placeT,f1 t ht]⟩
  have hcase:∀ l,(∃ t ∈ τ,t.1=l)\/(σ' l=(0,.dead) /\ μ' l=none /\ μ'.k l=[]):=λl=>by
    by_cases h:∃ t ∈ τ,t.1=l
    · exact .inl h
    · right
      have hn:∀ t ∈ τ,t.1≠l:=λt ht e=>h ⟨t,ht,e⟩
      refine ⟨?_,by simp [μ',placeT,f2 l hn,noPlace],by simp [μ',placeT,f2 l hn,noPlace]⟩
      have:=p2 l λp hp=>by obtain ⟨t,ht,rfl⟩:=List.mem_map.1 hp;exact hn t ht
      exact this
  have hmem:∀ l b,Has μ' l b->∃ t ∈ τ,t.1=l/\b∈blkP t.2.2.1 t.2.2.2/\b∈F:=λl b hm=>by
    rcases hcase l with ⟨t,ht,rfl⟩|⟨_,h,h'⟩
    · have hb':b∈blkP t.2.2.1 t.2.2.2:=by
        rw [mem_blkP]
        unfold Has at hm
        rw [(hfits t ht).2.1,(hfits t ht).2.2] at hm
        exact hm
      refine ⟨t,ht,rfl,hb',?_⟩
      rw [<- tk.1]
      exact List.mem_flatMap.2 ⟨t,ht,hb'⟩
    · unfold Has at hm
      rw [h,h'] at hm
      simp at hm
  have hNN:∀ b,N b->Nof S σ' μ' w b:=λb hb=>⟨hN b hb,.inl hb,λl _ hm=>by
    obtain ⟨_,_,_,_,hbF⟩:=hmem l b hm
    exact (hF b hbF).2 hb⟩
  obtain ⟨hts,hobj⟩:=tk.2.2 σ' μ' (Nof S σ' μ' w) hNN hfits
  have hlen:=hts.len
  let a0:Act := { tmps:=vals.toArray++Array.replicate (fn.ntmps-vals.toArray.size) undef,defers:=[] }
  have hslots:∀ k,ARep σ' μ' w (Nof S σ' μ' w) (i5 (slotsOf 0 cvs) k) (a0.tmps.getD k undef):=λk=>by
    cases hk:cvs[k]? with
    | none=>
      rw [slotsOf_none (by right;have:=List.getElem?_eq_none_iff.1 hk;omega)]
      trivial
    | some x=>
      have:=slotsOf_some (i:=0) hk
      rw [Nat.zero_add] at this
      rw [this]
      obtain ⟨v,hv,hr⟩:=hts.at hk
      have hkl:k<vals.length:=(List.getElem?_eq_some_iff.1 hv).1
      have:a0.tmps.getD k undef=v:=by
        have h1:a0.tmps[k]? = some v:=by
          simp only [a0]
          rw [Array.getElem?_append_left (by simpa using hkl)]
          simpa using hv
        simp [Array.getD_eq_getD_getElem?,h1]
      rw [this]
      exact hr.av
  have R0:Rel w S fn.ntmps (i5 (slotsOf 0 cvs)) σ' a0 w:=by
    refine ⟨μ',⟨?_,rfl,⟨rfl,rfl,rfl⟩,Nat.le_refl _,λb hb => ?_,λ_ _ _=>rfl,λb cs e fr hb=>⟨cs,hb,rfl⟩,λl b _ hm => ?_,λl l' b _ _ hm hm' => ?_,λl _ hn => ?_,λp hp => ?_,λp hp => ?_,λhf=>Bool.noConfusion hf,λl => ?_,hslots⟩⟩
    · simp [a0];omega
    · rcases hb with hb|hb
      · exact .inr (.inr hb)
      · exact .inr (.inl hb)
    · obtain ⟨_,_,_,_,hbF⟩:=hmem l b hm
      exact ⟨(hF b hbF).1,.inr hbF⟩
    · obtain ⟨t,ht,rfl,e,_⟩:=hmem l b hm
      obtain ⟨t',ht',rfl,e',_⟩:=hmem l' b hm'
      rw [blkT_inj (by rw [tk.1];exact hnd) ht ht' e e']
    · rcases hcase l with ⟨t,ht,rfl⟩|⟨_,_,h⟩
      · rw [(hfits t ht).1] at hn
        rw [(hfits t ht).2.2]
        exact (tk.2.1 t ht).1 hn
      · exact h
    · obtain ⟨k,hk⟩:=List.mem_iff_getElem?.1 hp
      rw [List.getElem?_zip_eq_some] at hk
      obtain ⟨hk1,hk2⟩:=hk
      simp only [List.getElem?_map,Option.map_eq_some_iff] at hk1
      obtain ⟨x,hx1,hx2⟩:=hk1
      obtain ⟨v,hv,hr⟩:=hts.at hx1
      rw [hk2] at hv
      cases hv
      rw [<- hx2]
      exact hr.av
    · have:=List.of_mem_zip (a:=p.1) (b:=p.2) hp
      obtain ⟨x,hx1,hx2⟩:=List.mem_map.1 this.1
      rw [<- hx2]
      simp only [List.all_eq_true] at hlab
      exact hlab x hx1
    · rcases hcase l with ⟨t,ht,rfl⟩|⟨h,_⟩
      · rw [(hfits t ht).1];exact hobj t ht
      · rw [h];trivial
  have hsz:vals.toArray.size=vals.length:=by simp
  refine calls_of_wp hf hb ?_
  have R0':Rel w S fn.ntmps (i5 (⟨slotsOf 0 cvs,usOf τ⟩:St).slots) (St.o ⟨slotsOf 0 cvs,usOf τ⟩) a0 w:=by
    have:St.o ⟨slotsOf 0 cvs,usOf τ⟩ = σ':=by rw [<- hσ'];rfl
    rw [this]
    exact R0
  refine awp_sound hT hm c (λhf=>Bool.noConfusion hf) (λhf=>Bool.noConfusion hf) _ _ _ a0 w h3 R0' ?_
  intro e τ' a' w' hfin R'
  have hfin':Final real T fn.results.toList cvs out τ'/\(e.ex=.normal\/e.ex=.ret):=by
    cases e with
    | normal=>exact ⟨hfin,.inl rfl⟩
    | ret=>exact ⟨hfin,.inr rfl⟩
    | exit id=>exact hfin.elim
  obtain ⟨hfin',hex⟩:=hfin'
  obtain ⟨μ'',R''⟩:=R'
  have hpost:a'.defers=[]/\∃ v,(results fn a'.tmps).run P w'=.ok v w'/\Post w N F vals out (.returned v) w':=by
    obtain ⟨vs,ys,l1,hb',hvs,g1⟩:=resG_spec hT R'' (wp_run hfin')
    refine ⟨R''.defs,_,results_run hrl hvs,?_⟩
    obtain ⟨_,hb'⟩:=hb'
    obtain ⟨zs,l2,⟨_,k1,k2,k3,k4,k5⟩,g2⟩:=backG_spec R'' hlen (λk x v hx hv=>R''.ghost (x.av,v) (by
      apply List.mem_of_getElem? (i:=k)
      rw [List.getElem?_zip_eq_some]
      exact ⟨by simp [hx],hv⟩)) (wp_run hb')
    have hb1:l1.bo=[]:=by simpa using k2
    have hb2:l2.bo=[]:=by simpa using k3
    obtain ⟨hnd',_⟩:=exOk_spec k1
    have hval:∀ p∈l1.ex++l2.ex,Valid τ'.o p:=λp hp=>by
      rcases List.mem_append.1 hp with hp|hp
      · exact g1.1 p (by simp [hp])
      · exact g2.1 p (by simp [hp])
    have hNo:∀ b,Nof S τ'.o μ'' w' b->Nout w w' N F (blk μ'' l1.ex++blk μ'' l2.ex) b:=λb hb=>by
      refine ⟨hb.1,λhin => ?_,hb.2.1⟩
      rw [<- blk_append] at hin
      obtain ⟨p,hp,hmp⟩:=blk_mem hin
      exact hb.2.2 p.1 (hval p hp).1 hmp
    have e1:=g1.2 _ hNo (λp hp=>by rw [hb1] at hp;simp at hp)
    have e2:=g2.2 _ hNo (λp hp=>by rw [hb2] at hp;simp at hp)
    refine ⟨_,blk μ'' l1.ex,blk μ'' l2.ex,rfl,R''.env,R''.grow,R''.frame,R''.shape,λb hb => ?_,?_,?_,?_⟩
    · rw [<- blk_append] at hb
      obtain ⟨p,hp,hmp⟩:=blk_mem hb
      have:=R''.ownH p.1 b (hval p hp).1 hmp
      exact ⟨this.1,this.2.symm⟩
    · rw [<- blk_append]
      exact blk_nodup R'' hnd' hval
    · rw [<- k4]
      rcases ys with _|⟨y,_|⟨y',ys⟩⟩<;>rcases vs with _|⟨v,_|⟨v',vs⟩⟩
      · exact ⟨#[],rfl,e1⟩
      · exact e1.elim
      · exact e1.elim
      · exact e1.elim
      · obtain ⟨F1,F2,e,q1,q2⟩:=e1
        have q2:F2=[]:=q2
        subst q2
        rw [List.append_nil] at e
        rw [<- e] at q1
        exact q1
      · obtain ⟨F1,F2,e,q1,q2⟩:=e1
        exact q2.elim
      · exact e1.elim
      · obtain ⟨F1,F2,e,q1,q2⟩:=e1
        exact q2.elim
      · exact ⟨_,rfl,by simpa using e1⟩
    · rw [<- k5];exact e2
  rcases hex with h|h<;>rw [h]<;>exact hpost
end
section
variable (T:TypeId->Option TI)
def fieldsOk:List Field->Nat->Nat->Bool
  | [],o,s=>nbeq o s
  | f::r,o,s=>nbeq f.offset o&&match T f.type with|some i=>fieldsOk r (o+i.size) s|none=>false
def shOk:Nat->TypeId->Bool
  | 0,_=>false
  | n+1,t=>match T t with
    | some ⟨.int _,s,_,_,_⟩=>nbeq s 1
    | some ⟨.bool,s,_,_,_⟩=>nbeq s 1
    | some ⟨.slice e,s,_,_,_⟩=>nbeq s 1&&((match T e with|some i=>nblt 0 i.size|none=>false)&&shOk n e)
    | some ⟨.struct fs,s,_,_,_⟩=>fieldsOk T fs.toList 0 s&&fs.toList.all λf=>shOk n f.type
    | _=>false
def ShowsAll (F:TypeId->List DV->Prop):List Field->List DV->Prop
  | [],l=>l=[]
  | f::r,l=>∃ a b,l=a++b/\F f.type a/\ShowsAll F r b
def Shows:Nat->TypeId->List DV->Prop
  | 0,_,_=>False
  | n+1,t,l=>match T t with
    | some ⟨.int k,_,_,_,_⟩=>∃ x,l=[.v (.int k x)]/\(Lit.int k x).wf=true
    | some ⟨.bool,_,_,_,_⟩=>∃ b,l=[.v (.bool b)]
    | some ⟨.slice e,_,_,_,_⟩=>∃ sz m row,l=[.sl sz m row]/\(T e).map (·.size)=some sz/\m<=maxLen/\∀ i,Shows n e (row i)
    | some ⟨.struct fs,_,_,_,_⟩=>ShowsAll (Shows n) fs.toList l
    | _=>False
end
def Cells (w:World) (N:Nat->Prop) (l:List DV) (cs:List Value):Prop:=l.length=cs.length/\∀ (j:Nat) y,l[j]? = some y->∃ v,cs[j]? = some v/\DRep w N y v
section
variable {P:Program} {T:TypeId->Option TI} {w:World} {N:Nat->Prop}
theorem Cells.app {l l':List DV} {cs cs':List Value} (h:Cells w N l cs) (h':Cells w N l' cs'):Cells w N (l++l') (cs++cs'):=by
  refine ⟨by simp [h.1,h'.1],λj y hj => ?_⟩
  by_cases hlt:j<l.length
  · rw [List.getElem?_append_left hlt] at hj
    obtain ⟨v,hv,hd⟩:=h.2 j y hj
    exact ⟨v,by rw [List.getElem?_append_left (by rw [<- h.1];exact hlt)];exact hv,hd⟩
  · rw [List.getElem?_append_right (by omega)] at hj
    obtain ⟨v,hv,hd⟩:=h'.2 _ y hj
    exact ⟨v,by rw [List.getElem?_append_right (by rw [<- h.1];omega),<- h.1];exact hv,hd⟩
theorem Cells.one {x:DV} {v:Value} (h:DRep w N x v):Cells w N [x] [v]:=by
  refine ⟨rfl,λj y hj => ?_⟩
  cases j with
  | zero=>simp at hj;subst hj;exact ⟨v,rfl,h⟩
  | succ j=>simp at hj
theorem fits_len:∀ {n:Nat} {t:TypeId} {i:TI} {l:List DV},shOk T n t=true->T t=some i->Shows T n t l->l.length=i.size:=by
  intro n
  induction n with
  | zero=>intro t i l h _ _;cases h
  | succ n ih=>
    intro t i l h ht hf
    unfold shOk at h
    unfold Shows at hf
    rw [ht] at h hf
    obtain ⟨desc,s,b,z,q⟩:=i
    cases desc with
    | int k=>obtain ⟨x,rfl,_⟩:=hf;have:=i3 h;simp [this]
    | bool=>obtain ⟨x,rfl⟩:=hf;have:=i3 h;simp [this]
    | slice e=>
      obtain ⟨sz,m,row,rfl,_⟩:=hf
      simp only [Bool.and_eq_true] at h
      have:=i3 h.1;simp [this]
    | struct fs=>
      simp only [Bool.and_eq_true,List.all_eq_true] at h
      obtain ⟨h1,h2⟩:=h
      have gen:∀ (fs:List Field) (o:Nat) (l:List DV),fieldsOk T fs o s=true->(∀ f∈fs,shOk T n f.type=true)->ShowsAll (Shows T n) fs l->o+l.length=s:=by
        intro fs
        induction fs with
        | nil=>intro o l h _ hl;have hl:l=[]:=hl;subst hl;simpa using i3 h
        | cons f r ihf=>
          intro o l h hs hl
          obtain ⟨a,b,rfl,ha,hb⟩:=hl
          simp only [fieldsOk,Bool.and_eq_true] at h
          cases hT:T f.type with
          | none=>rw [hT] at h;simp at h
          | some i'=>
            rw [hT] at h
            have e1:=ih (hs f (by simp)) hT ha
            have e2:=ihf _ b h.2 (λg hg=>hs g (by simp [hg])) hb
            simp [e1];omega
      have:=gen fs.toList 0 l h1 h2 hf
      simpa using this
    | _=>exact hf.elim
theorem fits_inh:∀ {n:Nat} {t:TypeId},shOk T n t=true->∃ l,Shows T n t l:=by
  intro n
  induction n with
  | zero=>intro t h;cases h
  | succ n ih=>
    intro t h
    unfold shOk at h
    unfold Shows
    cases ht:T t with
    | none=>rw [ht] at h;cases h
    | some i=>
      rw [ht] at h
      obtain ⟨desc,s,b,z,q⟩:=i
      cases desc with
      | int k=>exact ⟨_,0,rfl,by cases k<;>decide⟩
      | bool=>exact ⟨_,false,rfl⟩
      | slice e=>
        simp only [Bool.and_eq_true] at h
        obtain ⟨h0,h1,h2⟩:=h
        obtain ⟨l,hl⟩:=ih h2
        cases he:T e with
        | none=>rw [he] at h1;cases h1
        | some i=>exact ⟨_,i.size,0,λ_=>l,rfl,by simp [he],Nat.zero_le _,λ_=>hl⟩
      | struct fs=>
        simp only [Bool.and_eq_true,List.all_eq_true] at h
        have gen:∀ (fs:List Field),(∀ f∈fs,shOk T n f.type=true)->∃ l,ShowsAll (Shows T n) fs l:=by
          intro fs
          induction fs with
          | nil=>intro _;exact ⟨[],rfl⟩
          | cons f r ihf=>
            intro hs
            obtain ⟨a,ha⟩:=ih (hs f (by simp))
            obtain ⟨b,hb⟩:=ihf λg hg=>hs g (by simp [hg])
            exact ⟨a++b,a,b,rfl,ha,hb⟩
        exact gen _ h.2
      | _=>cases h
theorem trod_fits {H:Type} {enc:TypeId × Value->H} (hT:TTok P T):∀ (n:Nat) (t:TypeId) (fuel:Nat) (cs:List Value) (x:DataW H × List MemPlace),shOk T n t=true ->
    DataW.trod enc P w 0 (λ_=>true) true fuel t cs=some x->∃ l,Shows T n t l/\Cells w (λb=>b<w.heap.size) l cs:=by
  intro n
  induction n with
  | zero=>intro t _ _ _ h;cases h
  | succ n ih=>
    intro t fuel cs x h hx
    have h':=h
    unfold shOk at h
    cases ht:T t with
    | none=>rw [ht] at h;cases h
    | some i=>
      rw [ht] at h
      have hd:=hT.desc t i ht
      have hcells:P.cellsOf t=i.size:=by
        obtain ⟨inf,z,h1,h2,_⟩:=hT.info t i ht
        simp [Program.cellsOf,h1,h2]
      unfold Shows
      rw [ht]
      obtain ⟨desc,s,b,z,q⟩:=i
      cases desc with
      | int k=>
        cases fuel with
        | zero=>simp [DataW.trod] at hx
        | succ fuel=>
          have e:∃ m,cs=[.int k m]/\(Lit.int k m).wf=true:=by
            unfold DataW.trod at hx
            rw [hd] at hx
            split at hx<;>simp_all
          obtain ⟨m,rfl,hm⟩:=e
          exact ⟨_,⟨m,rfl,hm⟩,Cells.one (.v _ rfl)⟩
      | bool=>
        cases fuel with
        | zero=>simp [DataW.trod] at hx
        | succ fuel=>
          have e:∃ m,cs=[.bool m]:=by
            unfold DataW.trod at hx
            rw [hd] at hx
            split at hx<;>first|exact ⟨_,rfl⟩|simp_all
          obtain ⟨m,rfl⟩:=e
          exact ⟨_,⟨m,rfl⟩,Cells.one (.v _ rfl)⟩
      | slice e=>
        simp only [Bool.and_eq_true] at h
        obtain ⟨h0,h1,h2⟩:=h
        cases he:T e with
        | none=>rw [he] at h1;cases h1
        | some ie=>
          rw [he] at h1
          have hpos:0<ie.size:=by simpa [nblt_eq] using h1
          have hce:P.cellsOf e=ie.size:=by
            obtain ⟨inf,z,h1,h2,_⟩:=hT.info e ie he
            simp [Program.cellsOf,h1,h2]
          obtain ⟨l0,hl0⟩:=fits_inh h2
          rcases Go.Deep.open_slice hd hx with ⟨rfl,_⟩|⟨a,len,cap,m,k,D,Pl,rfl,_,hle,hmax,hm,_,hel⟩
          · exact ⟨_,⟨ie.size,0,λ_=>l0,rfl,by simp [he],Nat.zero_le _,λ_=>hl0⟩,Cells.one (.nil _ _)⟩
          · simp only [if_true] at hm
            subst hm
            have hrow:∀ i,∃ l,Shows T n e l/\(i<m->∃ cs',w.cells? 0 (a.add (i*ie.size)) ie.size=some cs'/\Cells w (λb=>b<w.heap.size) l cs'):=λi=>by
              by_cases hi:i<m
              · obtain ⟨cs',e1,e2⟩:=hel i hi
                obtain ⟨l,f1,f2⟩:=ih e k cs' _ h2 e2
                rw [hce] at e1
                exact ⟨l,f1,λ_=>⟨cs',e1,f2⟩⟩
              · exact ⟨l0,hl0,λh=>(hi h).elim⟩
            let row:Nat->List DV:=λi=>Classical.choose (hrow i)
            have hr1:∀ i,Shows T n e (row i):=λi=>(Classical.choose_spec (hrow i)).1
            have hr2:∀ i,i<m->∃ cs',w.cells? 0 (a.add (i*ie.size)) ie.size=some cs'/\Cells w (λb=>b<w.heap.size) (row i) cs':=λi=>(Classical.choose_spec (hrow i)).2
            refine ⟨_,⟨ie.size,len,row,rfl,by simp [he],Nat.le_trans hle hmax,hr1⟩,Cells.one ?_⟩
            by_cases hc0:m=0
            · subst hc0
              obtain rfl:len=0:=by omega
              exact .empty _ _ _
            · have hcell:∀ i j,i<m->j<ie.size->∃ v,w.cell? ((a.add (i*ie.size)).add j)=some v/\∀ y,(row i)[j]? = some y->DRep w (λb=>b<w.heap.size) y v:=λi j hi hj=>by
                obtain ⟨cs',c1,c2⟩:=hr2 i hi
                obtain ⟨_,c3,c4⟩:=World.cells?_some c1
                have hjl:j<(row i).length:=by rw [c2.1,c3];exact hj
                obtain ⟨v,hv,hdv⟩:=c2.2 j _ (List.getElem?_eq_getElem hjl)
                refine ⟨v,by rw [c4 j hj];exact hv,λy hy => ?_⟩
                rw [List.getElem?_eq_getElem hjl] at hy
                cases hy
                exact hdv
              obtain ⟨ab,ao,asp⟩:=a
              obtain ⟨v0,hv0,_⟩:=hcell 0 0 (by omega) hpos
              simp only [Nat.zero_mul,Addr.add,if_true] at hv0
              obtain ⟨c,ce,cf,hb,hsp⟩:∃ c ce cf,w.heap[ab]? = some (.cells c ce cf)/\asp=none:=by
                unfold World.cell? at hv0
                split at hv0
                · rename_i c ce cf hb
                  cases asp with
                  | none=>exact ⟨c,ce,cf,hb,rfl⟩
                  | some _=>simp at hv0
                · cases hv0
              subst hsp
              have hcell':∀ i j,i<m->j<ie.size->∃ v,c[ao+i*ie.size+j]? = some v/\∀ y,(row i)[j]? = some y->DRep w (λb=>b<w.heap.size) y v:=λi j hi hj=>by
                obtain ⟨v,h1,h2⟩:=hcell i j hi hj
                refine ⟨v,?_,h2⟩
                have e1:((⟨ab,ao,none⟩:Addr).add (i*ie.size)).add j=⟨ab,ao+i*ie.size+j,none⟩:=by
                  unfold Addr.add
                  split<;>split<;>simp_all
                rw [e1] at h1
                simpa [World.cell?,hb] using h1
              have hlen:∀ i,(row i).length=ie.size:=λi=>fits_len h2 he (hr1 i)
              have hu:∀ i j,∃ v,i<m->j<ie.size->c[ao+i*ie.size+j]? = some v/\∀ y,(row i)[j]? = some y->DRep w (λb=>b<w.heap.size) y v:=λi j=>by
                by_cases hi:i<m
                · by_cases hj:j<ie.size
                  · obtain ⟨v,hv⟩:=hcell' i j hi hj
                    exact ⟨v,λ_ _=>hv⟩
                  · exact ⟨undef,λ_ h=>(hj h).elim⟩
                · exact ⟨undef,λh=>(hi h).elim⟩
              have hjlt:∀ i j y,(row i)[j]? = some y->j<ie.size:=λi j y hy=>by rw [<- hlen i];exact (List.getElem?_eq_some_iff.1 hy).1
              refine .sl ie.size len row ab ao m c ce cf (λi j=>Classical.choose (hu i j)) (Array.getElem?_eq_some_iff.1 hb).1 hb hle ?_ (λi _=>hlen i) (λi j y hi hy => ?_) (λi j y hi hy => ?_)
              · obtain ⟨v,hv,_⟩:=hcell' (m-1) (ie.size-1) (by omega) (by omega)
                have:=(Array.getElem?_eq_some_iff.1 hv).1
                have e:m*ie.size=(m-1)*ie.size+ie.size:=by
                  have:m=(m-1)+1:=by omega
                  rw [this,Nat.add_mul];simp
                omega
              · exact ((Classical.choose_spec (hu i j)) (by omega) (hjlt i j y hy)).1
              · exact ((Classical.choose_spec (hu i j)) (by omega) (hjlt i j y hy)).2 y hy
      | struct fs=>
        simp only [Bool.and_eq_true,List.all_eq_true] at h
        obtain ⟨h1,h2⟩:=h
        obtain ⟨xs,k,_,_,hcl,hxl,hfx⟩:=DataW.trod_struct hd hx
        rw [hcells] at hcl
        have hcl:cs.length=s:=hcl
        have gen:∀ (fs:List Field) (o:Nat),fieldsOk T fs o s=true->(∀ f∈fs,shOk T n f.type=true) ->
            (∀ f∈fs,∃ y,DataW.trod enc P w 0 (λ_=>true) true k f.type ((cs.drop f.offset).take (P.cellsOf f.type))=some y) ->
            ∃ l,ShowsAll (Shows T n) fs l/\Cells w (λb=>b<w.heap.size) l (cs.drop o):=by
          intro fs
          induction fs with
          | nil=>
            intro o h _ _
            have:o=s:=i3 h
            refine ⟨[],rfl,?_⟩
            rw [List.drop_of_length_le (by omega)]
            exact ⟨rfl,λj y hj=>by simp at hj⟩
          | cons f r ihf=>
            intro o h hs hy
            simp only [fieldsOk,Bool.and_eq_true] at h
            cases hTf:T f.type with
            | none=>rw [hTf] at h;simp at h
            | some i'=>
              rw [hTf] at h
              obtain ⟨h3,h4⟩:=h
              have ho:f.offset=o:=i3 h3
              have hcf:P.cellsOf f.type=i'.size:=by
                obtain ⟨inf,z,h1,h2,_⟩:=hT.info f.type i' hTf
                simp [Program.cellsOf,h1,h2]
              obtain ⟨y,hy1⟩:=hy f (by simp)
              obtain ⟨l1,f1,c1⟩:=ih f.type k _ y (hs f (by simp)) hy1
              obtain ⟨l2,f2,c2⟩:=ihf (o+i'.size) h4 (λg hg=>hs g (by simp [hg])) (λg hg=>hy g (by simp [hg]))
              refine ⟨l1++l2,⟨l1,l2,rfl,f1,f2⟩,?_⟩
              have:=c1.app c2
              rw [ho,hcf] at this
              have e:List.take i'.size (List.drop o cs)++List.drop (o+i'.size) cs=List.drop o cs:=by
                rw [<- List.drop_drop];exact List.take_append_drop _ _
              rw [e] at this
              exact this
        obtain ⟨l,hl1,hl2⟩:=gen fs.toList 0 h1 h2 λf hf=>by
          obtain ⟨i,hi⟩:=List.mem_iff_getElem?.1 hf
          have hi':fs[i]? = some f:=by simpa using hi
          have hil:i<xs.length:=by rw [hxl];exact (Array.getElem?_eq_some_iff.1 hi').1
          exact ⟨xs[i],by rw [hfx i f hi'];exact List.getElem?_eq_getElem hil⟩
        exact ⟨l,hl1,by simpa using hl2⟩
      | _=>cases h
end
end Go.Rk
namespace Go.Rk
set_option linter.unusedSimpArgs false
set_option linter.unusedVariables false
open Go.RowKit
def xtIn (T:TypeId->Option TI) (t:TypeId) (l:List DV):XT:=
  match T t with
  | some i=>if isAggT i.desc then .agg (l.map .d) else match l with
    | [x]=>.c (.d x)
    | _=>.agg []
  | none=>.agg []
def ShowsL (T:TypeId->Option TI) (n:Nat):List TypeId->List (List DV)->Prop
  | [],[]=>True
  | t::ts,l::ls=>Shows T n t l/\ShowsL T n ts ls
  | _,_=>False
def xtsIn (T:TypeId->Option TI):List TypeId->List (List DV)->List XT
  | t::ts,l::ls=>xtIn T t l::xtsIn T ts ls
  | _,_=>[]
def noneL {α:Type}:List α->List (Option XV)
  | []=>[]
  | _::r=>none::noneL r
section
variable {P:Program} {T:TypeId->Option TI} {w:World} {N:Nat->Prop}
theorem XVsRep.ofD:∀ {l:List DV} {cs:List Value},Cells w N l cs->XVsRep w N (l.map .d) cs []
  | [],[],_=>rfl
  | [],_::_,h=>by have:=h.1;simp at this
  | _::_,[],h=>by have:=h.1;simp at this
  | x::r,v::s,h=>by
    obtain ⟨u,hu,hd⟩:=h.2 0 x rfl
    simp at hu;subst hu
    exact ⟨[],[],rfl,⟨rfl,hd⟩,XVsRep.ofD ⟨by have:=h.1;simpa using this,λj y hj=>by simpa using h.2 (j+1) y (by simpa using hj)⟩⟩
theorem reads_in {H:Type} {enc:TypeId × Value->H} (hT:TTok P T) {n:Nat} {r:Reach} {base:Nat}:∀ {ts:List TypeId} {vs:List Value} {ds:List (DataW H)} {ps:List MemPlace},
    (∀ t∈ts,shOk T n t=true)->(∀ (j:Nat) t v,ts[j]? = some t->vs[j]? = some v->Value.okWide P w r base t v)->DataW.TrodAll enc P w 0 (λ_=>true) true ts vs ds ps ->
    ∃ ls,ShowsL T n ts ls/\XTsRep w (λb=>b<w.heap.size) (xtsIn T ts ls) vs []
  | [],[],[],_,_,_,_=>⟨[],trivial,rfl⟩
  | t::ts,v::vs,d::ds,ps,hsh,hok,h=>by
    obtain ⟨p,q,⟨fuel,h1⟩,h2,_⟩:=h
    obtain ⟨ls,e1,e2⟩:=reads_in hT (λt ht=>hsh t (by simp [ht])) (λj t v ht hv=>hok (j+1) t v (by simpa using ht) (by simpa using hv)) h2
    obtain ⟨l,f1,f2⟩:=trod_fits hT n t fuel v.cells.toList _ (hsh t (by simp)) h1
    refine ⟨l::ls,⟨f1,e1⟩,[],[],rfl,?_,e2⟩
    have hsh0:=hsh t (by simp)
    have ok:=hok 0 t v rfl rfl
    cases n with
    | zero=>cases hsh0
    | succ n=>
      unfold shOk at hsh0
      cases ht:T t with
      | none=>rw [ht] at hsh0;cases hsh0
      | some i=>
        rw [ht] at hsh0
        have hd:=hT.desc t i ht
        have hl:=fits_len (hsh t (by simp)) ht f1
        have one:i.size=1->isAggT i.desc=false->(∀ cs,v ≠ .agg cs)->XTRep w (λb=>b<w.heap.size) (xtIn T t l) v []:=by
          intro hs ha hv
          unfold xtIn
          rw [ht]
          simp only [ha]
          rw [hs] at hl
          match l,hl with
          | [x],_=>
            refine ⟨rfl,?_⟩
            have hcs:v.cells = #[v]:=by cases v<;>first|rfl|exact absurd rfl (hv _)
            rw [hcs] at f2
            obtain ⟨u,hu,hdd⟩:=f2.2 0 x rfl
            simp at hu;subst hu
            exact hdd
        obtain ⟨desc,s,b,z,q⟩:=i
        cases desc with
        | int k=>
          refine one (i3 hsh0) rfl λcs e => ?_
          subst e
          simp [Value.okWide,hd,Cell.okWide,Cell.ok] at ok
        | bool=>
          refine one (i3 hsh0) rfl λcs e => ?_
          subst e
          simp [Value.okWide,hd,Cell.okWide,Cell.ok] at ok
        | slice e=>
          simp only [Bool.and_eq_true] at hsh0
          refine one (i3 hsh0.1) rfl λcs e => ?_
          subst e
          simp [Value.okWide,hd,Cell.okWide,Cell.ok] at ok
        | struct fs=>
          simp only [Value.okWide,hd] at ok
          obtain ⟨cs,rfl,_⟩:=ok
          unfold xtIn
          rw [ht]
          exact ⟨cs,rfl,XVsRep.ofD f2⟩
        | _=>cases hsh0
  | [],_::_,_,_,_,_,h=>by cases h
  | _::_,[],_,_,_,_,h=>by cases h
  | [],[],_::_,_,_,_,h=>by cases h
  | _::_,_::_,[],_,_,_,h=>by cases h
theorem carryAll {H:Type} {enc:TypeId × Value->H} (hl:laidOutB P=true) {w':World} (hb:Below w.heap.size w w'):∀ {ts:List TypeId} {vs:List Value} {ds:List (DataW H)} {ps:List MemPlace},
    (∀ t∈ts,P.readableRec t=true/\t<P.types.size)->DataW.TrodAll enc P w 0 (λ_=>true) true ts vs ds ps ->
    DataW.TrodAll enc P w' 0 (λb=>decide (b<w.heap.size)) true ts vs ds ps
  | [],[],[],_,_,h=>h
  | t::ts,v::vs,d::ds,ps,hr,h=>by
    obtain ⟨p,q,h1,h2,e⟩:=h
    have hlt:∀ x∈p,x.block<w.heap.size:=by obtain ⟨m,hm⟩:=h1;exact DataW.trod_lt m _ _ _ hm
    exact ⟨p,q,Below.trod hl (hr t (by simp)).1 (hr t (by simp)).2 h1 hb hlt,carryAll hl hb (λt ht=>hr t (by simp [ht])) h2,e⟩
  | [],_::_,_,_,_,h=>by cases h
  | _::_,[],_,_,_,h=>by cases h
  | [],[],_::_,_,_,h=>by cases h
  | _::_,_::_,[],_,_,h=>by cases h
theorem law_contract (hT:TTok P T) {n:Nat} {f:FuncId} {fn:Func} {s:ChangeSpec} {tb:TypeId} (hl:laidOutB P=true)
    (hsh:fn.params.toList.all (shOk T n)=true) (hread:(fn.params.toList.all λt=>P.readableRec t&&decide (t<P.types.size))=true)
    (hres:fn.resultTypes = #[tb]) (htb:P.underlying tb=some .bool) (hv:s.vars=[])
    (hs:∀ (H:Type) (ds:List (DataW H)),ds.length=fn.params.size->(s.fn H ds).results=[.lit (.bool true)]/\(s.fn H ds).args=ds/\(s.fn H ds).vars=[])
    (hm:∀ ls,ShowsL T n fn.params.toList ls->d7 P f (xtsIn T fn.params.toList ls) ⟨.one (.c (.d (.v (.bool true)))),noneL fn.params.toList⟩)
    {H:Type} {enc:TypeId × Value->H} (W:World) (base:Nat) (args:Array Value) (ds gs:List (DataW H)) (before:List MemPlace)
    (hval:∀ (j:Nat) t v,fn.params[j]? = some t->args[j]? = some v->Value.okWide P W .any base t v)
    (hW:DataW.Whole enc P fn.params.toList s.vars false W args.toList ds gs before) :
    Calls P f args W λe W'=>∃ v,e=.returned v/\s.post enc P fn false true false false W args v W':=by
  have hW':=hW
  obtain ⟨p,q,hA,hV,rfl,hfz,hnd⟩:=hW
  rw [hv] at hV
  have hgs:gs=[]/\q=[]:=by
    cases gs with
    | nil=>exact ⟨rfl,hV⟩
    | cons _ _=>cases hV
  obtain ⟨rfl,rfl⟩:=hgs
  simp only [List.all_eq_true] at hsh
  simp only [List.all_eq_true,Bool.and_eq_true,decide_eq_true_eq] at hread
  obtain ⟨ls,h1,h2⟩:=reads_in hT hsh (λj t v ht hv=>hval j t v (by simpa using ht) (by simpa using hv)) hA
  obtain ⟨_,hcalls⟩:=hm ls h1
  have:=hcalls W args.toList [] (λb=>b<W.heap.size) h2 (by simp) (λb hb=>by simp at hb) (λb hb=>hb)
  refine (show Calls P f args.toList.toArray W _ from this).mono λe W' hp => ?_
  obtain ⟨v,F1,F2,rfl,env,hsize,hframe,hshape,hFs,hFn,hres',hback⟩:=hp
  have hvb:v=.bool true:=by
    obtain ⟨_,hd⟩:=hres'
    cases hd
    rfl
  subst hvb
  have hbel:Below W.heap.size W W':=⟨env.1,env.2.2,env.2.1,hsize,λk hk=>hframe k hk (by simp)⟩
  have hdl:∀ {ts:List TypeId} {vs:List Value} {ds:List (DataW H)} {ps:List MemPlace},DataW.TrodAll enc P W 0 (λ_=>true) true ts vs ds ps->ds.length=ts.length:=by
    intro ts
    induction ts with
    | nil=>intro vs ds ps h;cases vs<;>cases ds<;>first|rfl|cases h
    | cons t ts ih=>
      intro vs ds ps h
      cases vs<;>cases ds<;>first | (obtain ⟨_,_,_,h2,_⟩:=h;simp [ih h2])|cases h
  obtain ⟨s1,s2,s3⟩:=hs H ds (by rw [hdl hA];simp)
  refine ⟨_,rfl,ds,[],_,[],p,[],hW',?_,?_,?_,hbel.frame _,λh=>by cases h⟩
  · rw [List.append_nil,s1,hres]
    refine ⟨[],[],⟨1,?_⟩,rfl,rfl⟩
    simp [DataW.trod,Value.cells,htb]
  · rw [List.append_nil,s2]
    exact carryAll hl hbel hread hA
  · rw [List.append_nil,s3,hv]
    rfl
end
end Go.Rk
namespace Go.Rk
set_option linter.unusedSimpArgs false
set_option linter.unusedVariables false
def tabT:List (Nat × TI)->TypeId->Option TI
  | [],_=>none
  | (j,i)::r,t=>bif nbeq j t then some i else tabT r t
def flatOk (T:TypeId->Option TI):Nat->List Field->List Value->Bool
  | _,[],[]=>true
  | o, f :: r, z :: s => !(f.name == "_") && (nbeq f.offset o && ((match T f.type, z with
    | some ⟨.int _,_,_,_,_⟩,.int _ _=>true
    | some ⟨.bool,_,_,_,_⟩,.bool _=>true
    | _,_=>false)&&flatOk T (o+1) r s))
  | _,_,_=>false
def kEq:List Value->List Value->Bool
  | [],[]=>true
  | .int k _::r,.int k' _::s=>decide (k=k')&&kEq r s
  | .bool _::r,.bool _::s=>kEq r s
  | _,_=>false
def leafOk:TypeDesc->List Value->Bool
  | .int _,.int _ _::_=>true
  | .bool,.bool _::_=>true
  | _,_=>false
def nestOk (T:TypeId->Option TI) (i:TI) (zs:List Value):Bool:=match i.desc with
  | .struct gs=>i.eqk&&(flatOk T 0 gs.toList i.zero&&(kEq i.zero (zs.take i.size)&&nbeq i.zero.length i.size))
  | _=>false
def flat2Ok (T:TypeId->Option TI):Nat->List Field->List Value->Bool
  | _,[],[]=>true
  | _,[],_::_=>false
  | o, f :: r, zs => !(f.name == "_") && (nbeq f.offset o && (match T f.type with
    | some i=>bif leafOk i.desc zs then flat2Ok T (o+1) r (zs.drop 1) else nestOk T i zs&&flat2Ok T (o+i.size) r (zs.drop i.size)
    | none=>false))
def eqOk (T:TypeId->Option TI) (i:TI):Bool:=match i.desc with
  | .struct fs=>flat2Ok T 0 fs.toList i.zero
  | _=>false
structure TRow (P:Program) (t:TypeId) (i:TI):Prop where
  desc:P.underlying t=some i.desc
  info:∃ inf z,P.info? t=some inf/\inf.size=i.size/\inf.bytes=i.bytes/\inf.zero=some z/\z.cells.toList=i.zero/\i.zero.length=i.size/\(i.zero.all (·.oneCell'))=true
  held:i.eqk=true->P.stoodInHeld t=false/\P.eqGuardType P.depth t=false
def TRows (P:Program):List (Nat × TI)->Prop
  | []=>True
  | p::r=>TRow P p.1 p.2/\TRows P r
section
variable {P:Program} {tab:List (Nat × TI)}
theorem TRows.at:∀ {tab:List (Nat × TI)},TRows P tab->∀ t i,tabT tab t=some i->TRow P t i/\(t,i)∈tab
  | [],_,_,_,h=>by cases h
  | (j,i0)::r,hr,t,i,h=>by
    unfold tabT at h
    cases hb:nbeq j t with
    | true=>
      rw [hb] at h
      cases h
      have:=i3 hb
      subst this
      exact ⟨hr.1,by simp⟩
    | false=>
      rw [hb] at h
      obtain ⟨h1,h2⟩:=TRows.at hr.2 t i h
      exact ⟨h1,by simp [h2]⟩
theorem flat_eq {T:TypeId->Option TI} (hd:∀ t i,T t=some i->P.underlying t=some i.desc) (w:World) (d:Nat) (us vs:Array Value):∀ (fs:List Field) (o:Nat) (zs:List Value) (xs ys:List CV) (r:Bool),
    flatOk T o fs zs=true->kindsB xs zs=true->eqCells real xs ys=some r->(∀ (j:Nat) x,xs[j]? = some (CV.d (.v x))->us[o+j]? = some x)->(∀ (j:Nat) y,ys[j]? = some (CV.d (.v y))->vs[o+j]? = some y) ->
    (Op.eqFields (d+1) us vs fs).run P w=.ok r w
  | [],o,z::zs,xs,ys,r,hf,_,_,_,_=>by cases hf
  | [],o,[],x::xs,ys,r,_,hl,_,_,_=>by unfold kindsB at hl;split at hl<;>simp_all
  | [],o,[],[],ys,r,_,_,he,_,_=>by
    cases ys with
    | nil=>cases he;simp [Op.eqFields]
    | cons _ _=>cases he
  | f::fs,o,[],xs,ys,r,hf,_,_,_,_=>by cases hf
  | f::fs,o,z::zs,[],ys,r,_,hl,_,_,_=>by cases hl
  | f::fs,o,z::zs,x::xs,ys,r,hf,hl,he,hx,hy=>by
    simp only [flatOk,Bool.and_eq_true,Bool.not_eq_true'] at hf
    obtain ⟨hn,ho,ht,hf⟩:=hf
    have hn' : f.name ≠ "_" := by simpa using hn
    have ho:f.offset=o:=i3 ho
    have step:∀ (a b:Value) (q s:Bool),us[o]? = some a->vs[o]? = some b->P.plainKey f.type=true->(Op.equalIn (d+1) f.type a b).run P w=.ok q w ->
        (Op.eqFields (d+1) us vs fs).run P w=.ok s w->(Op.eqFields (d+1) us vs (f::fs)).run P w=.ok (q&&s) w:=by
      intro a b q s ha hb hp hq hs
      rw [Op.eqFields]
      simp only [if_pos hn',Sem.run_bind,ho,run_part_plain w hp ha,run_part_plain w hp hb,hq,Result.andThen_ok]
      cases q
      · simp
      · simpa using hs
    have hpk:∀ desc,P.underlying f.type=some desc->((∃ k,desc=.int k)\/desc=.bool)->P.plainKey f.type=true:=by
      intro desc hu hdd
      unfold Program.plainKey
      rw [hu]
      rcases hdd with ⟨k,rfl⟩|rfl<;>simp
    unfold eqCells at he
    split at he
    · simp_all
    · rename_i k a xs' k' b ys' e1
      simp only [List.cons.injEq] at e1
      obtain ⟨rfl,rfl⟩:=e1
      split at he
      · rename_i hk
        subst hk
        simp only [Option.map_eq_some_iff] at he
        obtain ⟨s,he,rfl⟩:=he
        cases z with
        | int k2 _=>
          simp only [kindsB,Bool.and_eq_true] at hl
          have ih:=flat_eq hd w d us vs fs (o+1) zs xs ys' s hf hl.2 he (λj x hj=>by have:=hx (j+1) x (by simpa using hj);rw [show o+1+j=o+(j+1) by omega];exact this)
            (λj y hj=>by have:=hy (j+1) y (by simpa using hj);rw [show o+1+j=o+(j+1) by omega];exact this)
          have ha:=hx 0 _ rfl
          have hb:=hy 0 _ rfl
          cases hT:T f.type with
          | none=>rw [hT] at ht;cases ht
          | some i=>
            rw [hT] at ht
            have hu:=hd f.type i hT
            obtain ⟨desc,s1,s2,s3,s4⟩:=i
            cases desc with
            | int k'=>exact step _ _ (a==b) s ha hb (hpk _ hu (.inl ⟨_,rfl⟩)) (run_equalIn_int w d f.type k k' a b hu) ih
            | _=>cases ht
        | _=>cases hl
      · cases he
    · rename_i a xs' b ys' e1
      simp only [List.cons.injEq] at e1
      obtain ⟨rfl,rfl⟩:=e1
      simp only [Option.map_eq_some_iff] at he
      obtain ⟨s,he,rfl⟩:=he
      cases z with
      | bool _=>
        simp only [kindsB] at hl
        have ih:=flat_eq hd w d us vs fs (o+1) zs xs ys' s hf hl he (λj x hj=>by have:=hx (j+1) x (by simpa using hj);rw [show o+1+j=o+(j+1) by omega];exact this)
          (λj y hj=>by have:=hy (j+1) y (by simpa using hj);rw [show o+1+j=o+(j+1) by omega];exact this)
        have ha:=hx 0 _ rfl
        have hb:=hy 0 _ rfl
        cases hT:T f.type with
        | none=>rw [hT] at ht;cases ht
        | some i=>
          rw [hT] at ht
          have hu:=hd f.type i hT
          obtain ⟨desc,s1,s2,s3,s4⟩:=i
          cases desc with
          | bool=>exact step _ _ (a==b) s ha hb (hpk _ hu (.inr rfl)) (run_equalIn_bool' w d f.type a b hu) ih
          | _=>cases ht
      | _=>cases hl
    · cases he
theorem eqCells_split:∀ (s:Nat) (xs ys:List CV) (r:Bool),eqCells real xs ys=some r->∃ r1 r2,eqCells real (xs.take s) (ys.take s)=some r1/\eqCells real (xs.drop s) (ys.drop s)=some r2/\r=(r1&&r2)
  | 0,xs,ys,r,h=>⟨true,r,rfl,h,by simp⟩
  | s+1,[],ys,r,h=>by
    cases ys with
    | nil=>exact ⟨true,r,rfl,h,by simp⟩
    | cons _ _=>cases h
  | s+1,x::xs,[],r,h=>by unfold eqCells at h;split at h<;>simp_all
  | s+1,x::xs,y::ys,r,h=>by
    simp only [List.take_succ_cons,List.drop_succ_cons]
    unfold eqCells at h
    split at h
    · simp_all
    · rename_i k a xs' k' b ys' e1 e2
      simp only [List.cons.injEq] at e1 e2
      obtain ⟨rfl,rfl⟩:=e1
      obtain ⟨rfl,rfl⟩:=e2
      split at h
      · rename_i hk
        simp only [Option.map_eq_some_iff] at h
        obtain ⟨q,h,rfl⟩:=h
        obtain ⟨r1,r2,h1,h2,rfl⟩:=eqCells_split s _ _ _ h
        refine ⟨real.band (real.cmp .eql a b) r1,r2,?_,h2,?_⟩
        · unfold eqCells;rw [if_pos hk,h1];rfl
        · show ((a==b)&&(r1&&r2))=(((a==b)&&r1)&&r2)
          rw [Bool.and_assoc]
      · cases h
    · rename_i a xs' b ys' e1 e2
      simp only [List.cons.injEq] at e1 e2
      obtain ⟨rfl,rfl⟩:=e1
      obtain ⟨rfl,rfl⟩:=e2
      simp only [Option.map_eq_some_iff] at h
      obtain ⟨q,h,rfl⟩:=h
      obtain ⟨r1,r2,h1,h2,rfl⟩:=eqCells_split s _ _ _ h
      refine ⟨real.band (real.beq a b) r1,r2,?_,h2,?_⟩
      · unfold eqCells;rw [h1];rfl
      · show ((a==b)&&(r1&&r2))=(((a==b)&&r1)&&r2)
        rw [Bool.and_assoc]
    · cases h
theorem kinds_take:∀ (s:Nat) (xs:List CV) (z zs:List Value),kindsB xs zs=true->kEq z (zs.take s)=true->kindsB (xs.take s) z=true
  | 0,xs,z,zs,_,h=>by
    rw [List.take_zero] at h
    rw [List.take_zero]
    cases z with
    | nil=>rfl
    | cons a _=>cases a<;>cases h
  | s+1,[],z,[],_,h=>by
    cases z with
    | nil=>rfl
    | cons a _=>cases a<;>cases h
  | s+1,[],z,y::zs,h0,_=>by cases h0
  | s+1,x::xs,z,[],h0,_=>by unfold kindsB at h0;split at h0<;>simp_all
  | s+1,x::xs,z,y::zs,h0,h=>by
    rw [List.take_succ_cons] at h ⊢
    unfold kindsB at h0
    split at h0
    · simp_all
    · rename_i e1 e2
      simp only [List.cons.injEq] at e1 e2
      obtain ⟨rfl,rfl⟩:=e1
      obtain ⟨rfl,rfl⟩:=e2
      simp only [Bool.and_eq_true,decide_eq_true_eq] at h0
      cases z with
      | nil=>cases h
      | cons a z=>
        cases a with
        | int k3 _=>
          simp only [kEq,Bool.and_eq_true,decide_eq_true_eq] at h
          unfold kindsB
          simp only [Bool.and_eq_true,decide_eq_true_eq]
          exact ⟨h0.1.trans h.1.symm,kinds_take s _ _ _ h0.2 h.2⟩
        | _=>cases h
    · rename_i e1 e2
      simp only [List.cons.injEq] at e1 e2
      obtain ⟨rfl,rfl⟩:=e1
      obtain ⟨rfl,rfl⟩:=e2
      cases z with
      | nil=>cases h
      | cons a z=>
        cases a with
        | bool _=>
          simp only [kEq] at h
          unfold kindsB
          exact kinds_take s _ _ _ h0 h
        | _=>cases h
    · cases h0
theorem kinds_drop:∀ (s:Nat) (xs:List CV) (zs:List Value),kindsB xs zs=true->kindsB (xs.drop s) (zs.drop s)=true
  | 0,xs,zs,h=>h
  | s+1,[],[],h=>h
  | s+1,[],y::zs,h0=>by cases h0
  | s+1,x::xs,[],h0=>by unfold kindsB at h0;split at h0<;>simp_all
  | s+1,x::xs,y::zs,h0=>by
    rw [List.drop_succ_cons,List.drop_succ_cons]
    unfold kindsB at h0
    split at h0
    · simp_all
    · rename_i e1 e2
      simp only [List.cons.injEq] at e1 e2
      obtain ⟨rfl,rfl⟩:=e1
      obtain ⟨rfl,rfl⟩:=e2
      simp only [Bool.and_eq_true] at h0
      exact kinds_drop s _ _ h0.2
    · rename_i e1 e2
      simp only [List.cons.injEq] at e1 e2
      obtain ⟨rfl,rfl⟩:=e1
      obtain ⟨rfl,rfl⟩:=e2
      exact kinds_drop s _ _ h0
    · cases h0
theorem take_at {xs:List CV} {us:Array Value} {o s:Nat} (hx:∀ (j:Nat) x,xs[j]? = some (CV.d (.v x))->us[o+j]? = some x):∀ (j:Nat) x,(xs.take s)[j]? = some (CV.d (.v x))->(us.extract o (o+s))[0+j]? = some x:=by
  intro j x h
  rw [Nat.zero_add]
  rw [List.getElem?_take] at h
  split at h
  · rename_i hj
    have h1:=hx j x h
    rw [Array.getElem?_extract]
    have h2:o+j<us.size:=(Array.getElem?_eq_some_iff.1 h1).1
    rw [if_pos (by omega)]
    exact h1
  · cases h
theorem drop_at {xs:List CV} {us:Array Value} {o s:Nat} (hx:∀ (j:Nat) x,xs[j]? = some (CV.d (.v x))->us[o+j]? = some x):∀ (j:Nat) x,(xs.drop s)[j]? = some (CV.d (.v x))->us[(o+s)+j]? = some x:=by
  intro j x h
  rw [List.getElem?_drop] at h
  have:=hx (s+j) x h
  rw [show o+s+j=o+(s+j) by omega]
  exact this
theorem flat2_eq {T:TypeId->Option TI} (hd:∀ t i,T t=some i->P.underlying t=some i.desc) (hsz:∀ t i,T t=some i->∃ inf,P.info? t=some inf/\inf.size=i.size)
    (hh:∀ t i,T t=some i->i.eqk=true->P.stoodInHeld t=false) (w:World) (d:Nat) (us vs:Array Value):∀ (fs:List Field) (o:Nat) (zs:List Value) (xs ys:List CV) (r:Bool),
    flat2Ok T o fs zs=true->kindsB xs zs=true->eqCells real xs ys=some r->(∀ (j:Nat) x,xs[j]? = some (CV.d (.v x))->us[o+j]? = some x)->(∀ (j:Nat) y,ys[j]? = some (CV.d (.v y))->vs[o+j]? = some y) ->
    (Op.eqFields (d+2) us vs fs).run P w=.ok r w
  | [],o,z::zs,xs,ys,r,hf,_,_,_,_=>by cases hf
  | [],o,[],x::xs,ys,r,_,hl,_,_,_=>by unfold kindsB at hl;split at hl<;>simp_all
  | [],o,[],[],ys,r,_,_,he,_,_=>by
    cases ys with
    | nil=>cases he;simp [Op.eqFields]
    | cons _ _=>cases he
  | f::fs,o,zs,xs,ys,r,hf,hl,he,hx,hy=>by
    simp only [flat2Ok,Bool.and_eq_true,Bool.not_eq_true'] at hf
    obtain ⟨hn,ho,hf⟩:=hf
    have hn' : f.name ≠ "_" := by simpa using hn
    have ho:f.offset=o:=i3 ho
    cases hT:T f.type with
    | none=>rw [hT] at hf;cases hf
    | some i=>
      rw [hT] at hf
      have hu:=hd f.type i hT
      have step:∀ (a b:Value) (q s:Bool),(part f.type us o).run P w=.ok a w->(part f.type vs o).run P w=.ok b w->(Op.equalIn (d+2) f.type a b).run P w=.ok q w ->
          (Op.eqFields (d+2) us vs fs).run P w=.ok s w->(Op.eqFields (d+2) us vs (f::fs)).run P w=.ok (q&&s) w:=by
        intro a b q s ha hb hq hs
        rw [Op.eqFields]
        simp only [if_pos hn',Sem.run_bind,ho,ha,hb,hq,Result.andThen_ok]
        cases q
        · simp
        · simpa using hs
      have hpk:∀ desc,P.underlying f.type=some desc->((∃ k,desc=.int k)\/desc=.bool)->P.plainKey f.type=true:=by
        intro desc hu hdd
        unfold Program.plainKey
        rw [hu]
        rcases hdd with ⟨k,rfl⟩|rfl<;>simp
      cases hlf:leafOk i.desc zs with
      | true=>
        simp only [hlf,cond_true] at hf
        obtain ⟨r1,r2,e1,e2,rfl⟩:=eqCells_split 1 xs ys r he
        have ih:=flat2_eq hd hsz hh w d us vs fs (o+1) (zs.drop 1) (xs.drop 1) (ys.drop 1) r2 hf (kinds_drop 1 _ _ hl) e2 (drop_at hx) (drop_at hy)
        cases zs with
        | nil=>unfold leafOk at hlf;split at hlf<;>simp_all
        | cons z zs=>
          cases xs with
          | nil=>cases hl
          | cons x xs=>
            unfold eqCells at he
            split at he
            · simp_all
            · rename_i k a xs' k' b ys' q1
              simp only [List.cons.injEq] at q1
              obtain ⟨rfl,rfl⟩:=q1
              split at he
              · rename_i hk
                subst hk
                have hr1:r1=(a==b):=by
                  simp only [List.take_succ_cons,List.take_zero] at e1
                  unfold eqCells at e1
                  rw [if_pos rfl] at e1
                  have e1:=Option.some.inj e1
                  rw [<- e1]
                  show ((a==b)&&true)=_
                  rw [Bool.and_true]
                have ha:=hx 0 _ rfl
                have hb:=hy 0 _ rfl
                obtain ⟨desc,s1,s2,s3,s4⟩:=i
                cases desc with
                | int k'=>
                  rw [hr1]
                  exact step _ _ _ _ (run_part_plain w (hpk _ hu (.inl ⟨_,rfl⟩)) ha) (run_part_plain w (hpk _ hu (.inl ⟨_,rfl⟩)) hb) (run_equalIn_int w (d+1) f.type k k' a b hu) ih
                | bool=>
                  cases z with
                  | bool _=>cases hl
                  | _=>cases hlf
                | _=>cases hlf
              · cases he
            · rename_i a xs' b ys' q1
              simp only [List.cons.injEq] at q1
              obtain ⟨rfl,rfl⟩:=q1
              have hr1:r1=(a==b):=by
                simp only [List.take_succ_cons,List.take_zero] at e1
                unfold eqCells at e1
                have e1:=Option.some.inj e1
                rw [<- e1]
                show ((a==b)&&true)=_
                rw [Bool.and_true]
              have ha:=hx 0 _ rfl
              have hb:=hy 0 _ rfl
              obtain ⟨desc,s1,s2,s3,s4⟩:=i
              cases desc with
              | bool=>
                rw [hr1]
                exact step _ _ _ _ (run_part_plain w (hpk _ hu (.inr rfl)) ha) (run_part_plain w (hpk _ hu (.inr rfl)) hb) (run_equalIn_bool' w (d+1) f.type a b hu) ih
              | int k'=>
                cases z with
                | int _ _=>cases hl
                | _=>cases hlf
              | _=>cases hlf
            · cases he
      | false=>
        simp only [hlf,cond_false,Bool.and_eq_true] at hf
        obtain ⟨hne,hf⟩:=hf
        obtain ⟨r1,r2,e1,e2,rfl⟩:=eqCells_split i.size xs ys r he
        have ih:=flat2_eq hd hsz hh w d us vs fs (o+i.size) (zs.drop i.size) (xs.drop i.size) (ys.drop i.size) r2 hf (kinds_drop _ _ _ hl) e2 (drop_at hx) (drop_at hy)
        obtain ⟨inf,hi,hsi⟩:=hsz f.type i hT
        unfold nestOk at hne
        split at hne
        · rename_i gs hgs
          simp only [Bool.and_eq_true] at hne
          obtain ⟨hq,hfl,hke,_⟩:=hne
          have hu2:P.underlying f.type=some (.struct gs):=by rw [hu,hgs]
          have hff:P.fieldsOf f.type=gs:=by simp [Program.fieldsOf,hu2]
          have hco:P.cellsOf f.type=i.size:=by simp [Program.cellsOf,hi,hsi]
          have hpart:∀ zz:Array Value,(part f.type zz o).run P w=.ok (.agg (zz.extract o (o+i.size))) w:=by
            intro zz
            simp [part,isAgg,run_underlying hu2,run_sizeOf w hi,hco]
          refine step _ _ _ _ (hpart us) (hpart vs) ?_ ih
          rw [run_equalIn_struct w (d+1) f.type _ _ (by rw [hff];exact hu2) (hh f.type i hT hq),hff]
          exact flat_eq hd w d _ _ gs.toList 0 i.zero _ _ r1 hfl (kinds_take _ _ _ _ hl hke) e1 (take_at hx) (take_at hy)
        · cases hne
theorem ttok_of (hr:TRows P tab) (hq:(tab.all λp => !p.2.eqk||eqOk (tabT tab) p.2)=true):TTok P (tabT tab) where
  desc:=λt i h=>(hr.at t i h).1.desc
  info:=λt i h=>by
    obtain ⟨inf,z,h1,h2,h3,h4,h5,h6,h7⟩:=(hr.at t i h).1.info
    exact ⟨inf,z,h1,h2,h3,h4,h5,h6,by simpa using h7⟩
  eq:=λt i h he xs ys r hk hc us vs _ _ hx hy w=>by
    obtain ⟨hrow,hmem⟩:=hr.at t i h
    simp only [List.all_eq_true,Bool.or_eq_true,Bool.not_eq_true'] at hq
    have hok:eqOk (tabT tab) i=true:=by
      rcases hq _ hmem with h|h
      · rw [he] at h;cases h
      · exact h
    unfold eqOk at hok
    split at hok
    · rename_i fs hfs
      obtain ⟨hheld,hguard⟩:=hrow.held he
      have hu:P.underlying t=some (.struct fs):=by rw [<- hfs];exact hrow.desc
      have hf:P.fieldsOf t=fs:=by simp [Program.fieldsOf,hu]
      refine ⟨run_eqGuard_agg w _ _ _ _ _ _ hguard,run_eqGuard_agg w _ _ _ _ _ _ hguard,?_⟩
      show (Op.equalIn (9999+1) t (.agg us) (.agg vs)).run P w=.ok r w
      rw [run_equalIn_struct w 9999 t us vs (by rw [hf];exact hu) hheld,hf]
      exact flat2_eq (λt i h=>(hr.at t i h).1.desc) (λt i h=>by obtain ⟨inf,_,h1,h2,_⟩:=(hr.at t i h).1.info;exact ⟨inf,h1,h2⟩) (λt i h he=>((hr.at t i h).1.held he).1) w 9997 us vs fs.toList 0 i.zero xs ys r hok hk hc (λj x hj=>by rw [Nat.zero_add];exact hx j x hj) (λj x hj=>by rw [Nat.zero_add];exact hy j x hj)
    · cases hok
end
def okL (so to:Nat->Nat × HO):List (Nat × Nat)->List (Nat × Nat)->Prop
  | [],[]=>True
  | (l,ver)::r,(l',ver')::s=>l=l'/\ver=(so l).1/\ver'=(to l).1/\okL so to r s
  | _,_=>False
def okC (so to:Nat->Nat × HO):CV->CV->Prop
  | _,.junk=>True
  | .d x,.d y=>x=y
  | .own l off len ver,.own l' off' len' ver'=>l=l'/\off=off'/\len=len'/\ver=(so l).1/\ver'=(to l).1
  | .bp l ver off,.bp l' ver' off'=>l=l'/\off=off'/\ver=(so l).1/\ver'=(to l).1
  | .op l ver row off,.op l' ver' row' off'=>l=l'/\row=row'/\off=off'/\ver=(so l).1/\ver'=(to l).1
  | .nown l len ver,.nown l' len' ver'=>l=l'/\len=len'/\ver=(so l).1/\ver'=(to l).1
  | .nop l ver row off,.nop l' ver' row' off'=>l=l'/\row=row'/\off=off'/\ver=(so l).1/\ver'=(to l).1
  | .clo f caps,.clo f' caps'=>f=f'/\okL so to caps caps'
  | .zc,.zc=>True
  | _,_=>False
def okCs (so to:Nat->Nat × HO):List CV->List CV->Prop
  | [],[]=>True
  | x::r,y::s=>okC so to x y/\okCs so to r s
  | _,_=>False
def okA (so to:Nat->Nat × HO):AV->AV->Prop
  | _,.c .junk=>True
  | .c x,.c y=>okC so to x y
  | .agg x,.agg y=>okCs so to x y
  | _,_=>False
def okF (so to:Nat->Nat × HO):Option (Nat × List CV)->Option (Nat × List CV)->Prop
  | none,none=>True
  | some (i,x),some (j,y)=>i=j/\okCs so to x y
  | _,_=>False
def okO (so to:Nat->Nat × HO):HO->HO->Prop
  | _,.dead=>True
  | .box x,.box y=>okCs so to x y
  | .arr sz n row,.arr sz' n' row'=>sz=sz'/\n=n'/\∀ i,i<n->row i=row' i
  | .nest sz n row foc,.nest sz' n' row' foc'=>sz=sz'/\n=n'/\okF so to foc foc'/\∀ i,i<n->(∀ c,foc≠some (i,c))->row i=row' i
  | _,_=>False
def okSlots (σ τ:St):List (Nat × AV)->Prop
  | []=>True
  | (k,x)::r=>okA σ.o τ.o (i5 σ.slots k) x/\okSlots σ τ r
def okObjs (σ τ:St):List (Nat × Nat × HO)->Prop
  | []=>True
  | (l,_,o)::r=>okO σ.o τ.o (σ.o l).2 o/\okObjs σ τ r
section
variable {w0:World} {S:Sets} {nt:Nat} {σ τ:p9} {μ:Place} {w:World}
theorem okL_len:∀ {xs ys:List (Nat × Nat)},okL σ τ xs ys->xs.length=ys.length
  | [],[],_=>rfl
  | (_,_)::_,(_,_)::_,h=>by simp [okL_len h.2.2.2]
  | [],_::_,h=>h.elim
  | _::_,[],h=>h.elim
theorem okL_at:∀ {xs ys:List (Nat × Nat)},okL σ τ xs ys->∀ {j l' ver':Nat},ys[j]? = some (l',ver')->∃ ver,xs[j]? = some (l',ver)/\ver=(σ l').1/\ver'=(τ l').1
  | [],[],_,_,_,_,hj=>by simp at hj
  | (l,ver)::r,(l2,ver2)::s,h,j,l',ver',hj=>by
    obtain ⟨rfl,h1,h2,h3⟩:=h
    cases j with
    | zero=>simp at hj;obtain ⟨rfl,rfl⟩:=hj;exact ⟨ver,rfl,h1,h2⟩
    | succ j=>simpa using okL_at h3 (by simpa using hj)
  | [],_::_,h,_,_,_,_=>h.elim
  | _::_,[],h,_,_,_,_=>h.elim
theorem okC_rep (ho:∀ l,okO σ τ (σ l).2 (τ l).2) {N:Nat->Prop} {x y:CV} {v:Value} (h:okC σ τ x y) (hx:CRep σ μ w N x v):CRep τ μ w N y v:=by
  cases y with
  | junk=>trivial
  | d y=>cases x<;>first|exact h.elim | (have h:_=y:=h;subst h;exact hx)
  | zc=>cases x<;>first|exact h.elim|exact hx
  | own l' off' len' ver'=>
    cases x with
    | own l off len ver=>
      obtain ⟨rfl,rfl,rfl,hv,hv'⟩:=h
      obtain ⟨h1,h2,h3⟩:=hx
      refine ⟨h1,by omega,λsz n row e => ?_⟩
      have hoo:=ho l
      rw [e] at hoo
      cases hσ:(σ l).2 with
      | arr sz1 n1 row1=>
        rw [hσ] at hoo
        obtain ⟨rfl,rfl,_⟩:=hoo
        exact h3 sz1 n1 row1 (by rw [hv,<- hσ])
      | _=>rw [hσ] at hoo;exact hoo.elim
    | _=>exact h.elim
  | bp l' ver' off'=>
    cases x with
    | bp l ver off=>
      obtain ⟨rfl,rfl,hv,hv'⟩:=h
      obtain ⟨h1,h2,h3⟩:=hx
      refine ⟨h1,by omega,λcells e => ?_⟩
      have hoo:=ho l
      rw [e] at hoo
      cases hσ:(σ l).2 with
      | box cells1=>exact h3 cells1 (by rw [hv,<- hσ])
      | _=>rw [hσ] at hoo;exact hoo.elim
    | _=>exact h.elim
  | op l' ver' row' off'=>
    cases x with
    | op l ver row off=>
      obtain ⟨rfl,rfl,rfl,hv,hv'⟩:=h
      obtain ⟨h1,h2,h3⟩:=hx
      refine ⟨h1,by omega,λsz n rw' e => ?_⟩
      have hoo:=ho l
      rw [e] at hoo
      cases hσ:(σ l).2 with
      | arr sz1 n1 row1=>
        rw [hσ] at hoo
        obtain ⟨rfl,rfl,_⟩:=hoo
        exact h3 sz1 n1 row1 (by rw [hv,<- hσ])
      | _=>rw [hσ] at hoo;exact hoo.elim
    | _=>exact h.elim
  | nown l' len' ver'=>
    cases x with
    | nown l len ver=>
      obtain ⟨rfl,rfl,hv,hv'⟩:=h
      obtain ⟨h1,h2,h3⟩:=hx
      refine ⟨h1,by omega,λsz n row foc e => ?_⟩
      have hoo:=ho l
      rw [e] at hoo
      cases hσ:(σ l).2 with
      | nest sz1 n1 row1 foc1=>
        rw [hσ] at hoo
        obtain ⟨rfl,rfl,_⟩:=hoo
        exact h3 sz1 n1 row1 foc1 (by rw [hv,<- hσ])
      | _=>rw [hσ] at hoo;exact hoo.elim
    | _=>exact h.elim
  | nop l' ver' row' off'=>
    cases x with
    | nop l ver row off=>
      obtain ⟨rfl,rfl,rfl,hv,hv'⟩:=h
      obtain ⟨h1,h2,h3⟩:=hx
      refine ⟨h1,by omega,λsz n rw' foc e => ?_⟩
      have hoo:=ho l
      rw [e] at hoo
      cases hσ:(σ l).2 with
      | nest sz1 n1 row1 foc1=>
        rw [hσ] at hoo
        obtain ⟨rfl,rfl,_⟩:=hoo
        exact h3 sz1 n1 row1 foc1 (by rw [hv,<- hσ])
      | _=>rw [hσ] at hoo;exact hoo.elim
    | _=>exact h.elim
  | clo f caps=>
    cases x with
    | clo f1 caps1=>
      obtain ⟨rfl,hl⟩:=h
      obtain ⟨cs,e1,e2,h3⟩:=hx
      refine ⟨cs,e1,e2.trans (okL_len hl),λj l ver' hj => ?_⟩
      obtain ⟨ver,hj1,hv,hv'⟩:=okL_at hl hj
      obtain ⟨q1,q2⟩:=h3 j l ver hj1
      refine ⟨by omega,λcells e => ?_⟩
      have hoo:=ho l
      rw [e] at hoo
      cases hσ:(σ l).2 with
      | box cells1=>exact q2 cells1 (by rw [hv,<- hσ])
      | _=>rw [hσ] at hoo;exact hoo.elim
    | _=>exact h.elim
theorem okCs_rep (ho:∀ l,okO σ τ (σ l).2 (τ l).2) {N:Nat->Prop}:∀ {xs ys:List CV} {vs:List Value},okCs σ τ xs ys->CsRep σ μ w N xs vs->CsRep τ μ w N ys vs
  | [],[],[],_,_=>trivial
  | [],[],_::_,_,h=>h.elim
  | _::_,[],_,h,_=>h.elim
  | [],_::_,_,h,_=>h.elim
  | _::_,_::_,[],_,h=>h.elim
  | _::_,_::_,_::_,h,hx=>⟨okC_rep ho h.1 hx.1,okCs_rep ho h.2 hx.2⟩
end
theorem okCs_len {so to:p9}:∀ {xs ys:List CV},okCs so to xs ys->xs.length=ys.length
  | [],[],_=>rfl
  | [],_::_,h=>h.elim
  | _::_,[],h=>h.elim
  | _::_,_::_,h=>by simp [okCs_len h.2]
theorem okCs_at {so to:p9}:∀ {xs ys:List CV} {j:Nat} {y:CV},okCs so to xs ys->ys[j]? = some y->∃ x,xs[j]? = some x/\okC so to x y
  | [],[],_,_,_,h=>by simp at h
  | [],_::_,_,_,h,_=>h.elim
  | _::_,[],_,_,h,_=>h.elim
  | x::_,_::_,0,y,h,e=>by simp at e;subst e;exact ⟨x,rfl,h.1⟩
  | _::_,_::_,j+1,y,h,e=>by
    obtain ⟨x,h1,h2⟩:=okCs_at h.2 (by simpa using e)
    exact ⟨x,by simpa using h1,h2⟩
theorem CRep.mono {σ:p9} {μ:Place} {w:World} {N N':Nat->Prop} (h:∀ b,N b->N' b) {x:CV} {v:Value} (hx:CRep σ μ w N x v):CRep σ μ w N' x v:=by
  cases x with
  | d x=>exact DRep.mono h hx
  | _=>exact hx
theorem CsRep.mono {σ:p9} {μ:Place} {w:World} {N N':Nat->Prop} (h:∀ b,N b->N' b):∀ {xs:List CV} {vs:List Value},CsRep σ μ w N xs vs->CsRep σ μ w N' xs vs
  | [],[],_=>trivial
  | [],_::_,h=>h.elim
  | _::_,[],h=>h.elim
  | _::_,_::_,hx=>⟨hx.1.mono h,CsRep.mono h hx.2⟩
theorem lookO_mem:∀ {objs:List (Nat × Nat × HO)} {l:Nat},(∃ v,(l,v)∈objs/\m4 objs l=v)\/(m4 objs l=(0,.dead))
  | [],_=>.inr rfl
  | (j,v)::r,l=>by
    unfold m4
    cases hb:nbeq j l with
    | true=>left;have:=i3 hb;subst this;exact ⟨v,by simp,rfl⟩
    | false=>
      rcases lookO_mem (objs:=r) (l:=l) with ⟨u,h1,h2⟩|h
      · left;exact ⟨u,by simp [h1],by simpa using h2⟩
      · right;simpa using h
theorem lookS_mem:∀ {sl:List (Nat × AV)} {l:Nat},(∃ v,(l,v)∈sl/\i5 sl l=v)\/(i5 sl l=.c .junk)
  | [],_=>.inr rfl
  | (j,v)::r,l=>by
    unfold i5
    cases hb:nbeq j l with
    | true=>left;have:=i3 hb;subst this;exact ⟨v,by simp,rfl⟩
    | false=>
      rcases lookS_mem (sl:=r) (l:=l) with ⟨u,h1,h2⟩|h
      · left;exact ⟨u,by simp [h1],by simpa using h2⟩
      · right;simpa using h
theorem okSlots_mem {σ τ:St}:∀ {l:List (Nat × AV)},okSlots σ τ l->∀ p∈l,okA σ.o τ.o (i5 σ.slots p.1) p.2
  | [],_,p,hp=>by simp at hp
  | (k,x)::r,h,p,hp=>by
    rcases List.mem_cons.1 hp with rfl|hp
    · exact h.1
    · exact okSlots_mem h.2 p hp
theorem okObjs_mem {σ τ:St}:∀ {l:List (Nat × Nat × HO)},okObjs σ τ l->∀ p∈l,okO σ.o τ.o (σ.o p.1).2 p.2.2
  | [],_,p,hp=>by simp at hp
  | (k,x)::r,h,p,hp=>by
    rcases List.mem_cons.1 hp with rfl|hp
    · exact h.1
    · exact okObjs_mem h.2 p hp
def ghOk (τ:St):List (Nat × Nat × HO)->Prop
  | []=>True
  | (l,v,_)::r=>(nble 64 l=true\/v<=(τ.o l).1)/\ghOk τ r
theorem ghOk_mem {τ:St}:∀ {l:List (Nat × Nat × HO)},ghOk τ l->∀ p∈l,p.1<64->p.2.1<=(τ.o p.1).1
  | [],_,p,hp,_=>by simp at hp
  | (k,x)::r,h,p,hp,hlt=>by
    rcases List.mem_cons.1 hp with rfl|hp
    · rcases h.1 with h|h
      · have:=b8 h;simp at hlt;omega
      · exact h
    · exact ghOk_mem h.2 p hp hlt
section
variable {σ τ:p9} {μ:Place} {w:World} {N:Nat->Prop}
theorem stale_rep (hv:∀ l,l<64->(σ l).1<=(τ l).1) (ho:∀ l,okO σ τ (σ l).2 (τ l).2) {x:CV} {v:Value} (h:labC x=true) (hx:CRep σ μ w N x v):CRep τ μ w N x v:=by
  cases x with
  | own l off len ver=>
    have hl:l<64:=by simpa [labC,nblt_eq] using h
    obtain ⟨h1,h2,h3⟩:=hx
    have:=hv l hl
    refine ⟨h1,by omega,λsz n row e => ?_⟩
    have hoo:=ho l
    have ev:(τ l).1=ver:=by rw [e]
    have es:(σ l).1=ver:=by omega
    rw [e] at hoo
    cases hσ:(σ l).2 with
    | arr sz1 n1 row1=>
      rw [hσ] at hoo
      obtain ⟨rfl,rfl,_⟩:=hoo
      exact h3 sz1 n1 row1 (by rw [<- es,<- hσ])
    | _=>rw [hσ] at hoo;exact hoo.elim
  | bp l ver off=>
    have hl:l<64:=by simpa [labC,nblt_eq] using h
    obtain ⟨h1,h2,h3⟩:=hx
    have:=hv l hl
    refine ⟨h1,by omega,λcells e => ?_⟩
    have hoo:=ho l
    have ev:(τ l).1=ver:=by rw [e]
    have es:(σ l).1=ver:=by omega
    rw [e] at hoo
    cases hσ:(σ l).2 with
    | box cells1=>exact h3 cells1 (by rw [<- es,<- hσ])
    | _=>rw [hσ] at hoo;exact hoo.elim
  | nown l len ver=>
    have hl:l<64:=by simpa [labC,nblt_eq] using h
    obtain ⟨h1,h2,h3⟩:=hx
    have:=hv l hl
    refine ⟨h1,by omega,λsz n row foc e => ?_⟩
    have hoo:=ho l
    have ev:(τ l).1=ver:=by rw [e]
    have es:(σ l).1=ver:=by omega
    rw [e] at hoo
    cases hσ:(σ l).2 with
    | nest sz1 n1 row1 foc1=>
      rw [hσ] at hoo
      obtain ⟨rfl,rfl,_⟩:=hoo
      exact h3 sz1 n1 row1 foc1 (by rw [<- es,<- hσ])
    | _=>rw [hσ] at hoo;exact hoo.elim
  | op l ver row off=>cases h
  | nop l ver row off=>cases h
  | clo f caps=>cases h
  | junk=>trivial
  | d x=>exact hx
  | zc=>exact hx
end
theorem stales_rep {σ τ:p9} {μ:Place} {w:World} {N:Nat->Prop} (hv:∀ l,l<64->(σ l).1<=(τ l).1) (ho:∀ l,okO σ τ (σ l).2 (τ l).2):∀ {xs:List CV} {vs:List Value},(∀ x∈xs,labC x=true) ->
    CsRep σ μ w N xs vs->CsRep τ μ w N xs vs
  | [],[],_,_=>trivial
  | [],_::_,_,h=>h.elim
  | _::_,[],_,h=>h.elim
  | x::_,_::_,hb,h=>⟨stale_rep hv ho (hb x (by simp)) h.1,stales_rep hv ho (λy hy=>hb y (by simp [hy])) h.2⟩
def verOk (τ:St):List (Nat × Nat × HO)->Prop
  | []=>True
  | (l,v,_)::r=>(smallL l=false\/v<=(τ.o l).1)/\verOk τ r
theorem verOk_mem {τ:St}:∀ {l:List (Nat × Nat × HO)},verOk τ l->∀ p∈l,smallL p.1=true->p.2.1<=(τ.o p.1).1
  | [],_,p,hp,_=>by simp at hp
  | (k,x)::r,h,p,hp,hlt=>by
    rcases List.mem_cons.1 hp with rfl|hp
    · rcases h.1 with h|h
      · rw [show smallL k=true from hlt] at h;cases h
      · exact h
    · exact verOk_mem h.2 p hp hlt
theorem cov_core {nt:Nat} {σ τ:St} (h1:okSlots σ τ τ.slots) (h2:okObjs σ τ τ.objs) (h3:ghOk τ σ.objs) {w0:World} {S:Sets} {a:Act} {w:World} (hk:S.free=true->(∀ p,p∈S.kp->smallL p.1=true)/\verOk τ σ.objs) (R0:Rel w0 S nt (i5 σ.slots) σ.o a w):Rel w0 S nt (i5 τ.slots) τ.o a w:=by
  obtain ⟨μ,R⟩:=R0
  have ho:∀ l,okO σ.o τ.o (σ.o l).2 (τ.o l).2:=λl=>by
    rcases lookO_mem (objs := τ.objs) (l:=l) with ⟨v,hm,e⟩|e
    · have:=okObjs_mem h2 _ hm
      show okO σ.o τ.o (σ.o l).2 (m4 τ.objs l).2
      rw [e];exact this
    · show okO σ.o τ.o (σ.o l).2 (m4 τ.objs l).2
      rw [e]
      cases (σ.o l).2<;>trivial
  have hl:∀ l,m5 τ.o l->m5 σ.o l:=λl hl=>by
    have:=ho l
    intro e
    rw [e] at this
    apply hl
    cases ht:(τ.o l).2 with
    | dead=>rfl
    | _=>rw [ht] at this;exact this.elim
  have hv:∀ l,l<64->(σ.o l).1<=(τ.o l).1:=λl hlt=>by
    rcases lookO_mem (objs := σ.objs) (l:=l) with ⟨v,hm,e⟩|e
    · have:=ghOk_mem h3 _ hm hlt
      show (m4 σ.objs l).1<=_
      rw [e];exact this
    · show (m4 σ.objs l).1<=_
      rw [e];exact Nat.zero_le _
  have hN:∀ b,Nof S σ.o μ w b->Nof S τ.o μ w b:=λb hb=>⟨hb.1,hb.2.1,λl h=>hb.2.2 l (hl l h)⟩
  refine ⟨μ,R.size,R.defs,R.env,R.grow,R.reach,R.frame,R.shape,λl b h=>R.ownH l b (hl l h),λl l' b h h'=>R.injH l l' b (hl l h) (hl l' h'),λl h hn=>R.kz l (hl l h) ?_,λp hp => ?_,R.ghl,λh p hp => ?_,λl => ?_,λk => ?_⟩
  · have hoo:=ho l
    cases hσ:(σ.o l).2 with
    | nest _ _ _ _=>
      exfalso
      rw [hσ] at hoo
      cases ht:(τ.o l).2 with
      | dead=>exact h ht
      | nest _ _ _ _=>rw [ht] at hn;cases hn
      | _=>rw [ht] at hoo;exact hoo.elim
    | _=>rfl
  · have hg:=R.ghost p hp
    have hb:=R.ghl p hp
    obtain ⟨x,v⟩:=p
    cases x with
    | c x=>exact (stale_rep hv ho hb hg).mono hN
    | agg xs=>
      obtain ⟨cs,h1,h2⟩:=hg
      exact ⟨cs,h1,(stales_rep hv ho (by simpa [labA] using hb) h2).mono hN⟩
    | tup _=>cases hb
    | gd _ _=>cases hb
  · obtain ⟨q1,q2⟩:=hk h
    obtain ⟨g1,g2⟩:=R.keep h p hp
    have hvl:(σ.o p.1).1<=(τ.o p.1).1:=by
      rcases lookO_mem (objs := σ.objs) (l:=p.1) with ⟨v,hm,e⟩|e
      · have:=verOk_mem q2 _ hm (q1 p hp)
        show (m4 σ.objs p.1).1<=_
        rw [e];exact this
      · show (m4 σ.objs p.1).1<=_
        rw [e];exact Nat.zero_le _
    exact ⟨Nat.le_trans g1 hvl,λe hlv=>g2 (by omega) (hl p.1 hlv)⟩
  · have hr:=R.objs l
    have:=ho l
    revert hr this
    generalize (σ.o l).2=o1
    generalize (τ.o l).2=o2
    intro hr this
    cases o2 with
    | dead=>trivial
    | box y=>
      cases o1 with
      | box x=>
        obtain ⟨b,cs,e,q1,q2,q3⟩:=hr
        exact ⟨b,cs,e,q1,q2,(okCs_rep ho this q3).mono hN⟩
      | _=>exact this.elim
    | nest sz n row foc=>
      cases o1 with
      | nest sz1 n1 row1 foc1=>
        obtain ⟨rfl,rfl,hfo,hrow⟩:=this
        have hff:∀ i,isFoc foc1 i↔isFoc foc i:=λi=>by
          cases foc1 with
          | none=>
            cases foc with
            | none=>exact Iff.rfl
            | some p=>exact hfo.elim
          | some q=>
            cases foc with
            | none=>exact hfo.elim
            | some p=>
              obtain ⟨e,_⟩:=hfo
              obtain ⟨q1,q2⟩:=q
              obtain ⟨p1,p2⟩:=p
              have e:q1=p1:=e
              subst e
              constructor
              · rintro ⟨c,h⟩;simp at h;exact ⟨p2,by rw [h.1]⟩
              · rintro ⟨c,h⟩;simp at h;exact ⟨q2,by rw [h.1]⟩
        rcases hr with ⟨q1,q2,q3,q4⟩|⟨b,base,cs,e,q1,q2,q3,⟨g0,G,g1,g2,g3⟩,q5,q6,q7⟩
        · refine .inl ⟨q1,q2,?_,q4⟩
          subst q3
          cases foc with
          | none=>rfl
          | some p=>exact hfo.elim
        · have hrow':∀ i,i<n1->¬ isFoc foc i->row1 i=row i:=λi hi hn=>hrow i hi λc hc=>hn ((hff i).1 ⟨c,hc⟩)
          refine .inr ⟨b,base,cs,e,q1,q2,q3,⟨λi hi hn => ?_,G,λi j x hi hn hj => ?_,λk=>(g2 k).trans ?_,λi j i' j' k h1 h2 h3 h4 h5=>g3 i j i' j' k h1 (λh=>h2 ((hff i).1 h)) h3 h4 (λh=>h5 ((hff i').1 h))⟩,q5,q6,λi cells hf => ?_⟩
          · rw [<- hrow' i hi hn];exact g0 i hi λh=>hn ((hff i).1 h)
          · rw [<- hrow' i hi hn] at hj;exact g1 i j x hi (λh=>hn ((hff i).1 h)) hj
          · exact ⟨λ⟨i,j,h1,h2,h3⟩=>⟨i,j,h1,λh=>h2 ((hff i).2 h),h3⟩,λ⟨i,j,h1,h2,h3⟩=>⟨i,j,h1,λh=>h2 ((hff i).1 h),h3⟩⟩
          · subst hf
            cases foc1 with
            | none=>exact hfo.elim
            | some q=>
              obtain ⟨i1,cells1⟩:=q
              obtain ⟨e1,hcc⟩:=hfo
              have e1:i1=i:=e1
              subst e1
              obtain ⟨k1,k2,k3⟩:=q7 i1 cells1 rfl
              refine ⟨k1,by rw [<- okCs_len hcc,k2],λj y hj => ?_⟩
              obtain ⟨x,hx,hxy⟩:=okCs_at hcc hj
              obtain ⟨u,hu,hc⟩:=k3 j x hx
              exact ⟨u,hu,(okC_rep ho hxy hc).mono hN⟩
      | _=>exact this.elim
    | arr sz n row=>
      cases o1 with
      | arr sz1 n1 row1=>
        obtain ⟨rfl,rfl,hrow⟩:=this
        refine ⟨λi hi=>by rw [<- hrow i hi];exact hr.1 i hi,hr.2.imp id ?_⟩
        rintro ⟨b,base,cs,e,q1,q2,q3,q4⟩
        refine ⟨b,base,cs,e,q1,q2,q3,λi j x hi hj => ?_⟩
        rw [<- hrow i hi] at hj
        obtain ⟨u,hu,hd⟩:=q4 i j x hi hj
        exact ⟨u,hu,hd.mono hN⟩
      | _=>exact this.elim
  · have hr:=R.slots k
    have hs:okA σ.o τ.o (i5 σ.slots k) (i5 τ.slots k):=by
      rcases lookS_mem (sl := τ.slots) (l:=k) with ⟨v,hm,e⟩|e
      · have:=okSlots_mem h1 _ hm
        rw [e];exact this
      · rw [e];cases i5 σ.slots k<;>first|trivial | (rename_i x;cases x<;>trivial)
    revert hr hs
    generalize i5 σ.slots k=x
    generalize i5 τ.slots k=y
    intro hr hs
    cases y with
    | c y=>
      cases x with
      | c x=>
        have hs':okC σ.o τ.o x y:=by cases y<;>first|trivial|exact hs
        exact (okC_rep ho hs' hr).mono hN
      | _=>cases y<;>first|trivial|exact hs.elim
    | agg y=>
      cases x with
      | agg x=>obtain ⟨cs,q1,q2⟩:=hr;exact ⟨cs,q1,(okCs_rep ho hs q2).mono hN⟩
      | _=>exact hs.elim
    | _=>cases x<;>exact hs.elim
theorem c7 {nt:Nat} {σ τ:St} (h1:okSlots σ τ τ.slots) (h2:okObjs σ τ τ.objs) (h3:ghOk τ σ.objs):Cov nt σ τ :=
  λ_ _ _ _ hfo R=>cov_core h1 h2 h3 (λh=>by rw [hfo.1 rfl] at h;cases h) R
section
variable {A:Ar}
theorem f7 {P:Program} {M:Ms} (hA:real=A) (hM:d4 P=M) {g:Bool} {f:FuncId} {args:List XT} {K:Out->Prop} (out:Out)
    (h:d7 P f args out) (k:K out):A.hold λ_=>∃ out,(g=true->M.m f args out)/\K out:=by
  subst hA hM
  exact ⟨out,λ_=>h,k⟩
theorem i9 {P:Program} {M:Ms} (hA:real=A) (hM:d4 P=M) {g:Bool} {f:FuncId} {args args':List XT} {K:Out->Prop} (out:Out)
    (h:d7 P f args' out) (ha:args=args') (k:K out):A.hold λ_=>∃ out,(g=true->M.m f args out)/\K out:=by
  subst ha
  exact f7 hA hM out h k
theorem sub0 (hA:real=A) (f:Nat->List DV):A.sub 0 f=f:=by subst hA;funext i;simp [real]
theorem b7 (hA:real=A) {a b:Nat} (h:a=b):A.same a b:=by subst hA;exact h
theorem c5 (hA:real=A) {rs:List Rec} (h:indep rs=true):A.ind rs:=by subst hA;exact h
theorem c8 (hA:real=A) {t:Bool} {p q:Prop} (h1:t=true->p) (h2:t=false->q):A.br t p q:=by subst hA;exact ⟨h1,h2⟩
theorem c6 (hA:real=A) {g t:Bool} (h:g=true->t=true):A.imp g t:=by subst hA;exact h
theorem d8 (hA:real=A) {g:Bool} {i:Int} {n:Nat} (h:g=true->0<=i/\i<n):A.inb g i n:=by subst hA;exact h
theorem i7 (hA:real=A) {nt:Nat} {body:(AE->St->Prop)->St->Prop} {Q:AE->St->Prop} {σ:St} {α:Type} (st : α->St) (m : α->Nat) (x0 : α) (h0:Cov nt σ (st x0))
    (h:∀ x,body (λe τ=>match e with
      | .normal=>∃ y,m y<m x/\Cov nt τ (st y)
      | e=>Q e τ) (st x)):A.hold λ_=>LoopA nt body Q σ:=by
  subst hA
  exact ⟨α,st,m,⟨x0,h0⟩,h⟩
theorem l9 (hA:real=A) {nt:Nat} {σ:St} {p:St->Prop} (τ:St) (h0:Cov nt σ τ) (h:p τ):A.hold λ_=>∃ τ,Cov nt σ τ/\p τ:=by
  subst hA
  exact ⟨τ,h0,h⟩
end
def frzV:XV->XV
  | .own sz n row=>.d (.sl sz n row)
  | .nown sz n row=>.d (.sl sz n row)
  | x=>x
def frzT:XT->XT
  | .c x=>.c (frzV x)
  | .agg xs=>.agg (xs.map frzV)
def frzA:XA->XA
  | .one x=>.one (frzT x)
  | .tup xs=>.tup (xs.map frzT)
def nbV:XV->Bool
  | .box _=>false
  | _=>true
def nbT:XT->Bool
  | .c x=>nbV x
  | .agg xs=>xs.all nbV
def nbA:XA->Bool
  | .one x=>nbT x
  | .tup xs=>xs.all nbT
section
variable {w:World} {N N':Nat->Prop}
theorem OwnRep.frz {sz n:Nat} {row:Nat->List DV} {v:Value} {F:List Nat} (h:OwnRep w N sz n row v F) (hN:∀ b,N b->N' b) (hF:∀ b,b∈F->N' b):DRep w N' (.sl sz n row) v:=by
  obtain ⟨hl,⟨rfl,rfl,ad,rfl⟩|⟨b,base,cap,cs,e,rfl,rfl,h0,hc,hb,hs,hr⟩⟩:=h
  · cases ad with
    | none=>exact .nil _ _
    | some ad=>exact .empty _ _ _
  · refine .sl sz n row b base cap cs e (0,0) (λi j=>cs.getD (base+i*sz+j) undef) (hF b (by simp)) hb hc hs hl (λi j x hi hj => ?_) (λi j x hi hj => ?_)
    · obtain ⟨u,hu,_⟩:=hr i j x hi hj
      simp only [Array.getD_eq_getD_getElem?,hu,Option.getD_some]
    · obtain ⟨u,hu,hd⟩:=hr i j x hi hj
      simp only [Array.getD_eq_getD_getElem?,hu,Option.getD_some]
      exact hd.mono hN
theorem XVRep.frz {x:XV} {v:Value} {F:List Nat} (hb:nbV x=true) (h:XVRep w N x v F) (hN:∀ b,N b->N' b) (hF:∀ b,b∈F->N' b):XVRep w N' (frzV x) v []:=by
  cases x with
  | d x=>exact ⟨rfl,h.2.mono hN⟩
  | own sz n row=>exact ⟨rfl,OwnRep.frz h hN hF⟩
  | nown sz n row=>exact ⟨rfl,h.2.1.data hF⟩
  | box c=>cases hb
theorem XVsRep.frz:∀ {xs:List XV} {vs:List Value} {F:List Nat},xs.all nbV=true->XVsRep w N xs vs F->(∀ b,N b->N' b)->(∀ b,b∈F->N' b)->XVsRep w N' (xs.map frzV) vs []
  | [],[],_,_,_,_,_=>rfl
  | [],_::_,_,_,h,_,_=>h.elim
  | _::_,[],_,_,h,_,_=>h.elim
  | x::r,v::s,F,hb,⟨F1,F2,e,h1,h2⟩,hN,hF=>by
    subst e
    simp only [List.all_cons,Bool.and_eq_true] at hb
    exact ⟨[],[],rfl,h1.frz hb.1 hN λb h=>hF b (by simp [h]),XVsRep.frz hb.2 h2 hN λb h=>hF b (by simp [h])⟩
theorem XTRep.frz {x:XT} {v:Value} {F:List Nat} (hb:nbT x=true) (h:XTRep w N x v F) (hN:∀ b,N b->N' b) (hF:∀ b,b∈F->N' b):XTRep w N' (frzT x) v []:=by
  cases x with
  | c x=>exact XVRep.frz hb h hN hF
  | agg xs=>
    obtain ⟨cs,e,h⟩:=h
    exact ⟨cs,e,XVsRep.frz hb h hN hF⟩
theorem XTsRep.frz:∀ {xs:List XT} {vs:List Value} {F:List Nat},xs.all nbT=true->XTsRep w N xs vs F->(∀ b,N b->N' b)->(∀ b,b∈F->N' b)->XTsRep w N' (xs.map frzT) vs []
  | [],[],_,_,_,_,_=>rfl
  | [],_::_,_,_,h,_,_=>h.elim
  | _::_,[],_,_,h,_,_=>h.elim
  | x::r,v::s,F,hb,⟨F1,F2,e,h1,h2⟩,hN,hF=>by
    subst e
    simp only [List.all_cons,Bool.and_eq_true] at hb
    exact ⟨[],[],rfl,h1.frz hb.1 hN λb h=>hF b (by simp [h]),XTsRep.frz hb.2 h2 hN λb h=>hF b (by simp [h])⟩
theorem XARep.frz {x:XA} {v:Value} {F:List Nat} (hb:nbA x=true) (h:XARep w N x v F) (hN:∀ b,N b->N' b) (hF:∀ b,b∈F->N' b):XARep w N' (frzA x) v []:=by
  cases x with
  | one x=>exact XTRep.frz hb h hN hF
  | tup xs=>
    obtain ⟨cs,e,h⟩:=h
    exact ⟨cs,e,XTsRep.frz hb h hN hF⟩
end
theorem back_mono {w:World} {N N':Nat->Prop} (hN:∀ b,N b->N' b):∀ {bs:List (Option XV)} {vs:List Value} {F:List Nat},BackRep w N bs vs F->BackRep w N' bs vs F
  | [],[],_,h=>h
  | [],_::_,_,h=>h.elim
  | none::_,[],_,h=>h.elim
  | some _::_,[],_,h=>h.elim
  | none::r,_::s,F,h=>back_mono (bs:=r) (vs:=s) hN (show BackRep w N r s F from h)
  | some x::r,v::s,F,⟨F1,F2,e,h1,h2⟩=>by
    refine ⟨F1,F2,e,?_,back_mono hN h2⟩
    clear h2
    cases x with
    | d x=>exact ⟨h1.1,h1.2.mono hN⟩
    | own sz n row=>exact OwnRep.tr (.inl hN) h1
    | nown sz n row=>exact h1
    | box c=>
      obtain ⟨b,cs,e,F',g1,g2,g3,g4⟩:=h1
      refine ⟨b,cs,e,F',g1,g2,g3,?_⟩
      clear g1 g2 g3
      generalize cs.toList=l at g4
      induction c generalizing l F' with
      | nil=>cases l with
        | nil=>exact g4
        | cons _ _=>exact g4.elim
      | cons y r ih=>cases l with
        | nil=>exact g4.elim
        | cons u s=>
          obtain ⟨G1,G2,e1,e2,e3⟩:=g4
          refine ⟨G1,G2,e1,?_,ih _ _ e3⟩
          cases y with
          | d y=>exact ⟨e2.1,e2.2.mono hN⟩
          | own sz n row=>exact OwnRep.tr (.inl hN) e2
theorem meets_frz {P:Program} {f:FuncId} {args:List XT} {r:XA} {back:List (Option XV)} (h:d7 P f args ⟨r,back⟩) (hb:nbA r=true):d7 P f args ⟨frzA r,back⟩:=by
  refine ⟨h.1,λw vals F N h1 h2 h3 h4 => ?_⟩
  refine (h.2 w vals F N h1 h2 h3 h4).mono ?_
  rintro e w' ⟨v,F1,F2,g1,g2,g3,g4,g5,g6,g7,g8,g9⟩
  have hsub:∀ b,Nout w w' N F (F1++F2) b->Nout w w' N F ([]++F2) b:=λb hb=>⟨hb.1,λhm=>hb.2.1 (by simp at hm;simp [hm]),hb.2.2⟩
  refine ⟨v,[],F2,g1,g2,g3,g4,g5,λb hb=>g6 b (by simp at hb;simp [hb]),by simpa using (List.nodup_append.1 g7).2.1,?_,back_mono hsub g9⟩
  refine XARep.frz hb g8 hsub λb hb => ?_
  have h6:=g6 b (by simp [hb])
  refine ⟨h6.1,λhm => ?_,?_⟩
  · have:=(List.nodup_append.1 g7).2.2 b hb b (by simpa using hm)
    exact this rfl
  · rcases h6.2 with h|h
    · exact .inr (.inl h)
    · exact .inr (.inr h)
section
variable {A:Ar}
theorem d6 {P:Program} {M:Ms} (hA:real=A) (hM:d4 P=M) {g:Bool} {f:FuncId} {args:List XT} {K:Out->Prop} {β:Type} {S : β->Prop} {out : β->Out}
    (h:∃ b,S b/\d7 P f args (out b)) (k:∀ b,S b->K (out b)):A.hold λ_=>∃ out,(g=true->M.m f args out)/\K out:=by
  obtain ⟨b,hb,h⟩:=h
  exact f7 hA hM _ h (k b hb)
theorem l7 {P:Program} {M:Ms} (hA:real=A) (hM:d4 P=M) {g:Bool} {f:FuncId} {args args':List XT} {K:Out->Prop} {β:Type} {S : β->Prop} {out : β->Out}
    (h:∃ b,S b/\d7 P f args' (out b)) (ha:args=args') (k:∀ b,S b->K (out b)):A.hold λ_=>∃ out,(g=true->M.m f args out)/\K out:=by
  subst ha
  exact d6 hA hM h k
theorem made_of {A:Ar} (hA:real=A) {n c:Int} {b:Nat} (h:0<=n/\n=c/\n*b<=140737488355328/\n<=140737488355328):A.made n c b:=by subst hA;exact h
end
theorem cov_trans {fr:Bool} {nt:Nat} {σ τ ρ:St} (h1:CovG fr nt σ τ) (h2:CovG fr nt τ ρ):CovG fr nt σ ρ:=λw0 S a w hf h=>h2 w0 S a w hf (h1 w0 S a w hf h)
def bareB:AV->Bool
  | .c .zc=>true
  | .c (.d (.v (.slice none 0 0)))=>true
  | _=>false
theorem OwnRep.rows {w:World} {N:Nat->Prop} {sz n:Nat} {row row':Nat->List DV} {v:Value} {F:List Nat} (h:∀ i,i<n->row i=row' i) (hx:OwnRep w N sz n row v F):OwnRep w N sz n row' v F:=by
  refine ⟨λi hi=>by rw [<- h i hi];exact hx.1 i hi,hx.2.imp id λ⟨b,base,cap,cs,e,h1,h2,h3,h4,h5,h6,h7⟩=>⟨b,base,cap,cs,e,h1,h2,h3,h4,h5,h6,λi j x hi hj => ?_⟩⟩
  rw [<- h i hi] at hj
  exact h7 i j x hi hj
theorem meets_rows {P:Program} {f:FuncId} {args:List XT} {sz n:Nat} {row row':Nat->List DV} {back:List (Option XV)} (h:∀ i,i<n->row i=row' i)
    (hm:d7 P f args ⟨.one (.c (.own sz n row)),back⟩):d7 P f args ⟨.one (.c (.own sz n row')),back⟩:=by
  refine ⟨hm.1,λw vals F N h1 h2 h3 h4 => ?_⟩
  refine (hm.2 w vals F N h1 h2 h3 h4).mono ?_
  rintro e w' ⟨v,F1,F2,g1,g2,g3,g4,g5,g6,g7,g8,g9⟩
  exact ⟨v,F1,F2,g1,g2,g3,g4,g5,g6,g7,OwnRep.rows h g8,g9⟩
section
variable {w0:World} {S:Sets} {nt:Nat} {sl:Nat->AV} {σ:p9} {a:Act} {w:World} {μ:Place}
theorem RelM.freeze (R:RelM w0 S nt sl σ a w μ) {l v sz n:Nat} {row:Nat->List DV} (ho : σ l=(v,.arr sz n row)) :
    RelM w0 S nt sl (updO σ l (v,.dead)) a w μ/\∀ (len:Nat) (u:Value),CRep σ μ w (Nof S σ μ w) (.own l 0 len v) u->DRep w (Nof S (updO σ l (v,.dead)) μ w) (.sl sz len row) u:=by
  have hll:m5 σ l:=by unfold m5;rw [ho];exact HO.noConfusion
  have hlv:∀ x,m5 (updO σ l (v,.dead)) x->x≠l/\m5 σ x:=λx h=>by
    unfold m5 at h ⊢
    by_cases e:x=l
    · subst e;simp at h
    · rw [s7 _ _ e] at h;exact ⟨e,h⟩
  have hst:Step S σ (updO σ l (v,.dead)) μ μ w w:=by
    refine ⟨Nat.le_refl _,λb hb=>⟨rfl,hb.1,hb.2.1,λx hx=>hb.2.2 x (hlv x hx).2⟩,λx => ?_⟩
    right
    by_cases e2:x=l
    · subst e2
      rw [updO_same]
      exact ⟨by rw [ho],rfl,λc hc=>(nomatch hc),λsz n row hr=>(nomatch hr),λsz n row foc hr=>(nomatch hr),λb base cs e' hm hex _=>(hex rfl).elim⟩
    · rw [s7 _ _ e2]
      exact ⟨rfl,rfl,λc hc=>⟨c,hc⟩,λsz n row hr=>⟨n,row,hr,Nat.le_refl _⟩,λsz n row foc hr=>⟨row,foc,hr⟩,λb base cs' e' hm _ hb=>⟨cs',hb,rfl⟩⟩
  refine ⟨R.carry hst ⟨rfl,rfl,rfl⟩ (λ_ _ _=>rfl) (λb cs e fr hb=>⟨cs,hb,rfl⟩) (λx b hx hm=>R.ownH x b (hlv x hx).2 hm) (λx y b hx hy hm hm'=>R.injH x y b (hlv x hx).2 (hlv y hy).2 hm hm') (λx hx hn=>R.kz x (hlv x hx).2 (by rw [s7 _ _ (hlv x hx).1] at hn;exact hn)) (λx => ?_),λlen u hu => ?_⟩
  · by_cases e2:x=l
    · right;subst e2;rw [updO_same];trivial
    · left;exact ⟨s7 _ _ e2,rfl,rfl,λ_ _ _=>rfl⟩
  · obtain ⟨_,_,h⟩:=hu
    obtain ⟨hle,h⟩:=h sz n row ho
    have hr:=R.objs l
    rw [ho] at hr
    obtain ⟨hl,hr⟩:=hr
    rcases h with ⟨h1,rfl,ad,rfl⟩|⟨b,base,o,cap,cs,e,h1,rfl,h3,h4,h5,h6,h7⟩
    · cases ad with
      | none=>exact .nil _ _
      | some ad=>exact .empty _ _ _
    · have hob:=R.own l b base hll h1
      have hN:Nof S (updO σ l (v,.dead)) μ w b:=⟨hob.1,R.reach b hob.2,λx hx hm=>(hlv x hx).1 (R.injH x l b (hlv x hx).2 hll hm (.inl ⟨base,h1⟩))⟩
      have ho0:0<len->o=base:=λh=>by have:=h4 (.inr rfl);omega
      rcases hr with ⟨h8,h9⟩|⟨b',base',cs',e',h8,h9,h10,h11⟩
      · rw [h1] at h8;cases h8
      · rw [h1] at h8;cases h8
        rw [h5] at h9;cases h9
        refine .sl sz len row b o cap cs e (0,0) (λi j=>cs.getD (o+i*sz+j) undef) hN h5 h3 h6 (λi hi=>hl i (by omega)) (λi j x hi hj => ?_) (λi j x hi hj => ?_)
        · obtain ⟨u,hu,_⟩:=h11 i j x (by omega) hj
          rw [ho0 (by omega)]
          simp only [Array.getD_eq_getD_getElem?,hu,Option.getD_some]
        · obtain ⟨u,hu,hd⟩:=h11 i j x (by omega) hj
          rw [ho0 (by omega)]
          simp only [Array.getD_eq_getD_getElem?,hu,Option.getD_some]
          exact DRep.carry hst.old hd
end
theorem lookO_upd {objs:List (Nat × Nat × HO)} {l:Nat} {x:Nat × HO}:m4 ((l,x)::objs)=updO (m4 objs) l x:=by
  funext k
  unfold updO
  show (bif nbeq l k then x else m4 objs k)=_
  cases hb:nbeq l k with
  | true=>have:=i3 hb;subst this;simp
  | false=>
    have:k≠l:=λe=>by subst e;simp at hb
    simp [this]
theorem slot_cons {N:Nat->Prop} {σ:p9} {μ:Place} {w:World} {slots:List (Nat × AV)} {k:Nat} {x:AV} {tm:Nat->Value} (hx:ARep σ μ w N x (tm k)) (h:∀ j,ARep σ μ w N (i5 slots j) (tm j)) (j:Nat) :
    ARep σ μ w N (i5 ((k,x)::slots) j) (tm j):=by
  show ARep σ μ w N (bif nbeq k j then x else i5 slots j) (tm j)
  cases hb:nbeq k j with
  | true=>have:=i3 hb;subst this;exact hx
  | false=>exact h j
theorem G.wp_pick {α:Type} {m:G α} {σ:Nat->Nat × HO} {Q : α->List Nat->Prop} (h:m.wp σ Q):∃ a r,Q a r/\∀ Q' : α->List Nat->Prop,Q' a r->m.wp σ Q':=by
  induction m generalizing Q with
  | ret a=>exact ⟨a,[],h,λ_ q=>q⟩
  | get l k ih=>
    obtain ⟨a,r,h1,h2⟩:=ih _ h
    exact ⟨a,l::r,h1,λQ' q=>h2 _ q⟩
  | vc p k ih=>
    obtain ⟨a,r,h1,h2⟩:=ih h.2
    exact ⟨a,r,h1,λQ' q=>⟨h.1,h2 Q' q⟩⟩
  | fail=>exact h.elim
section
variable {T:TypeId->Option TI} {EX:FuncId->List Nat × Bool} {M:Ms} {nt:Nat} {H:List Nat}
theorem ops_pick {draw:Bool} {ops:Array Oper}:∀ (l:List Oper) (rs:List Rec) (σ:St) (Q:St->Prop),awpOps real T EX M nt draw ops Q l rs σ->∃ τ,Q τ/\∀ Q':St->Prop,Q' τ->awpOps real T EX M nt draw ops Q' l rs σ
  | [],rs,σ,Q,h=>by
    unfold awpOps at h
    cases draw with
    | false=>exact ⟨σ,h,λQ' q=>by unfold awpOps;exact q⟩
    | true=>exact ⟨σ,h.2,λQ' q=>by unfold awpOps;exact ⟨h.1,q⟩⟩
  | o::rest,rs,σ,Q,h=>by
    unfold awpOps at h
    obtain ⟨g,r1,h1,k1⟩:=G.wp_pick h
    obtain ⟨out,lk,h2,k2⟩:=G.wp_pick h1
    have key:∃ τ,Q τ/\∀ Q':St->Prop,Q' τ->out.wp real M g σ.o λx us lk'=>dstOk nt o.dst=true/\u9 us=true /\
        gsp real o g us λus=>awpOps real T EX M nt draw ops Q' rest (⟨o.dst,Oper.pre o,o.looksAt ops,lk++lk',us.map (·.1)⟩::rs) (σ.put o.dst (wrapG o g x) us):=by
      cases out with
      | val x us=>
        obtain ⟨a1,a3,a4⟩:=h2
        obtain ⟨us',-,-,-,a5,a6⟩:=gsp_real a3 a4
        obtain ⟨τ,b1,b2⟩:=ops_pick rest _ _ _ a5
        exact ⟨τ,b1,λQ' q=>⟨a1,a3,a6 _ (b2 Q' q)⟩⟩
      | inl f avs=>
        obtain ⟨x,kn,us,c1,c2,a1,a3,a4⟩:∃ x kn us,(g=true->M.i f avs kn x us)/\okI σ.o avs kn x us/\dstOk nt o.dst=true/\u9 us=true/\_:=h2
        obtain ⟨us',-,-,-,a5,a6⟩:=gsp_real a3 a4
        obtain ⟨τ,b1,b2⟩:=ops_pick rest _ _ _ a5
        exact ⟨τ,b1,λQ' q=>⟨x,kn,us,c1,c2,a1,a3,a6 _ (b2 Q' q)⟩⟩
      | call f args ret=>
        obtain ⟨out,c1,c2⟩:∃ out,(g=true->M.m f args out)/\(ret out).wp σ.o λr lk=>dstOk nt o.dst=true/\u9 r.2=true/\_:=h2
        obtain ⟨r,lk',d1,d2⟩:=G.wp_pick c2
        obtain ⟨a1,a3,a4⟩:=d1
        obtain ⟨us',-,-,-,a5,a6⟩:=gsp_real a3 a4
        obtain ⟨τ,b1,b2⟩:=ops_pick rest _ _ _ a5
        exact ⟨τ,b1,λQ' q=>⟨out,c1,d2 _ ⟨a1,a3,a6 _ (b2 Q' q)⟩⟩⟩
    obtain ⟨τ,b1,b2⟩:=key
    exact ⟨τ,b1,λQ' q=>by unfold awpOps;exact k1 _ (k2 _ (b2 Q' q))⟩
theorem awp_pick:∀ (c:Code) (σ:St) (Q:AE->St->Prop),awp real T EX M nt H c Q σ->∃ e τ,Q e τ/\∀ Q':AE->St->Prop,Q' e τ->awp real T EX M nt H c Q' σ:=by
  intro c
  induction c with
  | skip=>intro σ Q h;exact ⟨.normal,σ,h,λ_ q=>q⟩
  | region id ops draw=>
    intro σ Q h
    unfold awp at h
    cases hh:memN H id with
    | false=>
      rw [hh] at h
      obtain ⟨τ,h1,h2⟩:=ops_pick _ _ _ _ h
      exact ⟨.normal,τ,h1,λQ' q=>by unfold awp;rw [hh];exact h2 _ q⟩
    | true=>
      rw [hh] at h
      obtain ⟨ρ,hc,h⟩:∃ τ,CovG (memN H 999) nt σ τ/\awpOps real T EX M nt draw ops (Q .normal) ops.toList [] τ:=h
      obtain ⟨τ,h1,h2⟩:=ops_pick _ _ _ _ h
      exact ⟨.normal,τ,h1,λQ' q=>by unfold awp;rw [hh];exact ⟨ρ,hc,h2 _ q⟩⟩
  | seq a b iha ihb=>
    intro σ Q h
    unfold awp at h
    obtain ⟨e,τ,h1,h2⟩:=iha σ _ h
    cases e with
    | normal=>
      obtain ⟨e',τ',g1,g2⟩:=ihb τ _ h1
      exact ⟨e',τ',g1,λQ' q=>by unfold awp;exact h2 _ (g2 _ q)⟩
    | exit id=>exact ⟨.exit id,τ,h1,λQ' q=>by unfold awp;exact h2 _ q⟩
    | ret=>exact ⟨.ret,τ,h1,λQ' q=>by unfold awp;exact h2 _ q⟩
  | cond t x y ihx ihy=>
    intro σ Q h
    unfold awp at h
    obtain ⟨b,r,h1,h2⟩:=G.wp_pick h
    have h1:(b=true->awp real T EX M nt H x Q σ)/\(b=false->awp real T EX M nt H y Q σ):=h1
    cases b with
    | true=>
      obtain ⟨e,τ,g1,g2⟩:=ihx σ Q (h1.1 rfl)
      exact ⟨e,τ,g1,λQ' q=>by unfold awp;exact h2 _ ⟨λ_=>g2 Q' q,λh=>(nomatch h)⟩⟩
    | false=>
      obtain ⟨e,τ,g1,g2⟩:=ihy σ Q (h1.2 rfl)
      exact ⟨e,τ,g1,λQ' q=>by unfold awp;exact h2 _ ⟨λh=>(nomatch h),λ_=>g2 Q' q⟩⟩
  | block id x ih=>
    intro σ Q h
    unfold awp at h
    obtain ⟨e,τ,h1,h2⟩:=ih σ _ h
    cases e with
    | normal=>exact ⟨.normal,τ,h1,λQ' q=>by unfold awp;exact h2 _ q⟩
    | ret=>exact ⟨.ret,τ,h1,λQ' q=>by unfold awp;exact h2 _ q⟩
    | exit j=>
      have h1:bif nbeq j id then Q .normal τ else Q (.exit j) τ:=h1
      cases hb:nbeq j id with
      | true=>
        rw [hb] at h1
        refine ⟨.normal,τ,h1,λQ' q => ?_⟩
        unfold awp
        refine h2 _ ?_
        show bif nbeq j id then Q' .normal τ else Q' (.exit j) τ
        rw [hb];exact q
      | false=>
        rw [hb] at h1
        refine ⟨.exit j,τ,h1,λQ' q => ?_⟩
        unfold awp
        refine h2 _ ?_
        show bif nbeq j id then Q' .normal τ else Q' (.exit j) τ
        rw [hb];exact q
  | loop x ih=>
    intro σ Q h
    have h:LoopG (memN H 999) nt (λQ' τ=>awp real T EX M nt H x Q' τ) Q σ:=h
    obtain ⟨α,st,m,⟨x0,h0⟩,hb⟩:=h
    have key:∀ (n:Nat) (y : α),m y=n->∃ e τ,(match e with | .normal=>False|e=>Q e τ)/\∀ Q':AE->St->Prop,Q' e τ ->
        ∃ (β:Type) (st' : β->St) (m' : β->Nat) (y0 : β),st' y0=st y/\∀ z,awp real T EX M nt H x (λe τ=>match e with | .normal=>∃ u,m' u<m' z/\CovG (memN H 999) nt τ (st' u)|e=>Q' e τ) (st' z):=by
      intro n
      induction n using Nat.strongRecOn with
      | _ n ihn=>
        intro y hy
        obtain ⟨e,τ,g1,g2⟩:=ih (st y) _ (hb y)
        cases e with
        | exit id=>exact ⟨.exit id,τ,g1,λQ' q=>⟨Unit,λ_=>st y,λ_=>0,(),rfl,λ_=>g2 _ q⟩⟩
        | ret=>exact ⟨.ret,τ,g1,λQ' q=>⟨Unit,λ_=>st y,λ_=>0,(),rfl,λ_=>g2 _ q⟩⟩
        | normal=>
          obtain ⟨z,hz,hc⟩:=g1
          obtain ⟨e',τ',k1,k2⟩:=ihn (m z) (hy▸hz) z rfl
          refine ⟨e',τ',k1,λQ' q => ?_⟩
          obtain ⟨β,st',m',y0,e0,hall⟩:=k2 Q' q
          refine ⟨Option β,λo=>match o with|none=>st y|some u=>st' u,λo=>match o with|none=>m' y0+1|some u=>m' u,none,rfl,λo => ?_⟩
          cases o with
          | none=>exact g2 _ ⟨some y0,Nat.lt_succ_self _,by show CovG (memN H 999) nt τ (st' y0);rw [e0];exact hc⟩
          | some u=>
            obtain ⟨e2,τ2,w1,w2⟩:=ih (st' u) _ (hall u)
            refine w2 _ ?_
            cases e2 with
            | normal=>obtain ⟨u',hu,hc'⟩:=w1;exact ⟨some u',hu,hc'⟩
            | exit id=>exact w1
            | ret=>exact w1
    obtain ⟨e,τ,k1,k2⟩:=key _ x0 rfl
    refine ⟨e,τ,?_,λQ' q => ?_⟩
    · cases e with
      | normal=>exact k1.elim
      | exit id=>exact k1
      | ret=>exact k1
    · obtain ⟨β,st',m',y0,e0,hall⟩:=k2 Q' q
      show LoopG (memN H 999) nt (λQ' τ=>awp real T EX M nt H x Q' τ) Q' σ
      exact ⟨β,st',m',⟨y0,by rw [e0];exact h0⟩,hall⟩
  | exit id=>intro σ Q h;exact ⟨.exit id,σ,h,λ_ q=>q⟩
  | ret=>intro σ Q h;exact ⟨.ret,σ,h,λ_ q=>q⟩
  | _=>intro σ Q h;exact h.elim
end
def shapeB:List (Option XV)->List Bool
  | []=>[]
  | none::r=>false::shapeB r
  | some _::r=>true::shapeB r
theorem backG_shape (A:Ar):∀ {tvs:List TV} {s s':List (Option XV)},shapeB s=shapeB s'->backG A tvs s=backG A tvs s'
  | [],[],[],_=>rfl
  | [],[],none::_,h=>by simp [shapeB] at h
  | [],[],some _::_,h=>by simp [shapeB] at h
  | [],_::_,[],h=>by rename_i y _;cases y<;>simp [shapeB] at h
  | [],_::_,_::_,_=>rfl
  | _::_,[],[],_=>rfl
  | _::_,[],y::_,h=>by cases y<;>simp [shapeB] at h
  | _::_,y::_,[],h=>by cases y<;>simp [shapeB] at h
  | x::r,y::s,z::s',h=>by
    have hs:shapeB s=shapeB s':=by cases y<;>cases z<;>simp [shapeB] at h<;>exact h
    have ih:=backG_shape A (tvs:=r) hs
    cases y with
    | none=>
      cases z with
      | none=>cases x<;>simp only [backG,ih]
      | some _=>simp [shapeB] at h
    | some _=>
      cases z with
      | none=>simp [shapeB] at h
      | some _=>cases x<;>simp only [backG,ih]
def FinalX (A:Ar) (T:TypeId->Option TI) (rs:List ResultVar) (tvs:List TV) (sh:List (Option XV)) (K:XA->List (Option XV)->Prop) (σ:St):Prop:=
  (resG A T σ rs).wp σ.o λr _=>(backG A tvs sh).wp σ.o λb _=>
    exOk (r.2.ex++b.2.ex) []=true/\r.2.bo.isEmpty=true/\b.2.bo.isEmpty=true/\A.hold λ_=>K (XAof r.1) b.1
theorem finalX_ex {T:TypeId->Option TI} {rs:List ResultVar} {tvs:List TV} {sh:List (Option XV)} {β:Type} {R : β->Prop} {out : β->Out} {σ:St} (hs:∀ y,shapeB (out y).back=shapeB sh)
    (h:FinalX real T rs tvs sh (λr b=>∃ y,R y/\r=(out y).res/\b=(out y).back) σ):∃ y,R y/\Final real T rs tvs (out y) σ:=by
  obtain ⟨r,l1,h1,k1⟩:=G.wp_pick h
  obtain ⟨b,l2,⟨h2,h3,h4,h5⟩,k2⟩:=G.wp_pick h1
  obtain ⟨y,hy,e1,e2⟩:∃ y,R y/\XAof r.1=(out y).res/\b.1=(out y).back:=h5
  refine ⟨y,hy,k1 _ ?_⟩
  show (backG real tvs (out y).back).wp σ.o _
  rw [backG_shape real (hs y)]
  exact k2 _ ⟨h2,h3,h4,e1,e2⟩
def awpFnX (A:Ar) (T:TypeId->Option TI) (EX:FuncId->List Nat × Bool) (M:Ms) (sh:List (Option XV)) (K:XA->List (Option XV)->Prop) (nt:Nat) (H:List Nat) (c:Code) (rs:List ResultVar) (args:List XT):Prop:=
  (takenTup 0 0 args).wp (m4 []) λr _=>u9 r.2=true/\nble r.1.length nt=true/\(r.1.all λx=>labA x.av)=true /\
    awp A T EX M nt H c (λe τ=>match e with | .exit _=>False|_=>FinalX A T rs r.1 sh K τ) ⟨slotsOf 0 r.1,r.2⟩
theorem meets_ex {P:Program} {T:TypeId->Option TI} {EX:FuncId->List Nat × Bool} (hT:TTok P T) (hm:P.follows .mixedOrders=true) (sh:List (Option XV)) {f:FuncId} {fn:Func} {c:Code} {H:List Nat} {args:List XT} {β:Type} {R : β->Prop} {out : β->Out}
    (hf:P.funcs[f]? = some fn) (hb:fn.body=some c) (hcall:callable P f=true) (hrl:fn.results.toList.length<=3) (hs:∀ y,shapeB (out y).back=shapeB sh)
    (h:awpFnX real T EX (d4 P) sh (λr b=>∃ y,R y/\r=(out y).res/\b=(out y).back) fn.ntmps H c fn.results.toList args):∃ y,R y/\d7 P f args (out y):=by
  obtain ⟨r,lk,⟨h1,h2,h3,h4⟩,k⟩:=G.wp_pick h
  obtain ⟨e,τ,g1,g2⟩:=awp_pick _ _ _ h4
  have key:∃ y,R y/\(match e with | .exit _=>False|_=>Final real T fn.results.toList r.1 (out y) τ):=by
    cases e with
    | exit id=>exact g1.elim
    | normal=>exact finalX_ex hs g1
    | ret=>exact finalX_ex hs g1
  obtain ⟨y,hy,hF⟩:=key
  refine ⟨y,hy,d5 (EX:=EX) (H:=H) hT hm hf hb hcall hrl ?_⟩
  refine k _ ⟨h1,h2,h3,g2 _ ?_⟩
  cases e with
  | exit id=>exact hF.elim
  | normal=>exact hF
  | ret=>exact hF
theorem i8 {A:Ar} (hA:real=A) {p:Prop} (h:p):A.hold λ_=>p:=by subst hA;exact h
def okR:HO->HO->Prop
  | _,.dead=>True
  | .box c,.box c'=>c=c'
  | .arr sz n row,.arr sz' n' row'=>sz=sz'/\n=n'/\∀ i,i<n->row i=row' i
  | .nest sz n row foc,.nest sz' n' row' foc'=>sz=sz'/\n=n'/\foc=foc'/\∀ i,i<n->row i=row' i
  | _,_=>False
def eqR (a b:Nat × HO):Prop:=a.1=b.1/\okR a.2 b.2
def endL (a us:List (Nat × Nat × HO)):List (Nat × Nat × HO)->Prop
  | []=>True
  | (l,_)::r=>eqR (m4 a l) (m4 us l)/\endL a us r
def resA (rs:List ResultVar) (x:AV) (τ:St):Prop:=
  match rs with
  | []=>x=.tup []
  | [.tmp t]=>x=i5 τ.slots t
  | _=>False
def FinI (rs:List ResultVar) (x:AV) (us:List (Nat × Nat × HO)) (τ:St):Prop:=
  resA rs x τ/\(us.all λp=>l4 τ.objs p.1)=true/\endL τ.objs us τ.objs
def slotsA:Nat->List AV->List (Nat × AV)
  | _,[]=>[]
  | i,x::r=>(i,x)::slotsA (i+1) r
section
variable {P:Program} {T:TypeId->Option TI} {EX:FuncId->List Nat × Bool}
variable {w0:World} {S:Sets} {nt:Nat} {sl:Nat->AV} {σ τ:p9} {a:Act} {w:World} {μ:Place}
theorem RelM.less (R:RelM w0 S nt sl σ a w μ) (h:∀ l,eqR (σ l) (τ l)):Step S σ τ μ μ w w/\RelM w0 S nt sl τ a w μ:=by
  have hlv:∀ l,m5 τ l->m5 σ l:=λl hl=>by
    have:=(h l).2
    unfold m5 at hl ⊢
    revert hl this
    generalize (σ l).2=o
    generalize (τ l).2=o'
    intro hl this
    cases o' with
    | dead=>exact absurd rfl hl
    | box _=>cases o with
      | box _=>exact HO.noConfusion
      | _=>exact this.elim
    | arr _ _ _=>cases o with
      | arr _ _ _=>exact HO.noConfusion
      | _=>exact this.elim
    | nest _ _ _ _=>cases o with
      | nest _ _ _ _=>exact HO.noConfusion
      | _=>exact this.elim
  have hst:Step S σ τ μ μ w w:=by
    refine ⟨Nat.le_refl _,λb hb=>⟨rfl,hb.1,hb.2.1,λl hl=>hb.2.2 l (hlv l hl)⟩,λl => ?_⟩
    right
    have h2:=(h l).2
    refine ⟨(h l).1,rfl,λcells hc => ?_,λsz n row hc => ?_,λsz n row foc hc => ?_,λb base cs e hm _ hb=>⟨cs,hb,rfl⟩⟩
    · rw [hc] at h2
      cases ho:(σ l).2 with
      | box c=>exact ⟨c,rfl⟩
      | _=>rw [ho] at h2;exact h2.elim
    · rw [hc] at h2
      cases ho:(σ l).2 with
      | arr sz' n' row'=>rw [ho] at h2;obtain ⟨rfl,rfl,_⟩:=h2;exact ⟨_,row',rfl,Nat.le_refl _⟩
      | _=>rw [ho] at h2;exact h2.elim
    · rw [hc] at h2
      cases ho:(σ l).2 with
      | nest sz' n' row' foc'=>rw [ho] at h2;obtain ⟨rfl,rfl,_⟩:=h2;exact ⟨row',foc',rfl⟩
      | _=>rw [ho] at h2;exact h2.elim
  refine ⟨hst,R.carry hst ⟨rfl,rfl,rfl⟩ (λ_ _ _=>rfl) (λb cs e fr hb=>⟨cs,hb,rfl⟩) (λl b hl hm=>R.ownH l b (hlv l hl) hm) (λl l' b hl hl' hm hm'=>R.injH l l' b (hlv l hl) (hlv l' hl') hm hm') (λl hl hn=>R.kz l (hlv l hl) ?_) (λl=>.inr ?_)⟩
  · have h2:=(h l).2
    cases ho:(σ l).2 with
    | nest _ _ _ _=>
      rw [ho] at h2
      exfalso
      cases ht:(τ l).2 with
      | dead=>exact hl ht
      | nest _ _ _ _=>rw [ht] at hn;cases hn
      | _=>rw [ht] at h2;exact h2.elim
    | _=>rfl
  have ho:=R.objs l
  have h2:=(h l).2
  revert ho h2
  generalize (σ l).2=o
  generalize (τ l).2=o'
  intro ho h2
  cases o' with
  | dead=>trivial
  | box c=>
    cases o with
    | box c'=>
      have h2:c'=c:=h2
      subst h2
      obtain ⟨b,cs,e,q1,q2,q3⟩:=ho
      exact ⟨b,cs,e,q1,q2,q3.step hst⟩
    | _=>exact h2.elim
  | arr sz n row=>
    cases o with
    | arr sz1 n1 row1=>
      obtain ⟨rfl,rfl,hrow⟩:=h2
      refine ⟨λi hi=>by rw [<- hrow i hi];exact ho.1 i hi,ho.2.imp id ?_⟩
      rintro ⟨b,base,cs,e,q1,q2,q3,q4⟩
      refine ⟨b,base,cs,e,q1,q2,q3,λi j x hi hj => ?_⟩
      rw [<- hrow i hi] at hj
      obtain ⟨u,hu,hd⟩:=q4 i j x hi hj
      exact ⟨u,hu,DRep.carry hst.old hd⟩
    | _=>exact h2.elim
  | nest sz n row foc=>
    cases o with
    | nest sz1 n1 row1 foc1=>
      obtain ⟨rfl,rfl,rfl,hrow⟩:=h2
      rcases ho with q|⟨b,base,cs,e,q1,q2,q3,⟨g0,G,g1,g2,g3⟩,q5,q6,q7⟩
      · exact .inl q
      · refine .inr ⟨b,base,cs,e,q1,q2,q3,⟨λi hi hn=>by rw [<- hrow i hi];exact g0 i hi hn,G,λi j x hi hn hj=>by rw [<- hrow i hi] at hj;exact g1 i j x hi hn hj,g2,g3⟩,q5,q6,λi cells hf => ?_⟩
        obtain ⟨k1,k2,k3⟩:=q7 i cells hf
        refine ⟨k1,k2,λj x hj => ?_⟩
        obtain ⟨u,hu,hc⟩:=k3 j x hj
        exact ⟨u,hu,hc.step hst⟩
    | _=>exact h2.elim
theorem look_nodup:∀ {kn:List (Nat × Nat × HO)},u9 kn=true->∀ {p:Nat × Nat × HO},p∈kn->m4 kn p.1=p.2
  | [],_,p,h=>by simp at h
  | (j,x)::r,hn,p,h=>by
    unfold u9 at hn
    cases hl:l4 r j with
    | true=>rw [hl] at hn;cases hn
    | false=>
      rw [hl] at hn
      unfold m4
      rcases List.mem_cons.1 h with rfl|h
      · rw [show nbeq j j=true from nbeq_refl j];rfl
      · cases hb:nbeq j p.1 with
        | true=>
          have:=i3 hb
          have h2:=hasLab_mem h
          rw [<- this] at h2;rw [h2] at hl;cases hl
        | false=>exact look_nodup hn h
theorem endL_at {a us:List (Nat × Nat × HO)}:∀ {r:List (Nat × Nat × HO)},endL a us r->∀ {l:Nat},l4 r l=true->eqR (m4 a l) (m4 us l)
  | [],_,_,h=>by cases h
  | (j,_)::r,h,l,hl=>by
    unfold l4 at hl
    cases hb:nbeq j l with
    | true=>have:=i3 hb;subst this;exact h.1
    | false=>rw [hb] at hl;exact endL_at h.2 hl
theorem AvsRep.len {σ:p9} {μ:Place} {w:World} {N:Nat->Prop}:∀ {xs:List AV} {vs:List Value},AvsRep σ μ w N xs vs->xs.length=vs.length
  | [],[],_=>rfl
  | _::_,_::_,h=>by simp [AvsRep.len h.2]
  | [],_::_,h=>h.elim
  | _::_,[],h=>h.elim
theorem AvsRep.slots {σ:p9} {μ:Place} {w:World} {N:Nat->Prop}:∀ {xs:List AV} {vs:List Value} (i:Nat),AvsRep σ μ w N xs vs->∀ k,(k<i\/i+xs.length<=k->i5 (slotsA i xs) k=.c .junk)/\(∀ q v,k=i+q->vs[q]? = some v->ARep σ μ w N (i5 (slotsA i xs) k) v)
  | [],[],i,_,k=>⟨λ_=>rfl,λq v _ h=>by simp at h⟩
  | x::r,v::s,i,h,k=>by
    obtain ⟨h1,h2⟩:=AvsRep.slots (i+1) h.2 k
    refine ⟨λhk => ?_,λq u hq hu => ?_⟩
    · show (bif nbeq i k then x else i5 (slotsA (i+1) r) k)=_
      have:nbeq i k=false:=by
        cases hb:nbeq i k with
        | false=>rfl
        | true=>have:=i3 hb;simp at hk;omega
      rw [this]
      exact h1 (by simp at hk;omega)
    · show ARep σ μ w N (bif nbeq i k then x else i5 (slotsA (i+1) r) k) u
      cases q with
      | zero=>
        have:k=i:=by omega
        subst this
        simp at hu;subst hu
        have:nbeq k k=true:=nbeq_refl k
        rw [this]
        exact h.1
      | succ q=>
        have:nbeq i k=false:=by
          cases hb:nbeq i k with
          | false=>rfl
          | true=>have:=i3 hb;omega
        rw [this]
        exact h2 q u (by omega) (by simpa using hu)
  | [],_::_,_,h,_=>h.elim
  | _::_,[],_,h,_=>h.elim
theorem inl_core (hT:TTok P T) (hm:P.follows .mixedOrders=true) {H:List Nat} {f:FuncId} {fn:Func} {c:Code} {avs:List AV} {kn us:List (Nat × Nat × HO)} {x:AV}
    (hf:P.funcs[f]? = some fn) (hb:fn.body=some c) (hcall:callable P f=true) (hrl:fn.results.toList.length<=3) (hpl:memN H 999=true\/loopless H c=true) (hkn:memN H 999=true->(kn.all λp=>smallL p.1)=true) (hnl:u9 kn=true) (hlen:nble avs.length fn.ntmps=true)
    (h:awp real T EX (d4 P) fn.ntmps H c (λe τ=>match e with | .exit _=>False|_=>FinI fn.results.toList x us τ) ⟨slotsA 0 avs,kn⟩):MeetsO P f avs kn x us:=by
  refine ⟨hcall,λw vals N μ hN hK hinj hkz hobj hav => ?_⟩
  obtain ⟨S,hS⟩:∃ S,S=setsK w N kn μ:=⟨_,rfl⟩
  have hlen2:avs.length<=fn.ntmps:=b8 hlen
  have hvl:=hav.len
  let a0:Act := { tmps:=vals.toArray++Array.replicate (fn.ntmps-vals.toArray.size) undef,defers:=[] }
  have hNN:∀ b,N b->Nof S (m4 kn) μ w b:=λb hb=>by
    rw [hS]
    exact ⟨(hN b hb).1,.inl hb,λl hl hmm=>(hN b hb).2 ⟨l,hl,hmm⟩⟩
  have harep:∀ {σ:p9} {x:AV} {v:Value} {N N':Nat->Prop},(∀ b,N b->N' b)->ARep σ μ w N x v->ARep σ μ w N' x v:=by
    intro σ x
    have hcs:∀ {N N':Nat->Prop} {xs:List CV} {vs:List Value},(∀ b,N b->N' b)->CsRep σ μ w N xs vs->CsRep σ μ w N' xs vs:=λh hx=>hx.mono h
    have ht:∀ {N N':Nat->Prop} {xs:List TV} {vs:List Value},(∀ b,N b->N' b)->TsRep σ μ w N xs vs->TsRep σ μ w N' xs vs:=by
      intro N N' xs
      induction xs with
      | nil=>intro vs _ h;cases vs with
        | nil=>trivial
        | cons _ _=>exact h.elim
      | cons y r ih=>intro vs hN h;cases vs with
        | nil=>exact h.elim
        | cons v s=>
          refine ⟨?_,ih hN h.2⟩
          have:=h.1
          cases y with
          | c y=>exact CRep.mono hN this
          | agg ys=>obtain ⟨cs,h1,h2⟩:=this;exact ⟨cs,h1,hcs hN h2⟩
    induction x with
    | c x=>intro v N N' hN h;exact CRep.mono hN h
    | agg xs=>intro v N N' hN h;obtain ⟨cs,h1,h2⟩:=h;exact ⟨cs,h1,hcs hN h2⟩
    | tup xs=>intro v N N' hN h;obtain ⟨cs,h1,h2⟩:=h;exact ⟨cs,h1,ht hN h2⟩
    | gd t x ih=>intro v N N' hN h;exact ⟨λe=>ih hN (h.1 e),h.2⟩
  have hslots:∀ k,ARep (m4 kn) μ w (Nof S (m4 kn) μ w) (i5 (slotsA 0 avs) k) (a0.tmps.getD k undef):=λk=>by
    obtain ⟨h1,h2⟩:=hav.slots 0 k
    by_cases hk:k<vals.length
    · have hv:vals[k]? = some vals[k]:=List.getElem?_eq_getElem hk
      have:=h2 k _ (by omega) hv
      have e:a0.tmps.getD k undef=vals[k]:=by
        have h1:a0.tmps[k]? = some vals[k]:=by
          simp only [a0]
          rw [Array.getElem?_append_left (by simpa using hk)]
          simp [hk]
        simp [Array.getD_eq_getD_getElem?,h1]
      rw [e]
      exact harep hNN this
    · rw [h1 (by omega)];trivial
  have R0:RelM w S fn.ntmps (i5 (slotsA 0 avs)) (m4 kn) a0 w μ:=by
    rw [hS] at hslots hNN ⊢
    refine ⟨by simp [a0];omega,rfl,⟨rfl,rfl,rfl⟩,Nat.le_refl _,λb hb => ?_,λ_ _ _=>rfl,λb cs e fr hb=>⟨cs,hb,rfl⟩,λl b hl hmm => ?_,hinj,hkz,λp hp=>(by simp [setsK] at hp),λp hp=>(by simp [setsK] at hp),λ_ p hp => ?_,λl => ?_,hslots⟩
    · rcases hb with hb|hb
      · exact .inr (.inr hb)
      · exact .inr (.inl hb)
    · exact ⟨hK b ⟨l,hl,hmm⟩,.inr ⟨l,hl,hmm⟩⟩
    · have hp:p∈kn.map (λp=>(p.1,p.2.1,μ p.1)):=hp
      obtain ⟨q,hq,rfl⟩:=List.mem_map.1 hp
      have e:m4 kn q.1=q.2:=look_nodup hnl hq
      exact ⟨by show q.2.1<=_;rw [e];exact Nat.le_refl _,λ_ _=>rfl⟩
    · have ho:=hobj l
      revert ho
      generalize (m4 kn l).2=o
      intro ho
      cases o with
      | dead=>trivial
      | box cells=>obtain ⟨b,cs,e,q1,q2,q3⟩:=ho;exact ⟨b,cs,e,q1,q2,q3.mono hNN⟩
      | nest sz n row foc=>
        rcases ho with q|⟨b,base,cs,e,q1,q2,q3,q4,q5,q6,q7⟩
        · exact .inl q
        · refine .inr ⟨b,base,cs,e,q1,q2,q3,q4,q5,q6,λi cells hf => ?_⟩
          obtain ⟨k1,k2,k3⟩:=q7 i cells hf
          refine ⟨k1,k2,λj x hj => ?_⟩
          obtain ⟨u,hu,hc⟩:=k3 j x hj
          exact ⟨u,hu,hc.mono hNN⟩
      | arr sz n row=>
        refine ⟨ho.1,ho.2.imp id ?_⟩
        rintro ⟨b,base,cs,e,q1,q2,q3,q4⟩
        refine ⟨b,base,cs,e,q1,q2,q3,λi j x hi hj => ?_⟩
        obtain ⟨u,hu,hd⟩:=q4 i j x hi hj
        exact ⟨u,hu,hd.mono hNN⟩
  refine calls_of_wp hf hb ?_
  refine awp_sound hT hm c (λ_=>hpl) (λ_ p hp hm9=>by
      rw [hS] at hp
      have hp:p∈kn.map (λp=>(p.1,p.2.1,μ p.1)):=hp
      obtain ⟨q,hq,rfl⟩:=List.mem_map.1 hp
      have:=List.all_eq_true.1 (hkn hm9) q hq
      simpa using this) _ _ ⟨slotsA 0 avs,kn⟩ a0 w h ⟨μ,R0⟩ ?_
  intro e τ' a' w' hfin R'
  have hfin':FinI fn.results.toList x us τ'/\(e.ex=.normal\/e.ex=.ret):=by
    cases e with
    | normal=>exact ⟨hfin,.inl rfl⟩
    | ret=>exact ⟨hfin,.inr rfl⟩
    | exit id=>exact hfin.elim
  obtain ⟨⟨hres,hus,hend⟩,hex⟩:=hfin'
  obtain ⟨μ',R'⟩:=R'
  have heq:∀ l,eqR (τ'.o l) (m4 us l):=λl=>by
    cases hb:l4 τ'.objs l with
    | true=>exact endL_at hend hb
    | false=>
      have h1 : τ'.o l=(0,.dead):=hasLab_look hb
      have h2:l4 us l=false:=by
        cases hu:l4 us l with
        | false=>rfl
        | true=>
          have:=List.all_eq_true.1 hus _ (look_mem hu)
          simp only at this
          rw [hb] at this;cases this
      rw [h1,hasLab_look h2]
      exact ⟨rfl,trivial⟩
  obtain ⟨st,R2⟩:=R'.less heq
  have hpost:a'.defers=[]/\∃ v,(results fn a'.tmps).run P w'=.ok v w'/\∃ v',∃ nt sl a μ',Ending.returned v=Ending.returned v'/\RelM w (setsK w N kn μ) nt sl (m4 us) a w' μ'/\ARep (m4 us) μ' w' (Nof (setsK w N kn μ) (m4 us) μ' w') x v':=by
    refine ⟨R'.defs,?_⟩
    unfold resA at hres
    split at hres
    · rename_i hr
      refine ⟨_,results_run hrl (vs:=[]) (by rw [hr];trivial),_,_,_,_,μ',rfl,by rw [<- hS];exact R2,?_⟩
      rw [hres]
      exact ⟨#[],rfl,trivial⟩
    · rename_i t hr
      refine ⟨_,results_run hrl (vs:=[a'.tmps.getD t undef]) (by rw [hr];exact ⟨rfl,trivial⟩),_,_,_,_,μ',rfl,by rw [<- hS];exact R2,?_⟩
      rw [hres,<- hS]
      exact (R'.slots t).step st
    · exact hres.elim
  rcases hex with h|h<;>rw [h]<;>exact hpost
theorem inl_of (hT:TTok P T) (hm:P.follows .mixedOrders=true) {f:FuncId} {fn:Func} {c:Code} {avs:List AV} {kn us:List (Nat × Nat × HO)} {x:AV}
    (hf:P.funcs[f]? = some fn) (hb:fn.body=some c) (hcall:callable P f=true) (hrl:fn.results.toList.length<=3) (hpl:loopless [] c=true) (hnl:u9 kn=true) (hlen:nble avs.length fn.ntmps=true)
    (h:awp real T EX (d4 P) fn.ntmps [] c (λe τ=>match e with | .exit _=>False|_=>FinI fn.results.toList x us τ) ⟨slotsA 0 avs,kn⟩):MeetsO P f avs kn x us:=
  inl_core hT hm hf hb hcall hrl (.inr hpl) (λh=>by cases h) hnl hlen h
end
end Go.Rk
