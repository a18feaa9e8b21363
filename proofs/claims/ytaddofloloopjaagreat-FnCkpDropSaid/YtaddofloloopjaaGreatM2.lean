/- What each of this seat's functions answers, at all data, part 2: no condition. -/
import Derived.Test.YtaddofloloopjaaGreatM1
import Derived.Laws.AppendOwn
import Derived.Laws.MakeOwn
namespace Go.Rk
set_option linter.unusedSimpArgs false
set_option linter.unusedVariables false
section
variable {P:Program} {T:TypeId->Option TI} {EX:FuncId->List Nat × Bool} {M:Ms}
variable {w0:World} {S:Sets} {nt:Nat} {slots:List (Nat × AV)} {σ:p9} {a:Act} {w:World} {μ:Place}
variable {o:Oper} {K:AV->List (Nat × Nat × HO)->Prop} {next:Act->World->Prop} {Q:Exit->Act->World->Prop}
theorem add_off (b off j:Nat):(⟨b,off,none⟩:Addr).add j=⟨b,off+j,none⟩:=by
  unfold Addr.add
  split
  · rename_i h;subst h;rfl
  · rfl
theorem cell_at {w:World} {b off:Nat} {cs:Array Value} {e:TypeId} {fr:Nat × Nat} (h:w.heap[b]? = some (.cells cs e fr)):w.cell? ⟨b,off,none⟩=cs[off]? := by
  simp [World.cell?,h]
theorem load_run (hT:TTok P T) {t:TypeId} {i:TI} (hi:T t=some i) {N:Nat->Prop} {b off:Nat} {cs:Array Value} {e:TypeId} {fr:Nat × Nat} (hb:w.heap[b]? = some (.cells cs e fr))
    {xs:List CV} (hl:xs.length=i.size) (hx:∀ (j:Nat) x,xs[j]? = some x->∃ u,cs[off+j]? = some u/\CRep σ μ w N x u) {Q:AV->Prop} (h:(mkAV (isAggT i.desc) xs).run σ Q) :
    ∃ v,(loadVar t ⟨b,off,none⟩).run P w=.ok v w/\∃ y,ARep σ μ w N y v/\Q y:=by
  have hlen:∀ j,j<xs.length->off+j<cs.size:=λj hj=>by
    obtain ⟨u,hu,_⟩:=hx j xs[j] (List.getElem?_eq_getElem hj)
    exact (Array.getElem?_eq_some_iff.1 hu).1
  unfold mkAV at h
  cases hg:isAggT i.desc with
  | true=>
    simp only [hg,if_true] at h
    let vs:List Value:=(List.range xs.length).map λj=>cs.getD (off+j) undef
    have hvl:vs.length=i.size:=by simp [vs,hl]
    have hvj:∀ (j:Nat) v,vs[j]? = some v->cs[off+j]? = some v:=λj v hj=>by
      simp only [vs,List.getElem?_map,Option.map_eq_some_iff] at hj
      obtain ⟨k,hk,rfl⟩:=hj
      obtain ⟨hlt,rfl⟩:=List.getElem?_eq_some_iff.1 hk
      simp at hlt ⊢
      rw [Array.getElem?_eq_getElem (hlen j hlt)];simp
    have hload:=run_loadCells_list (P:=P) w ⟨b,off,none⟩ vs (λj v hj=>by rw [add_off,cell_at hb];exact hvj j v hj)
    rw [hvl] at hload
    refine ⟨.agg vs.toArray,by simp [loadVar,isAgg_run hT hi,hg,sizeOf_run hT hi,hload],.agg xs,⟨_,rfl,?_⟩,h⟩
    refine CsRep.of_get (by simp [hvl,hl]) λj x hj => ?_
    obtain ⟨u,hu,hc⟩:=hx j x hj
    refine ⟨u,?_,hc⟩
    have hj':j<xs.length:=(List.getElem?_eq_some_iff.1 hj).1
    simp [vs,hj',Array.getD_eq_getD_getElem?,hu]
  | false=>
    simp only [hg] at h
    match xs,h with
    | [x],h=>
      obtain ⟨u,hu,hc⟩:=hx 0 x rfl
      refine ⟨u,?_,.c x,hc,h⟩
      have hu':cs[off]? = some u:=by simpa using hu
      simp [loadVar,isAgg_run hT hi,hg,cell_at hb,hu']
theorem sound_load (hT:TTok P T) (R:RelM w0 S nt (i5 slots) σ a w μ) (hd:∀ d,o.dst=some d->d<nt) {t:TypeId} {p:Operand} (ho:o.op=.load t p)
    (h:(t6 real T EX o true (rho slots)).run σ (OpOut.run M σ K)):Sound P w0 S nt slots σ a w o K:=by
  simp only [t6,ho,G.run_bind] at h
  obtain ⟨i,hi,h⟩:=tiv_run h
  obtain ⟨c,hc,h⟩:=cellv_run h (p8 R p)
  have fin:∀ b off (cs:Array Value) e fr (xs:List CV),a.eval p=.pointer (some ⟨b,off,none⟩)->w.heap[b]? = some (.cells cs e fr)->xs.length=i.size ->
      (∀ (j:Nat) x,xs[j]? = some x->∃ u,cs[off+j]? = some u/\CRep σ μ w (Nof S σ μ w) x u)->(mkAV (isAggT i.desc) xs).run σ (λy=>K y [])->Sound P w0 S nt slots σ a w o K:=by
    intro b off cs e fr xs he hb hl hx hm
    obtain ⟨v,hr,y,hy,hk⟩:=load_run hT hi hb hl hx hm
    exact p0 R hd (by simp [execOp,ho,he,Instr.loadAt,Instr.sureAddr,hr]) hy hk
  cases c with
  | bp l ver off=>
    simp only [G.run] at h
    split at h
    · rename_i ver' cells hσ
      obtain ⟨hv,h⟩:=h
      have hv:ver=ver':=hv
      subst hv
      rw [G.run_bind] at h
      obtain ⟨xs,hxs,h⟩:=optv_run h
      rw [G.run_bind] at h
      obtain ⟨hone,hle,hc⟩:=hc
      obtain ⟨b,hμ,he⟩:=hc cells hσ
      have ob:=R.objs l
      rw [hσ] at ob
      obtain ⟨b',cs,e,hμ',hb,hcs⟩:=ob
      rw [hμ] at hμ';simp at hμ';subst hμ'
      obtain ⟨hl,hg⟩:=takeN_spec hxs
      refine fin b off cs e (0,0) xs he hb hl (λj x hj => ?_) h
      have:=hg j x hj
      rw [dropN_get] at this
      obtain ⟨u,hu,hc⟩:=hcs.get this
      exact ⟨u,by simpa using hu,hc⟩
    · exact h.elim
  | op l ver row off=>
    simp only [G.run] at h
    split at h
    · rename_i ver' sz n rows hσ
      obtain ⟨hv,h⟩:=h
      have hv:ver=ver':=hv
      subst hv
      rw [G.run_bind] at h
      obtain ⟨xs,hxs,h⟩:=optv_run h
      rw [G.run_bind] at h
      obtain ⟨hone,hle,hc⟩:=hc
      obtain ⟨hrow,b,base,hμ,he⟩:=hc sz n rows hσ
      have ob:=R.objs l
      rw [hσ] at ob
      obtain ⟨hr,ob⟩:=ob
      rcases ob with ⟨h1,_⟩|⟨b',base',cs,e,hμ',hb,hsz,hcs⟩
      · rw [hμ] at h1;simp at h1
      rw [hμ] at hμ';simp at hμ';obtain ⟨rfl,rfl⟩:=hμ'
      obtain ⟨hl,hg⟩:=takeN_spec hxs
      refine fin b (base+row*sz+off) cs e (0,0) (xs.map .d) he hb (by simpa using hl) (λj x hj => ?_) h
      simp only [List.getElem?_map,Option.map_eq_some_iff] at hj
      obtain ⟨x',hx',rfl⟩:=hj
      have:=hg j x' hx'
      rw [dropN_get] at this
      obtain ⟨u,hu,hc⟩:=hcs row (off+j) x' hrow this
      exact ⟨u,by rw [show base+row*sz+off+j=base+row*sz+(off+j) by omega];exact hu,hc⟩
    · exact h.elim
  | nop l ver row off=>
    simp only [G.run] at h
    split at h
    · rename_i ver' sz n rows r cells hσ
      obtain ⟨hv,h1,h⟩:=h
      have hv:ver=ver':=hv
      have h1:row=r:=h1
      subst hv h1
      rw [G.run_bind] at h
      obtain ⟨xs,hxs,h⟩:=optv_run h
      rw [G.run_bind] at h
      obtain ⟨hone,hle,hc⟩:=hc
      obtain ⟨hrow,b,base,hμ,he⟩:=hc sz n rows _ hσ
      have ob:=R.objs l
      rw [hσ] at ob
      rcases ob with ⟨_,_,h1,_⟩|⟨b',base',cs,e,hμ',hb,hsz,hk,_,_,hfoc⟩
      · cases h1
      rw [hμ] at hμ';simp at hμ';obtain ⟨rfl,rfl⟩:=hμ'
      obtain ⟨_,hcl,hcs⟩:=hfoc _ _ rfl
      obtain ⟨hl,hg⟩:=takeN_spec hxs
      refine fin b (base+row*sz+off) cs e (0,0) xs he hb (by simpa using hl) (λj x hj => ?_) h
      have:=hg j x hj
      rw [dropN_get] at this
      obtain ⟨u,hu,hc⟩:=hcs (off+j) x this
      exact ⟨u,by rw [show base+row*sz+off+j=base+row*sz+(off+j) by omega];exact hu,hc⟩
    · exact h.elim
  | d x=>
    cases x with
    | p cells=>
      rw [G.run_bind] at h
      obtain ⟨xs,hxs,h⟩:=optv_run h
      rw [G.run_bind] at h
      generalize he:a.eval p=pv at hc
      cases hc with
      | p _ b off cs e fr u hN hb hu hdd=>
        obtain ⟨hl,hg⟩:=takeN_spec hxs
        refine fin b off cs e fr (xs.map .d) he hb (by simpa using hl) (λj x hj => ?_) h
        simp only [List.getElem?_map,Option.map_eq_some_iff] at hj
        obtain ⟨x',hx',rfl⟩:=hj
        exact ⟨u j,hu j x' (hg j x' hx'),hdd j x' (hg j x' hx')⟩
    | _=>exact h.elim
  | _=>exact h.elim
theorem spliced_get (cur:Array Value) (vs:List Value) (k j:Nat) (h:k+vs.length<=cur.size) :
    ((cur.toList.take k++vs++cur.toList.drop (k+vs.length)).toArray)[j]? = if j<k then cur[j]? else if j<k+vs.length then vs[j-k]? else cur[j]? := by
  simp only [List.getElem?_toArray,List.getElem?_append,List.length_append,List.length_take,Array.length_toList,List.getElem?_take,List.getElem?_drop,Array.getElem?_toList]
  have:min k cur.size=k:=by omega
  rw [this]
  by_cases c1:j<k
  · rw [if_pos (by omega),if_pos c1,if_pos c1,if_pos c1]
  · by_cases c2:j<k+vs.length
    · rw [if_pos c2,if_neg c1,if_neg c1,if_pos c2]
    · rw [if_neg c2,if_neg c1,if_neg c2];congr 1;omega
theorem spliced_size (cur:Array Value) (vs:List Value) (k:Nat) (h:k+vs.length<=cur.size):((cur.toList.take k++vs++cur.toList.drop (k+vs.length)).toArray).size=cur.size:=by
  simp;omega
theorem noJunk_one:∀ {xs:List CV} {vs:List Value} {N:Nat->Prop},noJunk xs=true->CsRep σ μ w N xs vs->∀ v∈vs,v.oneCell'=true
  | [],[],_,_,_,v,hv=>by simp at hv
  | x::r,u::s,N,hj,hc,v,hv=>by
    have hx:x ≠ .junk:=λe=>by subst e;simp [noJunk] at hj
    have hr:noJunk r=true:=by cases x<;>simp [noJunk] at hj hx ⊢ <;> exact hj
    rcases List.mem_cons.1 hv with rfl|hv
    · exact hc.1.one hx
    · exact noJunk_one hr hc.2 v hv
  | [],_::_,_,_,h,_,_=>h.elim
  | _::_,[],_,_,h,_,_=>h.elim
theorem storeVar_run (hT:TTok P T) {t:TypeId} {i:TI} (hi:T t=some i) {b off:Nat} {cs:Array Value} {e:TypeId} (hb:w.heap[b]? = some (.cells cs e (0,0))) {v:Value}
    (hl:v.cells.toList.length=i.size) (h1:∀ u∈v.cells.toList,u.oneCell'=true) (hs:off+v.cells.toList.length<=cs.size) :
    (storeVar t ⟨b,off,none⟩ v).run P w=.ok () (w.setRow b (cs.toList.take off++v.cells.toList++cs.toList.drop (off+v.cells.toList.length)).toArray):=by
  have hst:=run_storeCells_at P b off e v.cells.toList 0 cs w hb (by simpa using hs) h1
  simp only [Nat.add_zero] at hst
  have:v.cells.size=i.size:=by simpa using hl
  simp [storeVar,sizeOf_run hT hi,this,hst]
theorem sound_store (hT:TTok P T) (R:RelM w0 S nt (i5 slots) σ a w μ) (hd:∀ d,o.dst=some d->d<nt) {t:TypeId} {p x:Operand} (ho:o.op=.store t p x)
    (h:(t6 real T EX o true (rho slots)).run σ (OpOut.run M σ K)):Sound P w0 S nt slots σ a w o K:=by
  simp only [t6,ho,G.run_bind] at h
  obtain ⟨i,hi,h⟩:=tiv_run h
  obtain ⟨xs,hxs,h⟩:=cellsv_run h (p8 R x)
  cases hif:(nbeq xs.length i.size&&noJunk xs) with
  | false=>rw [hif] at h;exact h.elim
  | true=>
  rw [hif] at h
  simp only [cond_true,G.run_bind] at h
  simp only [Bool.and_eq_true] at hif
  obtain ⟨hif,hnj⟩:=hif
  have hlen:xs.length=i.size:=i3 hif
  have hone:=noJunk_one hnj hxs
  have hvl:(a.eval x).cells.toList.length=i.size:=by rw [hxs.length,hlen]
  obtain ⟨c,hc,h⟩:=cellv_run h (p8 R p)
  cases c with
  | bp l ver off=>
    simp only [G.run] at h
    split at h
    · rename_i ver' cells hσ
      obtain ⟨hv,h⟩:=h
      have hv:ver=ver':=hv
      subst hv
      rw [G.run_bind] at h
      obtain ⟨cs',hcs',hK⟩:=optv_run h
      have hK:K (.c .junk) [(l,ver,.box cs')]:=hK
      obtain ⟨_,hle,hc⟩:=hc
      obtain ⟨b,hμ,he⟩:=hc cells hσ
      have ob:=R.objs l
      rw [hσ] at ob
      obtain ⟨b',cs,e,hμ',hb,hcs⟩:=ob
      rw [hμ] at hμ';simp at hμ';subst hμ'
      obtain ⟨p1,p2,p3⟩:=patch_spec hcs'
      have hsz:off+(a.eval x).cells.toList.length<=cs.size:=by
        have:=hcs.length;simp at this;rw [hvl,<- hlen];omega
      have hst:=storeVar_run hT hi hb hvl hone hsz
      obtain ⟨st,R'⟩:=R.write l ver (.box cs') (by simp [m5,hσ]) (by simp) (.inr ⟨by rw [hσ],λ_ _=>⟨cells,by rw [hσ]⟩,λ_ _ _ h=>by simp at h⟩) hμ hb (spliced_size _ _ _ hsz)
        ⟨rfl,CsRep.of_get (by
            have:=hcs.length
            rw [Array.length_toList] at this
            rw [Array.length_toList,spliced_size _ _ _ hsz,p1];exact this) λj y hj=>by
          have hp:=p3 j y hj
          rw [Array.getElem?_toList,spliced_get _ _ _ _ hsz,hxs.length]
          by_cases c1:j<off
          · rw [if_pos c1] at hp ⊢
            obtain ⟨u,hu,hcu⟩:=hcs.get hp
            exact ⟨u,by simpa using hu,hcu⟩
          · by_cases c2:j<off+xs.length
            · rw [if_neg c1,if_pos c2] at hp ⊢
              obtain ⟨u,hu,hcu⟩:=hxs.get hp
              exact ⟨u,hu,hcu⟩
            · rw [if_neg c1,if_neg c2] at hp ⊢
              obtain ⟨u,hu,hcu⟩:=hcs.get hp
              exact ⟨u,by simpa using hu,hcu⟩⟩
      refine v5 (x:=.c .junk) R' hd (.inr ⟨?_,rfl⟩) rfl trivial hK
      simp [execOp,ho,he,Instr.storeAt,Instr.sureAddr,hst]
    · exact h.elim
  | op l ver row off=>
    simp only [G.run] at h
    split at h
    · rename_i ver' sz n rows hσ
      obtain ⟨hv,h⟩:=h
      have hv:ver=ver':=hv
      subst hv
      rw [G.run_bind] at h
      obtain ⟨ds,hds,h⟩:=optv_run h
      rw [G.run_bind] at h
      obtain ⟨cs',hcs',hK⟩:=optv_run h
      have hK:K (.c .junk) [(l,ver,.arr sz n (real.upd rows row cs'))]:=hK
      have hds:=toDs_spec hds
      obtain ⟨_,hle,hc⟩:=hc
      obtain ⟨hrow,b,base,hμ,he⟩:=hc sz n rows hσ
      have ob:=R.objs l
      rw [hσ] at ob
      obtain ⟨hr,ob⟩:=ob
      rcases ob with ⟨h1,_⟩|⟨b',base',cs,e,hμ',hb,hsz0,hcs⟩
      · rw [hμ] at h1;simp at h1
      rw [hμ] at hμ';simp at hμ';obtain ⟨rfl,rfl⟩:=hμ'
      obtain ⟨p1,p2,p3⟩:=patch_spec hcs'
      have hrl:=hr row hrow
      have hmul:(row+1)*sz<=n*sz:=Nat.mul_le_mul_right _ hrow
      have hdl:ds.length=i.size:=by rw [<- hlen,hds];simp
      have hsz:base+row*sz+off+(a.eval x).cells.toList.length<=cs.size:=by
        rw [hvl,<- hdl];rw [Nat.add_mul] at hmul;omega
      have hst:=storeVar_run hT hi hb hvl hone hsz
      obtain ⟨st,R'⟩:=R.write l ver (.arr sz n (real.upd rows row cs')) (by simp [m5,hσ]) (by simp)
        (.inr ⟨by rw [hσ],λ_ h=>by simp at h,λsz' n' row' h=>by simp at h;obtain ⟨rfl,rfl,_⟩:=h;exact ⟨n,rows,by rw [hσ],Nat.le_refl _⟩⟩) hμ hb (spliced_size _ _ _ hsz)
        ⟨λk hk=>by
            show (if k=row then cs' else rows k).length=sz
            split
            · rw [p1];exact hrl
            · exact hr k hk,by rw [spliced_size _ _ _ hsz];exact hsz0,λk j y hk hj=>by
          have hj:(if k=row then cs' else rows k)[j]? = some y:=hj
          rw [spliced_get _ _ _ _ hsz,hxs.length]
          by_cases ek:k=row
          · subst ek
            rw [if_pos rfl] at hj
            have hp:=p3 j y hj
            have hj':j<sz:=by rw [<- hrl,<- p1];exact (List.getElem?_eq_some_iff.1 hj).1
            by_cases c1:j<off
            · rw [if_pos c1] at hp
              obtain ⟨u,hu,hcu⟩:=hcs k j y hk hp
              exact ⟨u,by rw [if_pos (by omega)];exact hu,hcu⟩
            · by_cases c2:j<off+ds.length
              · rw [if_neg c1,if_pos c2] at hp
                have hx':xs[j-off]? = some (.d y):=by rw [hds];simp [hp]
                obtain ⟨u,hu,hcu⟩:=hxs.get hx'
                refine ⟨u,?_,hcu⟩
                rw [if_neg (by omega),if_pos (by rw [hlen,<- hdl];omega),show base+k*sz+j-(base+k*sz+off)=j-off by omega]
                exact hu
              · rw [if_neg c1,if_neg c2] at hp
                obtain ⟨u,hu,hcu⟩:=hcs k j y hk hp
                exact ⟨u,by rw [if_neg (by omega),if_neg (by rw [hlen,<- hdl];omega)];exact hu,hcu⟩
          · rw [if_neg ek] at hj
            obtain ⟨u,hu,hcu⟩:=hcs k j y hk hj
            have hj':j<sz:=by rw [<- hr k hk];exact (List.getElem?_eq_some_iff.1 hj).1
            refine ⟨u,?_,hcu⟩
            rcases Nat.lt_or_gt_of_ne ek with hlt|hgt
            · have:(k+1)*sz<=row*sz:=Nat.mul_le_mul_right _ hlt
              rw [Nat.add_mul] at this
              rw [if_pos (by omega)];exact hu
            · have:(row+1)*sz<=k*sz:=Nat.mul_le_mul_right _ hgt
              rw [Nat.add_mul] at this
              rw [if_neg (by omega),if_neg (by rw [hlen,<- hdl];omega)];exact hu⟩
      refine v5 (x:=.c .junk) R' hd (.inr ⟨?_,rfl⟩) rfl trivial hK
      simp [execOp,ho,he,Instr.storeAt,Instr.sureAddr,hst]
    · exact h.elim
  | nop l ver row off=>
    simp only [G.run] at h
    split at h
    · rename_i ver' sz n rows r cells hσ
      obtain ⟨hv,h1,h⟩:=h
      have hv:ver=ver':=hv
      have h1:row=r:=h1
      subst hv h1
      rw [G.run_bind] at h
      obtain ⟨cs',hcs',hK⟩:=optv_run h
      have hK:K (.c .junk) [(l,ver,.nest sz n rows (some (row,cs')))]:=hK
      obtain ⟨_,hle,hc⟩:=hc
      obtain ⟨hrow,b,base,hμ,he⟩:=hc sz n rows _ hσ
      have ob:=R.objs l
      rw [hσ] at ob
      rcases ob with ⟨_,_,h1,_⟩|⟨b',base',cs,e,hμ',hb,hsz0,hk,hkb,hknd,hfoc⟩
      · cases h1
      rw [hμ] at hμ';simp at hμ';obtain ⟨rfl,rfl⟩:=hμ'
      obtain ⟨_,hcl,hcs⟩:=hfoc _ _ rfl
      obtain ⟨p1,p2,p3⟩:=patch_spec hcs'
      have hmul:(row+1)*sz<=n*sz:=Nat.mul_le_mul_right _ hrow
      rw [Nat.add_mul] at hmul
      have hsz:base+row*sz+off+(a.eval x).cells.toList.length<=cs.size:=by
        rw [hvl,<- hlen];omega
      have hst:=storeVar_run hT hi hb hvl hone hsz
      have hlv:m5 σ l:=by simp [m5,hσ]
      obtain ⟨st,R'⟩:=R.writeC l ver (.nest sz n rows (some (row,cs'))) hlv (by simp) (λh=>by cases h)
        (.inr ⟨by rw [hσ],λ_ h=>by simp at h,λ_ _ _ h=>by simp at h,λsz' n' row' foc' h=>by simp at h;obtain ⟨rfl,rfl,_⟩:=h;exact ⟨rows,_,by rw [hσ]⟩⟩) hμ hb (spliced_size _ _ _ hsz)
        λhstep=>.inr ⟨b,base,_,e,hμ,setRow_heap _ _ _ _ _ _ hb,by rw [spliced_size _ _ _ hsz];exact hsz0,by
            have hkc:Kids (w.setRow b (cs.toList.take (base+row*sz+off)++(a.eval x).cells.toList++cs.toList.drop (base+row*sz+off+(a.eval x).cells.toList.length)).toArray) cs base sz n rows (isFoc (some (row,cells))) λk=>k ∈ μ.k l:=
              hk.carry λb' hb'=>setRow_other _ _ _ _ λeb=>hkb (eb▸hb')
            obtain ⟨k0,G,k1,k2,k3⟩:=hkc
            refine ⟨λi hi hn=>k0 i hi λ⟨c,hc⟩=>hn ⟨cs',by simp at hc ⊢;exact hc.1⟩,G,λi j y hi hn hj => ?_,λk=>(k2 k).trans ⟨λ⟨i,j,q1,q2,q3⟩=>⟨i,j,q1,λ⟨c,hc⟩=>q2 ⟨cells,by simp at hc ⊢;exact hc.1⟩,q3⟩,λ⟨i,j,q1,q2,q3⟩=>⟨i,j,q1,λ⟨c,hc⟩=>q2 ⟨cs',by simp at hc ⊢;exact hc.1⟩,q3⟩⟩,
              λi j i' j' k q1 q2 q3 q4 q5 q6 q7 q8=>k3 i j i' j' k q1 (λ⟨c,hc⟩=>q2 ⟨cs',by simp at hc ⊢;exact hc.1⟩) q3 q4 (λ⟨c,hc⟩=>q5 ⟨cs',by simp at hc ⊢;exact hc.1⟩) q6 q7 q8⟩
            have hn':¬ isFoc (some (row,cells)) i:=λ⟨c,hc⟩=>hn ⟨cs',by simp at hc ⊢;exact hc.1⟩
            have ek:i≠row:=λe=>hn ⟨cs',by rw [e]⟩
            obtain ⟨u,hu,hcu⟩:=k1 i j y hi hn' hj
            have hj':j<sz:=by rw [<- k0 i hi hn'];exact (List.getElem?_eq_some_iff.1 hj).1
            refine ⟨u,?_,hcu⟩
            rw [spliced_get _ _ _ _ hsz,hxs.length]
            rcases Nat.lt_or_gt_of_ne ek with hlt|hgt
            · have:(i+1)*sz<=row*sz:=Nat.mul_le_mul_right _ hlt
              rw [Nat.add_mul] at this
              rw [if_pos (by omega)];exact hu
            · have:(row+1)*sz<=i*sz:=Nat.mul_le_mul_right _ hgt
              rw [Nat.add_mul] at this
              rw [if_neg (by omega),if_neg (by omega)];exact hu,hkb,hknd,λi' cells' hf=>by
          simp at hf;obtain ⟨rfl,rfl⟩:=hf
          refine ⟨hrow,by rw [p1,hcl],λj y hj => ?_⟩
          have hp:=p3 j y hj
          have hj':j<sz:=by rw [<- hcl,<- p1];exact (List.getElem?_eq_some_iff.1 hj).1
          have hgl:=spliced_get cs (a.eval x).cells.toList (base+row*sz+off) (base+row*sz+j) hsz
          have hxl:=hxs.length
          by_cases c1:j<off
          · rw [if_pos c1] at hp
            obtain ⟨u,hu,hcu⟩:=hcs j y hp
            exact ⟨u,by rw [hgl,if_pos (by omega)];exact hu,hcu.step hstep⟩
          · by_cases c2:j<off+xs.length
            · rw [if_neg c1,if_pos c2] at hp
              obtain ⟨u,hu,hcu⟩:=hxs.get hp
              refine ⟨u,?_,hcu.step hstep⟩
              rw [hgl,if_neg (by omega),if_pos (by omega),show base+row*sz+j-(base+row*sz+off)=j-off by omega]
              exact hu
            · rw [if_neg c1,if_neg c2] at hp
              obtain ⟨u,hu,hcu⟩:=hcs j y hp
              exact ⟨u,by rw [hgl,if_neg (by omega),if_neg (by omega)];exact hu,hcu.step hstep⟩⟩
      refine v5 (x:=.c .junk) R' hd (.inr ⟨?_,rfl⟩) rfl trivial hK
      simp [execOp,ho,he,Instr.storeAt,Instr.sureAddr,hst]
    · exact h.elim
  | _=>exact h.elim
end
section
variable {P:Program} {T:TypeId->Option TI} {EX:FuncId->List Nat × Bool} {M:Ms}
variable {w0:World} {S:Sets} {nt:Nat} {slots:List (Nat × AV)} {σ:p9} {a:Act} {w:World} {μ:Place}
variable {o:Oper} {K:AV->List (Nat × Nat × HO)->Prop} {next:Act->World->Prop} {Q:Exit->Act->World->Prop}
theorem sound_nilCheck (R:RelM w0 S nt (i5 slots) σ a w μ) (hd:∀ d,o.dst=some d->d<nt) {x:Operand} (ho:o.op=.nilCheck x)
    (h:(t6 real T EX o true (rho slots)).run σ (OpOut.run M σ K)):Sound P w0 S nt slots σ a w o K:=by
  simp only [t6,ho,G.run_bind] at h
  obtain ⟨c,hc,h⟩:=cellv_run h (p8 R x)
  cases c with
  | d x'=>
    cases x' with
    | p cells=>
      generalize he:a.eval x=pv at hc
      have hc':=hc
      cases hc with
      | p _ b off cs e fr u hN hb hu hdd=>exact p0 R hd (v:=.pointer (some ⟨b,off,none⟩)) (by simp [execOp,ho,he]) (x:=.c (.d (.p cells))) hc' h
    | _=>exact h.elim
  | bp l ver off=>
    simp only [G.run] at h
    split at h
    · rename_i ver' cells hσ
      obtain ⟨hv,h⟩:=h
      have hv:ver=ver':=hv
      subst hv
      obtain ⟨b,hμ,he⟩:=hc.2.2 cells hσ
      exact p0 R hd (v:=.pointer (some ⟨b,off,none⟩)) (by simp [execOp,ho,he]) (x:=.c (.bp l ver off)) (he▸hc) h
    · exact h.elim
  | op l ver row off=>
    simp only [G.run] at h
    split at h
    · rename_i ver' sz n rows hσ
      obtain ⟨hv,h⟩:=h
      have hv:ver=ver':=hv
      subst hv
      obtain ⟨_,b,base,hμ,he⟩:=hc.2.2 sz n rows hσ
      exact p0 R hd (v:=.pointer (some ⟨b,base+row*sz+off,none⟩)) (by simp [execOp,ho,he]) (x:=.c (.op l ver row off)) (he▸hc) h
    · exact h.elim
  | nop l ver row off=>
    simp only [G.run] at h
    split at h
    · rename_i ver' sz n rows foc hσ
      obtain ⟨hv,h⟩:=h
      have hv:ver=ver':=hv
      subst hv
      obtain ⟨_,b,base,hμ,he⟩:=hc.2.2 sz n rows foc hσ
      exact p0 R hd (v:=.pointer (some ⟨b,base+row*sz+off,none⟩)) (by simp [execOp,ho,he]) (x:=.c (.nop l ver row off)) (he▸hc) h
    · exact h.elim
  | _=>exact h.elim
theorem sound_unOp (R:RelM w0 S nt (i5 slots) σ a w μ) (hd:∀ d,o.dst=some d->d<nt) {u:UnOp} {t:TypeId} {x:Operand} (ho:o.op=.unOp u t x)
    (h:(t6 real T EX o true (rho slots)).run σ (OpOut.run M σ K)):Sound P w0 S nt slots σ a w o K:=by
  cases u with
  | neg=>
    simp only [t6,ho,G.run_bind] at h
    obtain ⟨k,n,he,h⟩:=intv_run h (p8 R x)
    exact p0 R hd (v:=.int k (k.wrap (0-n))) (by simp [execOp,ho,he,Op.unary,Op.intArith]) (x:=.c (.d (.v (.int k (k.wrap (0-n)))))) (DRep.v _ rfl) h
  | not=>
    simp only [t6,ho,G.run_bind] at h
    obtain ⟨b,he,h⟩:=boolv_run h (λ_=>p8 R x)
    have he:=he rfl
    exact p0 R hd (v:=.bool (!b)) (by simp [execOp,ho,he,Op.unary]) (x:=.c (.d (.v (.bool (!b))))) (DRep.v _ rfl) h
  | _=>simp only [t6,ho] at h;exact h.elim
theorem sound_convert (hT:TTok P T) (R:RelM w0 S nt (i5 slots) σ a w μ) (hd:∀ d,o.dst=some d->d<nt) {s t:TypeId} {x:Operand} (ho:o.op=.convert s t x)
    (h:(t6 real T EX o true (rho slots)).run σ (OpOut.run M σ K)):Sound P w0 S nt slots σ a w o K:=by
  simp only [t6,ho,G.run_bind] at h
  obtain ⟨j,hj,h⟩:=tiv_run h
  obtain ⟨i,hi,h⟩:=tiv_run h
  split at h
  · rename_i k hdst
    rw [G.run_bind] at h
    obtain ⟨q,n,he,h⟩:=intv_run h (p8 R x)
    have h1:P.underlying t=some (.int k):=by rw [hT.desc t i hi,hdst]
    have h0:=hT.desc s j hj
    exact p0 R hd (v:=.int k (k.wrap n)) (by simp [execOp,ho,he,convert,underlying,h1,h0,Conv.intToInt]) (x:=.c (.d (.v (.int k (k.wrap n))))) (DRep.v _ rfl) h
  · exact h.elim
theorem sound_fieldAddr (hT:TTok P T) (R:RelM w0 S nt (i5 slots) σ a w μ) (hd:∀ d,o.dst=some d->d<nt) {t:TypeId} {p:Operand} {f:Nat} (ho:o.op=.fieldAddr t p f)
    (h:(t6 real T EX o true (rho slots)).run σ (OpOut.run M σ K)):Sound P w0 S nt slots σ a w o K:=by
  simp only [t6,ho,G.run_bind] at h
  obtain ⟨it,fs,fx,i,hit,hdesc,hf,hi,hz,h⟩:=fieldv_run h
  have hu:P.underlying t=some (.struct fs):=by rw [hT.desc t it hit,hdesc]
  obtain ⟨c,hc,h⟩:=cellv_run h (p8 R p)
  have hrun:∀ b off,a.eval p=.pointer (some ⟨b,off,none⟩)->(execOp a.eval o).run P w=.ok (.value (.pointer (some ⟨b,off+fx.offset,none⟩))) w:=by
    intro b off he
    simp [execOp,ho,he,Instr.fieldAt,underlying,hu,hf,Instr.sureAddr,fieldPlace,sizeOf_run hT hi,hz,add_off]
  cases c with
  | d x'=>
    cases x' with
    | p cells=>
      generalize he:a.eval p=pv at hc
      cases hc with
      | p _ b off cs e fr u hN hb hu' hdd=>
        refine p0 R hd (hrun b off he) (x:=.c (.d (.p (dropN fx.offset cells)))) ?_ h
        refine DRep.p _ b (off+fx.offset) cs e fr (λj=>u (fx.offset+j)) hN hb (λj x hj => ?_) λj x hj => ?_
        · rw [dropN_get] at hj;rw [Nat.add_assoc];exact hu' _ x hj
        · rw [dropN_get] at hj;exact hdd _ x hj
    | _=>exact h.elim
  | bp l ver off=>
    simp only [G.run] at h
    split at h
    · rename_i ver' cells hσ
      obtain ⟨hv,h⟩:=h
      have hv:ver=ver':=hv
      subst hv
      obtain ⟨h1,h2,h3⟩:=hc
      obtain ⟨b,hμ,he⟩:=h3 cells hσ
      exact p0 R hd (hrun b off he) (x:=.c (.bp l ver (off+fx.offset))) ⟨rfl,h2,λcells' hσ'=>⟨b,hμ,rfl⟩⟩ h
    · exact h.elim
  | op l ver row off=>
    simp only [G.run] at h
    split at h
    · rename_i ver' sz n rows hσ
      obtain ⟨hv,h⟩:=h
      have hv:ver=ver':=hv
      subst hv
      obtain ⟨h1,h2,h3⟩:=hc
      obtain ⟨hrow,b,base,hμ,he⟩:=h3 sz n rows hσ
      refine p0 R hd (hrun b _ he) (x:=.c (.op l ver row (off+fx.offset))) ⟨rfl,h2,λsz' n' rw' hσ' => ?_⟩ h
      rw [hσ] at hσ';simp at hσ';obtain ⟨rfl,rfl,rfl⟩:=hσ'
      exact ⟨hrow,b,base,hμ,by rw [Nat.add_assoc]⟩
    · exact h.elim
  | nop l ver row off=>
    simp only [G.run] at h
    split at h
    · rename_i ver' sz n rows foc hσ
      obtain ⟨hv,h⟩:=h
      have hv:ver=ver':=hv
      subst hv
      obtain ⟨h1,h2,h3⟩:=hc
      obtain ⟨hrow,b,base,hμ,he⟩:=h3 sz n rows foc hσ
      refine p0 R hd (hrun b _ he) (x:=.c (.nop l ver row (off+fx.offset))) ⟨rfl,h2,λsz' n' rw' foc' hσ' => ?_⟩ h
      rw [hσ] at hσ';simp at hσ';obtain ⟨rfl,rfl,rfl,rfl⟩:=hσ'
      exact ⟨hrow,b,base,hμ,by rw [Nat.add_assoc]⟩
    · exact h.elim
  | _=>exact h.elim
theorem sound_extract (R:RelM w0 S nt (i5 slots) σ a w μ) (hd:∀ d,o.dst=some d->d<nt) {x:Operand} {i:Nat} (ho:o.op=.extract x i)
    (h:(t6 real T EX o true (rho slots)).run σ (OpOut.run M σ K)):Sound P w0 S nt slots σ a w o K:=by
  simp only [t6,ho,G.run_bind] at h
  obtain ⟨y,hy,h⟩:=opv_run h (p8 R x)
  cases y with
  | tup xs=>
    rw [G.run_bind] at h
    obtain ⟨z,hz,h⟩:=optv_run h
    obtain ⟨cs,he,hcs⟩:=hy
    have:∀ {xs:List TV} {vs:List Value} {i:Nat} {z:TV},TsRep σ μ w (Nof S σ μ w) xs vs->xs[i]? = some z->∃ v,vs[i]? = some v/\TRep σ μ w (Nof S σ μ w) z v:=by
      intro xs
      induction xs with
      | nil=>intro vs i z _ e;simp at e
      | cons x r ih=>
        intro vs i z h e
        cases vs with
        | nil=>exact h.elim
        | cons v s=>
          cases i with
          | zero=>simp at e;subst e;exact ⟨v,rfl,h.1⟩
          | succ i=>simp at e;obtain ⟨v',h1,h2⟩:=ih h.2 e;exact ⟨v',by simpa using h1,h2⟩
    obtain ⟨v,hv,ht⟩:=this hcs hz
    refine p0 R hd (v:=v) (by simp at hv;simp [execOp,ho,he,Instr.extract,hv]) (x:=z.av) ?_ h
    cases z with
    | c x=>exact ht
    | agg xs=>exact ht
  | _=>exact h.elim
theorem sound_field (hT:TTok P T) (R:RelM w0 S nt (i5 slots) σ a w μ) (hd:∀ d,o.dst=some d->d<nt) {t:TypeId} {x:Operand} {f:Nat} (ho:o.op=.field t x f)
    (h:(t6 real T EX o true (rho slots)).run σ (OpOut.run M σ K)):Sound P w0 S nt slots σ a w o K:=by
  simp only [t6,ho,G.run_bind] at h
  obtain ⟨it,fs,fx,i,hit,hdesc,hf,hi,hz,h⟩:=fieldv_run h
  have hu:P.underlying t=some (.struct fs):=by rw [hT.desc t it hit,hdesc]
  obtain ⟨y,hy,h⟩:=opv_run h (p8 R x)
  cases y with
  | agg xs=>
    rw [G.run_bind] at h
    obtain ⟨ys,hys,h⟩:=optv_run h
    rw [G.run_bind] at h
    obtain ⟨cs,he,hcs⟩:=hy
    obtain ⟨hl,hg⟩:=takeN_spec hys
    have hl:ys.length=i.size:=hl
    have hget:∀ (j:Nat) z,ys[j]? = some z->∃ u,cs[fx.offset+j]? = some u/\CRep σ μ w (Nof S σ μ w) z u:=λj z hj=>by
      have:=hg j z hj
      rw [dropN_get] at this
      obtain ⟨u,hu,hc⟩:=hcs.get this
      exact ⟨u,by simpa using hu,hc⟩
    have hlen:∀ j,j<ys.length->fx.offset+j<cs.size:=λj hj=>by
      obtain ⟨u,hu,_⟩:=hget j ys[j] (List.getElem?_eq_getElem hj)
      exact (Array.getElem?_eq_some_iff.1 hu).1
    unfold mkAV at h
    cases hag:isAggT i.desc with
    | true=>
      simp only [hag,if_true] at h
      have hsz:fx.offset+i.size<=cs.size:=by
        have:=hlen (i.size-1) (by rw [hl];omega)
        omega
      refine p0 R hd (v:=.agg (cs.extract fx.offset (fx.offset+i.size))) ?_ (x:=.agg ys) ⟨_,rfl,?_⟩ h
      · simp [execOp,ho,he,Instr.field,underlying,hu,hf,asAgg,part,isAgg_run hT hi,hag,sizeOf_run hT hi]
      · refine CsRep.of_get (by simp [hl];omega) λj z hj => ?_
        obtain ⟨u,hu',hc⟩:=hget j z hj
        have hj':j<ys.length:=(List.getElem?_eq_some_iff.1 hj).1
        refine ⟨u,?_,hc⟩
        rw [Array.getElem?_toList,Array.getElem?_extract,if_pos (by omega)]
        exact hu'
    | false=>
      simp only [hag] at h
      match ys,h with
      | [z],h=>
        obtain ⟨u,hu',hc⟩:=hget 0 z rfl
        refine p0 R hd (v:=u) ?_ (x:=.c z) hc h
        have hu'':cs[fx.offset]? = some u:=by simpa using hu'
        simp [execOp,ho,he,Instr.field,underlying,hu,hf,asAgg,part,isAgg_run hT hi,hag,hu'']
  | _=>exact h.elim
theorem sound_indexAddr (hT:TTok P T) (R:RelM w0 S nt (i5 slots) σ a w μ) (hd:∀ d,o.dst=some d->d<nt) {t:TypeId} {x ix:Operand} (ho:o.op=.indexAddr t x ix)
    (h:(t6 real T EX o true (rho slots)).run σ (OpOut.run M σ K)):Sound P w0 S nt slots σ a w o K:=by
  simp only [t6,ho,G.run_bind] at h
  obtain ⟨it,e,i,hit,hdesc,hi,h⟩:=elemv_run h
  have hu:P.underlying t=some (.slice e):=by rw [hT.desc t it hit,hdesc]
  obtain ⟨c,hc,h⟩:=cellv_run h (p8 R x)
  obtain ⟨k,n,hn,h⟩:=intv_run h (p8 R ix)
  have hrun:∀ b off len cap,a.eval x=.slice (some ⟨b,off,none⟩) len cap->0<=n->n<len ->
      (execOp a.eval o).run P w=.ok (.value (.pointer (some ⟨b,off+n.toNat*i.size,none⟩))) w:=by
    intro b off len cap he h0 h1
    simp [execOp,ho,he,hn,Instr.indexAt,underlying,hu,asIntOf,sizeOf_run hT hi,h0,h1,add_off]
  cases c with
  | d x'=>
    cases x' with
    | sl sz m row=>
      simp only at h
      cases hsz:nbeq sz i.size with
      | false=>rw [hsz] at h;exact h.elim
      | true=>
        rw [hsz] at h
        obtain ⟨hb,h⟩:=h
        have hsz:=i3 hsz
        obtain ⟨h0,h1⟩:=hb rfl
        generalize he:a.eval x=pv at hc
        cases hc with
        | nil=>omega
        | empty=>omega
        | sl _ _ _ b off cap cs e' fr u hN hb' hcap hsz' hr hu' hdd=>
          refine p0 R hd (hrun b off m cap he h0 h1) (x:=.c (.d (.p (row n.toNat)))) ?_ h
          have hlt:n.toNat<m:=by omega
          refine DRep.p _ b _ cs e' fr (λj=>u n.toNat j) hN hb' (λj z hj => ?_) λj z hj=>hdd _ _ z hlt hj
          rw [<- hsz];exact hu' _ _ z hlt hj
    | _=>exact h.elim
  | own l off len ver=>
    simp only [G.run] at h
    split at h
    · rename_i ver' sz m rows hσ
      cases hsz:nbeq sz i.size with
      | false=>rw [hsz] at h;exact h.elim
      | true=>
        rw [hsz] at h
        obtain ⟨hv,hb,h⟩:=h
        have hv:ver=ver':=hv
        subst hv
        have hsz:=i3 hsz
        obtain ⟨h0,h1⟩:=hb rfl
        obtain ⟨_,h2,h3⟩:=hc
        obtain ⟨h4,h5⟩:=h3 sz m rows hσ
        rcases h5 with ⟨_,h5,_⟩|⟨b,base,o',cap,cs,e',hμ,he,hcap,ho',_⟩
        · omega
        · have hlt:n.toNat<len:=by omega
          have ho'':=ho' (.inl (by omega))
          refine p0 R hd (hrun b o' len cap he h0 h1) (x:=.c (.op l ver (off+n.toNat) 0)) ⟨rfl,h2,λsz' n' rw' hσ' => ?_⟩ h
          rw [hσ] at hσ';simp at hσ';obtain ⟨rfl,rfl,rfl⟩:=hσ'
          exact ⟨by omega,b,base,hμ,by rw [ho'',<- hsz,Nat.add_mul,Nat.add_zero,Nat.add_assoc]⟩
    · exact h.elim
  | nown l len ver=>
    simp only [G.run] at h
    split at h
    · rename_i ver' sz m rows foc hσ
      cases hsz:nbeq sz i.size with
      | false=>rw [hsz] at h;exact h.elim
      | true=>
        rw [hsz] at h
        obtain ⟨hv,hb,h⟩:=h
        have hv:ver=ver':=hv
        subst hv
        have hsz:=i3 hsz
        obtain ⟨h0,h1⟩:=hb rfl
        obtain ⟨_,h2,h3⟩:=hc
        obtain ⟨h4,h5⟩:=h3 sz m rows foc hσ
        rcases h5 with ⟨_,h5,_⟩|⟨b,base,cap,cs,e',hμ,he,hcap,_⟩
        · omega
        · refine p0 R hd (hrun b base len cap he h0 h1) (x:=.c (.nop l ver n.toNat 0)) ⟨rfl,h2,λsz' n' rw' foc' hσ' => ?_⟩ h
          rw [hσ] at hσ';simp at hσ';obtain ⟨rfl,rfl,rfl,rfl⟩:=hσ'
          exact ⟨by omega,b,base,hμ,by rw [<- hsz,Nat.add_zero]⟩
    · exact h.elim
  | _=>exact h.elim
theorem sound_makeFunc (R:RelM w0 S nt (i5 slots) σ a w μ) (hd:∀ d,o.dst=some d->d<nt) {fn:Fn} {first caps:Array Operand} (ho:o.op=.makeFunc fn first caps)
    (h:(t6 real T EX o true (rho slots)).run σ (OpOut.run M σ K)):Sound P w0 S nt slots σ a w o K:=by
  cases fn with
  | func f=>
    simp only [t6,ho] at h
    split at h
    · rename_i hf
      rw [G.run_bind] at h
      have hcap:∀ (l:List Operand) (Q:List (Nat × Nat)->Prop),(capvs real true (rho slots) l).run σ Q->∃ cs,Q cs/\cs.length=l.length /\
          ∀ (j:Nat) l' ver,cs[j]? = some (l',ver)->ver<=(σ l').1/\∀ cells,σ l'=(ver,.box cells)->∃ b,μ l'=some (b,0)/\(l.map a.eval)[j]? = some (Value.pointer (some ⟨b,0,none⟩)):=by
        intro l
        induction l with
        | nil=>intro Q h;exact ⟨[],h,rfl,λj l' ver hj=>by simp at hj⟩
        | cons x r ih=>
          intro Q h
          simp only [capvs,G.run_bind] at h
          obtain ⟨c,hc,h⟩:=cellv_run h (p8 R x)
          split at h
          · rename_i l1 ver1
            rw [G.run_bind] at h
            obtain ⟨cs,hq,hl,hcs⟩:=ih _ h
            refine ⟨_,hq,by simp [hl],λj l' ver hj => ?_⟩
            cases j with
            | zero=>
              simp at hj;obtain ⟨rfl,rfl⟩:=hj
              refine ⟨hc.2.1,λcells hσ => ?_⟩
              obtain ⟨b,hμ,he⟩:=hc.2.2 cells hσ
              exact ⟨b,hμ,by simp [he]⟩
            | succ j=>
              simp at hj
              simpa using hcs j l' ver hj
          · exact h.elim
      obtain ⟨cs,hq,hl,hcs⟩:=hcap _ _ h
      have hf':first = #[]:=by simpa using hf
      refine p0 R hd (v:=.func (.func f) #[] (caps.map a.eval)) (by simp [execOp,ho,Instr.makeFunc,hf']) ?_ hq
      cases cs with
      | nil=>
        have hc0:caps = #[]:=Array.eq_empty_of_size_eq_zero (by simpa using hl.symm)
        subst hc0
        exact DRep.fn f [] _ (λ_=>undef) (by simp) (λj x h=>by simp at h) (λj x h=>by simp at h)
      | cons c r=>
        refine ⟨caps.map a.eval,rfl,by simpa using hl.symm,λj l' ver hj => ?_⟩
        obtain ⟨h1,h2⟩:=hcs j l' ver hj
        refine ⟨h1,λcells hσ => ?_⟩
        obtain ⟨b,hμ,he⟩:=h2 cells hσ
        exact ⟨b,hμ,by simpa using he⟩
    · exact h.elim
  | _=>simp only [t6,ho] at h;exact h.elim
end
section
variable {P:Program} {T:TypeId->Option TI} {EX:FuncId->List Nat × Bool} {M:Ms}
variable {w0:World} {S:Sets} {nt:Nat} {slots:List (Nat × AV)} {σ:p9} {a:Act} {w:World} {μ:Place}
variable {o:Oper} {K:AV->List (Nat × Nat × HO)->Prop} {next:Act->World->Prop} {Q:Exit->Act->World->Prop}
theorem bin_run {op:BinOp} {k:IntKind} {m n:Int} {v:Value} (h:binSem real op k m n=some v) (t:TypeId) (x y:Operand) (w:World) :
    ((do eqGuard op t x y (.int k m) (.int k n);binOp op t (.int k m) (.int k n)):Sem Value).run P w=.ok v w/\v.oneCell'=true:=by
  cases op<;>simp only [binSem] at h<;>first
    | (simp at h;done)
    | (injection h with h;subst h;exact ⟨by simp [eqGuard,binOp,Op.intArith,Op.intCmp,Op.intBits,real],rfl⟩)
    | (cases n with
       | negSucc n=>cases h
       | ofNat n=>
         injection h with h;subst h
         have hn:¬ (n:Int)<0:=by omega
         exact ⟨by simp [eqGuard,binOp,Op.shift,real,hn],rfl⟩)
theorem div_run {op:BinOp} {k:IntKind} {m n:Int} {v:Value} (hn:n≠0) (h:divSem real op k m n=some v) (t:TypeId) (x y:Operand) (w:World) :
    ((do eqGuard op t x y (.int k m) (.int k n);binOp op t (.int k m) (.int k n)):Sem Value).run P w=.ok v w/\v.oneCell'=true:=by
  cases op<;>simp only [divSem] at h<;>first
    | (simp at h;done)
    | (injection h with h;subst h;exact ⟨by simp [eqGuard,binOp,Op.intDiv,real,hn],rfl⟩)
theorem eqCells_data:∀ {xs ys:List CV} {r:Bool},eqCells real xs ys=some r->xs.length=ys.length/\(∀ (j:Nat) x,xs[j]? = some x->∃ u,x=.d (.v u))/\∀ (j:Nat) x,ys[j]? = some x->∃ u,x=.d (.v u)
  | [],[],_,_=>by simp
  | [],_::_,_,h=>by simp [eqCells] at h
  | x::r,ys,q,h=>by
    unfold eqCells at h
    split at h
    · simp_all
    · rename_i k m r1 k' n s1 e1
      simp only [List.cons.injEq] at e1
      obtain ⟨rfl,rfl⟩:=e1
      split at h
      · simp only [Option.map_eq_some_iff] at h
        obtain ⟨q',h',_⟩:=h
        obtain ⟨h1,h2,h3⟩:=eqCells_data h'
        refine ⟨by simp [h1],λj x hj => ?_,λj x hj => ?_⟩
        · cases j with
          | zero=>simp at hj;exact ⟨_,hj.symm⟩
          | succ j=>exact h2 j x (by simpa using hj)
        · cases j with
          | zero=>simp at hj;exact ⟨_,hj.symm⟩
          | succ j=>exact h3 j x (by simpa using hj)
      · simp at h
    · rename_i m r1 n s1 e1
      simp only [List.cons.injEq] at e1
      obtain ⟨rfl,rfl⟩:=e1
      simp only [Option.map_eq_some_iff] at h
      obtain ⟨q',h',_⟩:=h
      obtain ⟨h1,h2,h3⟩:=eqCells_data h'
      refine ⟨by simp [h1],λj x hj => ?_,λj x hj => ?_⟩
      · cases j with
        | zero=>simp at hj;exact ⟨_,hj.symm⟩
        | succ j=>exact h2 j x (by simpa using hj)
      · cases j with
        | zero=>simp at hj;exact ⟨_,hj.symm⟩
        | succ j=>exact h3 j x (by simpa using hj)
    · simp at h
theorem eq_run (hT:TTok P T) {t:TypeId} {i:TI} (hi:T t=some i) {xs ys:List CV} (hq':(i.eqk&&kindsB xs i.zero)=true) {r:Bool} (h:eqCells real xs ys=some r) {us vs:Array Value} {N:Nat->Prop}
    (hx:CsRep σ μ w N xs us.toList) (hy:CsRep σ μ w N ys vs.toList) (x y:Operand) (w:World) :
    ((do eqGuard .eql t x y (.agg us) (.agg vs);binOp .eql t (.agg us) (.agg vs)):Sem Value).run P w=.ok (.bool r) w /\
    ((do eqGuard .neq t x y (.agg us) (.agg vs);binOp .neq t (.agg us) (.agg vs)):Sem Value).run P w=.ok (.bool (!r)) w:=by
  obtain ⟨h1,h2,h3⟩:=eqCells_data h
  have hv:∀ {w':World} {zs:List CV} {ws:Array Value},CsRep σ μ w' N zs ws.toList->∀ (j:Nat) x,zs[j]? = some (CV.d (.v x))->ws[j]? = some x:=by
    intro w' zs ws hz j x hj
    obtain ⟨u,hu,hc⟩:=hz.get hj
    cases hc
    simpa using hu
  simp only [Bool.and_eq_true] at hq'
  obtain ⟨hq,hsz⟩:=hq'
  obtain ⟨g1,g2,g3⟩:=hT.eq t i hi hq xs ys r hsz h us vs hx.length hy.length (hv hx) (hv hy) w
  have e1:eqGuard .eql t x y (.agg us) (.agg vs)=eqGuard .eql t (.tmp 0) (.tmp 0) (.agg us) (.agg vs):=rfl
  have e2:eqGuard .neq t x y (.agg us) (.agg vs)=eqGuard .neq t (.tmp 0) (.tmp 0) (.agg us) (.agg vs):=rfl
  exact ⟨by simp [e1,g1,binOp,g3],by simp [e2,g2,binOp,g3]⟩
theorem equal_bool {t:TypeId} (hu:P.underlying t=some .bool) (m n:Bool) (w:World):(Op.equal t (.bool m) (.bool n)).run P w=.ok (m==n) w:=by
  have h:∀ d,(Op.equalIn (d+1) t (.bool m) (.bool n)).run P w=.ok (m==n) w:=λd=>by
    unfold Op.equalIn
    simp [underlying,hu]
  exact h 9999
theorem equal_nil {t e:TypeId} {ad:Option Addr} {n cap:Nat} (hu:P.underlying t=some (.slice e)):(Op.equal t (.slice ad n cap) (.slice none 0 0)).run P w=.ok ad.isNone w:=by
  have h:∀ d,(Op.equalIn (d+1) t (.slice ad n cap) (.slice none 0 0)).run P w=.ok ad.isNone w:=λd=>by
    unfold Op.equalIn
    cases ad<;>simp [underlying,hu]
  exact h 9999
theorem scal {N:Nat->Prop} {x v:Value} (h:ARep σ μ w N (.c (.d (.v x))) v):v=x:=by cases h;rfl
theorem sound_binOp (hT:TTok P T) (R:RelM w0 S nt (i5 slots) σ a w μ) (hd:∀ d,o.dst=some d->d<nt) {op:BinOp} {t yt:TypeId} {x y:Operand} (ho:o.op=.binOp op t x y yt)
    (h:(t6 real T EX o true (rho slots)).run σ (OpOut.run M σ K)):Sound P w0 S nt slots σ a w o K:=by
  simp only [t6,ho,G.run_bind] at h
  obtain ⟨p,hp,h1⟩:=opv_run h (p8 R x)
  clear h
  obtain ⟨q,hq,h⟩:=opv_run h1 (p8 R y)
  clear h1
  have hex:∀ v,((do eqGuard op t x y (a.eval x) (a.eval y);binOp op t (a.eval x) (a.eval y)):Sem Value).run P w=.ok v w->(execOp a.eval o).run P w=.ok (.value v) w:=by
    intro v hv
    simp only [execOp,ho]
    simp only [Sem.run_bind] at hv ⊢
    rw [hv];rfl
  split at h
  · rename_i k m k' n
    have ex:=scal hp
    have ey:=scal hq
    split at h
    · rename_i hk;subst hk
      split at h
      · rename_i v hv
        obtain ⟨h1,h2⟩:=bin_run (P:=P) hv t x y w
        exact p0 R hd (hex v (by rw [ex,ey];exact h1)) (x:=.c (.d (.v v))) (DRep.v _ h2) h
      · split at h
        · rename_i v hv
          obtain ⟨hn,h⟩:=h
          obtain ⟨h1,h2⟩:=div_run (P:=P) (hn rfl) hv t x y w
          exact p0 R hd (hex v (by rw [ex,ey];exact h1)) (x:=.c (.d (.v v))) (DRep.v _ h2) h
        · exact h.elim
    · exact h.elim
  · rename_i m n
    have ex:=scal hp
    have ey:=scal hq
    rw [G.run_bind] at h
    obtain ⟨i,hi,h1⟩:=tiv_run h
    clear h
    have hu:=hT.desc t i hi
    split at h1
    · rename_i hdsc
      rw [hdsc] at hu
      exact p0 R hd (hex (.bool (m==n)) (by rw [ex,ey];simp [eqGuard,binOp,equal_bool hu])) (x:=.c (.d (.v (.bool (m==n))))) (DRep.v _ rfl) h1
    · rename_i hdsc
      rw [hdsc] at hu
      exact p0 R hd (hex (.bool (!(m==n))) (by rw [ex,ey];simp [eqGuard,binOp,equal_bool hu])) (x:=.c (.d (.v (.bool (!(m==n)))))) (DRep.v _ rfl) h1
    · exact h1.elim
  · rename_i xs ys
    rw [G.run_bind] at h
    obtain ⟨i,hi,h1⟩:=tiv_run h
    clear h
    split at h1
    · rename_i hqk
      rw [G.run_bind] at h1
      obtain ⟨r,hr,h⟩:=optv_run h1
      clear h1
      obtain ⟨us,ex,hx⟩:=hp
      obtain ⟨vs,ey,hy⟩:=hq
      obtain ⟨h1,h2⟩:=eq_run (w:=w) hT hi hqk hr hx hy x y w
      split at h
      · exact p0 R hd (hex (.bool r) (by rw [ex,ey];exact h1)) (x:=.c (.d (.v (.bool r)))) (DRep.v _ rfl) h
      · exact p0 R hd (hex (.bool (!r)) (by rw [ex,ey];exact h2)) (x:=.c (.d (.v (.bool (!r))))) (DRep.v _ rfl) h
      · exact h.elim
    · exact h1.elim
  · rename_i ad cap
    have ex:=scal hp
    have ey:=scal hq
    rw [G.run_bind] at h
    obtain ⟨i,hi,h1⟩:=tiv_run h
    clear h
    have hu:=hT.desc t i hi
    split at h1
    · rename_i hdsc
      rw [hdsc] at hu
      exact p0 R hd (hex (.bool ad.isNone) (by rw [ex,ey];simp [eqGuard,binOp,equal_nil hu])) (x:=.c (.d (.v (.bool ad.isNone)))) (DRep.v _ rfl) h1
    · exact h1.elim
  · rename_i sz n row
    have ey:=scal hq
    rw [G.run_bind] at h
    obtain ⟨i,hi,h1⟩:=tiv_run h
    clear h
    have hu:=hT.desc t i hi
    split at h1
    · rename_i hdsc
      rw [hdsc] at hu
      obtain ⟨hn,h1⟩:=h1
      have hn:0<n:=by have:=(hn rfl).2;omega
      have hp:DRep w (Nof S σ μ w) (.sl sz n row) (a.eval x):=hp
      obtain ⟨ad,cap,ex⟩:∃ ad cap,a.eval x=.slice (some ad) n cap:=by
        generalize a.eval x=v at hp
        cases hp with
        | nil=>omega
        | empty=>omega
        | sl _ _ _ b off cap=>exact ⟨_,cap,rfl⟩
      exact p0 R hd (hex (.bool false) (by rw [ex,ey];simp [eqGuard,binOp,equal_nil hu])) (x:=.c (.d (.v (.bool false)))) (DRep.v _ rfl) h1
    · exact h1.elim
  · exact h.elim
def RowsAt (w:World) (N:Nat->Prop) (sz n:Nat) (row:Nat->List DV) (v:Value):Prop:=
  (∀ i,i<n->(row i).length=sz)/\((n=0/\∃ ad cap,v=.slice ad 0 cap)\/∃ b off cap cs e fr,v=.slice (some ⟨b,off,none⟩) n cap/\w.heap[b]? = some (.cells cs e fr) /\
    ∀ i j x,i<n->(row i)[j]? = some x->∃ u,cs[off+i*sz+j]? = some u/\DRep w N x u)
theorem rowsv_run {e:TI} (R:RelM w0 S nt (i5 slots) σ a w μ) {x:CV} {v:Value} (hx:CRep σ μ w (Nof S σ μ w) x v) {Q:Nat × (Nat->List DV)->Prop} (h:(rowsv real e x).run σ Q) :
    ∃ n row,RowsAt w (Nof S σ μ w) e.size n row v/\Q (n,row):=by
  unfold rowsv at h
  split at h
  · rename_i sz n row
    cases hsz:nbeq sz e.size with
    | false=>rw [hsz] at h;exact h.elim
    | true=>
      rw [hsz] at h
      have hsz:=i3 hsz
      subst hsz
      refine ⟨n,row,?_,h⟩
      cases hx with
      | nil=>exact ⟨λi hi=>by omega,.inl ⟨rfl,none,0,rfl⟩⟩
      | empty _ _ ad=>exact ⟨λi hi=>by omega,.inl ⟨rfl,some ad,0,rfl⟩⟩
      | sl _ _ _ b off cap cs e' fr u hN hb hc hs hr hu hd=>
        exact ⟨hr,.inr ⟨b,off,cap,cs,e',fr,rfl,hb,λi j x hi hj=>⟨u i j,hu i j x hi hj,hd i j x hi hj⟩⟩⟩
  · cases hx
    exact ⟨0,_,⟨λi hi=>by omega,.inl ⟨rfl,_,_,rfl⟩⟩,h⟩
  · obtain ⟨ad,rfl⟩:=hx
    exact ⟨0,_,⟨λi hi=>by omega,.inl ⟨rfl,ad,0,rfl⟩⟩,h⟩
  · rename_i l off len ver
    simp only [G.run] at h
    split at h
    · rename_i ver' sz n row hσ
      cases hsz:nbeq sz e.size with
      | false=>rw [hsz] at h;exact h.elim
      | true=>
        rw [hsz] at h
        obtain ⟨hv,h⟩:=h
        have hv:ver=ver':=hv
        subst hv
        have hsz:=i3 hsz
        subst hsz
        refine ⟨len,_,?_,h⟩
        obtain ⟨_,_,h3⟩:=hx
        obtain ⟨h4,h5⟩:=h3 _ n row hσ
        have ob:=R.objs l
        rw [hσ] at ob
        obtain ⟨hr,ob⟩:=ob
        refine ⟨λi hi=>hr (off+i) (by omega),?_⟩
        rcases h5 with ⟨_,rfl,ad,rfl⟩|⟨b,base,o',cap,cs,e',hμ,rfl,hcap,ho',hb,_⟩
        · exact .inl ⟨rfl,ad,0,rfl⟩
        · rcases ob with ⟨h1,_⟩|⟨b',base',cs1,e1,hμ',hb1,hsz0,hcs⟩
          · rw [hμ] at h1;simp at h1
          rw [hμ] at hμ';simp at hμ';obtain ⟨rfl,rfl⟩:=hμ'
          by_cases hl:len=0
          · subst hl;exact .inl ⟨rfl,_,cap,rfl⟩
          · refine .inr ⟨b,o',cap,cs1,e1,(0,0),rfl,hb1,λi j x hi hj => ?_⟩
            obtain ⟨u,hu,hd⟩:=hcs (off+i) j x (by omega) hj
            exact ⟨u,by rw [ho' (.inl (by omega)),<- hu,Nat.add_mul];congr 1;omega,hd⟩
    · exact h.elim
  · exact h.elim
theorem lenv_run {x:CV} {v:Value} {N:Nat->Prop} (hx:CRep σ μ w N x v) {Q:Nat->Prop} (h:(lenv real x).run σ Q):∃ n ad cap,v=.slice ad n cap/\Q n:=by
  unfold lenv at h
  split at h
  · rename_i sz n row
    cases hx with
    | nil=>exact ⟨0,none,0,rfl,h⟩
    | empty _ _ ad=>exact ⟨0,some ad,0,rfl,h⟩
    | sl _ _ _ b off cap cs e' fr u=>exact ⟨n,_,cap,rfl,h⟩
  · cases hx;exact ⟨0,_,_,rfl,h⟩
  · obtain ⟨ad,rfl⟩:=hx;exact ⟨0,ad,0,rfl,h⟩
  · rename_i l off len ver
    simp only [G.run] at h
    split at h
    · rename_i ver' sz n row hσ
      obtain ⟨hv,h⟩:=h
      have hv:ver=ver':=hv
      subst hv
      obtain ⟨_,h5⟩:=hx.2.2 sz n row hσ
      rcases h5 with ⟨_,rfl,ad,rfl⟩|⟨b,base,o',cap,cs,e',_,rfl,_⟩
      · exact ⟨0,ad,0,rfl,h⟩
      · exact ⟨len,_,cap,rfl,h⟩
    · exact h.elim
  · rename_i l len ver
    simp only [G.run] at h
    split at h
    · rename_i ver' sz n row foc hσ
      obtain ⟨hv,h⟩:=h
      have hv:ver=ver':=hv
      subst hv
      obtain ⟨_,h5⟩:=hx.2.2 sz n row foc hσ
      rcases h5 with ⟨_,rfl,ad,rfl⟩|⟨b,base,cap,cs,e',_,rfl,_⟩
      · exact ⟨0,ad,0,rfl,h⟩
      · exact ⟨len,_,cap,rfl,h⟩
    · exact h.elim
  · exact h.elim
theorem sound_len (hT:TTok P T) (R:RelM w0 S nt (i5 slots) σ a w μ) (hd:∀ d,o.dst=some d->d<nt) {args:Array Operand} {ts:Array TypeId} (ho:o.op=.call ⟨.builtin .len,args,ts⟩)
    (h:(t6 real T EX o true (rho slots)).run σ (OpOut.run M σ K)):Sound P w0 S nt slots σ a w o K:=by
  simp only [t6,ho] at h
  split at h
  · rename_i x t hargs hts
    rw [G.run_bind] at h
    obtain ⟨i,hi,h⟩:=tiv_run h
    split at h
    · rename_i e hdsc
      rw [G.run_bind] at h
      obtain ⟨c,hc,h⟩:=cellv_run h (p8 R x)
      rw [G.run_bind] at h
      obtain ⟨n,ad,cap,he,h⟩:=lenv_run hc h
      have hu:=hT.desc t i hi
      rw [hdsc] at hu
      refine p0 R hd (v:=.int .i64 n) ?_ (x:=.c (.d (.v (.int .i64 n)))) (DRep.v _ rfl) h
      have ha:args = #[x]:=by apply Array.ext';simpa using hargs
      subst ha
      simp [execOp,ho,resolve,invoke,builtin,Builtin.len_,hts,underlying,hu,he,goInt]
    · exact h.elim
  · exact h.elim
theorem sound_min (R:RelM w0 S nt (i5 slots) σ a w μ) (hd:∀ d,o.dst=some d->d<nt) {args:Array Operand} {ts:Array TypeId} (ho:o.op=.call ⟨.builtin .min,args,ts⟩)
    (h:(t6 real T EX o true (rho slots)).run σ (OpOut.run M σ K)):Sound P w0 S nt slots σ a w o K:=by
  simp only [t6,ho] at h
  split at h
  · rename_i x y hargs
    rw [G.run_bind] at h
    obtain ⟨k,m,ex,h⟩:=intv_run h (p8 R x)
    rw [G.run_bind] at h
    obtain ⟨k',n,ey,h⟩:=intv_run h (p8 R y)
    refine p0 R hd (v:=.int k (if n<m then n else m)) ?_ (x:=.c (.d (.v (.int k (if n<m then n else m))))) (DRep.v _ rfl) h
    have ha:args = #[x,y]:=by apply Array.ext';simpa using hargs
    subst ha
    simp [execOp,ho,resolve,invoke,builtin,Builtin.min_,Builtin.min2,ex,ey]
  · exact h.elim
theorem sound_max (R:RelM w0 S nt (i5 slots) σ a w μ) (hd:∀ d,o.dst=some d->d<nt) {args:Array Operand} {ts:Array TypeId} (ho:o.op=.call ⟨.builtin .max,args,ts⟩)
    (h:(t6 real T EX o true (rho slots)).run σ (OpOut.run M σ K)):Sound P w0 S nt slots σ a w o K:=by
  simp only [t6,ho] at h
  split at h
  · rename_i x y hargs
    rw [G.run_bind] at h
    obtain ⟨k,m,ex,h⟩:=intv_run h (p8 R x)
    rw [G.run_bind] at h
    obtain ⟨k',n,ey,h⟩:=intv_run h (p8 R y)
    refine p0 R hd (v:=.int k (if n>m then n else m)) ?_ (x:=.c (.d (.v (.int k (if n>m then n else m))))) (DRep.v _ rfl) h
    have ha:args = #[x,y]:=by apply Array.ext';simpa using hargs
    subst ha
    simp [execOp,ho,resolve,invoke,builtin,Builtin.max_,Builtin.max2,ex,ey]
  · exact h.elim
end
section
variable {P:Program} {T:TypeId->Option TI} {EX:FuncId->List Nat × Bool} {M:Ms}
variable {w0:World} {S:Sets} {nt:Nat} {slots:List (Nat × AV)} {σ:p9} {a:Act} {w:World} {μ:Place}
variable {o:Oper} {K:AV->List (Nat × Nat × HO)->Prop} {next:Act->World->Prop} {Q:Exit->Act->World->Prop}
theorem lay_spec (off:Nat):∀ (vs:List Value) (k:Nat) (cs:Array Value),off+k+vs.length<=cs.size ->
    ((vs.zipIdx k).foldl (λcs (c,j)=>cs.setIfInBounds (off+j) c) cs).size=cs.size /\
    ∀ j,((vs.zipIdx k).foldl (λcs (c,j)=>cs.setIfInBounds (off+j) c) cs)[j]? = if off+k<=j/\j<off+k+vs.length then vs[j-(off+k)]? else cs[j]?
  | [],k,cs,_=>by
    simp only [List.zipIdx_nil,List.foldl_nil,true_and]
    intro j
    rw [if_neg (by simp only [List.length_nil];omega)]
  | v::r,k,cs,h=>by
    simp only [List.zipIdx_cons,List.foldl_cons]
    simp only [List.length_cons] at h
    obtain ⟨h1,h2⟩:=lay_spec off r (k+1) (cs.setIfInBounds (off+k) v) (by simp;omega)
    refine ⟨by rw [h1];simp,λj => ?_⟩
    rw [h2 j]
    by_cases c1:off+(k+1)<=j/\j<off+(k+1)+r.length
    · rw [if_pos c1,if_pos (by simp;omega),show j-(off+k)=(j-(off+(k+1)))+1 by omega]
      simp
    · rw [if_neg c1]
      by_cases c2:j=off+k
      · subst c2
        rw [if_pos (by simp),Array.getElem?_setIfInBounds]
        simp;omega
      · rw [if_neg (by simp;omega),Array.getElem?_setIfInBounds,if_neg (by omega)]
theorem fill_rep {N:Nat->Prop} {place:Nat->Option (Nat × Nat)}:∀ {parts:List (Nat × List CV)} {vals:List (Nat × Value)} {cells cs:List CV} {zs:Array Value},
    fillC place cells parts=some cs->CsRep σ μ w N cells zs.toList ->
    (parts.length=vals.length/\∀ (j:Nat) i xs,parts[j]? = some (i,xs)->∃ v,vals[j]? = some (i,v)/\CsRep σ μ w N xs v.cells.toList) ->
    ∃ ws,Instr.fill place zs vals=some ws/\CsRep σ μ w N cs ws.toList
  | [],[],cells,cs,zs,h,hz,_=>by simp [fillC] at h;subst h;exact ⟨zs,rfl,hz⟩
  | [],_::_,_,_,_,_,_,hp=>by simp at hp
  | _::_,[],_,_,_,_,_,hp=>by simp at hp
  | (i,xs)::r,(i',v)::s,cells,cs,zs,h,hz,hp=>by
    obtain ⟨v',hv',hxs⟩:=hp.2 0 i xs rfl
    simp at hv';obtain ⟨rfl,rfl⟩:=hv'
    unfold fillC at h
    split at h
    · simp at h
    · rename_i off size hpl
      split at h
      · rename_i hsz
        split at h
        · rename_i cs1 hpa
          obtain ⟨p1,p2,p3⟩:=patch_spec hpa
          have hl:=hxs.length
          have hzl:=hz.length
          rw [Array.length_toList] at hl hzl
          have hfit:off+0+v.cells.toList.length<=zs.size:=by rw [Array.length_toList];omega
          obtain ⟨q1,q2⟩:=lay_spec off v.cells.toList 0 zs hfit
          have hz1:CsRep σ μ w N cs1 ((v.cells.toList.zipIdx 0).foldl (λcs (c,j)=>cs.setIfInBounds (off+j) c) zs).toList:=by
            refine CsRep.of_get (by rw [Array.length_toList,q1,p1,hzl]) λj x hj => ?_
            rw [Array.getElem?_toList,q2 j]
            have hp3:=p3 j x hj
            by_cases c1:j<off
            · rw [if_pos c1] at hp3
              rw [if_neg (by omega)]
              obtain ⟨u,hu,hc⟩:=hz.get hp3
              exact ⟨u,by simpa using hu,hc⟩
            · by_cases c2:j<off+xs.length
              · rw [if_neg c1,if_pos c2] at hp3
                rw [if_pos (by rw [Array.length_toList];omega)]
                obtain ⟨u,hu,hc⟩:=hxs.get hp3
                exact ⟨u,by simpa using hu,hc⟩
              · rw [if_neg c1,if_neg c2] at hp3
                rw [if_neg (by rw [Array.length_toList];omega)]
                obtain ⟨u,hu,hc⟩:=hz.get hp3
                exact ⟨u,by simpa using hu,hc⟩
          obtain ⟨ws,hws,hcs⟩:=fill_rep (parts:=r) (vals:=s) h hz1 ⟨by simpa using hp.1,λj i' xs' hj=>by
            have:=hp.2 (j+1) i' xs' (by simpa using hj)
            simpa using this⟩
          refine ⟨ws,?_,hcs⟩
          unfold Instr.fill
          simp only [hpl]
          rw [if_neg (by simp;omega)]
          have hzi:v.cells.zipIdx.foldl (λcs (c,j)=>cs.setIfInBounds (off+j) c) zs=(v.cells.toList.zipIdx 0).foldl (λcs (c,j)=>cs.setIfInBounds (off+j) c) zs:=by
            rw [<- Array.foldl_toList];simp
          rw [hzi]
          exact hws
        · simp at h
      · simp at h
theorem partsv_run (R:RelM w0 S nt (i5 slots) σ a w μ):∀ {l:List (Nat × Operand)} {Q:List (Nat × List CV)->Prop},(partsv real true (rho slots) l).run σ Q ->
    ∃ ps,Q ps/\ps.length=(l.map λq=>(q.1,a.eval q.2)).length/\∀ (j:Nat) i xs,ps[j]? = some (i,xs)->∃ v,(l.map λq=>(q.1,a.eval q.2))[j]? = some (i,v)/\CsRep σ μ w (Nof S σ μ w) xs v.cells.toList
  | [],Q,h=>⟨[],h,rfl,λj i xs hj=>by simp at hj⟩
  | (i,x)::r,Q,h=>by
    simp only [partsv,G.run_bind] at h
    obtain ⟨cs,hcs,h⟩:=cellsv_run h (p8 R x)
    obtain ⟨ps,hq,hl,hps⟩:=partsv_run R h
    refine ⟨_,hq,by simpa using hl,λj i' xs hj => ?_⟩
    cases j with
    | zero=>simp at hj;obtain ⟨rfl,rfl⟩:=hj;exact ⟨_,rfl,hcs⟩
    | succ j=>simp at hj;simpa using hps j i' xs hj
theorem sizesv_run (hT:TTok P T):∀ {fs:List Field} {Q:List (Nat × Nat)->Prop},(sizesv T fs).run σ Q->∃ ps,Q ps/\fs.mapM (λf=>(P.info? f.type).map λi=>(f.offset,i.size))=some ps
  | [],Q,h=>⟨[],h,rfl⟩
  | f::r,Q,h=>by
    simp only [sizesv,G.run_bind] at h
    obtain ⟨i,hi,h⟩:=tiv_run h
    obtain ⟨ps,hq,hp⟩:=sizesv_run hT h
    obtain ⟨inf,z,h1,h2,_⟩:=hT.info _ i hi
    exact ⟨_,hq,by simp [List.mapM_cons,h1,hp,h2]⟩
theorem sound_build (hT:TTok P T) (R:RelM w0 S nt (i5 slots) σ a w μ) (hd:∀ d,o.dst=some d->d<nt) {t:TypeId} {parts:Array (Nat × Operand)} (ho:o.op=.build t parts)
    (h:(t6 real T EX o true (rho slots)).run σ (OpOut.run M σ K)):Sound P w0 S nt slots σ a w o K:=by
  simp only [t6,ho,G.run_bind] at h
  obtain ⟨i,hi,h1⟩:=tiv_run h
  clear h
  split at h1
  · rename_i fs hdsc
    rw [G.run_bind] at h1
    obtain ⟨ps,h,hps⟩:=sizesv_run hT h1
    clear h1
    rw [G.run_bind] at h
    obtain ⟨vs,h1,hvl,hvs⟩:=partsv_run R h
    clear h
    rw [G.run_bind] at h1
    obtain ⟨cs,hcs,hk⟩:=optv_run h1
    obtain ⟨inf,z,e1,e2,e3,e4,e5,e6⟩:=hT.info t i hi
    have hu:=hT.desc t i hi
    rw [hdsc] at hu
    obtain ⟨ws,hw,hrep⟩:=fill_rep (σ := σ) (μ := μ) (w:=w) (N:=Nof S σ μ w) (zs:=z.cells) hcs (by rw [e5];exact zero_csRep hT hi) ⟨hvl,hvs⟩
    refine p0 R hd (v:=.agg ws) ?_ (x:=.agg cs) ⟨_,rfl,hrep⟩ hk
    have hb:P.built t (parts.map λ(i,x)=>(i,a.eval x)).toList=some ws:=by
      unfold Program.built
      simp only [e1,hu,e4,hps]
      rw [<- hw]
      congr 1
      · funext k;simp
      · simp
    simp only [execOp,ho,Sem.run_bind,run_build w t _ ws hb,Result.andThen_ok]
    rfl
  · exact h1.elim
theorem rowsOf_spec {z:List DV} {sz:Nat} (hz:z.length=sz):∀ {n:Nat} {cs:List CV} {row:Nat->List DV},rowsOf real z sz n cs=some row ->
    (∀ i,(row i).length=sz)/\∀ i j x,i<n->(row i)[j]? = some x->cs[i*sz+j]? = some (.d x)
  | 0,cs,row,h=>by simp [rowsOf] at h;subst h;exact ⟨λi=>hz,λi j x hi=>by omega⟩
  | n+1,cs,row,h=>by
    unfold rowsOf at h
    split at h
    · simp at h
    · rename_i p hp
      split at h
      · rename_i x r hx hr
        simp at h;subst h
        obtain ⟨h1,h2⟩:=takeN_spec hp
        have hx:=toDs_spec hx
        obtain ⟨h3,h4⟩:=rowsOf_spec hz hr
        have hxl:x.length=sz:=by rw [<- h1,hx];simp
        refine ⟨λi => ?_,λi j y hi hj0 => ?_⟩
        · show (if i<1 then x else r (i-1)).length=sz
          split
          · exact hxl
          · exact h3 _
        · have hj:(if i<1 then x else r (i-1))[j]? = some y:=hj0
          clear hj0
          by_cases c:i<1
          · rw [if_pos c] at hj
            have:i=0:=by omega
            subst this
            have:=h2 j (.d y) (by rw [hx];simp [hj])
            simpa using this
          · rw [if_neg c] at hj
            have:=h4 (i-1) j y (by omega) hj
            rw [dropN_get] at this
            rw [<- this]
            congr 1
            obtain ⟨k,rfl⟩:∃ k,i=k+1:=⟨i-1,by omega⟩
            simp [Nat.add_mul];omega
      · simp at h
theorem intsK_spec {k:IntKind}:∀ {cs:List CV} {l:List Int},intsK k cs=some l->∀ (i:Nat) (x:CV),cs[i]? = some x->x=CV.d (.v (.int k (l.getD i 0)))
  | [],_,_,i,x,hx=>by simp at hx
  | y::r,l,h,i,x,hx=>by
    unfold intsK at h
    split at h
    · rename_i e;cases e
    · rename_i k' n r' e
      cases e
      split at h
      · rename_i hk
        subst hk
        cases hr:intsK k' r with
        | none=>rw [hr] at h;cases h
        | some l'=>
          rw [hr] at h
          simp at h
          subst h
          cases i with
          | zero=>simp at hx;subst hx;rfl
          | succ i=>exact intsK_spec hr i x (by simpa using hx)
      · cases h
    · cases h
theorem dropN_eq {α:Type}:∀ (n:Nat) (l:List α),dropN n l=l.drop n
  | 0,_=>rfl
  | _+1,[]=>rfl
  | n+1,_::r=>dropN_eq n r
theorem colN_spec {sz j:Nat} (hj:j<sz):∀ (n:Nat) (l:List Int) (i:Nat),i<n->i*sz+j<l.length->(colN sz j n l).getD i 0=l.getD (i*sz+j) 0
  | 0,_,_,h,_=>absurd h (Nat.not_lt_zero _)
  | n+1,l,i,hi,hl=>by
    have hjl:j<l.length:=by
      have:0<=i*sz:=Nat.zero_le _
      omega
    unfold colN
    rw [dropN_eq,List.drop_eq_getElem_cons hjl]
    cases i with
    | zero=>simp [List.getD_eq_getElem?_getD,List.getElem?_eq_getElem hjl]
    | succ i=>
      simp only [dropN_eq]
      have e:(i+1)*sz=sz+i*sz:=by rw [Nat.succ_mul,Nat.add_comm]
      have ih:=colN_spec hj n (l.drop sz) i (by omega) (by rw [List.length_drop];omega)
      rw [List.getD_cons_succ,ih,List.getD_eq_getElem?_getD,List.getD_eq_getElem?_getD,List.getElem?_drop]
      congr 2
      omega
theorem colsN_spec {sz:Nat} {l:List Int}:∀ (n j:Nat),(colsN sz l n j).length=n/\∀ q,q<n->(colsN sz l n j)[q]? = some (colN sz (j+q) l.length l)
  | 0,_=>⟨rfl,λq h=>absurd h (Nat.not_lt_zero _)⟩
  | n+1,j=>by
    obtain ⟨h1,h2⟩:=colsN_spec (sz:=sz) (l:=l) n (j+1)
    refine ⟨by simp [colsN,h1],λq hq => ?_⟩
    cases q with
    | zero=>rfl
    | succ q=>
      have:=h2 q (by omega)
      simp only [colsN,List.getElem?_cons_succ]
      rw [this,show j+1+q=j+(q+1) by omega]
theorem litRow_spec {two:Bool} {sz n:Nat} {cs:List CV} {row:Nat->List DV} (h1:∀ i,(row i).length=sz) (h2:∀ i j x,i<n->(row i)[j]? = some x->cs[i*sz+j]? = some (CV.d x)) :
    (∀ i,(litRow real two sz cs row i).length=sz)/\∀ i j x,i<n->(litRow real two sz cs row i)[j]? = some x->cs[i*sz+j]? = some (CV.d x):=by
  unfold litRow
  cases litOk two sz cs with
  | false=>exact ⟨h1,h2⟩
  | true=>
    simp only [cond_true]
    cases headK cs with
    | none=>exact ⟨h1,h2⟩
    | some k=>
      simp only
      cases hl:intsK k cs with
      | none=>exact ⟨h1,h2⟩
      | some l=>
        refine ⟨λi=>by simp [(colsN_spec (l:=l) sz 0).1],λi j x hi hj => ?_⟩
        simp only [List.getElem?_map] at hj
        have hjs:j<sz:=by
          have:j<(colsN sz l sz 0).length:=by
            cases hc:(colsN sz l sz 0)[j]? with
            | none=>rw [hc] at hj;cases hj
            | some c=>exact (List.getElem?_eq_some_iff.1 hc).1
          rwa [(colsN_spec (l:=l) sz 0).1] at this
        rw [(colsN_spec (l:=l) sz 0).2 j hjs] at hj
        have hlen:(row i).length=sz:=h1 i
        obtain ⟨y,hy⟩:∃ y,(row i)[j]? = some y:=⟨(row i)[j],List.getElem?_eq_getElem (by omega)⟩
        have hc:=h2 i j y hi hy
        have he:=intsK_spec hl _ _ hc
        have hll:i*sz+j<l.length:=by
          have hcl:i*sz+j<cs.length:=(List.getElem?_eq_some_iff.1 hc).1
          have:∀ {cs:List CV} {l:List Int},intsK k cs=some l->l.length=cs.length:=by
            intro cs
            induction cs with
            | nil=>intro l h;simp [intsK] at h;subst h;rfl
            | cons c r ih=>
              intro l h
              unfold intsK at h
              split at h
              · cases h;rename_i e;cases e
              · rename_i e
                split at h
                · cases hr:intsK k _ with
                  | none=>rw [hr] at h;cases h
                  | some m=>
                    rw [hr] at h
                    simp at h
                    subst h
                    cases e
                    simp [ih hr]
                · cases h
              · cases h
          rw [this hl];exact hcl
        have hin:i<l.length:=by
          have:i*1<=i*sz:=Nat.mul_le_mul_left _ (by omega)
          omega
        have hv:DV.v (.int k ((colN sz j l.length l).getD i 0))=x:=by simpa [real] using hj
        rw [colN_spec hjs _ _ _ hin hll] at hv
        rw [hc,he,hv]
theorem build_run (hT:TTok P T) {t e:TypeId} {len:Nat} {parts:Array (Nat × Operand)} (ho:o.op=.buildSlice t len parts) {i:TI} (hi:T e=some i) (hu:P.underlying t=some (.slice e))
    {vs:List (Nat × List CV)} {cs:List CV} (hcs:fillC (λk=>some (k*i.size,i.size)) ((List.replicate len (i.zero.map λx=>CV.d (.v x))).flatten) vs=some cs)
    (hvl:vs.length=(parts.toList.map λq=>(q.1,a.eval q.2)).length)
    (hvs:∀ (j:Nat) i xs,vs[j]? = some (i,xs)->∃ v,(parts.toList.map λq=>(q.1,a.eval q.2))[j]? = some (i,v)/\CsRep σ μ w (Nof S σ μ w) xs v.cells.toList) (hle:len*i.size<=16777216) :
    ∃ ws:Array Value,CsRep σ μ w (Nof S σ μ w) cs ws.toList/\ws.size=len*i.size/\(execOp a.eval o).run P w=.ok (.value (.slice (some ⟨w.heap.size,0,none⟩) len len)) (w.alloc (.cells ws e)):=by
  obtain ⟨inf,z,e1,e2,e3,e4,e5,e6,e7⟩:=hT.info e i hi
  have hzs:z.cells.size=i.size:=by rw [<- e6,<- e5];simp
  let zs:Array Value:=(Array.range (len*i.size)).map ((if len*i.size=0 then #[] else z.cells)[· % (if len*i.size=0 then #[] else z.cells).size]!)
  have hzs':CsRep σ μ w (Nof S σ μ w) ((List.replicate len (i.zero.map λx=>CV.d (.v x))).flatten) zs.toList:=by
    have hlen:((List.replicate len (i.zero.map λx=>CV.d (.v x))).flatten).length=len*i.size:=by simp [e6]
    refine CsRep.of_get (by rw [hlen];simp [zs]) λj x hj => ?_
    have hjl:j<len*i.size:=by rw [<- hlen];exact (List.getElem?_eq_some_iff.1 hj).1
    have hne:len*i.size≠0:=by omega
    have hipos:0<i.size:=Nat.pos_of_ne_zero λh=>by simp [h] at hne
    have hmod:j % i.size<i.size:=Nat.mod_lt _ hipos
    have hget:∀ (n:Nat) (l:List CV) (j:Nat),0<l.length->j<n*l.length->(List.replicate n l).flatten[j]? = l[j % l.length]? := by
      intro n l
      induction n with
      | zero=>intro j _ h;simp at h
      | succ n ih=>
        intro j hl hj
        rw [List.replicate_succ,List.flatten_cons,List.getElem?_append]
        split
        · rename_i hc;rw [Nat.mod_eq_of_lt hc]
        · rename_i hc
          rw [ih (j-l.length) hl (by rw [Nat.succ_mul] at hj;omega)]
          congr 1
          exact (Nat.mod_eq_sub_mod (by omega)).symm
    rw [hget len _ j (by rw [List.length_map,e6];exact hipos) (by rw [List.length_map,e6];exact hjl)] at hj
    simp only [List.length_map,e6,List.getElem?_map,Option.map_eq_some_iff] at hj
    obtain ⟨u,hu',rfl⟩:=hj
    refine ⟨u,?_,DRep.v u (e7 u (List.mem_of_getElem? hu'))⟩
    have hzj:z.cells[j % i.size]? = some u:=by rw [<- Array.getElem?_toList,e5];exact hu'
    have hzj':z.cells[j % i.size]! = u:=by rw [getElem!_def,hzj]
    simp [zs,hne,hjl,hzs,hzj']
  obtain ⟨ws,hw,hrep⟩:=fill_rep (σ := σ) (μ := μ) (w:=w) (N:=Nof S σ μ w) (zs:=zs) hcs hzs' ⟨hvl,hvs⟩
  have hwl:ws.size=len*i.size:=by
    have hpl:∀ {parts:List (Nat × List CV)} {cells cs:List CV},fillC (λk=>some (k*i.size,i.size)) cells parts=some cs->cs.length=cells.length:=by
      intro parts
      induction parts with
      | nil=>intro cells cs h;simp [fillC] at h;simp [h]
      | cons p r ih=>
        intro cells cs h
        unfold fillC at h
        simp only at h
        split at h
        · split at h
          · rename_i cs1 hpa;rw [ih h,(patch_spec hpa).1]
          · simp at h
        · simp at h
    have h1:=hrep.length
    rw [hpl hcs] at h1
    simpa [e6] using h1
  have hexec:(execOp a.eval o).run P w=.ok (.value (.slice (some ⟨w.heap.size,0,none⟩) len len)) (w.alloc (.cells ws e)):=by
    have hno:¬ (16777216<len*i.size):=by omega
    have hw':Instr.fill (λk=>some (k*i.size,i.size)) zs (parts.map λ(i,x)=>(i,a.eval x)).toList=some ws:=by rw [<- hw];congr 1;simp
    by_cases hz0:len*i.size=0
    · simp only [zs,hz0,if_true] at hw'
      simp [execOp,ho,Instr.buildSlice,underlying,hu,sizeOf_run hT hi,hz0,newRow]
      simp at hw'
      simp [hw']
    · simp only [zs,hz0,if_false] at hw'
      simp at hw'
      simp [execOp,ho,Instr.buildSlice,underlying,hu,sizeOf_run hT hi,hz0,hno,newRow,zeroValue,typeInfo,e1,e4,hw']
  exact ⟨ws,hrep,hwl,hexec⟩
theorem sound_buildOpen (hT:TTok P T) (R:RelM w0 S nt (i5 slots) σ a w μ) (hd:∀ d,o.dst=some d->d<nt) {t e:TypeId} {parts:Array (Nat × Operand)} (ho:o.op=.buildSlice t 1 parts) {i:TI} (hi:T e=some i) (hu:P.underlying t=some (.slice e))
    {vs:List (Nat × List CV)} {cs:List CV} (hcs:fillC (λk=>some (k*i.size,i.size)) ((List.replicate 1 (i.zero.map λx=>CV.d (.v x))).flatten) vs=some cs)
    (hvl:vs.length=(parts.toList.map λq=>(q.1,a.eval q.2)).length)
    (hvs:∀ (j:Nat) i xs,vs[j]? = some (i,xs)->∃ v,(parts.toList.map λq=>(q.1,a.eval q.2))[j]? = some (i,v)/\CsRep σ μ w (Nof S σ μ w) xs v.cells.toList) (hle:i.size<=16777216) {L:Nat}
    (hk:K (.c (.nown L 1 ((σ L).1+1))) [(L,(σ L).1+1,.nest i.size 1 (real.rep []) (some (0,cs)))]):Sound P w0 S nt slots σ a w o K:=by
  obtain ⟨ws,hrep,hwl,hexec⟩:=build_run hT ho hi hu hcs hvl hvs (by omega)
  rw [Nat.one_mul] at hwl
  have hcl:cs.length=i.size:=by have:=hrep.length;rw [Array.length_toList,hwl] at this;exact this.symm
  obtain ⟨st,R'⟩:=R.allocC L ((σ L).1+1) (by omega) (.nest i.size 1 (real.rep []) (some (0,cs))) ws e λhst=>
    .inr ⟨w.heap.size,0,ws,e,by simp,v8 _ _,by omega,⟨λk hk hn=>(hn ⟨cs,by rw [show k=0 by omega]⟩).elim,λ_ _ _=>False,λk j x hk hn _=>(hn ⟨cs,by rw [show k=0 by omega]⟩).elim,
      λk=>⟨λh=>by simp at h,λ⟨_,_,_,_,_,h⟩=>h.elim⟩,λ_ _ _ _ _ _ _ _ _ _ _ h=>h.elim⟩,by simp,by simp,λk cells hf=>by
        simp at hf;obtain ⟨rfl,rfl⟩:=hf
        refine ⟨by omega,hcl,λj x hj => ?_⟩
        obtain ⟨u,hu',hc⟩:=hrep.get hj
        exact ⟨u,by simpa using hu',hc.step hst⟩⟩
  refine v5 R' hd (v:=.slice (some ⟨w.heap.size,0,none⟩) 1 1) (.inl hexec) rfl ?_ hk
  refine ⟨rfl,by simp,λsz' n' row' foc' hσ' => ?_⟩
  simp at hσ';obtain ⟨rfl,rfl,rfl,rfl⟩:=hσ'
  exact ⟨rfl,.inr ⟨w.heap.size,0,1,ws,e,by simp,rfl,Nat.le_refl _,by omega,v8 _ _,by omega⟩⟩
theorem sound_buildSlice (hT:TTok P T) (R:RelM w0 S nt (i5 slots) σ a w μ) (hd:∀ d,o.dst=some d->d<nt) {t:TypeId} {len:Nat} {parts:Array (Nat × Operand)} (ho:o.op=.buildSlice t len parts)
    (h:(t6 real T EX o true (rho slots)).run σ (OpOut.run M σ K)):Sound P w0 S nt slots σ a w o K:=by
  simp only [t6,ho,G.run_bind] at h
  obtain ⟨it,e,i,hit,hdesc,hi,h1⟩:=elemv_run h
  clear h
  have hu:P.underlying t=some (.slice e):=by rw [hT.desc t it hit,hdesc]
  obtain ⟨vs,h,hvl,hvs⟩:=partsv_run R h1
  clear h1
  obtain ⟨cs,hcs,h1⟩:=optv_run h
  clear h
  cases hrow:rowsOf real (i.zero.map DV.v) i.size len cs with
  | none=>
    rw [hrow] at h1
    simp only at h1
    cases hif:(nbeq len 1&&(noJunk cs&&nble i.size 16777216)) with
    | false=>rw [hif] at h1;exact h1.elim
    | true=>
    rw [hif] at h1
    simp only [Bool.and_eq_true] at hif
    obtain ⟨hl1,hnj,hle⟩:=hif
    have hl1:=i3 hl1
    subst hl1
    have hle:=b8 hle
    have hk:K (.c (.nown (o.dst.getD 0*64+baseOf EX) 1 ((σ (o.dst.getD 0*64+baseOf EX)).1+1))) [((o.dst.getD 0*64+baseOf EX),(σ (o.dst.getD 0*64+baseOf EX)).1+1,.nest i.size 1 (real.rep []) (some (0,cs)))]:=h1
    exact sound_buildOpen hT R hd ho hi hu hcs hvl hvs hle hk
  | some row=>
  rw [hrow] at h1
  have h:=h1
  clear h1
  simp only at h
  cases hle:nble (len*i.size) 16777216 with
  | false=>rw [hle] at h;exact h.elim
  | true=>
  rw [hle] at h
  have hle:=b8 hle
  have hk:K (.c (.own (o.dst.getD 0*64+baseOf EX) 0 len ((σ (o.dst.getD 0*64+baseOf EX)).1+1))) [((o.dst.getD 0*64+baseOf EX),(σ (o.dst.getD 0*64+baseOf EX)).1+1,.arr i.size len (litRow real (EX 0).2 i.size cs row))]:=h
  generalize (o.dst.getD 0*64+baseOf EX)=L at *
  obtain ⟨ws,hrep,hwl,hexec⟩:=build_run hT ho hi hu hcs hvl hvs hle
  obtain ⟨inf,z,e1,e2,e3,e4,e5,e6,e7⟩:=hT.info e i hi
  obtain ⟨r1,r2⟩:=rowsOf_spec (by simp [e6]) hrow
  obtain ⟨r1,r2⟩:=litRow_spec (two:=(EX 0).2) r1 r2
  clear hrow
  generalize litRow real (EX 0).2 i.size cs row=row2 at *
  by_cases hlen:len=0
  · subst hlen
    obtain ⟨st,R'⟩:=(R.garb (.cells ws e)).bare L ((σ L).1+1) (by omega) (.arr i.size 0 row2) (.inr (.inl ⟨_,_,rfl⟩))
    refine v5 R' hd (v:=.slice (some ⟨w.heap.size,0,none⟩) 0 0) (.inl hexec) rfl ?_ hk
    exact ⟨rfl,by simp,λsz' n' row' hσ'=>⟨by omega,.inl ⟨by simp,rfl,_,rfl⟩⟩⟩
  obtain ⟨st,R'⟩:=R.alloc L ((σ L).1+1) (by omega) (.arr i.size len row2) ws e ⟨λk _=>r1 k,by rw [hwl];omega,λk j x hk' hj=>by
    obtain ⟨u,hu',hc⟩:=hrep.get (r2 k j x hk' hj)
    exact ⟨u,by simpa using hu',hc⟩⟩
  refine v5 R' hd (v:=.slice (some ⟨w.heap.size,0,none⟩) len len) (.inl hexec) rfl ?_ hk
  refine ⟨rfl,by simp,λsz' n' row' hσ' => ?_⟩
  simp at hσ';obtain ⟨rfl,rfl,rfl⟩:=hσ'
  exact ⟨by omega,.inr ⟨w.heap.size,0,0,len,ws,e,by simp,rfl,Nat.le_refl _,λ_=>by simp,v8 _ _,by rw [hwl];omega,λ_=>by omega⟩⟩
end
section
variable {P:Program} {T:TypeId->Option TI} {EX:FuncId->List Nat × Bool} {M:Ms}
variable {w0:World} {S:Sets} {nt:Nat} {slots:List (Nat × AV)} {σ:p9} {a:Act} {w:World} {μ:Place}
variable {o:Oper} {K:AV->List (Nat × Nat × HO)->Prop} {next:Act->World->Prop} {Q:Exit->Act->World->Prop}
theorem sound_makeSlice (hT:TTok P T) (R:RelM w0 S nt (i5 slots) σ a w μ) (hd:∀ d,o.dst=some d->d<nt) {t:TypeId} {x y:Operand} (ho:o.op=.makeSlice t x y)
    (h:(t6 real T EX o true (rho slots)).run σ (OpOut.run M σ K)):Sound P w0 S nt slots σ a w o K:=by
  simp only [t6,ho,G.run_bind] at h
  obtain ⟨it,e,i,hit,hdesc,hi,h1⟩:=elemv_run h
  clear h
  have hu:P.underlying t=some (.slice e):=by rw [hT.desc t it hit,hdesc]
  obtain ⟨k,n,ex,h⟩:=intv_run h1 (p8 R x)
  clear h1
  obtain ⟨k',c,ey,h1⟩:=intv_run h (p8 R y)
  clear h
  obtain ⟨⟨h0,hnc,hb,hm⟩,hk⟩:=h1
  simp only at h0 hnc hb hm
  subst hnc
  cases hfr:(EX 9998).1.contains (o.dst.getD 0) with
  | true=>
    rw [hfr] at hk
    have hk:K (.c (.d (.sl i.size n.toNat (real.rep (i.zero.map .v))))) []:=hk
    obtain ⟨inf,z,e1,e2,e3,e4,e5,e6,e7⟩:=hT.info e i hi
    have hmk:=run_make (P:=P) w t e inf z hu e1 e4 k k' n n h0 (Int.le_refl _) (by rw [e3,Int.mul_comm];omega) (by omega)
    have hzs:z.cells.size=i.size:=by rw [<- e6,<- e5];simp
    rw [e2] at hmk
    have hexec:(execOp a.eval o).run P w=.ok (.value (.slice (some ⟨w.heap.size,0,none⟩) n.toNat n.toNat)) (w.alloc (.cells (madeCells z.cells (n.toNat*i.size)) e)):=by
      simp only [execOp,ho,ex,ey,Sem.run_bind,hmk,Result.andThen_ok];rfl
    have R':=R.garb (.cells (madeCells z.cells (n.toNat*i.size)) e)
    refine v5 R' hd (v:=.slice (some ⟨w.heap.size,0,none⟩) n.toNat n.toNat) (.inl hexec) rfl ?_ hk
    show DRep _ _ _ _
    by_cases hn0:n.toNat=0
    · rw [hn0];exact .empty _ _ _
    · refine .sl i.size n.toNat _ w.heap.size 0 n.toNat (madeCells z.cells (n.toNat*i.size)) e (0,0) (λ_ j=>z.cells[j]!) ?_ (v8 _ _) (Nat.le_refl _) (by rw [size_madeCells];omega) (λr hr=>by show (i.zero.map DV.v).length=_;simp [e6]) (λr j u hr hj => ?_) (λr j u hr hj => ?_)
      · exact ⟨by rw [size_alloc'];omega,R.reach _ (.inl R.grow),λl hl hm=>by have:=(R.ownH l _ hl hm).1;omega⟩
      · have hj:(i.zero.map DV.v)[j]? = some u:=hj
        simp only [List.getElem?_map,Option.map_eq_some_iff] at hj
        obtain ⟨v,hv,rfl⟩:=hj
        have hjl:j<i.size:=by rw [<- e6];exact (List.getElem?_eq_some_iff.1 hv).1
        have hlt:r*i.size+j<n.toNat*i.size:=by
          have:=Nat.mul_le_mul_right i.size (show r+1<=n.toNat from hr)
          rw [Nat.succ_mul] at this;omega
        have hmod:(r*i.size+j) % i.size=j:=by rw [Nat.mul_add_mod_self_right,Nat.mod_eq_of_lt hjl]
        simp [madeCells,hlt,hzs,hmod]
      · have hj:(i.zero.map DV.v)[j]? = some u:=hj
        simp only [List.getElem?_map,Option.map_eq_some_iff] at hj
        obtain ⟨v,hv,rfl⟩:=hj
        have hzj:z.cells[j]? = some v:=by rw [<- Array.getElem?_toList,e5];exact hv
        have hzj':z.cells[j]! = v:=by rw [getElem!_def,hzj]
        rw [hzj']
        exact DRep.v v (e7 v (List.mem_of_getElem? hv))
  | false=>
  rw [hfr] at hk
  have hk:K (.c (.own (o.dst.getD 0*64+baseOf EX) 0 n.toNat ((σ (o.dst.getD 0*64+baseOf EX)).1+1))) [((o.dst.getD 0*64+baseOf EX),(σ (o.dst.getD 0*64+baseOf EX)).1+1,.arr i.size n.toNat (real.rep (i.zero.map .v)))]:=hk
  generalize (o.dst.getD 0*64+baseOf EX)=L at *
  obtain ⟨inf,z,e1,e2,e3,e4,e5,e6,e7⟩:=hT.info e i hi
  have hmk:=run_make (P:=P) w t e inf z hu e1 e4 k k' n n h0 (Int.le_refl _) (by rw [e3,Int.mul_comm];omega) (by omega)
  have hzs:z.cells.size=i.size:=by rw [<- e6,<- e5];simp
  rw [e2] at hmk
  have hexec:(execOp a.eval o).run P w=.ok (.value (.slice (some ⟨w.heap.size,0,none⟩) n.toNat n.toNat)) (w.alloc (.cells (madeCells z.cells (n.toNat*i.size)) e)):=by
    simp only [execOp,ho,ex,ey,Sem.run_bind,hmk,Result.andThen_ok];rfl
  by_cases hn0:n.toNat=0
  · rw [hn0] at hk hexec
    obtain ⟨st,R'⟩:=(R.garb (.cells (madeCells z.cells (0*i.size)) e)).bare L ((σ L).1+1) (by omega) (.arr i.size 0 (real.rep (i.zero.map .v))) (.inr (.inl ⟨_,_,rfl⟩))
    refine v5 R' hd (v:=.slice (some ⟨w.heap.size,0,none⟩) 0 0) (.inl hexec) rfl ?_ hk
    exact ⟨rfl,by simp,λsz' n' row' hσ'=>⟨by omega,.inl ⟨by simp,rfl,_,rfl⟩⟩⟩
  obtain ⟨st,R'⟩:=R.alloc L ((σ L).1+1) (by omega) (.arr i.size n.toNat (real.rep (i.zero.map .v))) (madeCells z.cells (n.toNat*i.size)) e
    ⟨λj _=>by show (i.zero.map DV.v).length=_;simp [e6],by rw [size_madeCells];omega,λr j u hr hj=>by
      have hj:(i.zero.map DV.v)[j]? = some u:=hj
      simp only [List.getElem?_map,Option.map_eq_some_iff] at hj
      obtain ⟨v,hv,rfl⟩:=hj
      have hjl:j<i.size:=by rw [<- e6];exact (List.getElem?_eq_some_iff.1 hv).1
      refine ⟨v,?_,DRep.v v (e7 v (List.mem_of_getElem? hv))⟩
      have hlt:r*i.size+j<n.toNat*i.size:=by
        have:=Nat.mul_le_mul_right i.size (show r+1<=n.toNat from hr)
        rw [Nat.succ_mul] at this;omega
      have hmod:(r*i.size+j) % i.size=j:=by rw [Nat.mul_add_mod_self_right,Nat.mod_eq_of_lt hjl]
      have hzj:z.cells[j]? = some v:=by rw [<- Array.getElem?_toList,e5];exact hv
      have hzj':z.cells[j]! = v:=by rw [getElem!_def,hzj]
      simp [madeCells,hlt,hzs,hmod,hzj']⟩
  refine v5 R' hd (v:=.slice (some ⟨w.heap.size,0,none⟩) n.toNat n.toNat) (.inl hexec) rfl ?_ hk
  · refine ⟨rfl,by simp,λsz' n' row' hσ' => ?_⟩
    simp at hσ';obtain ⟨rfl,rfl,rfl⟩:=hσ'
    exact ⟨by omega,.inr ⟨w.heap.size,0,0,n.toNat,_,e,by simp,rfl,Nat.le_refl _,λ_=>by simp,v8 _ _,by rw [size_madeCells];omega,λ_=>by omega⟩⟩
def loOk (a:Act):Option Operand->Int->Prop
  | none,A=>A=0
  | some x,A=>∃ k,a.eval x=.int k A
def hiOk (a:Act):Option Operand->Int->Nat->Prop
  | none,B,n=>B=n
  | some x,B,_=>∃ k,a.eval x=.int k B
theorem slice_run {t e:TypeId} (hu:P.underlying t=some (.slice e)) {i:TI} (hT:TTok P T) (hi:T e=some i) {x:Operand} {lo hi':Option Operand} {ad:Option Addr} {len cap:Nat} {A B:Int}
    (ho:o.op=.slice t x lo hi' none) (ex:a.eval x=.slice ad len cap) (hlo:loOk a lo A) (hhi:hiOk a hi' B len) (h0:0<=A) (h1:A<=B) (h2:B<=len) (h3:len<=cap) :
    (execOp a.eval o).run P w=.ok (.value (.slice (if cap=A.toNat then ad else ad.map (·.add (A.toNat*i.size))) (B.toNat-A.toNat) (cap-A.toNat))) w:=by
  have hs:=sizeOf_run hT hi w
  have hB:0<=B:=by omega
  have hBc:B<=cap:=by omega
  have hmx:max B 0=B:=by omega
  cases lo with
  | none=>
    have hlo:A=0:=hlo
    subst hlo
    cases hi' with
    | none=>
      have hhi:B=len:=hhi
      subst hhi
      simp [execOp,ho,ex,Instr.sliceAt,underlying,hu,Instr.slice,Instr.sliceBounds,hs]
    | some y=>
      obtain ⟨k,ey⟩:=hhi
      simp [execOp,ho,ex,Instr.sliceAt,underlying,hu,Instr.slice,Instr.sliceBounds,Instr.sliceBound,asIntOf,ey,hs,hB,hBc]
  | some z=>
    obtain ⟨k,ez⟩:=hlo
    cases hi' with
    | none=>
      have hhi:B=len:=hhi
      subst hhi
      simp [execOp,ho,ex,Instr.sliceAt,underlying,hu,Instr.slice,Instr.sliceBounds,Instr.sliceBound,asIntOf,ez,hs,h0,h1]
    | some y=>
      obtain ⟨k',ey⟩:=hhi
      simp [execOp,ho,ex,Instr.sliceAt,underlying,hu,Instr.slice,Instr.sliceBounds,Instr.sliceBound,asIntOf,ey,ez,hs,hB,hBc,h0,h1,hmx]
theorem sliceSem_run {e:TI} {x:CV} {v:Value} {A B:Int} {Q:CV->Prop} (hx:CRep σ μ w (Nof S σ μ w) x v) (h:(sliceSem real e x A B).run σ Q) :
    ∃ ad len cap,v=.slice ad len cap/\0<=A/\A<=B/\B<=len/\len<=cap /\
      ∃ y,CRep σ μ w (Nof S σ μ w) y (.slice (if cap=A.toNat then ad else ad.map (·.add (A.toNat*e.size))) (B.toNat-A.toNat) (cap-A.toNat))/\Q y:=by
  unfold sliceSem at h
  split at h
  · rename_i sz n row
    cases hsz:nbeq sz e.size with
    | false=>rw [hsz] at h;exact h.elim
    | true=>
      rw [hsz] at h
      obtain ⟨⟨h0,h1,h2⟩,h⟩:=h
      have hsz:=i3 hsz
      subst hsz
      have hl:(real.dif B A)=B.toNat-A.toNat:=by show (B-A).toNat=_;omega
      cases hx with
      | nil=>
        refine ⟨none,0,0,rfl,h0,h1,h2,Nat.le_refl _,_,?_,h⟩
        have:A.toNat=0:=by omega
        have hb:B.toNat=0:=by omega
        rw [hl,this,hb]
        exact DRep.nil _ _
      | empty _ _ ad=>
        refine ⟨some ad,0,0,rfl,h0,h1,h2,Nat.le_refl _,_,?_,h⟩
        have:A.toNat=0:=by omega
        have hb:B.toNat=0:=by omega
        rw [hl,this,hb]
        exact DRep.empty _ _ ad
      | sl _ _ _ b off cap cs e' fr u hN hb hc hs hr hu hd=>
        refine ⟨_,n,cap,rfl,h0,h1,h2,hc,_,?_,h⟩
        rw [hl]
        have hAn:A.toNat<=B.toNat/\B.toNat<=n:=by omega
        have hmul:(cap-A.toNat)*e.size+A.toNat*e.size=cap*e.size:=by rw [<- Nat.add_mul];congr 1;omega
        by_cases hcA:cap=A.toNat
        · rw [if_pos hcA]
          refine DRep.sl _ _ _ b off _ cs e' fr (λi j=>u (A.toNat+i) j) hN hb (by omega) (by omega) (λi hi=>by omega) (λi j x hi hj=>by omega) (λi j x hi hj=>by omega)
        · rw [if_neg hcA]
          simp only [Option.map_some,add_off]
          refine DRep.sl _ _ _ b _ _ cs e' fr (λi j=>u (A.toNat+i) j) hN hb (by omega) (by omega) (λi hi=>hr (A.toNat+i) (by omega)) (λi j x hi hj => ?_) (λi j x hi hj=>hd (A.toNat+i) j x (by omega) hj)
          have:=hu (A.toNat+i) j x (by omega) hj
          rw [<- this];congr 1;rw [Nat.add_mul];omega
  · cases hx
    obtain ⟨⟨h0,h1,h2⟩,h⟩:=h
    refine ⟨none,0,0,rfl,h0,h1,h2,Nat.le_refl _,_,?_,h⟩
    have:A.toNat=0:=by omega
    have hb:B.toNat=0:=by omega
    rw [this,hb]
    exact DRep.v _ rfl
  · rename_i l off len ver
    simp only [G.run] at h
    split at h
    · rename_i ver' sz n row hσ
      cases hsz:nbeq sz e.size with
      | false=>rw [hsz] at h;exact h.elim
      | true=>
        rw [hsz] at h
        obtain ⟨hv,⟨h0,h1,h2⟩,h⟩:=h
        have hv:ver=ver':=hv
        subst hv
        have hsz:=i3 hsz
        subst hsz
        have hl:(real.dif B A)=B.toNat-A.toNat:=by show (B-A).toNat=_;omega
        have ha:real.add off (real.nat A)=off+A.toNat:=rfl
        rw [hl,ha] at h
        obtain ⟨_,hle,h3⟩:=hx
        obtain ⟨h4,h5⟩:=h3 _ n row hσ
        rcases h5 with ⟨hm,hl0,ad,rfl⟩|⟨b,base,o',cap,cs,e',hμ,rfl,hcap,ho',hb,hfit,hpos⟩
        · refine ⟨ad,0,0,rfl,h0,h1,by omega,Nat.le_refl _,.own l (off+A.toNat) (B.toNat-A.toNat) ver,⟨rfl,hle,λsz' n' row' hσ' => ?_⟩,h⟩
          rw [hσ] at hσ';simp at hσ';obtain ⟨rfl,rfl,rfl⟩:=hσ'
          have:A.toNat=0:=by omega
          have hb0:B.toNat=0:=by omega
          refine ⟨by omega,.inl ⟨hm,by omega,ad,by rw [this,hb0];rfl⟩⟩
        · refine ⟨_,len,cap,rfl,h0,h1,h2,hcap,.own l (off+A.toNat) (B.toNat-A.toNat) ver,⟨rfl,hle,λsz' n' row' hσ' => ?_⟩,h⟩
          rw [hσ] at hσ';simp at hσ';obtain ⟨rfl,rfl,rfl⟩:=hσ'
          have hmul:(cap-A.toNat)*e.size+A.toNat*e.size=cap*e.size:=by rw [<- Nat.add_mul];congr 1;omega
          refine ⟨by omega,.inr ?_⟩
          by_cases hcA:cap=A.toNat
          · rw [if_pos hcA]
            refine ⟨b,base,o',cap-A.toNat,cs,e',hμ,rfl,by omega,λhh => ?_,hb,by omega,λhh=>by have:=hpos (by omega);omega⟩
            have hh':0<B.toNat-A.toNat\/off+A.toNat=0:=hh
            have hA0:A.toNat=0:=by omega
            have ho0:off=0:=by omega
            rw [ho' (.inr ho0),hA0];simp
          · rw [if_neg hcA]
            simp only [Option.map_some,add_off]
            refine ⟨b,base,o'+A.toNat*e.size,cap-A.toNat,cs,e',hμ,rfl,by omega,λhh => ?_,hb,by omega,λhh=>by have:=hpos (by omega);omega⟩
            have hh':0<B.toNat-A.toNat\/off+A.toNat=0:=hh
            have:0<len\/off=0:=by omega
            rw [ho' this,Nat.add_mul];omega
    · exact h.elim
  · exact h.elim
theorem loSem_run (R:RelM w0 S nt (i5 slots) σ a w μ) {lo:Option Operand} {Q:Int->Prop} (h:(loSem real true (rho slots) lo).run σ Q):∃ A,loOk a lo A/\Q A:=by
  cases lo with
  | none=>exact ⟨0,rfl,h⟩
  | some z=>
    simp only [loSem,G.run_bind] at h
    obtain ⟨k,A,ez,h⟩:=intv_run h (p8 R z)
    exact ⟨A,⟨k,ez⟩,h⟩
theorem hiSem_run (R:RelM w0 S nt (i5 slots) σ a w μ) {x:Operand} {c:CV} (hc:CRep σ μ w (Nof S σ μ w) c (a.eval x)) {hi':Option Operand} {Q:Int->Prop} (h:(hiSem real true (rho slots) c hi').run σ Q) :
    ∃ B,(∀ n ad cap,a.eval x=.slice ad n cap->hiOk a hi' B n)/\Q B:=by
  cases hi' with
  | none=>
    simp only [hiSem,G.run_bind] at h
    obtain ⟨n,ad,cap,ex,h⟩:=lenv_run hc h
    exact ⟨n,λn' ad' cap' ex'=>by rw [ex] at ex';simp at ex';show (n:Int)=n';omega,h⟩
  | some y=>
    simp only [hiSem,G.run_bind] at h
    obtain ⟨k,n,ey,h⟩:=intv_run h (p8 R y)
    exact ⟨n,λ_ _ _ _=>⟨k,ey⟩,h⟩
theorem sound_slice (hT:TTok P T) (R:RelM w0 S nt (i5 slots) σ a w μ) (hd:∀ d,o.dst=some d->d<nt) {t:TypeId} {x:Operand} {lo hi' mx:Option Operand} (ho:o.op=.slice t x lo hi' mx)
    (h:(t6 real T EX o true (rho slots)).run σ (OpOut.run M σ K)):Sound P w0 S nt slots σ a w o K:=by
  simp only [t6,ho,G.run_bind] at h
  obtain ⟨it,e,i,hit,hdesc,hi,h1⟩:=elemv_run h
  clear h
  have hu:P.underlying t=some (.slice e):=by rw [hT.desc t it hit,hdesc]
  cases mx with
  | some m=>exact h1.elim
  | none=>
  simp only [G.run_bind] at h1
  obtain ⟨c,hc,h⟩:=cellv_run h1 (p8 R x)
  clear h1
  have key:∀ A B,loOk a lo A->(∀ n ad cap,a.eval x=.slice ad n cap->hiOk a hi' B n)->(sliceSem real i c A B).run σ (λy=>K (.c y) [])->Sound P w0 S nt slots σ a w o K:=by
    intro A B hA hB hs
    obtain ⟨ad,len,cap,ex,g0,g1,g2,g3,y,hy,hk⟩:=sliceSem_run hc hs
    exact p0 R hd (slice_run hu hT hi ho ex hA (hB _ _ _ ex) g0 g1 g2 g3) (x:=.c y) hy hk
  obtain ⟨A,hA,h1⟩:=loSem_run R h
  clear h
  obtain ⟨B,hB,h⟩:=hiSem_run R hc h1
  exact key A B hA hB h
end
end Go.Rk
