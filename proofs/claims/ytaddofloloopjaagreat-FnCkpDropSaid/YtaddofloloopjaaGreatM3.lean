/- What each of this seat's functions answers, at all data, part 3: no condition. -/
import Derived.Test.YtaddofloloopjaaGreatM2
namespace Go.Rk
set_option linter.unusedSimpArgs false
set_option linter.unusedVariables false
section
variable {P:Program} {T:TypeId->Option TI} {EX:FuncId->List Nat × Bool} {M:Ms}
variable {w0:World} {S:Sets} {nt:Nat} {slots:List (Nat × AV)} {σ:p9} {a:Act} {w:World} {μ:Place}
variable {o:Oper} {K:AV->List (Nat × Nat × HO)->Prop} {next:Act->World->Prop} {Q:Exit->Act->World->Prop}
theorem DRep.one {N:Nat->Prop} {x:DV} {v:Value} (h:DRep w N x v):v.oneCell'=true:=by cases h<;>first|assumption|rfl
theorem rows_flat {N:Nat->Prop} {sz n off:Nat} {row:Nat->List DV} {cs:Array Value} (hr:∀ i,i<n->(row i).length=sz)
    (hc:∀ i j x,i<n->(row i)[j]? = some x->∃ u,cs[off+i*sz+j]? = some u/\DRep w N x u) :
    ∃ news:List Value,news.length=n*sz/\(∀ (k:Nat) v,news[k]? = some v->cs[off+k]? = some v)/\(∀ v∈news,v.oneCell'=true) /\
      ∀ i j x,i<n->(row i)[j]? = some x->∃ u,news[i*sz+j]? = some u/\DRep w N x u:=by
  have hk:∀ k,k<n*sz->∃ u,cs[off+k]? = some u/\u.oneCell'=true:=λk hk=>by
    have hsz:0<sz:=Nat.pos_of_ne_zero λh=>by simp [h] at hk
    have hi:k / sz<n:=Nat.div_lt_of_lt_mul (by rw [Nat.mul_comm];exact hk)
    have hj:k % sz<(row (k / sz)).length:=by rw [hr _ hi];exact Nat.mod_lt _ hsz
    obtain ⟨u,hu,hd⟩:=hc _ _ _ hi (List.getElem?_eq_getElem hj)
    refine ⟨u,?_,hd.one⟩
    rw [<- hu];congr 1
    have:=Nat.div_add_mod k sz
    rw [Nat.mul_comm] at this;omega
  refine ⟨(List.range (n*sz)).map λk=>cs.getD (off+k) undef,by simp,λk v hv => ?_,λv hv => ?_,λi j x hi hj => ?_⟩
  · simp only [List.getElem?_map,Option.map_eq_some_iff] at hv
    obtain ⟨k',hk',rfl⟩:=hv
    obtain ⟨hlt,rfl⟩:=List.getElem?_eq_some_iff.1 hk'
    simp at hlt ⊢
    obtain ⟨u,hu,_⟩:=hk k hlt
    rw [hu];rfl
  · simp only [List.mem_map,List.mem_range] at hv
    obtain ⟨k,hlt,rfl⟩:=hv
    obtain ⟨u,hu,h1⟩:=hk k hlt
    simp [hu,h1]
  · obtain ⟨u,hu,hd⟩:=hc i j x hi hj
    have hj':j<sz:=by rw [<- hr i hi];exact (List.getElem?_eq_some_iff.1 hj).1
    have hlt:i*sz+j<n*sz:=by
      have:=Nat.mul_le_mul_right sz (show i+1<=n from hi)
      rw [Nat.succ_mul] at this;omega
    refine ⟨u,?_,hd⟩
    rw [show off+i*sz+j=off+(i*sz+j) by omega] at hu
    simp [hlt,hu]
theorem src_cells {N:Nat->Prop} {sz m:Nat} {row:Nat->List DV} {v:Value} (h:RowsAt w N sz m row v) :
    ∃ news:List Value,news.length=m*sz/\(∀ w':World,w'.heap=w.heap->(Builtin.firstCells sz m v).run P w'=.ok news.toArray w')/\(Builtin.lenOf v=pure m)/\(∀ u∈news,u.oneCell'=true) /\
      ∀ i j x,i<m->(row i)[j]? = some x->∃ u,news[i*sz+j]? = some u/\DRep w N x u:=by
  obtain ⟨hr,h⟩:=h
  rcases h with ⟨rfl,ad,cap,rfl⟩|⟨b,off,cap,cs,e,fr,rfl,hb,hc⟩
  · refine ⟨[],by simp,λw' _ => ?_,rfl,λu hu=>by simp at hu,λi j x hi=>by omega⟩
    cases ad with
    | none=>simp [Builtin.firstCells]
    | some ad=>simp [Builtin.firstCells,loadCells,loadCellsFrom]
  · obtain ⟨news,h1,h2,h3,h4⟩:=rows_flat hr hc
    refine ⟨news,h1,λw' hw' => ?_,rfl,h3,h4⟩
    refine run_firstCells_some w' sz m _ m cap news h1 λj u hj => ?_
    rw [add_off,cell_at (by rw [hw'];exact hb)]
    exact h2 j u hj
theorem append_none {t u e:TypeId} {ty:TypeId} {i:TI} (hT:TTok P T) (hu:P.underlying t=some (.slice e)) {ui:TypeId} (hu2:P.underlying u=some (.slice ui)) (hi:T e=some i)
    {N:Nat->Prop} {m:Nat} {row:Nat->List DV} {v:Value} (hs:RowsAt w N i.size m row v) (hroom:m*i.bytes<=140737488355328/\m<=140737488355328) (ad:Option Addr) :
    ∃ w' v',(Builtin.append_ #[t,u] ty #[.slice ad 0 0,v]).run P w=.ok v' w' /\
      ((m=0/\w'=w/\v'=.slice ad 0 0)\/∃ cap cs,(0<m/\m<=cap)/\v'=.slice (some ⟨w.heap.size,0,none⟩) m cap/\w'=w.drew.alloc (.cells cs e)/\cap*i.size<=cs.size /\
        ∀ r j x,r<m->(row r)[j]? = some x->∃ q,cs[r*i.size+j]? = some q/\DRep w N x q):=by
  obtain ⟨inf,z,e1,e2,e3,e4,e5,e6,e7⟩:=hT.info e i hi
  obtain ⟨news,n1,n2,n3,n4,n5⟩:=src_cells (P:=P) hs
  by_cases hm:m=0
  · subst hm
    refine ⟨w,.slice ad 0 0,?_,.inl ⟨rfl,rfl,rfl⟩⟩
    have hnil:news=[]:=by simpa using n1
    subst hnil
    have:=n2 w rfl
    cases ad with
    | none=>simp [Builtin.append_,underlying,hu,hu2,sizeOf_run hT hi,n3,this]
    | some ad=>simp [Builtin.append_,underlying,hu,hu2,sizeOf_run hT hi,n3,this,storeCells]
  · have hfit:=growslice_fits (need:=m) (old:=0) (bytes:=i.bytes) (by omega) hroom.1
    have h63:¬ (9223372036854775807<(m:Int)):=by omega
    have h48:¬ (281474976710656<Builtin.nextslicecap m 0*i.bytes):=by omega
    have hzs:z.cells.size=i.size:=by rw [<- e6,<- e5];simp
    have hcap:m<=grownCap w m 0 e:=by simp [grownCap,Question.cut]
    refine ⟨w.drew.alloc (.cells (news.toArray++Builtin.zeroCells z.cells (grownCap w m 0 e-m)) e),.slice (some ⟨w.heap.size,0,none⟩) m (grownCap w m 0 e),?_,
      .inr ⟨grownCap w m 0 e,_,⟨by omega,hcap⟩,rfl,rfl,?_,λr j x hr hj => ?_⟩⟩
    · have hf:=n2 w.drew rfl
      have h0:(Builtin.firstCells i.size 0 (.slice ad 0 0)).run P w.drew=.ok #[] w.drew:=by
        cases ad<;>simp [Builtin.firstCells,loadCells,loadCellsFrom]
      simp [Builtin.append_,underlying,hu,hu2,sizeOf_run hT hi,n3,hm,h63,typeInfo,e1,e3,h48,Question.forced,h0,hf,zeroValue,e4,newRow,grownCap]
    · rw [Array.size_append,size_zeroCells,hzs]
      simp only [List.size_toArray,n1]
      rw [<- Nat.add_mul]
      exact Nat.mul_le_mul_right _ (by omega)
    · obtain ⟨q,hq,hd⟩:=n5 r j x hr hj
      refine ⟨q,?_,hd⟩
      rw [Array.getElem?_append_left (by simpa using (List.getElem?_eq_some_iff.1 hq).1)]
      simpa using hq
theorem append_own {t u e:TypeId} {ty:TypeId} {i:TI} (hT:TTok P T) (hu:P.underlying t=some (.slice e)) {ui:TypeId} (hu2:P.underlying u=some (.slice ui)) (hi:T e=some i)
    {N:Nat->Prop} {m:Nat} {row:Nat->List DV} {v:Value} (hs:RowsAt w N i.size m row v)
    {b base n cap:Nat} {cs:Array Value} {el:TypeId} (hb:w.heap[b]? = some (.cells cs el (0,0))) (_hcap:n<=cap) (hfitc:base+cap*i.size<=cs.size)
    {row':Nat->List DV} (hr':∀ r,r<n->(row' r).length=i.size) (hc':∀ r j x,r<n->(row' r)[j]? = some x->∃ q,cs[base+r*i.size+j]? = some q/\DRep w N x q)
    (hroom:(n+m)*i.bytes<=140737488355328/\n+m<=140737488355328) :
    ∃ w' v',(Builtin.append_ #[t,u] ty #[.slice (some ⟨b,base,none⟩) n cap,v]).run P w=.ok v' w' /\
      ((n+m<=cap/\v'=.slice (some ⟨b,base,none⟩) (n+m) cap/\∃ cs',cs'.size=cs.size/\w'=w.setRow b cs' /\
          (∀ r j x,r<n->(row' r)[j]? = some x->∃ q,cs'[base+r*i.size+j]? = some q/\DRep w N x q) /\
          ∀ r j x,r<m->(row r)[j]? = some x->∃ q,cs'[base+(n+r)*i.size+j]? = some q/\DRep w N x q) \/
        ∃ cap' cs',(0<n+m/\n+m<=cap')/\v'=.slice (some ⟨w.heap.size,0,none⟩) (n+m) cap'/\w'=w.drew.alloc (.cells cs' e)/\cap'*i.size<=cs'.size /\
          (∀ r j x,r<n->(row' r)[j]? = some x->∃ q,cs'[r*i.size+j]? = some q/\DRep w N x q) /\
          ∀ r j x,r<m->(row r)[j]? = some x->∃ q,cs'[(n+r)*i.size+j]? = some q/\DRep w N x q):=by
  obtain ⟨inf,z,e1,e2,e3,e4,e5,e6,e7⟩:=hT.info e i hi
  obtain ⟨news,n1,n2,n3,n4,n5⟩:=src_cells (P:=P) hs
  by_cases hroom':n+m<=cap
  · have hmul:(n+m)*i.size<=cap*i.size:=Nat.mul_le_mul_right _ hroom'
    rw [Nat.add_mul] at hmul
    have hfit:base+n*i.size+news.length<=cs.size:=by rw [n1];omega
    have hst:=run_storeCells_at P b (base+n*i.size) el news 0 cs w hb (by simpa using hfit) n4
    simp only [Nat.add_zero] at hst
    refine ⟨_,.slice (some ⟨b,base,none⟩) (n+m) cap,?_,.inl ⟨hroom',rfl,_,spliced_size _ _ _ hfit,rfl,λr j x hr hj => ?_,λr j x hr hj => ?_⟩⟩
    · have hf:=n2 w rfl
      simp [Builtin.append_,underlying,hu,hu2,sizeOf_run hT hi,n3,hroom',hf,add_off,hst]
    · obtain ⟨q,hq,hd⟩:=hc' r j x hr hj
      refine ⟨q,?_,hd⟩
      have hj':j<i.size:=by rw [<- hr' r hr];exact (List.getElem?_eq_some_iff.1 hj).1
      have:(r+1)*i.size<=n*i.size:=Nat.mul_le_mul_right _ hr
      rw [Nat.succ_mul] at this
      rw [spliced_get _ _ _ _ hfit,if_pos (by omega)];exact hq
    · obtain ⟨q,hq,hd⟩:=n5 r j x hr hj
      refine ⟨q,?_,hd⟩
      have hlt:=(List.getElem?_eq_some_iff.1 hq).1
      rw [spliced_get _ _ _ _ hfit,Nat.add_mul,if_neg (by omega),if_pos (by omega),<- hq]
      congr 1;omega
  · have hg:cap<n+m:=by omega
    have hfit:=growslice_fits (need:=n+m) (old:=cap) (bytes:=i.bytes) hg hroom.1
    have h63:¬ (9223372036854775807<((n:Int)+(m:Int))):=by omega
    have h48:¬ (281474976710656<Builtin.nextslicecap (n+m) cap*i.bytes):=by omega
    have hzs:z.cells.size=i.size:=by rw [<- e6,<- e5];simp
    have hcap':n+m<=grownCap w (n+m) cap e:=by simp [grownCap,Question.cut]
    obtain ⟨olds,o1,o2,o3,o4⟩:=rows_flat hr' hc'
    have ho:=run_firstCells_some (P:=P) w.drew i.size n ⟨b,base,none⟩ n cap olds o1 (λj q hj=>by rw [add_off,cell_at (w:=w.drew) hb];exact o2 j q hj)
    refine ⟨w.drew.alloc (.cells (olds.toArray++news.toArray++Builtin.zeroCells z.cells (grownCap w (n+m) cap e-(n+m))) e),.slice (some ⟨w.heap.size,0,none⟩) (n+m) (grownCap w (n+m) cap e),?_,
      .inr ⟨grownCap w (n+m) cap e,_,⟨by omega,hcap'⟩,rfl,rfl,?_,λr j x hr hj => ?_,λr j x hr hj => ?_⟩⟩
    · have hf:=n2 w.drew rfl
      simp [Builtin.append_,underlying,hu,hu2,sizeOf_run hT hi,n3,hroom',h63,typeInfo,e1,e3,h48,Question.forced,ho,hf,zeroValue,e4,newRow,grownCap]
      congr 2
      apply Array.ext'
      simp [List.append_assoc]
    · rw [Array.size_append,Array.size_append,size_zeroCells,hzs]
      simp only [List.size_toArray,n1,o1]
      rw [<- Nat.add_mul,<- Nat.add_mul]
      exact Nat.mul_le_mul_right _ (by omega)
    · obtain ⟨q,hq,hd⟩:=o4 r j x hr hj
      refine ⟨q,?_,hd⟩
      have hlt:=(List.getElem?_eq_some_iff.1 hq).1
      rw [Array.getElem?_append_left (by simp;omega),Array.getElem?_append_left (by simpa using hlt)]
      simpa using hq
    · obtain ⟨q,hq,hd⟩:=n5 r j x hr hj
      refine ⟨q,?_,hd⟩
      have hlt:=(List.getElem?_eq_some_iff.1 hq).1
      rw [Nat.add_mul,Array.getElem?_append_left (by simp;omega),Array.getElem?_append_right (by simp;omega)]
      simp only [List.size_toArray,o1]
      rw [show n*i.size+r*i.size+j-n*i.size=r*i.size+j by omega]
      simpa using hq
theorem sound_append_rows (hT:TTok P T) (R:RelM w0 S nt (i5 slots) σ a w μ) (hd:∀ d,o.dst=some d->d<nt) {args:Array Operand} {ts:Array TypeId} (ho:o.op=.call ⟨.builtin .append,args,ts⟩)
    {x y:Operand} {t u e ui:TypeId} {i:TI} (hargs:args.toList=[x,y]) (ht:ts[0]? = some t) (hu':ts[1]? = some u) (hi:T e=some i) (hut:P.underlying t=some (.slice e)) (huu:P.underlying u=some (.slice ui))
    {c d:CV} (hc:CRep σ μ w (Nof S σ μ w) c (a.eval x)) (hdd:CRep σ μ w (Nof S σ μ w) d (a.eval y))
    (h:((rowsv real i d).bind λnew=>appendSem real (o.dst.getD 0*64+baseOf EX) i c new.1 new.2).run σ (OpOut.run M σ K)):Sound P w0 S nt slots σ a w o K:=by
  rw [G.run_bind] at h
  obtain ⟨m,row,hrows,h1⟩:=rowsv_run R hdd h
  clear h
  have ha:args = #[x,y]:=by apply Array.ext';simpa using hargs
  subst ha
  have hex:∀ v' w',(Builtin.append_ ts o.type #[a.eval x,a.eval y]).run P w=.ok v' w'->(execOp a.eval o).run P w=.ok (.value v') w':=by
    intro v' w' hv
    simp [execOp,ho,resolve,invoke,builtin,hv]
  have hts:∀ v' w',(Builtin.append_ #[t,u] o.type #[a.eval x,a.eval y]).run P w=.ok v' w'->(Builtin.append_ ts o.type #[a.eval x,a.eval y]).run P w=.ok v' w':=by
    intro v' w' hv
    rw [<- hv]
    unfold Builtin.append_
    simp [ht,hu']
  generalize hL:(o.dst.getD 0*64+baseOf EX)=L at h1
  have hnew:∀ ad,a.eval x=.slice ad 0 0->real.room m i.bytes->K (.c (.own L 0 m ((σ L).1+1))) [(L,(σ L).1+1,.arr i.size m row)]->Sound P w0 S nt slots σ a w o K:=by
    intro ad ex hroom hk
    obtain ⟨w',v',hr,hcase⟩:=append_none (ty:=o.type) hT hut huu hi hrows hroom ad
    rw [<- ex] at hr
    have hr:=hex _ _ (hts _ _ hr)
    rcases hcase with ⟨rfl,rfl,rfl⟩|⟨cap,cs,⟨hm0',hcap⟩,rfl,rfl,hfit,hcont⟩
    · obtain ⟨st,R'⟩:=R.bare L ((σ L).1+1) (by omega) (.arr i.size 0 row) (.inr (.inl ⟨_,_,rfl⟩))
      refine v5 R' hd (v:=.slice ad 0 0) (.inl hr) rfl ?_ hk
      exact ⟨rfl,by simp,λsz' n' row' hσ'=>⟨by omega,.inl ⟨by simp,rfl,ad,rfl⟩⟩⟩
    · obtain ⟨st,R'⟩:=R.drew.alloc L ((σ L).1+1) (by omega) (.arr i.size m row) cs e ⟨hrows.1,by
        have:=Nat.mul_le_mul_right i.size hcap;omega,λr j x' hr' hj=>by
        obtain ⟨q,hq,hdq⟩:=hcont r j x' hr' hj
        exact ⟨q,by rw [Nat.zero_add];exact hq,(show DRep w.drew (Nof S σ μ w) x' q from DRep.same_heap (w:=w) (w':=w.drew) rfl hdq)⟩⟩
      refine v5 R' hd (v:=.slice (some ⟨w.heap.size,0,none⟩) m cap) (.inl hr) rfl ?_ hk
      refine ⟨rfl,by simp,λsz' n' row' hσ' => ?_⟩
      simp at hσ';obtain ⟨rfl,rfl,rfl⟩:=hσ'
      exact ⟨by omega,.inr ⟨w.heap.size,0,0,cap,cs,e,by simp,rfl,hcap,λ_=>by simp,v8 w.drew _,by omega,λ_=>by omega⟩⟩
  unfold appendSem at h1
  split at h1
  · obtain ⟨hroom,hk⟩:=h1
    exact hnew none (by generalize he:a.eval x=q at hc;cases hc;rfl) hroom hk
  · obtain ⟨hroom,hk⟩:=h1
    obtain ⟨ad,ex⟩:=hc
    exact hnew ad ex hroom hk
  · rename_i l off len ver
    simp only [G.run] at h1
    split at h1
    · rename_i ver' sz n row' hσ
      cases hsz:nbeq sz i.size with
      | false=>rw [hsz] at h1;exact h1.elim
      | true=>
        rw [hsz] at h1
        obtain ⟨hv,h0,hl,hroom,hk⟩:=h1
        have hv:ver=ver':=hv
        have h0:off=0:=h0
        have hl:len=n:=hl
        have hk:K (.c (.own l 0 (n+m) (ver+1))) [(l,ver+1,.arr sz (n+m) (real.app n row' row))]:=hk
        subst hv h0 hl
        have hsz:=i3 hsz
        subst hsz
        obtain ⟨_,hle,h3⟩:=hc
        obtain ⟨h4,h5⟩:=h3 _ len row' hσ
        have hσ1:(σ l).1=ver:=by rw [hσ]
        have ob:=R.objs l
        rw [hσ] at ob
        obtain ⟨hr,ob⟩:=ob
        have hrl:∀ r,r<len+m->(real.app len row' row r).length=i.size:=λr hr1=>by
          show (if r<len then row' r else row (r-len)).length=_
          split
          · exact hr r ‹_›
          · exact hrows.1 _ (by omega)
        rcases h5 with ⟨hm0,rfl,ad,ex⟩|⟨b,base,o',cap,cs,e',hμ,ex,hcap,ho',hb,hfitc,hpos⟩
        · -- nothing lay there yet
          have hroom0:m*i.bytes<=140737488355328/\m<=140737488355328:=by
            have h1:(0+m)*i.bytes<=140737488355328/\0+m<=140737488355328:=hroom
            rwa [Nat.zero_add] at h1
          obtain ⟨w',v',hr',hcase⟩:=append_none (t:=t) (u:=u) (e:=e) (ty:=o.type) (ui:=ui) hT hut huu hi hrows hroom0 ad
          rw [<- ex] at hr'
          have hr':=hex _ _ (hts _ _ hr')
          have happ:real.app 0 row' row=row:=by funext r;show (if r<0 then row' r else row (r-0))=row r;simp
          rw [Nat.zero_add,happ] at hk
          rcases hcase with ⟨rfl,rfl,rfl⟩|⟨cap,cs,⟨hm0',hcap⟩,rfl,rfl,hfit,hcont⟩
          · obtain ⟨st,R'⟩:=R.bare l (ver+1) (by omega) (.arr i.size 0 row) (.inr (.inl ⟨_,_,rfl⟩))
            refine v5 R' hd (v:=.slice ad 0 0) (.inl hr') rfl ?_ hk
            exact ⟨rfl,by simp,λsz' n' row' hσ'=>⟨by omega,.inl ⟨by simp,rfl,ad,rfl⟩⟩⟩
          · obtain ⟨st,R'⟩:=R.drew.alloc l (ver+1) (by omega) (.arr i.size m row) cs e ⟨hrows.1,by
              have:=Nat.mul_le_mul_right i.size hcap;omega,λr j x' hr' hj=>by
              obtain ⟨q,hq,hdq⟩:=hcont r j x' hr' hj
              exact ⟨q,by rw [Nat.zero_add];exact hq,(show DRep w.drew (Nof S σ μ w) x' q from DRep.same_heap (w:=w) (w':=w.drew) rfl hdq)⟩⟩
            refine v5 R' hd (v:=.slice (some ⟨w.heap.size,0,none⟩) m cap) (.inl hr') rfl ?_ hk
            refine ⟨rfl,by simp,λsz' n' row' hσ' => ?_⟩
            simp at hσ';obtain ⟨rfl,rfl,rfl⟩:=hσ'
            exact ⟨by omega,.inr ⟨w.heap.size,0,0,cap,cs,e,by simp,rfl,hcap,λ_=>by simp,v8 w.drew _,by omega,λ_=>by omega⟩⟩
        · have hob:o'=base:=by rw [ho' (.inr rfl)];simp
          subst hob
          rcases ob with ⟨h1,_⟩|⟨b',base',cs1,e1,hμ',hb1,hsz0,hcs⟩
          · rw [hμ] at h1;simp at h1
          rw [hμ] at hμ';simp at hμ';obtain ⟨rfl,rfl⟩:=hμ'
          rw [hb] at hb1;simp at hb1;obtain ⟨rfl,rfl⟩:=hb1
          obtain ⟨w',v',hr',hcase⟩:=append_own (ty:=o.type) hT hut huu hi hrows hb hcap hfitc hr hcs hroom
          rw [<- ex] at hr'
          have hr':=hex _ _ (hts _ _ hr')
          rcases hcase with ⟨hc1,rfl,cs',hs',rfl,c1,c2⟩|⟨cap',cs',⟨hnm,hc1⟩,rfl,rfl,hfit',c1,c2⟩
          · have hmul:=Nat.mul_le_mul_right i.size hc1
            obtain ⟨st,R'⟩:=R.write l (ver+1) (.arr i.size (len+m) (real.app len row' row)) (by simp [m5,hσ]) (by simp) (.inl ⟨by omega,by rw [hσ];rfl⟩) hμ hb hs'
              ⟨hrl,by omega,λr j x' hr1 hj=>by
                have hj:(if r<len then row' r else row (r-len))[j]? = some x':=hj
                by_cases c:r<len
                · rw [if_pos c] at hj;exact c1 r j x' c hj
                · rw [if_neg c] at hj
                  have:=c2 (r-len) j x' (by omega) hj
                  rwa [show len+(r-len)=r by omega] at this⟩
            refine v5 R' hd (v:=.slice (some ⟨b,o',none⟩) (len+m) cap) (.inl hr') rfl ?_ hk
            refine ⟨rfl,by simp,λsz' n' row'' hσ' => ?_⟩
            simp at hσ';obtain ⟨rfl,rfl,rfl⟩:=hσ'
            exact ⟨by omega,.inr ⟨b,o',o',cap,cs',e',hμ,rfl,hc1,λ_=>by simp,setRow_heap _ _ _ _ _ _ hb,by omega,λ_=>hpos rfl⟩⟩
          · have hmul:=Nat.mul_le_mul_right i.size hc1
            obtain ⟨st,R'⟩:=R.drew.alloc l (ver+1) (by omega) (.arr i.size (len+m) (real.app len row' row)) cs' e
              ⟨hrl,by omega,λr j x' hr1 hj=>by
                have hj:(if r<len then row' r else row (r-len))[j]? = some x':=hj
                by_cases c:r<len
                · rw [if_pos c] at hj
                  obtain ⟨q,hq,hdq⟩:=c1 r j x' c hj
                  exact ⟨q,by rw [Nat.zero_add];exact hq,(show DRep w.drew (Nof S σ μ w) x' q from DRep.same_heap (w:=w) (w':=w.drew) rfl hdq)⟩
                · rw [if_neg c] at hj
                  have:=c2 (r-len) j x' (by omega) hj
                  rw [show len+(r-len)=r by omega] at this
                  obtain ⟨q,hq,hdq⟩:=this
                  exact ⟨q,by rw [Nat.zero_add];exact hq,(show DRep w.drew (Nof S σ μ w) x' q from DRep.same_heap (w:=w) (w':=w.drew) rfl hdq)⟩⟩
            refine v5 R' hd (v:=.slice (some ⟨w.heap.size,0,none⟩) (len+m) cap') (.inl hr') rfl ?_ hk
            refine ⟨rfl,by simp,λsz' n' row'' hσ' => ?_⟩
            simp at hσ';obtain ⟨rfl,rfl,rfl⟩:=hσ'
            exact ⟨by omega,.inr ⟨w.heap.size,0,0,cap',cs',e,by simp,rfl,hc1,λ_=>by simp,v8 w.drew _,by omega,λ_=>by omega⟩⟩
    · exact h1.elim
  · exact h1.elim
theorem vals_rows {N:Nat->Prop} {sz n base:Nat} {cs:Array Value} (h:∀ i j,i<n->j<sz->∃ u,cs[base+i*sz+j]? = some u/\u.oneCell'=true) :
    ∃ row:Nat->List DV,(∀ i,i<n->(row i).length=sz)/\(∀ i j,i<n->j<sz->∃ u,(row i)[j]? = some (.v u)/\cs[base+i*sz+j]? = some u) /\
      ∀ i j x,i<n->(row i)[j]? = some x->∃ u,cs[base+i*sz+j]? = some u/\DRep w N x u:=by
  refine ⟨λi=>(List.range sz).map λj=>.v (cs.getD (base+i*sz+j) undef),λi hi=>by simp,λi j hi hj => ?_,λi j x hi hj => ?_⟩
  · obtain ⟨u,hu,h1⟩:=h i j hi hj
    exact ⟨u,by simp [hj,Array.getD_eq_getD_getElem?,hu],hu⟩
  · simp only [List.getElem?_map,Option.map_eq_some_iff] at hj
    obtain ⟨k,hk,rfl⟩:=hj
    obtain ⟨hlt,rfl⟩:=List.getElem?_eq_some_iff.1 hk
    simp at hlt ⊢
    obtain ⟨u,hu,h1⟩:=h i j hi hlt
    exact ⟨u,hu,by simp [hu];exact DRep.v u h1⟩
theorem vals_at {N:Nat->Prop} {x:Value} {u:Value} (h:DRep w N (.v x) u):u=x:=by cases h;rfl
theorem Kids.val {cs:Array Value} {base sz n:Nat} {row:Nat->List DV} {skip F:Nat->Prop} (h:Kids w cs base sz n row skip F) {i j:Nat} (hi:i<n) (hs:¬ skip i) (hj:j<sz):∃ u,cs[base+i*sz+j]? = some u/\u.oneCell'=true:=by
  obtain ⟨h0,G,h1,_⟩:=h
  obtain ⟨u,hu,hd⟩:=h1 i j _ hi hs (List.getElem?_eq_getElem (by rw [h0 i hi hs];exact hj))
  exact ⟨u,hu,hd.one⟩
theorem Kids.moved {cs cs':Array Value} {base base' sz n n':Nat} {row:Nat->List DV} {skip skip' F:Nat->Prop} (h:Kids w cs base sz n row skip F) (hn:∀ i,i<n'/\¬ skip' i↔i<n/\¬ skip i)
    (hv:∀ i j u,i<n->¬ skip i->j<sz->cs[base+i*sz+j]? = some u->cs'[base'+i*sz+j]? = some u):Kids w cs' base' sz n' row skip' F:=by
  obtain ⟨h0,G,h1,h2,h3⟩:=h
  have e:∀ i,i<n'->¬ skip' i->i<n/\¬ skip i:=λi a b=>(hn i).1 ⟨a,b⟩
  refine ⟨λi hi hs=>h0 i (e i hi hs).1 (e i hi hs).2,G,λi j x hi hs hj => ?_,λk=>(h2 k).trans ⟨λ⟨i,j,q1,q2,q3⟩=>⟨i,j,((hn i).2 ⟨q1,q2⟩).1,((hn i).2 ⟨q1,q2⟩).2,q3⟩,λ⟨i,j,q1,q2,q3⟩=>⟨i,j,(e i q1 q2).1,(e i q1 q2).2,q3⟩⟩,
    λi j i' j' k q1 q2 q3 q4 q5 q6=>h3 i j i' j' k (e i q1 q2).1 (e i q1 q2).2 q3 (e i' q4 q5).1 (e i' q4 q5).2 q6⟩
  obtain ⟨u,hu,hd⟩:=h1 i j x (e i hi hs).1 (e i hi hs).2 hj
  exact ⟨u,hv i j u (e i hi hs).1 (e i hi hs).2 (by rw [<- h0 i (e i hi hs).1 (e i hi hs).2];exact (List.getElem?_eq_some_iff.1 hj).1) hu,hd⟩
theorem noJunk_at:∀ {xs:List CV} {j:Nat} {x:CV},noJunk xs=true->xs[j]? = some x->x ≠ .junk
  | [],_,_,_,h=>by simp at h
  | y::r,j,x,hn,h=>by
    have hy:y ≠ .junk:=λe=>by subst e;simp [noJunk] at hn
    have hr:noJunk r=true:=by cases y<;>simp [noJunk] at hn hy ⊢ <;> exact hn
    cases j with
    | zero=>simp at h;subst h;exact hy
    | succ j=>exact noJunk_at hr (by simpa using h)
theorem sound_nestApp (hT:TTok P T) (R:RelM w0 S nt (i5 slots) σ a w μ) (hd:∀ d,o.dst=some d->d<nt) {args:Array Operand} {ts:Array TypeId} (ho:o.op=.call ⟨.builtin .append,args,ts⟩)
    {x y:Operand} {t u e ui:TypeId} {i:TI} (hargs:args.toList=[x,y]) (ht:ts[0]? = some t) (hu':ts[1]? = some u) (hi:T e=some i) (hut:P.underlying t=some (.slice e)) (huu:P.underlying u=some (.slice ui))
    {c:CV} {l2 len2 ver2:Nat} (hc:CRep σ μ w (Nof S σ μ w) c (a.eval x)) (hdd:CRep σ μ w (Nof S σ μ w) (.nown l2 len2 ver2) (a.eval y))
    (h:(nestApp real (o.dst.getD 0*64+baseOf EX) i c l2 ver2).run σ (OpOut.run M σ K)) (hK:∀ x us,K x us->u9 us=true):Sound P w0 S nt slots σ a w o K:=by
  have ha:args = #[x,y]:=by apply Array.ext';simpa using hargs
  subst ha
  have hex:∀ v' w',(Builtin.append_ #[t,u] o.type #[a.eval x,a.eval y]).run P w=.ok v' w'->(execOp a.eval o).run P w=.ok (.value v') w':=by
    intro v' w' hv
    have:(Builtin.append_ ts o.type #[a.eval x,a.eval y]).run P w=.ok v' w':=by
      rw [<- hv]
      unfold Builtin.append_
      simp [ht,hu']
    simp [execOp,ho,resolve,invoke,builtin,this]
  generalize hL:(o.dst.getD 0*64+baseOf EX)=L at h
  unfold nestApp at h
  simp only [G.run] at h
  split at h
  · rename_i v2 sz2 n2 row2 i2 cells hσ2
    cases hif:(nbeq sz2 i.size&&(nbeq n2 1&&noJunk cells)) with
    | false=>rw [hif] at h;exact h.elim
    | true=>
    rw [hif] at h
    simp only [Bool.and_eq_true] at hif
    obtain ⟨e1,e2,hnj⟩:=hif
    have e1:=i3 e1
    have e2:=i3 e2
    subst e1 e2
    obtain ⟨hv2,h⟩:=h
    have hv2:ver2=v2:=hv2
    subst hv2
    obtain ⟨_,_,hy⟩:=hdd
    obtain ⟨hl2,hy⟩:=hy _ _ _ _ hσ2
    subst hl2
    have ob:=R.objs l2
    rw [hσ2] at ob
    have hlv2:m5 σ l2:=by simp [m5,hσ2]
    rcases ob with ⟨_,h1,_⟩|⟨b2,base2,cs2,el2,hμ2,hb2,hsz2,_,_,_,hfoc2⟩
    · omega
    obtain ⟨hi2,hcl,hcells⟩:=hfoc2 _ _ rfl
    obtain rfl:i2=0:=by omega
    rcases hy with ⟨_,h1,_⟩|⟨b2',base2',cap2,cs2',el2',hμ2',ey,hcap2,_,hb2',hfit2⟩
    · omega
    rw [hμ2] at hμ2';simp at hμ2';obtain ⟨rfl,rfl⟩:=hμ2'
    rw [hb2] at hb2';simp at hb2';obtain ⟨rfl,rfl⟩:=hb2'
    have hvals:∀ r j,r<1->j<i.size->∃ u,cs2[base2+r*i.size+j]? = some u/\u.oneCell'=true:=λr j hr hj=>by
      obtain rfl:r=0:=by omega
      obtain ⟨u,hu,hcu⟩:=hcells j _ (List.getElem?_eq_getElem (by rw [hcl];exact hj))
      exact ⟨u,hu,hcu.one (noJunk_at hnj (List.getElem?_eq_getElem (by rw [hcl];exact hj)))⟩
    obtain ⟨src,s1,s2,s3⟩:=vals_rows (w:=w) (N:=Nof S σ μ w) hvals
    have hrows:RowsAt w (Nof S σ μ w) i.size 1 src (a.eval y):=⟨s1,.inr ⟨b2,base2,cap2,cs2,el2,(0,0),ey,hb2,s3⟩⟩
    obtain ⟨st1,R1⟩:=R.bare l2 (ver2+1) (by rw [hσ2];omega) .dead (.inl rfl)
    have hopen:∀ {σ':p9} {μ':Place} {w':World} {cs:Array Value} {off:Nat},Step S (updO σ l2 (ver2+1,.dead)) σ' (updP μ l2 none) μ' w w' ->
        (∀ j q,j<i.size->cs2[base2+0*i.size+j]? = some q->cs[off+j]? = some q)->∀ (j:Nat) y,cells[j]? = some y->∃ q,cs[off+j]? = some q/\CRep σ' μ' w' (Nof S σ' μ' w') y q:=λhst hv j y hj=>by
      obtain ⟨u,hu,hcu⟩:=hcells j y hj
      exact ⟨u,hv j u (by rw [<- hcl];exact (List.getElem?_eq_some_iff.1 hj).1) hu,(hcu.step st1).step hst⟩
    have hsrcv:∀ {cs:Array Value} {off:Nat},(∀ r j x,r<1->(src r)[j]? = some x->∃ q,cs[off+r*i.size+j]? = some q/\DRep w (Nof S σ μ w) x q) ->
        ∀ j q,j<i.size->cs2[base2+0*i.size+j]? = some q->cs[off+j]? = some q:=λh j q hj hq=>by
      obtain ⟨u,hu1,hu2⟩:=s2 0 j (by omega) hj
      obtain ⟨q',h1,h2⟩:=h 0 j _ (by omega) hu1
      rw [hq] at hu2;cases hu2
      have:=vals_at h2
      subst this
      simpa using h1
    have hnew:∀ (L:Nat) ad,L≠l2->a.eval x=.slice ad 0 0->real.room 1 i.bytes->∀ (row:Nat->List DV) (ver:Nat),(σ L).1<ver->K (.c (.nown L 1 ver)) [(L,ver,.nest i.size 1 row (some (0,cells))),(l2,ver2+1,.dead)] ->
        Sound P w0 S nt slots σ a w o K:=λL ad hLl ex hroom row ver hver hk=>by
      obtain ⟨w',v',hr,hcase⟩:=append_none (ty:=o.type) hT hut huu hi hrows hroom ad
      rw [<- ex] at hr
      have hr:=hex _ _ hr
      rcases hcase with ⟨h0,_⟩|⟨cap,cs,⟨_,hcap⟩,rfl,rfl,hfit,hcont⟩
      · omega
      have hfit1:i.size<=cs.size:=by have:=Nat.mul_le_mul_right i.size hcap;omega
      obtain ⟨st,R'⟩:=R1.drew.allocC L ver (by rw [s7 _ _ hLl];exact hver) (.nest i.size 1 row (some (0,cells))) cs e λhst=>
        .inr ⟨w.heap.size,0,cs,e,by simp,v8 w.drew _,by omega,⟨λk hk hn=>(hn ⟨cells,by rw [show k=0 by omega]⟩).elim,λ_ _ _=>False,λk j x hk hn _=>(hn ⟨cells,by rw [show k=0 by omega]⟩).elim,
          λk=>⟨λh=>by simp at h,λ⟨_,_,_,_,_,h⟩=>h.elim⟩,λ_ _ _ _ _ _ _ _ _ _ _ h=>h.elim⟩,by simp,by simp,λk cells' hf=>by
            simp at hf;obtain ⟨rfl,rfl⟩:=hf
            refine ⟨by omega,hcl,λj x hj => ?_⟩
            obtain ⟨q,hq,hcq⟩:=hopen (cs:=cs) (off:=0) (Step.drew (w:=w)) (hsrcv (cs:=cs) (off:=0) (by simpa using hcont)) j x hj
            exact ⟨q,by simpa using hq,hcq.step hst⟩⟩
      refine v5 R' hd (v:=.slice (some ⟨w.heap.size,0,none⟩) 1 cap) (.inl hr) rfl ?_ hk
      refine ⟨rfl,by simp,λsz' n' row' foc' hσ' => ?_⟩
      simp at hσ';obtain ⟨rfl,rfl,rfl,rfl⟩:=hσ'
      exact ⟨rfl,.inr ⟨w.heap.size,0,cap,cs,e,by simp,rfl,hcap,by omega,v8 w.drew _,by omega⟩⟩
    have hne:∀ {L ver:Nat} {o1 o2:HO} {v2:Nat} {x:AV},K x [(L,ver,o1),(l2,v2,o2)]->L≠l2:=λhk e=>by
      have:=hK _ _ hk
      subst e
      simp [u9,l4] at this
    split at h
    · obtain ⟨hroom,hk⟩:=h
      simp only [G.run] at hk
      exact hnew L none (hne hk) (by generalize he:a.eval x=q at hc;cases hc;rfl) hroom _ _ (by omega) hk
    · obtain ⟨hroom,hk⟩:=h
      simp only [G.run] at hk
      obtain ⟨ad,ex⟩:=hc
      exact hnew L ad (hne hk) ex hroom _ _ (by omega) hk
    · rename_i l len ver
      simp only [G.run] at h
      split at h
      · rename_i ver' sz n row hσ
        cases hsz:nbeq sz i.size with
        | false=>rw [hsz] at h;exact h.elim
        | true=>
        rw [hsz] at h
        obtain ⟨hv,hl,hroom,hk⟩:=h
        have hv:ver=ver':=hv
        have hl:len=n:=hl
        have hk:K (.c (.nown l (n+1) (ver+1))) [(l,ver+1,.nest sz (n+1) row (some (n,cells))),(l2,ver2+1,.dead)]:=hk
        have hsz:=i3 hsz
        subst hv hl hsz
        have hll:l≠l2:=λe=>by subst e;rw [hσ] at hσ2;simp at hσ2
        obtain ⟨_,hle,h3⟩:=hc
        obtain ⟨_,h5⟩:=h3 _ _ row _ hσ
        have hσ1:updO σ l2 (ver2+1,HO.dead) l=(ver,.nest i.size len row none):=by rw [s7 _ _ hll,hσ]
        have hlv:m5 σ l:=by simp [m5,hσ]
        have hlv1:m5 (updO σ l2 (ver2+1,HO.dead)) l:=by simp [m5,hσ1]
        have ob:=R.objs l
        rw [hσ] at ob
        rcases h5 with ⟨hm0,rfl,ad,ex⟩|⟨b,base,cap,cs,el,hμ,ex,hcap,hpos,hb,hfitc⟩
        · exact hnew l ad hll ex (by have h1:(0+1)*i.bytes<=140737488355328/\0+1<=140737488355328:=hroom;exact ⟨by have:=h1.1;omega,by omega⟩) row (ver+1) (by rw [hσ];omega) hk
        rcases ob with ⟨h1,_⟩|⟨b',base',cs1,el1,hμ',hb1,hsz0,hkid,hkb,hknd,_⟩
        · rw [hμ] at h1;simp at h1
        rw [hμ] at hμ';simp at hμ';obtain ⟨rfl,rfl⟩:=hμ'
        rw [hb] at hb1;simp at hb1;obtain ⟨rfl,rfl⟩:=hb1
        have hnf:∀ k,¬ isFoc none k:=λk ⟨c,hc⟩=>by cases hc
        obtain ⟨old,o1,o2,o3⟩:=vals_rows (w:=w) (N:=Nof S σ μ w) (cs:=cs) (base:=base) (sz:=i.size) (n:=len) λr j hr hj=>hkid.val hr (hnf r) hj
        obtain ⟨w',v',hr',hcase⟩:=append_own (ty:=o.type) hT hut huu hi hrows hb hcap hfitc o1 o3 hroom
        rw [<- ex] at hr'
        have hr':=hex _ _ hr'
        have hoth:∀ {cs':Array Value} {off:Nat},(∀ r j x,r<len->(old r)[j]? = some x->∃ q,cs'[off+r*i.size+j]? = some q/\DRep w (Nof S σ μ w) x q) ->
            ∀ r j u,r<len->j<i.size->cs[base+r*i.size+j]? = some u->cs'[off+r*i.size+j]? = some u:=λh r j u hr hj hu=>by
          obtain ⟨u',q1,q2⟩:=o2 r j hr hj
          obtain ⟨q,h1,h2⟩:=h r j _ hr q1
          rw [hu] at q2;cases q2
          have:=vals_at h2
          subst this
          exact h1
        have hfn:∀ k,(k<len+1/\¬ isFoc (some (len,cells)) k)↔k<len/\¬ isFoc none k:=λk=>by
          refine ⟨λ⟨h1,h2⟩=>⟨?_,hnf k⟩,λ⟨h1,_⟩=>⟨by omega,λ⟨c,hc⟩=>by simp at hc;omega⟩⟩
          have:k≠len:=λe=>h2 ⟨cells,by rw [e]⟩
          omega
        have hμ1:updP μ l2 none l=some (b,base):=by rw [updP_ne _ _ hll];exact hμ
        have hk1:(updP μ l2 none).k l = μ.k l:=updP_k_ne _ _ hll
        rcases hcase with ⟨hc1,rfl,cs',hs',rfl,c1,c2⟩|⟨cap',cs',⟨hnm,hc1⟩,rfl,rfl,hfit',c1,c2⟩
        · have hmul:=Nat.mul_le_mul_right i.size hc1
          rw [Nat.add_mul] at hmul
          obtain ⟨st,R'⟩:=R1.writeC l (ver+1) (.nest i.size (len+1) row (some (len,cells))) hlv1 (by simp) (λh=>by cases h) (.inl (by rw [hσ1];exact Nat.lt_succ_self _)) hμ1 hb hs'
            λhst=>.inr ⟨b,base,cs',el,hμ1,setRow_heap _ _ _ _ _ _ hb,by rw [Nat.add_mul,hs'];omega,by
              rw [hk1]
              exact (hkid.carry (w':=w.setRow b cs') λb' hb'=>setRow_other _ _ _ _ λeb=>hkb (eb▸hb')).moved hfn λr j u hr _ hj hu=>hoth c1 r j u hr hj hu,by rw [hk1];exact hkb,by rw [hk1];exact hknd,λk cells' hf=>by
                simp at hf;obtain ⟨rfl,rfl⟩:=hf
                refine ⟨by omega,hcl,λj x hj => ?_⟩
                exact hopen (cs:=cs') (off:=base+len*i.size) hst (hsrcv (λr j x hr hj=>by
                  obtain ⟨q,h1,h2⟩:=c2 r j x hr hj
                  exact ⟨q,by rw [<- h1];congr 1;rw [Nat.add_mul];omega,h2⟩)) j x hj⟩
          refine v5 R' hd (v:=.slice (some ⟨b,base,none⟩) (len+1) cap) (.inl hr') rfl ?_ hk
          refine ⟨rfl,by simp,λsz' n' row'' foc' hσ' => ?_⟩
          simp at hσ';obtain ⟨rfl,rfl,rfl,rfl⟩:=hσ'
          exact ⟨rfl,.inr ⟨b,base,cap,cs',el,hμ1,rfl,hc1,hpos,setRow_heap _ _ _ _ _ _ hb,by omega⟩⟩
        · have hmul:=Nat.mul_le_mul_right i.size hc1
          rw [Nat.add_mul] at hmul
          obtain ⟨st,R'⟩:=R1.drew.allocK l (ver+1) (by rw [hσ1];exact Nat.lt_succ_self _) (.nest i.size (len+1) row (some (len,cells))) cs' e (μ.k l) (λb' hb'=>⟨hlv1,by rw [hk1];exact hb'⟩) (λh=>by cases h)
            λhst=>.inr ⟨w.heap.size,0,cs',e,by simp,v8 w.drew _,by rw [Nat.add_mul];omega,by
              rw [updK_k_same]
              exact (hkid.carry (w:=w) (w':=w.drew.alloc (.cells cs' e)) λb' hb'=>heap_alloc_lt w.drew _ (R.ownH l b' hlv (.inr hb')).1).moved hfn λr j u hr _ hj hu=>hoth (by simpa using c1) r j u hr hj hu,by
                rw [updK_k_same];intro hin;have:=(R.ownH l _ hlv (.inr hin)).1;omega,by rw [updK_k_same];exact hknd,λk cells' hf=>by
                simp at hf;obtain ⟨rfl,rfl⟩:=hf
                refine ⟨by omega,hcl,λj x hj => ?_⟩
                obtain ⟨q,hq,hcq⟩:=hopen (cs:=cs') (off:=0+len*i.size) (Step.drew (w:=w)) (hsrcv (λr j x hr hj=>by
                  obtain ⟨q,h1,h2⟩:=c2 r j x hr hj
                  exact ⟨q,by rw [<- h1];congr 1;rw [Nat.add_mul];omega,h2⟩)) j x hj
                exact ⟨q,hq,hcq.step hst⟩⟩
          refine v5 R' hd (v:=.slice (some ⟨w.heap.size,0,none⟩) (len+1) cap') (.inl hr') rfl ?_ hk
          refine ⟨rfl,by simp,λsz' n' row'' foc' hσ' => ?_⟩
          simp at hσ';obtain ⟨rfl,rfl,rfl,rfl⟩:=hσ'
          exact ⟨rfl,.inr ⟨w.heap.size,0,cap',cs',e,by simp,rfl,hc1,by omega,v8 w.drew _,by omega⟩⟩
      · exact h.elim
    · exact h.elim
  · exact h.elim
theorem sound_append (hT:TTok P T) (R:RelM w0 S nt (i5 slots) σ a w μ) (hd:∀ d,o.dst=some d->d<nt) {args:Array Operand} {ts:Array TypeId} (ho:o.op=.call ⟨.builtin .append,args,ts⟩)
    (hK:∀ x us,K x us->u9 us=true) (h:(t6 real T EX o true (rho slots)).run σ (OpOut.run M σ K)):Sound P w0 S nt slots σ a w o K:=by
  simp only [t6,ho] at h
  split at h
  · rename_i x y t u hargs ht hu'
    rw [G.run_bind] at h
    obtain ⟨iu,hiu,h1⟩:=tiv_run h
    clear h
    split at h1
    · rename_i ui hdu
      rw [G.run_bind] at h1
      obtain ⟨it,e,i,hit,hdesc,hi,h⟩:=elemv_run h1
      clear h1
      have hut:P.underlying t=some (.slice e):=by rw [hT.desc t it hit,hdesc]
      have huu:P.underlying u=some (.slice ui):=by rw [hT.desc u iu hiu,hdu]
      rw [G.run_bind] at h
      obtain ⟨c,hc,h1⟩:=cellv_run h (p8 R x)
      clear h
      rw [G.run_bind] at h1
      obtain ⟨d,hdd,h⟩:=cellv_run h1 (p8 R y)
      clear h1
      have hrw:∀ d,(∀ l len ver,d≠CV.nown l len ver)->(match d with
          | .nown l2 _ ver2=>nestApp real (o.dst.getD 0*64+baseOf EX) i c l2 ver2
          | b=>(rowsv real i b).bind λnew=>appendSem real (o.dst.getD 0*64+baseOf EX) i c new.1 new.2)=(rowsv real i d).bind λnew=>appendSem real (o.dst.getD 0*64+baseOf EX) i c new.1 new.2:=by
        intro d hd
        cases d with
        | nown l len ver=>exact (hd l len ver rfl).elim
        | _=>rfl
      by_cases hnw:∃ l len ver,d=CV.nown l len ver
      · obtain ⟨l2,len2,ver2,rfl⟩:=hnw
        exact sound_nestApp (EX:=EX) (M:=M) hT R hd ho hargs ht hu' hi hut huu hc hdd h hK
      · refine sound_append_rows (EX:=EX) (M:=M) hT R hd ho hargs ht hu' hi hut huu hc hdd ?_
        rw [<- hrw d λl len ver e=>hnw ⟨l,len,ver,e⟩]
        exact h
    · exact h1.elim
  · exact h.elim
theorem sound_clear (hT:TTok P T) (R:RelM w0 S nt (i5 slots) σ a w μ) (hd:∀ d,o.dst=some d->d<nt) {args:Array Operand} {ts:Array TypeId} (ho:o.op=.call ⟨.builtin .clear,args,ts⟩)
    (h:(t6 real T EX o true (rho slots)).run σ (OpOut.run M σ K)):Sound P w0 S nt slots σ a w o K:=by
  simp only [t6,ho] at h
  split at h
  · rename_i x t hargs ht
    rw [G.run_bind] at h
    obtain ⟨it,e,i,hit,hdesc,hi,h1⟩:=elemv_run h
    clear h
    have hut:P.underlying t=some (.slice e):=by rw [hT.desc t it hit,hdesc]
    rw [G.run_bind] at h1
    obtain ⟨c,hc,h⟩:=cellv_run h1 (p8 R x)
    clear h1
    have ha:args = #[x]:=by apply Array.ext';simpa using hargs
    subst ha
    obtain ⟨inf,z,e1,e2,e3,e4,e5,e6,e7⟩:=hT.info e i hi
    have hex:∀ v' w',(Builtin.clear_ #[t] o.type #[a.eval x]).run P w=.ok v' w'->(execOp a.eval o).run P w=.ok (.value v') w':=by
      intro v' w' hv
      have:(Builtin.clear_ ts o.type #[a.eval x]).run P w=.ok v' w':=by
        rw [<- hv];unfold Builtin.clear_;simp [ht]
      simp [execOp,ho,resolve,invoke,builtin,this]
    split at h
    · rename_i l off len ver
      simp only [G.run] at h
      split at h
      · rename_i ver' sz n row hσ
        cases hsz:nbeq sz i.size with
        | false=>rw [hsz] at h;exact h.elim
        | true=>
          rw [hsz] at h
          have hsz:=i3 hsz
          subst hsz
          obtain ⟨hv,hK⟩:=h
          have hv:ver=ver':=hv
          subst hv
          have hK:K (.c .junk) [(l,ver,.arr i.size n (real.app off row (real.app len (real.rep (i.zero.map .v)) (real.sub (off+len) row))))]:=hK
          obtain ⟨_,hle,h3⟩:=hc
          obtain ⟨h4,h5⟩:=h3 _ n row hσ
          have hnone:len=0->(∃ ad cap,a.eval x=.slice ad 0 cap)->Sound P w0 S nt slots σ a w o K:=by
            rintro rfl ⟨ad,cap,ex⟩
            have erow:real.app off row (real.app 0 (real.rep (i.zero.map .v)) (real.sub (off+0) row))=row:=by
              funext r
              show (if r<off then row r else if r-off<0 then i.zero.map DV.v else row (off+0+(r-off-0)))=row r
              by_cases c:r<off
              · rw [if_pos c]
              · rw [if_neg c,if_neg (by omega)];congr 1;omega
            rw [erow] at hK
            have eσ:updO σ l (ver,.arr i.size n row) = σ:=by
              funext k
              by_cases ek:k=l
              · subst ek;rw [updO_same,hσ]
              · rw [s7 _ _ ek]
            refine v5 (x:=.c .junk) (v:=.tuple #[]) R hd (.inl (hex _ _ ?_)) ?_ trivial hK
            · rw [ex]
              unfold Builtin.clear_
              cases ad<;>simp [underlying,hut]
            · exact eσ
          rcases h5 with ⟨_,h0,ad,ex⟩|⟨b,base,o',cap,cs,e',hμ,ex,hcap,ho',hb,hfitc,hpos⟩
          · exact hnone h0 ⟨ad,0,ex⟩
          by_cases hl0:len=0
          · exact hnone hl0 ⟨_,cap,by rw [ex,hl0]⟩
          have eo:=ho' (.inl (by omega))
          have ob:=R.objs l
          rw [hσ] at ob
          obtain ⟨hr,ob⟩:=ob
          rcases ob with ⟨h1,_⟩|⟨b',base',cs1,e1',hμ',hb1,hsz0,hcs⟩
          · rw [hμ] at h1;simp at h1
          rw [hμ] at hμ';simp at hμ';obtain ⟨rfl,rfl⟩:=hμ'
          rw [hb] at hb1;simp at hb1;obtain ⟨rfl,rfl⟩:=hb1
          have hzs:z.cells.size=i.size:=by rw [<- e6,<- e5];simp
          have hmul:len*i.size<=cap*i.size:=Nat.mul_le_mul_right _ hcap
          have hzl:(Builtin.zeroCells z.cells len).toList.length=len*i.size:=by rw [Array.length_toList,size_zeroCells,hzs]
          have hzget:∀ k,k<len*i.size->(Builtin.zeroCells z.cells len).toList[k]? = z.cells[k % i.size]? := λk hk=>by
            have hp:0<i.size:=Nat.pos_of_ne_zero λh=>by simp [h] at hk
            have hm:k % i.size<z.cells.size:=by rw [hzs];exact Nat.mod_lt _ hp
            have e1:z.cells[k % i.size]? = some z.cells[k % i.size]:=Array.getElem?_eq_getElem hm
            have e2:z.cells[k % i.size]! = z.cells[k % i.size]:=by rw [getElem!_def,e1]
            rw [e1,Array.getElem?_toList]
            simp [Builtin.zeroCells,hzs,hk,e2]
          have hzone:∀ u∈(Builtin.zeroCells z.cells len).toList,u.oneCell'=true:=λu hu=>by
            obtain ⟨k,hk,rfl⟩:=List.mem_iff_getElem.1 hu
            have:=hzget k (by rw [<- hzl];exact hk)
            rw [List.getElem?_eq_getElem hk] at this
            refine e7 _ ?_
            rw [<- e5]
            exact List.mem_of_getElem? (i:=k % i.size) (by rw [Array.getElem?_toList];exact this.symm)
          have hfit:o'+(Builtin.zeroCells z.cells len).toList.length<=cs.size:=by rw [hzl];omega
          have hst:=run_storeCells_at P b o' e' (Builtin.zeroCells z.cells len).toList 0 cs w hb (by simpa using hfit) hzone
          simp only [Nat.add_zero] at hst
          have hcs:∀ r j y,r<n->(row r)[j]? = some y->∃ u,cs[base+r*i.size+j]? = some u/\DRep w (Nof S σ μ w) y u:=hcs
          obtain ⟨st,R'⟩:=R.write l ver (.arr i.size n (real.app off row (real.app len (real.rep (i.zero.map .v)) (real.sub (off+len) row)))) (by simp [m5,hσ]) (by simp)
            (.inr ⟨by rw [hσ],λ_ h=>by simp at h,λsz' n' row' h=>by simp at h;obtain ⟨rfl,rfl,_⟩:=h;exact ⟨n,row,by rw [hσ],Nat.le_refl _⟩⟩) hμ hb (spliced_size _ _ _ hfit)
            ⟨λr hr1=>by
                show (if r<off then row r else (if r-off<len then i.zero.map DV.v else row (off+len+(r-off-len)):List DV)).length=i.size
                by_cases c1:r<off
                · rw [if_pos c1];exact hr r hr1
                · rw [if_neg c1]
                  by_cases c2:r-off<len
                  · rw [if_pos c2];simp [e6]
                  · rw [if_neg c2];exact hr _ (by omega),by rw [spliced_size _ _ _ hfit];exact hsz0,λr j y hr1 hj=>by
              have hj:(if r<off then row r else if r-off<len then i.zero.map DV.v else row (off+len+(r-off-len)))[j]? = some y:=hj
              rw [spliced_get _ _ _ _ hfit,hzl,eo]
              have hrj:∀ q,r<n->(row q).length=i.size->(row q)[j]? = some y->j<i.size:=λq _ hq hj=>by rw [<- hq];exact (List.getElem?_eq_some_iff.1 hj).1
              by_cases c1:r<off
              · rw [if_pos c1] at hj
                have hjs:=hrj r hr1 (hr r hr1) hj
                have:(r+1)*i.size<=off*i.size:=Nat.mul_le_mul_right _ c1
                rw [Nat.add_mul] at this
                rw [if_pos (by omega)]
                exact hcs r j y hr1 hj
              · rw [if_neg c1] at hj
                by_cases c2:r-off<len
                · rw [if_pos c2] at hj
                  have hj:(i.zero.map DV.v)[j]? = some y:=hj
                  simp only [List.getElem?_map,Option.map_eq_some_iff] at hj
                  obtain ⟨v,hv,rfl⟩:=hj
                  have hjl:j<i.size:=by rw [<- e6];exact (List.getElem?_eq_some_iff.1 hv).1
                  have h1:off*i.size<=r*i.size:=Nat.mul_le_mul_right _ (by omega)
                  have h2:(r+1)*i.size<=(off+len)*i.size:=Nat.mul_le_mul_right _ (by omega)
                  rw [Nat.add_mul,Nat.add_mul] at h2
                  refine ⟨v,?_,DRep.v v (e7 v (List.mem_of_getElem? hv))⟩
                  rw [if_neg (by omega),if_pos (by omega),hzget _ (by omega)]
                  have:base+r*i.size+j-(base+off*i.size)=j+(r-off)*i.size:=by rw [Nat.sub_mul];omega
                  rw [this,Nat.add_mul_mod_self_right,Nat.mod_eq_of_lt hjl,<- Array.getElem?_toList,e5];exact hv
                · rw [if_neg c2,show off+len+(r-off-len)=r by omega] at hj
                  have h2:(off+len)*i.size<=r*i.size:=Nat.mul_le_mul_right _ (by omega)
                  rw [Nat.add_mul] at h2
                  rw [if_neg (by omega),if_neg (by omega)]
                  exact hcs r j y hr1 hj⟩
          refine v5 (x:=.c .junk) (v:=.tuple #[]) R' hd (.inl (hex _ _ ?_)) rfl trivial hK
          obtain ⟨len',rfl⟩:∃ k,len=k+1:=⟨len-1,by omega⟩
          rw [ex]
          simp [Builtin.clear_,underlying,hut,e4,zeroValue,typeInfo,e1,hst]
      · exact h.elim
    · exact h.elim
  · exact h.elim
theorem sound_copy (hT:TTok P T) (R:RelM w0 S nt (i5 slots) σ a w μ) (hd:∀ d,o.dst=some d->d<nt) {args:Array Operand} {ts:Array TypeId} (ho:o.op=.call ⟨.builtin .copy,args,ts⟩)
    (h:(t6 real T EX o true (rho slots)).run σ (OpOut.run M σ K)):Sound P w0 S nt slots σ a w o K:=by
  simp only [t6,ho] at h
  split at h
  · rename_i x y t u hargs ht hu'
    rw [G.run_bind] at h
    obtain ⟨iu,hiu,h1⟩:=tiv_run h
    clear h
    split at h1
    · rename_i ui hdu
      rw [G.run_bind] at h1
      obtain ⟨it,e,i,hit,hdesc,hi,h⟩:=elemv_run h1
      clear h1
      have hut:P.underlying t=some (.slice e):=by rw [hT.desc t it hit,hdesc]
      rw [G.run_bind] at h
      obtain ⟨c,hc,h1⟩:=cellv_run h (p8 R x)
      clear h
      rw [G.run_bind] at h1
      obtain ⟨d,hdd,h⟩:=cellv_run h1 (p8 R y)
      clear h1
      rw [G.run_bind] at h
      obtain ⟨m,src,hrows,h1⟩:=rowsv_run R hdd h
      clear h
      have ha:args = #[x,y]:=by apply Array.ext';simpa using hargs
      subst ha
      have hex:∀ v' w',(Builtin.copy_ #[t,u] o.type #[a.eval x,a.eval y]).run P w=.ok v' w'->(execOp a.eval o).run P w=.ok (.value v') w':=by
        intro v' w' hv
        have:(Builtin.copy_ ts o.type #[a.eval x,a.eval y]).run P w=.ok v' w':=by
          rw [<- hv]
          unfold Builtin.copy_
          simp [ht]
        simp [execOp,ho,resolve,invoke,builtin,this]
      unfold copySem at h1
      split at h1
      · rename_i l off len ver
        simp only [G.run] at h1
        split at h1
        · rename_i ver' sz n row hσ
          cases hsz:nbeq sz i.size with
          | false=>rw [hsz] at h1;exact h1.elim
          | true=>
          rw [hsz] at h1
          obtain ⟨hv,hk⟩:=h1
          have hv:ver=ver':=hv
          have hsz:=i3 hsz
          subst hv hsz
          obtain ⟨k,hkd⟩:∃ k,k=Nat.min m len:=⟨_,rfl⟩
          have hmn:real.mn (real.int len) (real.int m)=(k:Int):=by
            show (if (m:Int)<(len:Int) then (m:Int) else (len:Int))=_
            rw [hkd]
            show _=((min m len:Nat):Int)
            split<;>omega
          have hk:K (.c (.d (.v (.int .i64 (real.mn (real.int len) (real.int m)))))) [(l,ver,.arr i.size n (real.app off row (real.app (real.nat (real.mn (real.int len) (real.int m))) src (real.sub (real.add off (real.nat (real.mn (real.int len) (real.int m)))) row))))]:=hk
          rw [hmn,show real.nat (k:Int)=k from Int.toNat_natCast k] at hk
          have hkm:k<=m/\k<=len:=by rw [hkd];exact ⟨Nat.min_le_left _ _,Nat.min_le_right _ _⟩
          obtain ⟨_,hle,h3⟩:=hc
          obtain ⟨h4,h5⟩:=h3 _ n row hσ
          have hsl:∃ ad cap,a.eval y=.slice ad m cap:=by
            rcases hrows.2 with ⟨rfl,ad,cap,e1⟩|⟨b,o2,cap,cs,e2,fr,e1,_⟩
            · exact ⟨ad,cap,e1⟩
            · exact ⟨_,cap,e1⟩
          obtain ⟨sad,scap,ey⟩:=hsl
          by_cases hk0:k=0
          · have hnone:∀ ad cap,a.eval x=.slice ad len cap->Sound P w0 S nt slots σ a w o K:=λad cap ex=>by
              have erow:real.app off row (real.app 0 src (real.sub (off+0) row))=row:=by
                funext r
                show (if r<off then row r else if r-off<0 then src (r-off) else row (off+0+(r-off-0)))=row r
                by_cases c:r<off
                · rw [if_pos c]
                · rw [if_neg c,if_neg (by omega)];congr 1;omega
              have eσ:updO σ l (ver,.arr i.size n row) = σ:=by
                funext q
                by_cases ek:q=l
                · subst ek;rw [updO_same,hσ]
                · rw [s7 _ _ ek]
              rw [hk0] at hk
              have hk:K (.c (.d (.v (.int .i64 0)))) [(l,ver,.arr i.size n (real.app off row (real.app 0 src (real.sub (off+0) row))))]:=hk
              rw [erow] at hk
              refine v5 (x:=.c (.d (.v (.int .i64 0)))) (v:=.int .i64 0) R hd (.inl (hex _ _ ?_)) ?_ (DRep.v _ rfl) hk
              · have hl0:∀ (q:Addr),(loadCells q 0).run P w=.ok #[] w:=λq=>by simpa using run_loadCells_list (P:=P) w q [] (by simp)
                have hmin:Nat.min m len=0:=by rw [<- hkd];exact hk0
                have hmin':min m len=0:=hmin
                rw [ex,ey]
                cases ad<;>cases sad<;>simp [Builtin.copy_,underlying,hut,Builtin.lenOf,Builtin.firstCells,sizeOf_run hT hi,hmin,hmin',hl0,storeCells,goInt]
              · exact eσ
            rcases h5 with ⟨_,h0,ad,ex⟩|⟨b,base,o',cap,cs,e',hμ,ex,hcap,ho',hb,hfitc,hpos⟩
            · exact hnone ad 0 (by rw [ex,h0])
            · exact hnone _ cap ex
          rcases h5 with ⟨_,h0,ad,ex⟩|⟨b,base,o',cap,cs,e',hμ,ex,hcap,ho',hb,hfitc,hpos⟩
          · omega
          have eo:=ho' (.inl (by omega))
          have ob:=R.objs l
          rw [hσ] at ob
          obtain ⟨hr,ob⟩:=ob
          rcases ob with ⟨h1,_⟩|⟨b',base',cs1,e1',hμ',hb1,hsz0,hcs⟩
          · rw [hμ] at h1;simp at h1
          rw [hμ] at hμ';simp at hμ';obtain ⟨rfl,rfl⟩:=hμ'
          rw [hb] at hb1;simp at hb1;obtain ⟨rfl,rfl⟩:=hb1
          rcases hrows.2 with ⟨h0,_⟩|⟨b2,o2,cap2,cs2,el2,fr2,ey2,hb2,hc2⟩
          · omega
          obtain ⟨news,n1,n2,n3,n4⟩:=rows_flat (w:=w) (N:=Nof S σ μ w) (n:=k) (row:=src) (λr hr=>hrows.1 r (by omega)) (λr j x hr hj=>hc2 r j x (by omega) hj)
          have hmul:k*i.size<=cap*i.size:=Nat.mul_le_mul_right _ (by omega)
          have hfit:o'+news.length<=cs.size:=by rw [n1];omega
          have hst:=run_storeCells_at P b o' e' news 0 cs w hb (by simpa using hfit) n3
          simp only [Nat.add_zero] at hst
          have hcs:∀ r j y,r<n->(row r)[j]? = some y->∃ u,cs[base+r*i.size+j]? = some u/\DRep w (Nof S σ μ w) y u:=hcs
          obtain ⟨st,R'⟩:=R.write l ver (.arr i.size n (real.app off row (real.app k src (real.sub (off+k) row)))) (by simp [m5,hσ]) (by simp)
            (.inr ⟨by rw [hσ],λ_ h=>by simp at h,λsz' n' row' h=>by simp at h;obtain ⟨rfl,rfl,_⟩:=h;exact ⟨n,row,by rw [hσ],Nat.le_refl _⟩⟩) hμ hb (spliced_size _ _ _ hfit)
            ⟨λr hr1=>by
                show (if r<off then row r else (if r-off<k then src (r-off) else row (off+k+(r-off-k))):List DV).length=i.size
                by_cases c1:r<off
                · rw [if_pos c1];exact hr r hr1
                · rw [if_neg c1]
                  by_cases c2:r-off<k
                  · rw [if_pos c2];exact hrows.1 _ (by omega)
                  · rw [if_neg c2];exact hr _ (by omega),by rw [spliced_size _ _ _ hfit];exact hsz0,λr j y hr1 hj=>by
              have hj:(if r<off then row r else if r-off<k then src (r-off) else row (off+k+(r-off-k)))[j]? = some y:=hj
              rw [spliced_get _ _ _ _ hfit,n1,eo]
              have hrj:∀ q,r<n->(row q).length=i.size->(row q)[j]? = some y->j<i.size:=λq _ hq hj=>by rw [<- hq];exact (List.getElem?_eq_some_iff.1 hj).1
              by_cases c1:r<off
              · rw [if_pos c1] at hj
                have hjs:=hrj r hr1 (hr r hr1) hj
                have:(r+1)*i.size<=off*i.size:=Nat.mul_le_mul_right _ c1
                rw [Nat.add_mul] at this
                rw [if_pos (by omega)]
                exact hcs r j y hr1 hj
              · rw [if_neg c1] at hj
                by_cases c2:r-off<k
                · rw [if_pos c2] at hj
                  obtain ⟨u,hu,hdu⟩:=n4 _ j y c2 hj
                  have hjl:=(List.getElem?_eq_some_iff.1 hu).1
                  have h1:off*i.size<=r*i.size:=Nat.mul_le_mul_right _ (by omega)
                  have e3:(r-off)*i.size=r*i.size-off*i.size:=Nat.sub_mul _ _ _
                  refine ⟨u,?_,hdu⟩
                  rw [if_neg (by omega),if_pos (by omega),<- hu]
                  congr 1;omega
                · rw [if_neg c2,show off+k+(r-off-k)=r by omega] at hj
                  have h2:(off+k)*i.size<=r*i.size:=Nat.mul_le_mul_right _ (by omega)
                  rw [Nat.add_mul] at h2
                  rw [if_neg (by omega),if_neg (by omega)]
                  exact hcs r j y hr1 hj⟩
          refine v5 (x:=.c (.d (.v (.int .i64 k)))) (v:=.int .i64 k) R' hd (.inl (hex _ _ ?_)) rfl (DRep.v _ rfl) hk
          have hmin:Nat.min m len=k:=hkd.symm
          have hmin':min m len=k:=hmin
          have hload:=run_loadCells_list (P:=P) w ⟨b2,o2,none⟩ news (λj v hj=>by rw [add_off,cell_at hb2];exact n2 j v hj)
          rw [n1] at hload
          rw [ex,ey2]
          simp [Builtin.copy_,underlying,hut,Builtin.lenOf,Builtin.firstCells,sizeOf_run hT hi,hmin,hmin',hload,hst,goInt]
        · exact h1.elim
      · exact h1.elim
    · exact h1.elim
  · exact h.elim
end
def OwnRep (w:World) (N:Nat->Prop) (sz n:Nat) (row:Nat->List DV) (v:Value) (F:List Nat):Prop:=
  (∀ i,i<n->(row i).length=sz)/\((n=0/\F=[]/\∃ ad,v=.slice ad 0 0) \/
    ∃ b base cap cs e,F=[b]/\v=.slice (some ⟨b,base,none⟩) n cap/\0<cap/\n<=cap/\w.heap[b]? = some (.cells cs e (0,0))/\base+cap*sz<=cs.size /\
      ∀ i j x,i<n->(row i)[j]? = some x->∃ u,cs[base+i*sz+j]? = some u/\DRep w N x u)
def NestRep (w:World) (sz n:Nat) (row:Nat->List DV) (v:Value) (F:List Nat):Prop:=
  F.Nodup/\NRep w (.sl sz n row) v (λb=>b∈F)/\∀ b base cap,v=.slice (some ⟨b,base,none⟩) n cap->0<cap->∃ F',F=b::F'
def XCRep (w:World) (N:Nat->Prop):XC->Value->List Nat->Prop
  | .d x,v,F=>F=[]/\DRep w N x v
  | .own sz n row,v,F=>OwnRep w N sz n row v F
def XCsRep (w:World) (N:Nat->Prop):List XC->List Value->List Nat->Prop
  | [],[],F=>F=[]
  | x::r,v::s,F=>∃ F1 F2,F=F1++F2/\XCRep w N x v F1/\XCsRep w N r s F2
  | _,_,_=>False
def XVRep (w:World) (N:Nat->Prop):XV->Value->List Nat->Prop
  | .d x,v,F=>F=[]/\DRep w N x v
  | .own sz n row,v,F=>OwnRep w N sz n row v F
  | .box cells,v,F=>∃ b cs e F',F=b::F'/\v=.pointer (some ⟨b,0,none⟩)/\w.heap[b]? = some (.cells cs e (0,0))/\XCsRep w N cells cs.toList F'
  | .nown sz n row,v,F=>NestRep w sz n row v F
def XVsRep (w:World) (N:Nat->Prop):List XV->List Value->List Nat->Prop
  | [],[],F=>F=[]
  | x::r,v::s,F=>∃ F1 F2,F=F1++F2/\XVRep w N x v F1/\XVsRep w N r s F2
  | _,_,_=>False
def XTRep (w:World) (N:Nat->Prop):XT->Value->List Nat->Prop
  | .c x,v,F=>XVRep w N x v F
  | .agg xs,v,F=>∃ cs,v=.agg cs/\XVsRep w N xs cs.toList F
def XTsRep (w:World) (N:Nat->Prop):List XT->List Value->List Nat->Prop
  | [],[],F=>F=[]
  | x::r,v::s,F=>∃ F1 F2,F=F1++F2/\XTRep w N x v F1/\XTsRep w N r s F2
  | _,_,_=>False
def XARep (w:World) (N:Nat->Prop):XA->Value->List Nat->Prop
  | .one x,v,F=>XTRep w N x v F
  | .tup xs,v,F=>∃ cs,v=.tuple cs/\XTsRep w N xs cs.toList F
def BackRep (w:World) (N:Nat->Prop):List (Option XV)->List Value->List Nat->Prop
  | [],[],F=>F=[]
  | none::r,_::s,F=>BackRep w N r s F
  | some x::r,v::s,F=>∃ F1 F2,F=F1++F2/\XVRep w N x v F1/\BackRep w N r s F2
  | _,_,_=>False
def blkP (m:Option (Nat × Nat)) (k:List Nat):List Nat:=(m.map (·.1)).toList++k
theorem mem_blkP {m:Option (Nat × Nat)} {k:List Nat} {b:Nat}:b∈blkP m k↔(∃ base,m=some (b,base))\/b∈k:=by
  unfold blkP
  rw [List.mem_append]
  cases m with
  | none=>simp
  | some q=>obtain ⟨q1,q2⟩:=q;simp [eq_comm]
def blk (μ:Place) (ls:List (Nat × Nat)):List Nat:=ls.flatMap λp=>blkP (μ p.1) (μ.k p.1)
theorem blk_append (μ:Place) (a b:List (Nat × Nat)):blk μ (a++b)=blk μ a++blk μ b:=by simp [blk]
theorem blk_one (μ:Place) (p:Nat × Nat):blk μ [p]=blkP (μ p.1) (μ.k p.1):=by simp [blk]
def Valid (σ:p9) (p:Nat × Nat):Prop:=m5 σ p.1/\(σ p.1).1=p.2
section
variable {P:Program} {T:TypeId->Option TI}
variable {w0:World} {S:Sets} {nt:Nat} {slots:List (Nat × AV)} {σ:p9} {a:Act} {w:World} {μ:Place}
theorem DRep.mono {N N':Nat->Prop} (h:∀ b,N b->N' b) {x:DV} {v:Value} (hx:DRep w N x v):DRep w N' x v:=hx.carry λb hb=>⟨rfl,h b hb⟩
theorem own_whole (R:RelM w0 S nt (i5 slots) σ a w μ) {l len ver sz n:Nat} {row:Nat->List DV} {v:Value} (hσ : σ l=(ver,.arr sz n row))
    (hx:CRep σ μ w (Nof S σ μ w) (.own l 0 len ver) v) {N:Nat->Prop} (hN:∀ b,Nof S σ μ w b->N b):OwnRep w N sz len row v (blk μ [(l,ver)]):=by
  obtain ⟨hle,h⟩:=hx.2.2 sz n row hσ
  have ob:=R.objs l
  have hkz:=R.kz l (by simp [m5,hσ]) (by rw [hσ];rfl)
  rw [hσ] at ob
  refine ⟨λi hi=>ob.1 i (by omega),?_⟩
  rcases h with ⟨hm,rfl,ad,rfl⟩|⟨b,base,o,cap,cs,e,hm,rfl,hc,ho,hb,hs,hpos⟩
  · exact .inl ⟨rfl,by simp [blk,blkP,hm,hkz],ad,rfl⟩
  · have ho:=ho (.inr rfl)
    simp at ho;subst ho
    rcases ob.2 with ⟨h1,_⟩|⟨b',base',cs1,e1,hm',hb1,hs0,hcs⟩
    · rw [hm] at h1;simp at h1
    rw [hm] at hm';simp at hm';obtain ⟨rfl,rfl⟩:=hm'
    rw [hb] at hb1;simp at hb1;obtain ⟨rfl,rfl⟩:=hb1
    refine .inr ⟨b,o,cap,cs,e,by simp [blk,blkP,hm,hkz],rfl,hpos rfl,hc,hb,hs,λi j x hi hj => ?_⟩
    obtain ⟨u,hu,hd⟩:=hcs i j x (by omega) hj
    exact ⟨u,hu,hd.mono hN⟩
theorem nest_whole (R:RelM w0 S nt (i5 slots) σ a w μ) {l len ver sz n:Nat} {row:Nat->List DV} {v:Value} (hσ : σ l=(ver,.nest sz n row none))
    (hx:CRep σ μ w (Nof S σ μ w) (.nown l len ver) v):NestRep w sz len row v (blk μ [(l,ver)]):=by
  obtain ⟨rfl,h⟩:=hx.2.2 sz n row none hσ
  have ob:=R.objs l
  rw [hσ] at ob
  rw [blk_one]
  show NestRep w sz len row v (blkP (μ l) (μ.k l))
  rcases h with ⟨hm,h0,ad,rfl⟩|⟨b,base,cap,cs,e,hm,rfl,hc,hp,hb,hs⟩
  · rcases ob with ⟨_,_,_,hk⟩|⟨b',base',cs1,e1,hm',_⟩
    · refine ⟨by simp [blkP,hm,hk],?_,λb base cap e hc => ?_⟩
      · rw [h0];exact .nil _ _ _ _ λk=>by simp [blkP,hm,hk]
      · simp at e;omega
    · rw [hm] at hm';cases hm'
  · rcases ob with ⟨h1,_⟩|⟨b',base',cs1,e1,hm',hb1,hs0,⟨k0,G,k1,k2,k3⟩,hkb,hknd,_⟩
    · rw [hm] at h1;cases h1
    rw [hm] at hm';simp at hm';obtain ⟨rfl,rfl⟩:=hm'
    rw [hb] at hb1;simp at hb1;obtain ⟨rfl,rfl⟩:=hb1
    have hnf:∀ k,¬ isFoc none k:=λk ⟨c,hc⟩=>by cases hc
    have hF:∀ k,k∈blkP (μ l) (μ.k l)↔k=b\/∃ i j,i<len/\j<sz/\G i j k:=λk=>by
      have k2k:k ∈ μ.k l↔_:=k2 k
      rw [mem_blkP,hm,k2k]
      constructor
      · rintro (⟨base',e⟩|⟨i,j,q1,_,q2,q3⟩)
        · simp at e;exact .inl e.1.symm
        · exact .inr ⟨i,j,q1,q2,q3⟩
      · rintro (rfl|⟨i,j,q1,q2,q3⟩)
        · exact .inl ⟨base,rfl⟩
        · exact .inr ⟨i,j,q1,hnf i,q2,q3⟩
    refine ⟨by simp [blkP,hm,hkb,hknd],.sl sz len row b base cap cs e (λi j=>cs.getD (base+i*sz+j) undef) G _ hb hc hp hs (λi hi=>k0 i hi (hnf i)) (λi j x hi hj => ?_) (λi j x hi hj => ?_) hF (λi j i' j' k q1 q2 q3 q4 q5 q6=>k3 i j i' j' k q1 (hnf i) q2 q3 (hnf i') q4 q5 q6) (λi j hi hj hg=>hkb ((k2 b).2 ⟨i,j,hi,hnf i,hj,hg⟩)),λb2 base2 cap2 e2 _ => ?_⟩
    · obtain ⟨u,hu,_⟩:=k1 i j x hi (hnf i) hj
      rw [hu,Array.getD_eq_getD_getElem?,hu];rfl
    · obtain ⟨u,hu,hd⟩:=k1 i j x hi (hnf i) hj
      rw [Array.getD_eq_getD_getElem?,hu];exact hd
    · simp at e2;obtain ⟨⟨rfl,rfl⟩,_⟩:=e2
      exact ⟨μ.k l,by simp [blkP,hm]⟩
theorem giveCells_spec (R:RelM w0 S nt (i5 slots) σ a w μ):∀ {cells:List CV} {vs:List Value} {Q:List XC × List (Nat × Nat)->Prop},(giveCells real cells).run σ Q->CsRep σ μ w (Nof S σ μ w) cells vs ->
    ∃ xs ls,Q (xs,ls)/\(∀ p∈ls,Valid σ p)/\∀ N:Nat->Prop,(∀ b,Nof S σ μ w b->N b)->XCsRep w N xs vs (blk μ ls)
  | [],[],Q,h,_=>⟨[],[],h,λp hp=>by simp at hp,λN _=>rfl⟩
  | [],_::_,_,_,h=>h.elim
  | _::_,[],_,_,h=>h.elim
  | x::r,v::s,Q,h,hc=>by
    unfold giveCells at h
    cases x with
    | d x=>
      simp only [G.run_bind] at h
      obtain ⟨xs,ls,hq,hv,hN⟩:=giveCells_spec R h hc.2
      exact ⟨_,_,hq,hv,λN hn=>⟨[],_,rfl,⟨rfl,DRep.mono hn hc.1⟩,hN N hn⟩⟩
    | own l off len ver=>
      simp only [G.run] at h
      split at h
      · rename_i ver' sz n row hσ
        obtain ⟨h1,h2,h⟩:=h
        have h1:ver=ver':=h1
        have h2:off=0:=h2
        subst h1 h2
        rw [G.run_bind] at h
        obtain ⟨xs,ls,hq,hv,hN⟩:=giveCells_spec R h hc.2
        refine ⟨_,_,hq,λp hp => ?_,λN hn=>⟨blk μ [(l,ver)],blk μ ls,by rw [<- blk_append];rfl,own_whole R hσ hc.1 hn,hN N hn⟩⟩
        rcases List.mem_cons.1 hp with rfl|hp
        · exact ⟨by simp [m5,hσ],by simp [hσ]⟩
        · exact hv p hp
      · exact h.elim
    | _=>exact h.elim
theorem readOwn_spec (R:RelM w0 S nt (i5 slots) σ a w μ) {l off len ver:Nat} {v:Value} {Q:DV->Prop} (h:(readOwn real l off len ver).run σ Q) (hx:CRep σ μ w (Nof S σ μ w) (.own l off len ver) v) :
    ∃ x,Q x/\Valid σ (l,ver)/\∀ N:Nat->Prop,(∀ b,Nof S σ μ w b->N b)->(∀ b base,μ l=some (b,base)->N b)->DRep w N x v:=by
  unfold readOwn at h
  simp only [G.run] at h
  split at h
  · rename_i ver' sz n row hσ
    obtain ⟨h1,h⟩:=h
    have h1:ver=ver':=h1
    subst h1
    refine ⟨_,h,⟨by simp [m5,hσ],by simp [hσ]⟩,λN hn hl => ?_⟩
    obtain ⟨h4,h5⟩:=hx.2.2 sz n row hσ
    have ob:=R.objs l
    rw [hσ] at ob
    rcases h5 with ⟨hm,rfl,ad,rfl⟩|⟨b,base,o,cap,cs,e,hm,rfl,hc,ho,hb,hs,_⟩
    · -- a slice with no room: read as it is
      cases ad with
      | none=>exact DRep.nil _ _
      | some ad=>exact DRep.empty _ _ _
    · rcases ob.2 with ⟨h1,_⟩|⟨b',base',cs1,e1,hm',hb1,hs0,hcs⟩
      · rw [hm] at h1;simp at h1
      rw [hm] at hm';simp at hm';obtain ⟨rfl,rfl⟩:=hm'
      rw [hb] at hb1;simp at hb1;obtain ⟨rfl,rfl⟩:=hb1
      have hget:∀ i j x,i<len->(row (off+i))[j]? = some x->cs[o+i*sz+j]? = some (cs.getD (o+i*sz+j) undef)/\DRep w N x (cs.getD (o+i*sz+j) undef):=λi j x hi hj=>by
        obtain ⟨u,hu,hd⟩:=hcs (off+i) j x (by omega) hj
        have:base+(off+i)*sz+j=o+i*sz+j:=by rw [ho (.inl (by omega)),Nat.add_mul];omega
        rw [this] at hu
        have hg:cs.getD (o+i*sz+j) undef=u:=by rw [Array.getD_eq_getD_getElem?,hu];rfl
        rw [hg]
        exact ⟨hu,hd.mono hn⟩
      exact DRep.sl sz len _ b o cap cs e (0,0) (λi j=>cs.getD (o+i*sz+j) undef) (hl b base hm) hb hc hs (λi hi=>ob.1 (off+i) (by omega)) (λi j x hi hj=>(hget i j x hi hj).1) (λi j x hi hj=>(hget i j x hi hj).2)
  · exact h.elim
theorem readNest_spec (R:RelM w0 S nt (i5 slots) σ a w μ) {l len ver:Nat} {v:Value} {Q:DV->Prop} (h:(readNest real l len ver).run σ Q) (hx:CRep σ μ w (Nof S σ μ w) (.nown l len ver) v) :
    ∃ x,Q x/\Valid σ (l,ver)/\∀ N:Nat->Prop,(∀ b,Has μ l b->N b)->DRep w N x v:=by
  unfold readNest at h
  simp only [G.run] at h
  split at h
  · rename_i ver' sz n row hσ
    obtain ⟨h1,h⟩:=h
    have h1:ver=ver':=h1
    subst h1
    refine ⟨_,h,⟨by simp [m5,hσ],by simp [hσ]⟩,λN hl => ?_⟩
    obtain ⟨_,hn,_⟩:=nest_whole R hσ hx
    refine hn.data λb hb=>hl b ?_
    rw [blk_one] at hb
    exact mem_blkP.1 hb
  · exact h.elim
theorem readCell_spec (R:RelM w0 S nt (i5 slots) σ a w μ) {x:CV} {v:Value} {Q:DV × List (Nat × Nat)->Prop} (h:(readCell real x).run σ Q) (hx:CRep σ μ w (Nof S σ μ w) x v) :
    ∃ y ls,Q (y,ls)/\(∀ p∈ls,Valid σ p)/\∀ N:Nat->Prop,(∀ b,Nof S σ μ w b->N b)->(∀ p∈ls,∀ b,Has μ p.1 b->N b)->DRep w N y v:=by
  unfold readCell at h
  split at h
  · exact ⟨_,[],h,λp hp=>by simp at hp,λN hn _=>DRep.mono hn hx⟩
  · rename_i l off len ver
    rw [G.run_bind] at h
    obtain ⟨y,hq,hv,hN⟩:=readOwn_spec R h hx
    exact ⟨_,_,hq,λp hp=>by simp at hp;subst hp;exact hv,λN hn hl=>hN N hn λb base hm=>hl (l,ver) (by simp) b (.inl ⟨base,hm⟩)⟩
  · rename_i l len ver
    rw [G.run_bind] at h
    obtain ⟨y,hq,hv,hN⟩:=readNest_spec R h hx
    exact ⟨_,_,hq,λp hp=>by simp at hp;subst hp;exact hv,λN hn hl=>hN N λb hm=>hl (l,ver) (by simp) b hm⟩
  · exact h.elim
theorem readCells_spec (R:RelM w0 S nt (i5 slots) σ a w μ):∀ {xs:List CV} {vs:List Value} {Q:List DV × List (Nat × Nat)->Prop},(readCells real xs).run σ Q->CsRep σ μ w (Nof S σ μ w) xs vs ->
    ∃ ys ls,Q (ys,ls)/\(∀ p∈ls,Valid σ p)/\∀ N:Nat->Prop,(∀ b,Nof S σ μ w b->N b)->(∀ p∈ls,∀ b,Has μ p.1 b->N b)->∀ (j:Nat) y,ys[j]? = some y->∃ v,vs[j]? = some v/\DRep w N y v
  | [],[],Q,h,_=>⟨[],[],h,λp hp=>by simp at hp,λN _ _ j y hj=>by simp at hj⟩
  | [],_::_,_,_,h=>h.elim
  | _::_,[],_,_,h=>h.elim
  | x::r,v::s,Q,h,hc=>by
    simp only [readCells,G.run_bind] at h
    obtain ⟨y,l1,h1,hv1,hN1⟩:=readCell_spec R h hc.1
    obtain ⟨ys,l2,h2,hv2,hN2⟩:=readCells_spec R h1 hc.2
    refine ⟨_,_,h2,λp hp => ?_,λN hn hl j z hj => ?_⟩
    · rcases List.mem_append.1 hp with hp|hp
      · exact hv1 p hp
      · exact hv2 p hp
    · cases j with
      | zero=>simp at hj;subst hj;exact ⟨v,rfl,hN1 N hn λp hp=>hl p (List.mem_append.2 (.inl hp))⟩
      | succ j=>simp at hj;simpa using hN2 N hn (λp hp=>hl p (List.mem_append.2 (.inr hp))) j z hj
theorem boxD_spec (R:RelM w0 S nt (i5 slots) σ a w μ) {l ver:Nat} {Q:DV × List (Nat × Nat)->Prop} (h:(boxD real l ver).run σ Q) :
    ∃ y ls,Q (y,ls)/\(∃ cells,σ l=(ver,.box cells))/\(∀ p∈ls,Valid σ p)/\∀ N:Nat->Prop,(∀ b,Nof S σ μ w b->N b)->(∀ p∈ls,∀ b,Has μ p.1 b->N b) ->
      ∀ b,μ l=some (b,0)->DRep w N y (.pointer (some ⟨b,0,none⟩)):=by
  unfold boxD at h
  simp only [G.run] at h
  split at h
  · rename_i ver' cells hσ
    obtain ⟨h1,h⟩:=h
    have h1:ver=ver':=h1
    subst h1
    rw [G.run_bind] at h
    have ob:=R.objs l
    rw [hσ] at ob
    obtain ⟨b,cs,e,hm,hb,hcs⟩:=ob
    obtain ⟨ys,ls,hq,hv,hN⟩:=readCells_spec R h hcs
    refine ⟨_,_,hq,⟨cells,hσ⟩,λp hp => ?_,λN hn hl b' hm' => ?_⟩
    · rcases List.mem_cons.1 hp with rfl|hp
      · exact ⟨by simp [m5,hσ],by simp [hσ]⟩
      · exact hv p hp
    · rw [hm] at hm';simp at hm';subst hm'
      have hget:∀ (j:Nat) y,ys[j]? = some y->cs[0+j]? = some (cs.getD j undef)/\DRep w N y (cs.getD j undef):=λj y hj=>by
        obtain ⟨u,hu,hd⟩:=hN N hn (λp hp=>hl p (by simp [hp])) j y hj
        rw [Array.getElem?_toList] at hu
        have hg:cs.getD j undef=u:=by rw [Array.getD_eq_getD_getElem?,hu];rfl
        rw [hg,Nat.zero_add]
        exact ⟨hu,hd⟩
      exact DRep.p _ b 0 cs e (0,0) (λj=>cs.getD j undef) (hl (l,ver) (by simp) b (.inl ⟨0,hm⟩)) hb (λj y hj=>(hget j y hj).1) (λj y hj=>(hget j y hj).2)
  · exact h.elim
theorem capsD_spec (R:RelM w0 S nt (i5 slots) σ a w μ):∀ {caps:List (Nat × Nat)} {Q:List DV × List (Nat × Nat)->Prop},(capsD real caps).run σ Q ->
    ∃ ys ls,Q (ys,ls)/\ys.length=caps.length/\(∀ p∈ls,Valid σ p)/\(∀ (j:Nat) l ver,caps[j]? = some (l,ver)->∃ cells,σ l=(ver,.box cells)) /\
      ∀ N:Nat->Prop,(∀ b,Nof S σ μ w b->N b)->(∀ p∈ls,∀ b,Has μ p.1 b->N b) ->
        ∀ (j:Nat) y l ver b,ys[j]? = some y->caps[j]? = some (l,ver) -> μ l=some (b,0)->DRep w N y (.pointer (some ⟨b,0,none⟩))
  | [],Q,h=>⟨[],[],h,rfl,λp hp=>by simp at hp,λj l ver hj=>by simp at hj,λN _ _ j y l ver b hj=>by simp at hj⟩
  | (l,ver)::r,Q,h=>by
    simp only [capsD,G.run_bind] at h
    obtain ⟨y,l1,h1,hb1,hv1,hN1⟩:=boxD_spec R h
    obtain ⟨ys,l2,h2,hl2,hv2,hb2,hN2⟩:=capsD_spec R h1
    refine ⟨_,_,h2,by simp [hl2],λp hp => ?_,λj l' ver' hj => ?_,λN hn hl j z l' ver' b hj hc hm => ?_⟩
    · rcases List.mem_append.1 hp with hp|hp
      · exact hv1 p hp
      · exact hv2 p hp
    · cases j with
      | zero=>simp at hj;obtain ⟨rfl,rfl⟩:=hj;exact hb1
      | succ j=>exact hb2 j l' ver' (by simpa using hj)
    · cases j with
      | zero=>simp at hj hc;subst hj;obtain ⟨rfl,rfl⟩:=hc;exact hN1 N hn (λp hp=>hl p (List.mem_append.2 (.inl hp))) b hm
      | succ j=>exact hN2 N hn (λp hp=>hl p (List.mem_append.2 (.inr hp))) j z l' ver' b (by simpa using hj) (by simpa using hc) hm
def GivenOk (S:Sets) (σ:p9) (μ:Place) (w:World) (le:Lent) (Z:(Nat->Prop)->List Nat->Prop):Prop:=
  (∀ p∈le.ex++le.bo,Valid σ p)/\∀ N:Nat->Prop,(∀ b,Nof S σ μ w b->N b)->(∀ p∈le.bo,∀ b,Has μ p.1 b->N b)->Z N (blk μ le.ex)
theorem givenCell_spec (R:RelM w0 S nt (i5 slots) σ a w μ) {ex:Bool} {x:CV} {v:Value} {Q:XV × Lent->Prop} (h:(givenCell real ex x).run σ Q) (hx:CRep σ μ w (Nof S σ μ w) x v) :
    ∃ y le,Q (y,le)/\GivenOk S σ μ w le λN F=>XVRep w N y v F:=by
  unfold givenCell at h
  split at h
  · exact ⟨_,_,h,λp hp=>by simp [Lent.none] at hp,λN hn _=>⟨rfl,DRep.mono hn hx⟩⟩
  · rename_i l off len ver
    split at h
    · simp only [G.run] at h
      split at h
      · rename_i ver' sz n row hσ
        obtain ⟨h1,h2,h⟩:=h
        have h1:ver=ver':=h1
        have h2:off=0:=h2
        subst h1 h2
        exact ⟨_,_,h,λp hp=>by simp at hp;subst hp;exact ⟨by simp [m5,hσ],by simp [hσ]⟩,λN hn _=>own_whole R hσ hx hn⟩
      · exact h.elim
    · rw [G.run_bind] at h
      obtain ⟨y,hq,hv,hN⟩:=readOwn_spec R h hx
      exact ⟨_,_,hq,λp hp=>by simp at hp;subst hp;exact hv,λN hn hl=>⟨rfl,hN N hn λb base hm=>hl (l,ver) (by simp) b (.inl ⟨base,hm⟩)⟩⟩
  · rename_i l len ver
    split at h
    · simp only [G.run] at h
      split at h
      · rename_i ver' sz n row hσ
        obtain ⟨h1,h⟩:=h
        have h1:ver=ver':=h1
        subst h1
        exact ⟨_,_,h,λp hp=>by simp at hp;subst hp;exact ⟨by simp [m5,hσ],by simp [hσ]⟩,λN hn _=>nest_whole R hσ hx⟩
      · exact h.elim
    · rw [G.run_bind] at h
      obtain ⟨y,hq,hv,hN⟩:=readNest_spec R h hx
      exact ⟨_,_,hq,λp hp=>by simp at hp;subst hp;exact hv,λN hn hl=>⟨rfl,hN N λb hm=>hl (l,ver) (by simp) b hm⟩⟩
  · rename_i l ver off
    split at h
    · simp only [G.run] at h
      obtain ⟨h2,h⟩:=h
      have h2:off=0:=h2
      subst h2
      rw [G.run_bind] at h
      obtain ⟨y,ls,hq,⟨cells,hσ⟩,hv,hN⟩:=boxD_spec R h
      obtain ⟨b',hm',rfl⟩:=hx.2.2 cells hσ
      exact ⟨_,_,hq,λp hp=>hv p (by simpa using hp),λN hn hl=>⟨rfl,hN N hn (λp hp=>hl p hp) b' hm'⟩⟩
    simp only [G.run] at h
    split at h
    · rename_i ver' cells hσ
      obtain ⟨h1,h2,h⟩:=h
      have h1:ver=ver':=h1
      have h2:off=0:=h2
      subst h1 h2
      rw [G.run_bind] at h
      have ob:=R.objs l
      rw [hσ] at ob
      obtain ⟨b,cs,e,hm,hb,hcs⟩:=ob
      obtain ⟨xs,ls,hq,hv,hN⟩:=giveCells_spec R h hcs
      obtain ⟨b',hm',rfl⟩:=hx.2.2 cells hσ
      rw [hm] at hm';simp at hm';subst hm'
      refine ⟨_,_,hq,λp hp => ?_,λN hn _=>⟨b,cs,e,blk μ ls,by simp [blk,blkP,hm,R.kz l (by simp [m5,hσ]) (by rw [hσ];rfl)],rfl,hb,hN N hn⟩⟩
      simp at hp
      rcases hp with rfl|hp
      · exact ⟨by simp [m5,hσ],by simp [hσ]⟩
      · exact hv p hp
    · exact h.elim
  · rename_i f caps
    rw [G.run_bind] at h
    obtain ⟨ys,ls,hq,hlen,hv,hb,hN⟩:=capsD_spec R h
    obtain ⟨cs,rfl,hcl,hcs⟩:=hx
    refine ⟨_,_,hq,λp hp=>hv p (by simpa using hp),λN hn hl=>⟨rfl,?_⟩⟩
    have hget:∀ (j:Nat) y,ys[j]? = some y->cs[j]? = some (cs.getD j undef)/\DRep w N y (cs.getD j undef):=λj y hj=>by
      have hjl:j<caps.length:=by rw [<- hlen];exact (List.getElem?_eq_some_iff.1 hj).1
      have hcj:caps[j]? = some (caps[j].1,caps[j].2):=by rw [List.getElem?_eq_getElem hjl]
      obtain ⟨cells,hσ⟩:=hb j _ _ hcj
      obtain ⟨b,hm,hu⟩:=(hcs j _ _ hcj).2 cells hσ
      have hg:cs.getD j undef=.pointer (some ⟨b,0,none⟩):=by rw [Array.getD_eq_getD_getElem?,hu];rfl
      rw [hg]
      exact ⟨hu,hN N hn hl j y _ _ b hj hcj hm⟩
    exact DRep.fn f _ cs (λj=>cs.getD j undef) (by rw [hcl,hlen]) (λj y hj=>(hget j y hj).1) (λj y hj=>(hget j y hj).2)
  · exact h.elim
theorem GivenOk.both {Z1 Z2:(Nat->Prop)->List Nat->Prop} {l1 l2:Lent} (h1:GivenOk S σ μ w l1 Z1) (h2:GivenOk S σ μ w l2 Z2) :
    GivenOk S σ μ w (l1.both l2) λN F=>∃ F1 F2,F=F1++F2/\Z1 N F1/\Z2 N F2:=by
  refine ⟨λp hp => ?_,λN hn hl=>⟨blk μ l1.ex,blk μ l2.ex,blk_append μ _ _,h1.2 N hn λp hp=>hl p (by simp [Lent.both,hp]),h2.2 N hn λp hp=>hl p (by simp [Lent.both,hp])⟩⟩
  simp only [Lent.both,List.mem_append] at hp
  rcases hp with (hp|hp)|hp|hp
  · exact h1.1 p (by simp [hp])
  · exact h2.1 p (by simp [hp])
  · exact h1.1 p (by simp [hp])
  · exact h2.1 p (by simp [hp])
theorem GivenOk.none {Z:(Nat->Prop)->List Nat->Prop} (h:∀ N,Z N []):GivenOk S σ μ w .none Z:=⟨λp hp=>by simp [Lent.none] at hp,λN _ _=>h N⟩
theorem givenCells_spec (R:RelM w0 S nt (i5 slots) σ a w μ) {ex:Bool}:∀ {xs:List CV} {vs:List Value} {Q:List XV × Lent->Prop},(givenCells real ex xs).run σ Q->CsRep σ μ w (Nof S σ μ w) xs vs ->
    ∃ ys le,Q (ys,le)/\GivenOk S σ μ w le λN F=>XVsRep w N ys vs F
  | [],[],Q,h,_=>⟨[],.none,h,.none λ_=>rfl⟩
  | [],_::_,_,_,h=>h.elim
  | _::_,[],_,_,h=>h.elim
  | x::r,v::s,Q,h,hc=>by
    simp only [givenCells,G.run_bind] at h
    obtain ⟨y,l1,h1,g1⟩:=givenCell_spec R h hc.1
    obtain ⟨ys,l2,h2,g2⟩:=givenCells_spec R h1 hc.2
    exact ⟨_,_,h2,g1.both g2⟩
theorem givenArg_spec (R:RelM w0 S nt (i5 slots) σ a w μ) {ex:Bool} {x:AV} {v:Value} {Q:XT × Lent->Prop} (h:(givenArg real true ex x).run σ Q) (hx:ARep σ μ w (Nof S σ μ w) x v) :
    ∃ y le,Q (y,le)/\GivenOk S σ μ w le λN F=>XTRep w N y v F:=by
  unfold givenArg at h
  rw [G.run_bind] at h
  obtain ⟨z,hz,h1⟩:=opv_run h hx
  clear h
  split at h1
  · rw [G.run_bind] at h1
    obtain ⟨y,le,hq,g⟩:=givenCell_spec R h1 hz
    exact ⟨_,_,hq,g⟩
  · rw [G.run_bind] at h1
    obtain ⟨cs,rfl,hcs⟩:=hz
    obtain ⟨y,le,hq,g⟩:=givenCells_spec R h1 hcs
    exact ⟨_,_,hq,g.1,λN hn hl=>⟨cs,rfl,g.2 N hn hl⟩⟩
  · exact h1.elim
theorem givenArgs_spec (R:RelM w0 S nt (i5 slots) σ a w μ) {ex:Nat->Bool}:∀ {xs:List Operand} {i:Nat} {Q:List XT × Lent->Prop},(givenArgs real true ex (rho slots) i xs).run σ Q ->
    ∃ ys le,Q (ys,le)/\GivenOk S σ μ w le λN F=>XTsRep w N ys (xs.map a.eval) F
  | [],i,Q,h=>⟨[],.none,h,.none λ_=>rfl⟩
  | x::r,i,Q,h=>by
    simp only [givenArgs,G.run_bind] at h
    obtain ⟨y,l1,h1,g1⟩:=givenArg_spec R h (p8 R x)
    obtain ⟨ys,l2,h2,g2⟩:=givenArgs_spec R h1
    exact ⟨_,_,h2,g1.both g2⟩
theorem inLabs_mem {ls:List (Nat × Nat)} {l:Nat} (h:inLabs ls l=false):∀ p∈ls,p.1≠l:=by
  induction ls with
  | nil=>intro p hp;simp at hp
  | cons q r ih=>
    intro p hp e
    unfold inLabs at h
    cases hb:nbeq q.1 l with
    | true=>simp [hb] at h
    | false=>
      simp only [hb,cond_false] at h
      rcases List.mem_cons.1 hp with rfl|hp
      · rw [e] at hb;simp at hb
      · exact ih h p hp e
theorem exOk_spec:∀ {ex bo:List (Nat × Nat)},exOk ex bo=true->(ex.map (·.1)).Nodup/\∀ p∈ex,∀ q∈bo,q.1≠p.1
  | [],bo,_=>by simp
  | p::r,bo,h=>by
    unfold exOk at h
    cases h1:inLabs r p.1 with
    | true=>simp [h1] at h
    | false=>
      cases h2:inLabs bo p.1 with
      | true=>simp [h1,h2] at h
      | false=>
        simp only [h1,h2,cond_false] at h
        obtain ⟨h3,h4⟩:=exOk_spec h
        refine ⟨?_,λq hq => ?_⟩
        · simp only [List.map_cons,List.nodup_cons,List.mem_map,not_exists,not_and]
          exact ⟨λq hq=>inLabs_mem h1 q hq,h3⟩
        · rcases List.mem_cons.1 hq with rfl|hq
          · exact inLabs_mem h2
          · exact h4 q hq
theorem blk_mem {ls:List (Nat × Nat)} {b:Nat} (h:b∈blk μ ls):∃ p∈ls,Has μ p.1 b:=by
  simp only [blk,List.mem_flatMap] at h
  obtain ⟨p,hp,h⟩:=h
  exact ⟨p,hp,mem_blkP.1 h⟩
theorem blkP_nodup (R:RelM w0 S nt (i5 slots) σ a w μ) {l:Nat} (hl:m5 σ l):(blkP (μ l) (μ.k l)).Nodup:=by
  cases hn:isNest (σ l).2 with
  | false=>
    rw [R.kz l hl hn]
    cases hm : μ l<;>simp [blkP]
  | true=>
    have ob:=R.objs l
    cases ho:(σ l).2 with
    | nest sz n row foc=>
      rw [ho] at ob
      rcases ob with ⟨h1,_,_,h2⟩|⟨b,base,cs,e,h1,_,_,_,h2,h3,_⟩
      · rw [h1,h2];simp [blkP]
      · rw [h1];simp [blkP,h2,h3]
    | _=>rw [ho] at hn;cases hn
theorem blk_nodup (R:RelM w0 S nt (i5 slots) σ a w μ):∀ {ls:List (Nat × Nat)},(ls.map (·.1)).Nodup->(∀ p∈ls,Valid σ p)->(blk μ ls).Nodup
  | [],_,_=>by simp [blk]
  | p::r,h,hv=>by
    simp only [List.map_cons,List.nodup_cons] at h
    have ih:=blk_nodup R h.2 λq hq=>hv q (by simp [hq])
    have e:blk μ (p::r)=blk μ [p]++blk μ r:=blk_append μ [p] r
    rw [e,blk_one,List.nodup_append]
    refine ⟨blkP_nodup R (hv p (by simp)).1,ih,λb hb b' hb' eb => ?_⟩
    subst eb
    obtain ⟨p',hp',hm'⟩:=blk_mem hb'
    have:=R.injH p.1 p'.1 b (hv p (by simp)).1 (hv p' (by simp [hp'])).1 (mem_blkP.1 hb) hm'
    exact h.1 (List.mem_map.2 ⟨p',hp',this.symm⟩)
end
abbrev Turns:=List (Nat × (Nat × HO) × Option (Nat × Nat) × List Nat)
def usOf (τ:Turns):List (Nat × Nat × HO) := τ.map λt=>(t.1,t.2.1)
def blkT (τ:Turns):List Nat := τ.flatMap λt=>blkP t.2.2.1 t.2.2.2
def Fits (τ:Turns) (σ':p9) (μ':Place):Prop:=∀ t ∈ τ,σ' t.1=t.2.1 /\ μ' t.1=t.2.2.1 /\ μ'.k t.1=t.2.2.2
def Turn (σ:p9) (μ:Place) (t:Nat × (Nat × HO) × Option (Nat × Nat) × List Nat):Prop:=
  (isNest t.2.1.2=false->t.2.2.2=[])/\((σ t.1).1<t.2.1.1\/((σ t.1).1=t.2.1.1/\t.2.2.1 = μ t.1/\(∀ cells,t.2.1.2=.box cells->∃ c',(σ t.1).2=.box c') /\
    (∀ sz n row,t.2.1.2=.arr sz n row->∃ row',(σ t.1).2=.arr sz n row')/\∀ sz n row foc,t.2.1.2=.nest sz n row foc->∃ row' foc',(σ t.1).2=.nest sz n row' foc'))
theorem usOf_append (a b:Turns):usOf (a++b)=usOf a++usOf b:=by simp [usOf]
theorem blkT_append (a b:Turns):blkT (a++b)=blkT a++blkT b:=by simp [blkT]
theorem Fits.left {a b:Turns} {σ':p9} {μ':Place} (h:Fits (a++b) σ' μ'):Fits a σ' μ':=λt ht=>h t (by simp [ht])
theorem Fits.right {a b:Turns} {σ':p9} {μ':Place} (h:Fits (a++b) σ' μ'):Fits b σ' μ':=λt ht=>h t (by simp [ht])
section
variable {σ:p9} {μ:Place} {w:World} {N:Nat->Prop}
def TakenOk (σ:p9) (μ:Place) (w:World) (N:Nat->Prop) (τ:Turns) (F:List Nat) (Z:p9->Place->(Nat->Prop)->Prop):Prop:=
  blkT τ=F/\(∀ t ∈ τ,Turn σ μ t)/\∀ σ' μ' N',(∀ b,N b->N' b)->Fits τ σ' μ'->Z σ' μ' N'/\∀ t ∈ τ,ObjRep σ' μ' w N' t.1 t.2.1.2
theorem TakenOk.both {τ1 τ2:Turns} {F1 F2:List Nat} {Z1 Z2:p9->Place->(Nat->Prop)->Prop} (h1:TakenOk σ μ w N τ1 F1 Z1) (h2:TakenOk σ μ w N τ2 F2 Z2) :
    TakenOk σ μ w N (τ1 ++ τ2) (F1++F2) λσ' μ' N'=>Z1 σ' μ' N'/\Z2 σ' μ' N':=by
  refine ⟨by rw [blkT_append,h1.1,h2.1],λt ht => ?_,λσ' μ' N' hn hf=>⟨⟨(h1.2.2 σ' μ' N' hn hf.left).1,(h2.2.2 σ' μ' N' hn hf.right).1⟩,λt ht => ?_⟩⟩
  · rcases List.mem_append.1 ht with ht|ht
    · exact h1.2.1 t ht
    · exact h2.2.1 t ht
  · rcases List.mem_append.1 ht with ht|ht
    · exact (h1.2.2 σ' μ' N' hn hf.left).2 t ht
    · exact (h2.2.2 σ' μ' N' hn hf.right).2 t ht
theorem TakenOk.nothing {Z:p9->Place->(Nat->Prop)->Prop} (h:∀ σ' μ' N',(∀ b,N b->N' b)->Z σ' μ' N'):TakenOk σ μ w N [] [] Z:=
  ⟨rfl,λt ht=>by simp at ht,λσ' μ' N' hn _=>⟨h σ' μ' N' hn,λt ht=>by simp at ht⟩⟩
theorem TakenOk.imp {τ:Turns} {F:List Nat} {Z Z':p9->Place->(Nat->Prop)->Prop} (h:TakenOk σ μ w N τ F Z) (hz:∀ σ' μ' N',Fits τ σ' μ'->Z σ' μ' N'->Z' σ' μ' N'):TakenOk σ μ w N τ F Z':=
  ⟨h.1,h.2.1,λσ' μ' N' hn hf=>⟨hz σ' μ' N' hf (h.2.2 σ' μ' N' hn hf).1,(h.2.2 σ' μ' N' hn hf).2⟩⟩
theorem own_taken {L ver sz n:Nat} {row:Nat->List DV} {v:Value} {F:List Nat} (hx:OwnRep w N sz n row v F)
    (hv:(σ L).1<ver\/((σ L).1=ver/\(∃ row',(σ L).2=.arr sz n row')/\((∃ ad,v=.slice ad 0 0) -> μ L=none)/\∀ b base m cap,v=.slice (some ⟨b,base,none⟩) m cap->0<cap -> μ L=some (b,base))) :
    ∃ p,TakenOk σ μ w N [(L,(ver,.arr sz n row),p)] F λσ' μ' N'=>CRep σ' μ' w N' (.own L 0 n ver) v:=by
  obtain ⟨hr,hx⟩:=hx
  have turn:∀ p,(p = μ L\/(σ L).1<ver)->Turn σ μ (L,(ver,.arr sz n row),p,[]):=λp hp=>by
    refine ⟨λ_=>rfl,?_⟩
    rcases hv with hv|⟨hv,⟨row',hrow⟩,_⟩
    · exact .inl hv
    · rcases hp with rfl|hp
      · exact .inr ⟨hv,rfl,λc h=>by simp at h,λsz' n' r h=>by simp at h;obtain ⟨rfl,rfl,_⟩:=h;exact ⟨row',hrow⟩,λ_ _ _ _ h=>by simp at h⟩
      · exact .inl hp
  rcases hx with ⟨rfl,rfl,ad,rfl⟩|⟨b,base,cap,cs,e,rfl,rfl,hpos,hc,hb,hs,hcs⟩
  · refine ⟨(none,[]),rfl,λt ht => ?_,λσ' μ' N' hn hf => ?_⟩
    · simp at ht;subst ht
      refine turn _ ?_
      rcases hv with hv|⟨_,_,h0,_⟩
      · exact .inr hv
      · exact .inl (h0 ⟨ad,rfl⟩).symm
    · obtain ⟨hσ,hμ,_⟩:=hf _ (List.mem_cons_self ..)
      simp only at hσ hμ
      refine ⟨⟨rfl,by rw [hσ];exact Nat.le_refl _,λsz' n' row' h=>⟨by omega,.inl ⟨hμ,rfl,ad,rfl⟩⟩⟩,λt ht => ?_⟩
      simp at ht;subst ht
      exact ⟨λi hi=>by omega,.inl ⟨hμ,rfl⟩⟩
  · refine ⟨(some (b,base),[]),rfl,λt ht => ?_,λσ' μ' N' hn hf => ?_⟩
    · simp at ht;subst ht
      refine turn _ ?_
      rcases hv with hv|⟨_,_,_,h1⟩
      · exact .inr hv
      · exact .inl (h1 b base n cap rfl hpos).symm
    · obtain ⟨hσ,hμ,_⟩:=hf _ (List.mem_cons_self ..)
      simp only at hσ hμ
      refine ⟨⟨rfl,by rw [hσ];exact Nat.le_refl _,λsz' n' row' h => ?_⟩,λt ht => ?_⟩
      · rw [hσ] at h;simp at h;obtain ⟨rfl,rfl,rfl⟩:=h
        exact ⟨by omega,.inr ⟨b,base,base,cap,cs,e,hμ,rfl,hc,λ_=>by simp,hb,hs,λ_=>hpos⟩⟩
      · simp at ht;subst ht
        have:=Nat.mul_le_mul_right sz hc
        refine ⟨hr,.inr ⟨b,base,cs,e,hμ,hb,by omega,λi j x hi hj => ?_⟩⟩
        obtain ⟨u,hu,hd⟩:=hcs i j x hi hj
        exact ⟨u,hu,hd.mono hn⟩
theorem nest_taken {L ver sz n:Nat} {row:Nat->List DV} {v:Value} {F:List Nat} (hx:NestRep w sz n row v F)
    (hv:(σ L).1<ver\/((σ L).1=ver/\(∃ row' foc',(σ L).2=.nest sz n row' foc')/\((∃ ad,v=.slice ad 0 0) -> μ L=none)/\∀ b base m cap,v=.slice (some ⟨b,base,none⟩) m cap->0<cap -> μ L=some (b,base))) :
    ∃ p,TakenOk σ μ w N [(L,(ver,.nest sz n row none),p)] F λσ' μ' N'=>CRep σ' μ' w N' (.nown L n ver) v:=by
  obtain ⟨hnd,hx,hhd⟩:=hx
  have turn:∀ p ks,(p = μ L\/(σ L).1<ver)->Turn σ μ (L,(ver,.nest sz n row none),p,ks):=λp ks hp=>by
    refine ⟨λh=>(nomatch h),?_⟩
    rcases hv with hv|⟨hv,⟨row',foc',hrow⟩,_⟩
    · exact .inl hv
    · rcases hp with rfl|hp
      · exact .inr ⟨hv,rfl,λc h=>by simp at h,λ_ _ _ h=>by simp at h,λsz' n' r foc h=>by simp at h;obtain ⟨rfl,rfl,_⟩:=h;exact ⟨row',foc',hrow⟩⟩
      · exact .inl hp
  generalize hFp:(λb=>b∈F)=Fp at hx
  have hFm:∀ k,Fp k↔k∈F:=λk=>by rw [<- hFp]
  cases hx with
  | nil _ _ ad _ hF=>
    have hF0:F=[]:=List.eq_nil_iff_forall_not_mem.2 λk hk=>hF k ((hFm k).2 hk)
    subst hF0
    refine ⟨(none,[]),rfl,λt ht => ?_,λσ' μ' N' hn hf => ?_⟩
    · simp at ht;subst ht
      refine turn _ _ ?_
      rcases hv with hv|⟨_,_,h0,_⟩
      · exact .inr hv
      · exact .inl (h0 ⟨ad,rfl⟩).symm
    · obtain ⟨hσ,hμ,hk⟩:=hf _ (List.mem_cons_self ..)
      simp only at hσ hμ hk
      refine ⟨⟨rfl,by rw [hσ];exact Nat.le_refl _,λsz' n' row' foc' h => ?_⟩,λt ht => ?_⟩
      · rw [hσ] at h;simp at h;obtain ⟨rfl,rfl,_,_⟩:=h
        exact ⟨rfl,.inl ⟨hμ,rfl,ad,rfl⟩⟩
      · simp at ht;subst ht
        exact .inl ⟨hμ,rfl,rfl,hk⟩
  | sl _ _ _ b base cap cs e u G _ hb hc hp hs hr hu hd hF hG hGb=>
    obtain ⟨F',rfl⟩:=hhd b base cap rfl hp
    simp only [List.nodup_cons] at hnd
    have hF':∀ k,k∈F' ↔ ∃ i j,i<n/\j<sz/\G i j k:=λk=>by
      have h1:=(hFm k).symm.trans (hF k)
      simp only [List.mem_cons] at h1
      constructor
      · intro hk
        rcases h1.1 (.inr hk) with rfl|h
        · exact (hnd.1 hk).elim
        · exact h
      · intro h
        rcases h1.2 (.inr h) with rfl|hk
        · obtain ⟨i,j,q1,q2,q3⟩:=h
          exact (hGb i j q1 q2 q3).elim
        · exact hk
    refine ⟨(some (b,base),F'),by simp [blkT,blkP],λt ht => ?_,λσ' μ' N' hn hf => ?_⟩
    · simp at ht;subst ht
      refine turn _ _ ?_
      rcases hv with hv|⟨_,_,_,h1⟩
      · exact .inr hv
      · exact .inl (h1 b base n cap rfl hp).symm
    · obtain ⟨hσ,hμ,hk⟩:=hf _ (List.mem_cons_self ..)
      simp only at hσ hμ hk
      refine ⟨⟨rfl,by rw [hσ];exact Nat.le_refl _,λsz' n' row' foc' h => ?_⟩,λt ht => ?_⟩
      · rw [hσ] at h;simp at h;obtain ⟨rfl,rfl,_,_⟩:=h
        exact ⟨rfl,.inr ⟨b,base,cap,cs,e,hμ,rfl,hc,hp,hb,hs⟩⟩
      · simp at ht;subst ht
        have:=Nat.mul_le_mul_right sz hc
        refine .inr ⟨b,base,cs,e,hμ,hb,by omega,⟨λi hi _=>hr i hi,G,λi j x hi _ hj=>⟨u i j,hu i j x hi hj,hd i j x hi hj⟩,λk => ?_,λi j i' j' k q1 _ q3 q4 _ q6=>hG i j i' j' k q1 q3 q4 q6⟩,by rw [hk];exact hnd.1,by rw [hk];exact hnd.2,λi c h=>by cases h⟩
        show k ∈ μ'.k L↔_
        rw [hk,hF' k]
        exact ⟨λ⟨i,j,q1,q2,q3⟩=>⟨i,j,q1,λ⟨c,h⟩=>(nomatch h),q2,q3⟩,λ⟨i,j,q1,_,q2,q3⟩=>⟨i,j,q1,q2,q3⟩⟩
theorem takenCells_spec {l:Nat}:∀ {cells:List XC} {j:Nat} {vs:List Value} {F:List Nat} {Q:List CV × List (Nat × Nat × HO)->Prop},(takenCells l j cells).run σ Q->XCsRep w N cells vs F ->
    ∃ cvs τ,Q (cvs,usOf τ)/\TakenOk σ μ w N τ F λσ' μ' N'=>CsRep σ' μ' w N' cvs vs
  | [],j,[],F,Q,h,hx=>by
    have hx:F=[]:=hx
    subst hx
    exact ⟨[],[],h,.nothing λ_ _ _ _=>trivial⟩
  | [],_,_::_,_,_,_,h=>h.elim
  | _::_,_,[],_,_,_,h=>h.elim
  | x::r,j,v::s,F,Q,h,hx=>by
    obtain ⟨F1,F2,rfl,h1,h2⟩:=hx
    unfold takenCells at h
    cases x with
    | d x=>
      simp only [G.run_bind] at h
      obtain ⟨rfl,h1⟩:=h1
      obtain ⟨cvs,τ,hq,ht⟩:=takenCells_spec h h2
      refine ⟨_,τ,hq,?_⟩
      have:=(TakenOk.nothing (σ := σ) (μ := μ) (w:=w) (Z:=λσ' μ' N'=>CRep σ' μ' w N' (.d x) v) λσ' μ' N' hn=>DRep.mono hn h1).both ht
      exact this
    | own sz n row=>
      simp only [G.run,G.run_bind] at h
      obtain ⟨cvs,τ,hq,ht⟩:=takenCells_spec h h2
      obtain ⟨p,ho⟩:=own_taken (σ := σ) (μ := μ) (L:=cellLab l j) (ver:=(σ (cellLab l j)).1+1) h1 (.inl (by omega))
      exact ⟨_,[(cellLab l j,((σ (cellLab l j)).1+1,.arr sz n row),p)] ++ τ,hq,ho.both ht⟩
theorem takenCell_spec {L:Nat} {x:XV} {v:Value} {F:List Nat} {Q:CV × List (Nat × Nat × HO)->Prop} (h:(takenCell L x).run σ Q) (hx:XVRep w N x v F) :
    ∃ c τ,Q (c,usOf τ)/\TakenOk σ μ w N τ F λσ' μ' N'=>CRep σ' μ' w N' c v:=by
  unfold takenCell at h
  cases x with
  | d x=>
    obtain ⟨rfl,hx⟩:=hx
    exact ⟨_,[],h,.nothing λσ' μ' N' hn=>DRep.mono hn hx⟩
  | own sz n row=>
    obtain ⟨p,ho⟩:=own_taken (σ := σ) (μ := μ) (L:=L) (ver:=(σ L).1+1) hx (.inl (by omega))
    exact ⟨_,[(L,((σ L).1+1,.arr sz n row),p)],h,ho⟩
  | box cells=>
    simp only [G.run,G.run_bind] at h
    obtain ⟨b,cs,e,F',rfl,rfl,hb,hcs⟩:=hx
    obtain ⟨cvs,τ,hq,ht⟩:=takenCells_spec (μ := μ) h hcs
    refine ⟨_,(L,((σ L).1+1,.box cvs),some (b,0),[]) :: τ,hq,by simp [blkT,blkP];exact ht.1,λt h' => ?_,λσ' μ' N' hn hf => ?_⟩
    · rcases List.mem_cons.1 h' with rfl|h'
      · exact ⟨λ_=>rfl,.inl (by simp)⟩
      · exact ht.2.1 t h'
    · obtain ⟨hσ,hμ,_⟩:=hf _ (List.mem_cons_self ..)
      simp only at hσ hμ
      have hr:=ht.2.2 σ' μ' N' hn λt h'=>hf t (by simp [h'])
      refine ⟨⟨rfl,by rw [hσ];exact Nat.le_refl _,λcells' _=>⟨b,hμ,rfl⟩⟩,λt h' => ?_⟩
      rcases List.mem_cons.1 h' with rfl|h'
      · exact ⟨b,cs,e,hμ,hb,hr.1⟩
      · exact hr.2 t h'
  | nown sz n row=>
    obtain ⟨p,ho⟩:=nest_taken (σ := σ) (μ := μ) (N:=N) (L:=L) (ver:=(σ L).1+1) hx (.inl (by omega))
    exact ⟨_,[(L,((σ L).1+1,.nest sz n row none),p)],h,ho⟩
theorem takenList_spec {L:Nat}:∀ {xs:List XV} {k:Nat} {vs:List Value} {F:List Nat} {Q:List CV × List (Nat × Nat × HO)->Prop},(takenList L k xs).run σ Q->XVsRep w N xs vs F ->
    ∃ cvs τ,Q (cvs,usOf τ)/\TakenOk σ μ w N τ F λσ' μ' N'=>CsRep σ' μ' w N' cvs vs
  | [],k,[],F,Q,h,hx=>by
    have hx:F=[]:=hx
    subst hx
    exact ⟨[],[],h,.nothing λ_ _ _ _=>trivial⟩
  | [],_,_::_,_,_,_,h=>h.elim
  | _::_,_,[],_,_,_,h=>h.elim
  | x::r,k,v::s,F,Q,h,hx=>by
    obtain ⟨F1,F2,rfl,h1,h2⟩:=hx
    simp only [takenList,G.run_bind] at h
    obtain ⟨c,τ1,hq,t1⟩:=takenCell_spec (μ := μ) h h1
    obtain ⟨cvs,τ2,hq,t2⟩:=takenList_spec hq h2
    exact ⟨c::cvs,τ1 ++ τ2,by rw [usOf_append];exact hq,t1.both t2⟩
theorem taken1_spec {L k:Nat} {x:XT} {v:Value} {F:List Nat} {Q:TV × Nat × List (Nat × Nat × HO)->Prop} (h:(taken1 L k x).run σ Q) (hx:XTRep w N x v F) :
    ∃ c m τ,Q (c,m,usOf τ)/\TakenOk σ μ w N τ F λσ' μ' N'=>TRep σ' μ' w N' c v:=by
  unfold taken1 at h
  cases x with
  | c x=>
    simp only [G.run_bind] at h
    obtain ⟨c,τ,hq,ht⟩:=takenCell_spec (μ := μ) h hx
    exact ⟨_,_,τ,hq,ht⟩
  | agg xs=>
    simp only [G.run_bind] at h
    obtain ⟨cs,rfl,hx⟩:=hx
    obtain ⟨c,τ,hq,ht⟩:=takenList_spec (μ := μ) h hx
    exact ⟨_,_,τ,hq,ht.imp λσ' μ' N' _ hz=>⟨cs,rfl,hz⟩⟩
theorem takenTup_spec {L:Nat}:∀ {xs:List XT} {k:Nat} {vs:List Value} {F:List Nat} {Q:List TV × List (Nat × Nat × HO)->Prop},(takenTup L k xs).run σ Q->XTsRep w N xs vs F ->
    ∃ cvs τ,Q (cvs,usOf τ)/\TakenOk σ μ w N τ F λσ' μ' N'=>TsRep σ' μ' w N' cvs vs
  | [],k,[],F,Q,h,hx=>by
    have hx:F=[]:=hx
    subst hx
    exact ⟨[],[],h,.nothing λ_ _ _ _=>trivial⟩
  | [],_,_::_,_,_,_,h=>h.elim
  | _::_,_,[],_,_,_,h=>h.elim
  | x::r,k,v::s,F,Q,h,hx=>by
    obtain ⟨F1,F2,rfl,h1,h2⟩:=hx
    simp only [takenTup,G.run_bind] at h
    obtain ⟨c,m,τ1,hq,t1⟩:=taken1_spec (μ := μ) h h1
    obtain ⟨cvs,τ2,hq,t2⟩:=takenTup_spec hq h2
    exact ⟨c::cvs,τ1 ++ τ2,by rw [usOf_append];exact hq,t1.both t2⟩
theorem taken_spec {L:Nat} {x:XA} {v:Value} {F:List Nat} {Q:AV × List (Nat × Nat × HO)->Prop} (h:(taken L x).run σ Q) (hx:XARep w N x v F) :
    ∃ c τ,Q (c,usOf τ)/\TakenOk σ μ w N τ F λσ' μ' N'=>ARep σ' μ' w N' c v:=by
  unfold taken at h
  cases x with
  | one x=>
    simp only [G.run_bind] at h
    obtain ⟨c,m,τ,hq,ht⟩:=taken1_spec (μ := μ) h hx
    exact ⟨_,τ,hq,ht.imp λσ' μ' N' _ hz=>by cases c<;>exact hz⟩
  | tup xs=>
    simp only [G.run_bind] at h
    obtain ⟨cs,rfl,hx⟩:=hx
    obtain ⟨c,τ,hq,ht⟩:=takenTup_spec (μ := μ) h hx
    exact ⟨_,τ,hq,ht.imp λσ' μ' N' _ hz=>⟨cs,rfl,hz⟩⟩
end
section
variable {w0:World} {S:Sets} {nt:Nat} {slots:List (Nat × AV)} {σ:p9} {a:Act} {w w':World} {μ:Place} {N:Nat->Prop}
theorem backArg_spec {x:AV} {b:Option XV} {v:Value} {F:List Nat} {Q:List (Nat × Nat × HO)->Prop} (h:(backArg real x b).run σ Q) (hv:ARep σ μ w (Nof S σ μ w) x v)
    (hb:∀ y,b=some y->XVRep w' N y v F) (hn:b=none->F=[]):∃ τ,Q (usOf τ)/\TakenOk σ μ w' N τ F λ_ _ _=>True:=by
  unfold backArg at h
  split at h
  · rename_i l ver off cells
    simp only [G.run] at h
    split at h
    · rename_i ver' old hσ
      obtain ⟨h1,h2,h⟩:=h
      have h1:ver=ver':=h1
      have h2:off=0:=h2
      subst h1 h2
      rw [G.run_bind] at h
      obtain ⟨bk,cs,e,F',rfl,rfl,hbk,hcs⟩:=hb _ rfl
      obtain ⟨b0,hm,he⟩:=hv.2.2 old hσ
      simp at he;subst he
      obtain ⟨cvs,τ,hq,ht⟩:=takenCells_spec (μ := μ) h hcs
      refine ⟨(l,(ver,.box cvs),some (bk,0),[]) :: τ,hq,by simp [blkT,blkP];exact ht.1,λt h' => ?_,λσ' μ' N' hn' hf=>⟨trivial,λt h' => ?_⟩⟩
      · rcases List.mem_cons.1 h' with rfl|h'
        · exact ⟨λ_=>rfl,.inr ⟨by rw [hσ],hm.symm,λ_ _=>⟨old,by rw [hσ]⟩,λ_ _ _ h=>by simp at h,λ_ _ _ _ h=>by simp at h⟩⟩
        · exact ht.2.1 t h'
      · obtain ⟨hσ',hμ',_⟩:=hf _ (List.mem_cons_self ..)
        have hr:=ht.2.2 σ' μ' N' hn' λt h'=>hf t (by simp [h'])
        rcases List.mem_cons.1 h' with rfl|h'
        · exact ⟨bk,cs,e,hμ',hbk,hr.1⟩
        · exact hr.2 t h'
    · exact h.elim
  · rename_i l off len ver sz n row
    simp only [G.run] at h
    split at h
    · rename_i ver' sz' n' row' hσ
      cases hsz:nbeq sz sz' with
      | false=>rw [hsz] at h;exact h.elim
      | true=>
        rw [hsz] at h
        obtain ⟨h1,h2,h3,h⟩:=h
        have h1:ver=ver':=h1
        have h2:off=0:=h2
        have h3:n=n':=h3
        subst h1 h2 h3
        have hsz:=i3 hsz
        subst hsz
        have hx:=hb _ rfl
        obtain ⟨_,h5⟩:=hv.2.2 sz n row' hσ
        obtain ⟨p,ho⟩:=own_taken (σ := σ) (μ := μ) (L:=l) (ver:=ver) hx (.inr ⟨by rw [hσ],⟨row',by rw [hσ]⟩,λ⟨ad,e⟩=>by
            rcases h5 with ⟨hm,_⟩|⟨b,base,o',cap,cs,e',hm,e1,hcap,ho',hbb,hfit,hpos⟩
            · exact hm
            · rw [e] at e1;simp at e1;have:=hpos rfl;omega,λbb base m cap e hc=>by
            rcases h5 with ⟨hm,_,ad,e1⟩|⟨b,base',o',cap',cs,e',hm,e1,hcap,ho',hbb,hfit,hpos⟩
            · rw [e] at e1;simp at e1;omega
            · rw [e] at e1;simp at e1
              obtain ⟨⟨rfl,rfl⟩,_,_⟩:=e1
              rw [ho' (.inr rfl)];simpa using hm⟩)
        exact ⟨[(l,(ver,.arr sz n row),p)],h,ho.imp λ_ _ _ _ _=>trivial⟩
    · exact h.elim
  · rename_i l len ver sz n row
    simp only [G.run] at h
    split at h
    · rename_i ver' sz' n' row' hσ
      cases hsz:nbeq sz sz' with
      | false=>rw [hsz] at h;exact h.elim
      | true=>
        rw [hsz] at h
        obtain ⟨h1,h3,h⟩:=h
        have h1:ver=ver':=h1
        have h3:n=n':=h3
        subst h1 h3
        have hsz:=i3 hsz
        subst hsz
        have hx:=hb _ rfl
        obtain ⟨_,h5⟩:=hv.2.2 sz n row' none hσ
        obtain ⟨p,ho⟩:=nest_taken (σ := σ) (μ := μ) (N:=N) (L:=l) (ver:=ver) hx (.inr ⟨by rw [hσ],⟨row',none,by rw [hσ]⟩,λ⟨ad,e⟩=>by
            rcases h5 with ⟨hm,_⟩|⟨b,base,cap,cs,e',hm,e1,hcap,hpos,_⟩
            · exact hm
            · rw [e] at e1;simp at e1;omega,λbb base m cap e hc=>by
            rcases h5 with ⟨hm,_,ad,e1⟩|⟨b,base',cap',cs,e',hm,e1,hcap,hpos,_⟩
            · rw [e] at e1;simp at e1;omega
            · rw [e] at e1;simp at e1
              obtain ⟨⟨rfl,rfl⟩,_,_⟩:=e1
              simpa using hm⟩)
        exact ⟨[(l,(ver,.nest sz n row none),p)],h,ho.imp λ_ _ _ _ _=>trivial⟩
    · exact h.elim
  · rw [hn rfl]
    exact ⟨[],h,.nothing λ_ _ _ _=>trivial⟩
  · exact h.elim
theorem backArgG_spec {x:AV} {b:Option XV} {v:Value} {F:List Nat} {Q:List (Nat × Nat × HO)->Prop} (h:(backArgG real true x b).run σ Q) (hv:ARep σ μ w (Nof S σ μ w) x v)
    (hb:∀ y,b=some y->XVRep w' N y v F) (hn:b=none->F=[]):∃ τ,Q (usOf τ)/\TakenOk σ μ w' N τ F λ_ _ _=>True:=by
  unfold backArgG at h
  split at h
  · obtain ⟨h1,h⟩:=h
    exact backArg_spec h (hv.1 (h1 rfl)) hb hn
  · exact backArg_spec h hv hb hn
theorem backArgs_spec (R:RelM w0 S nt (i5 slots) σ a w μ):∀ {xs:List Operand} {bs:List (Option XV)} {F:List Nat} {Q:List (Nat × Nat × HO)->Prop},(backArgs real true (rho slots) xs bs).run σ Q ->
    BackRep w' N bs (xs.map a.eval) F->∃ τ,Q (usOf τ)/\TakenOk σ μ w' N τ F λ_ _ _=>True
  | [],[],F,Q,h,hx=>by
    have hx:F=[]:=hx
    subst hx
    exact ⟨[],h,.nothing λ_ _ _ _=>trivial⟩
  | [],_::_,_,_,h,_=>h.elim
  | _::_,[],_,_,h,_=>h.elim
  | x::r,b::s,F,Q,h,hx=>by
    simp only [backArgs,G.run_bind] at h
    cases b with
    | none=>
      obtain ⟨τ1,hq,t1⟩:=backArgG_spec (w':=w') (N:=N) (F:=[]) h (p8 R x) (λy hy=>by simp at hy) (λ_=>rfl)
      obtain ⟨τ2,hq,t2⟩:=backArgs_spec R hq hx
      exact ⟨τ1 ++ τ2,by rw [usOf_append];exact hq,(t1.both t2).imp λ_ _ _ _ _=>trivial⟩
    | some y=>
      obtain ⟨F1,F2,rfl,h1,h2⟩:=hx
      obtain ⟨τ1,hq,t1⟩:=backArgG_spec (w':=w') (N:=N) (F:=F1) h (p8 R x) (λz hz=>by simp at hz;subst hz;exact h1) (λhz=>by simp at hz)
      obtain ⟨τ2,hq,t2⟩:=backArgs_spec R hq h2
      exact ⟨τ1 ++ τ2,by rw [usOf_append];exact hq,(t1.both t2).imp λ_ _ _ _ _=>trivial⟩
end
end Go.Rk
