/- Calls, four: a call is sound; and with it every operation. -/
import Derived.Test.YtbkpfnddpnccmaaRk14
namespace Go.Rk
section
variable {P : Program} {T : TypeId → Option TI} {EX : FuncId → List Nat × Bool}
variable {w0 : World} {S : Sets} {nt : Nat} {slots : List (Nat × AV)} {σ : Objs} {a : Act} {w : World} {μ : Place}
variable {o : Oper} {K : AV → List (Nat × Nat × HO) → Prop}

/-- Memory behind a call, all turns at once. -/
theorem RelM.turned (R : RelM w0 S nt (lookS slots) σ a w μ) {w' : World} {τ : Turns} {ex gone : List (Nat × Nat)} {F' : List Nat}
    (hnd : nodupL (usOf τ) = true) (hex : ∀ p ∈ ex, Valid σ p)
    (hturn : ∀ t ∈ τ, Turn σ μ t) (hall : ∀ p ∈ ex ++ gone, ∃ t ∈ τ, t.1 = p.1)
    (env : Env w w') (hsize : w.heap.size ≤ w'.heap.size) (hsame : ∀ b, b < w.heap.size → b ∉ blk μ ex → w'.heap[b]? = w.heap[b]?)
    (shape : ∀ (b : Nat) cs e fr, w.heap[b]? = some (Obj.cells cs e fr) → ∃ cs', w'.heap[b]? = some (Obj.cells cs' e fr) ∧ cs'.size = cs.size)
    (hF : ∀ b, b ∈ F' → b < w'.heap.size ∧ (b ∈ blk μ ex ∨ w.heap.size ≤ b)) (hFn : F'.Nodup) (hblk : blkT τ = F')
    (hobj : ∀ N' : Nat → Prop, (∀ b, (b < w'.heap.size ∧ b ∉ F' ∧ S.lent b ∧ ∀ l base, live σ l → (∀ p ∈ ex ++ gone, p.1 ≠ l) → μ l ≠ some (b, base)) → N' b) → Fits τ (putO σ (usOf τ)) (placeT μ τ) →
      ∀ t ∈ τ, ObjRep (putO σ (usOf τ)) (placeT μ τ) w' N' t.1 t.2.1.2) :
    (∀ b, (b < w'.heap.size ∧ b ∉ F' ∧ S.lent b ∧ ∀ l base, live σ l → (∀ p ∈ ex ++ gone, p.1 ≠ l) → μ l ≠ some (b, base)) → Nof S (putO σ (usOf τ)) (placeT μ τ) w' b) ∧
    Fits τ (putO σ (usOf τ)) (placeT μ τ) ∧ RelM w0 S nt (lookS slots) (putO σ (usOf τ)) a w' (placeT μ τ) := by
  obtain ⟨p1, p2⟩ := putO_spec (σ := σ) hnd
  obtain ⟨f1, f2⟩ := findT_spec hnd
  have hfits : Fits τ (putO σ (usOf τ)) (placeT μ τ) := fun t ht => ⟨p1 (t.1, t.2.1) (List.mem_map.2 ⟨t, ht, rfl⟩), by simp [placeT, f1 t ht]⟩
  have hrest : ∀ l, (∀ t ∈ τ, t.1 ≠ l) → putO σ (usOf τ) l = σ l ∧ placeT μ τ l = μ l := fun l hl =>
    ⟨p2 l fun p hp => by obtain ⟨t, ht, rfl⟩ := List.mem_map.1 hp; exact hl t ht, by simp [placeT, f2 l hl]⟩
  have hcase : ∀ l, (∃ t ∈ τ, t.1 = l) ∨ ∀ t ∈ τ, t.1 ≠ l := fun l => by
    by_cases h : ∃ t ∈ τ, t.1 = l
    · exact .inl h
    · exact .inr fun t ht e => h ⟨t, ht, e⟩
  have hbmem : ∀ t ∈ τ, ∀ b base, t.2.2 = some (b, base) → b ∈ F' := fun t ht b base e => by rw [← hblk]; exact List.mem_filterMap.2 ⟨t, ht, by rw [e]; rfl⟩
  have hnotin : ∀ l, (∀ t ∈ τ, t.1 ≠ l) → ∀ p ∈ ex ++ gone, p.1 ≠ l := fun l hl p hp e => by
    obtain ⟨t, ht, e'⟩ := hall p hp
    exact hl t ht (e'.trans e)
  -- a block of what is handed over is nobody else's
  have hother : ∀ l b base, live σ l → (∀ t ∈ τ, t.1 ≠ l) → μ l = some (b, base) → b ∉ F' ∧ b ∉ blk μ ex := fun l b base hl hn hm => by
    have h1 : b ∉ blk μ ex := fun hb => by
      obtain ⟨p, hp, base', hm'⟩ := blk_mem hb
      exact hnotin l hn p (by simp [hp]) (R.inj p.1 l b base' base (hex p hp).1 hl hm' hm)
    refine ⟨fun hb => ?_, h1⟩
    rcases (hF b hb).2 with h | h
    · exact h1 h
    · have := (R.own l b base hl hm).1; omega
  have hN : ∀ b, (b < w'.heap.size ∧ b ∉ F' ∧ S.lent b ∧ ∀ l base, live σ l → (∀ p ∈ ex ++ gone, p.1 ≠ l) → μ l ≠ some (b, base)) → Nof S (putO σ (usOf τ)) (placeT μ τ) w' b := fun b ⟨h1, h2, hz, h3⟩ => by
    refine ⟨h1, hz, fun l base hl hm => ?_⟩
    rcases hcase l with ⟨t, ht, rfl⟩ | hn
    · rw [(hfits t ht).2] at hm
      exact h2 (hbmem t ht b base hm)
    · obtain ⟨e1, e2⟩ := hrest l hn
      rw [e2] at hm
      exact h3 l base (by simpa [live, e1] using hl) (hnotin l hn) hm
  have hblk_live : ∀ b, b ∈ blk μ ex → ∃ l base, live σ l ∧ μ l = some (b, base) := fun b hb => by
    obtain ⟨p, hp, base, hm⟩ := blk_mem hb
    exact ⟨p.1, base, (hex p hp).1, hm⟩
  have hold : ∀ b, Nof S σ μ w b → b ∉ blk μ ex := fun b hb hin => by
    obtain ⟨l, base, hl, hm⟩ := hblk_live b hin
    exact hb.2.2 l base hl hm
  have hst : Step S σ (putO σ (usOf τ)) μ (placeT μ τ) w w' := by
    refine ⟨hsize, fun b hb => ⟨hsame b hb.1 (hold b hb), hN b ⟨by have := hb.1; omega, fun h => ?_, hb.2.1, fun l base hl _ => hb.2.2 l base hl⟩⟩, fun l => ?_⟩
    · rcases (hF b h).2 with h | h
      · exact hold b hb h
      · have := hb.1; omega
    · rcases hcase l with ⟨t, ht, rfl⟩ | hn
      · obtain ⟨e1, e2⟩ := hfits t ht
        rcases hturn t ht with h | ⟨h1, h2, h3, h4⟩
        · left; rw [e1]; exact h
        · right
          rw [e1, e2]
          refine ⟨h1, h2, h3, fun sz n row h => ?_, fun b base cs e hm _ hb => shape b cs e (0, 0) hb⟩
          obtain ⟨row', hr⟩ := h4 sz n row h
          exact ⟨n, row', hr, Nat.le_refl _⟩
      · right
        obtain ⟨e1, e2⟩ := hrest l hn
        rw [e1, e2]
        exact ⟨rfl, rfl, fun c hc => ⟨c, hc⟩, fun sz n row hr => ⟨n, row, hr, Nat.le_refl _⟩, fun b base cs e hm _ hb => shape b cs e (0, 0) hb⟩
  refine ⟨hN, hfits, R.carry hst env (fun b hb hs => hsame b (Nat.lt_of_lt_of_le hb R.grow) fun hin => ?_) shape (fun l b base hl hm => ?_) (fun l l' b base base' hl hl' hm hm' => ?_) (fun l => ?_)⟩
  · obtain ⟨l, base, hl, hm⟩ := hblk_live b hin
    rcases (R.own l b base hl hm).2 with h | h
    · omega
    · exact hs h
  · rcases hcase l with ⟨t, ht, rfl⟩ | hn
    · rw [(hfits t ht).2] at hm
      obtain ⟨h1, h2⟩ := hF b (hbmem t ht b base hm)
      refine ⟨h1, ?_⟩
      rcases h2 with h2 | h2
      · obtain ⟨l', base', hl', hm'⟩ := hblk_live b h2
        exact (R.own l' b base' hl' hm').2
      · exact .inl (by have := R.grow; omega)
    · obtain ⟨e1, e2⟩ := hrest l hn
      rw [e2] at hm
      have := R.own l b base (by simpa [live, e1] using hl) hm
      exact ⟨by omega, this.2⟩
  · rcases hcase l with ⟨t, ht, rfl⟩ | hn <;> rcases hcase l' with ⟨t', ht', rfl⟩ | hn'
    · rw [(hfits t ht).2] at hm
      rw [(hfits t' ht').2] at hm'
      rw [blkT_inj (by rw [hblk]; exact hFn) ht ht' hm hm']
    · rw [(hfits t ht).2] at hm
      obtain ⟨e1, e2⟩ := hrest l' hn'
      rw [e2] at hm'
      exact ((hother l' b base' (by simpa [live, e1] using hl') hn' hm').1 (hbmem t ht b base hm)).elim
    · rw [(hfits t' ht').2] at hm'
      obtain ⟨e1, e2⟩ := hrest l hn
      rw [e2] at hm
      exact ((hother l b base (by simpa [live, e1] using hl) hn hm).1 (hbmem t' ht' b base' hm')).elim
    · obtain ⟨e1, e2⟩ := hrest l hn
      obtain ⟨e1', e2'⟩ := hrest l' hn'
      rw [e2] at hm
      rw [e2'] at hm'
      exact R.inj l l' b base base' (by simpa [live, e1] using hl) (by simpa [live, e1'] using hl') hm hm'
  · rcases hcase l with ⟨t, ht, rfl⟩ | hn
    · right
      rw [(hfits t ht).1]
      exact hobj _ hN hfits t ht
    · left
      obtain ⟨e1, e2⟩ := hrest l hn
      exact ⟨e1, e2, fun b base hl hm => hsame b (R.own l b base hl hm).1 (hother l b base hl hn hm).2⟩

theorem usOf_killT (new : List (Nat × Nat × HO)) (ls : List (Nat × Nat)) : usOf (killT new ls) = killed new ls := killT_us new ls

theorem XTsRep.snoc {N : Nat → Prop} : ∀ {xs : List XT} {vs : List Value} {F : List Nat} {ys : List DV} {us : List Value}, XTsRep w N xs vs F → us.length = ys.length →
    (∀ (j : Nat) y, ys[j]? = some y → ∃ u, us[j]? = some u ∧ DRep w N y u) → XTsRep w N (xs ++ ys.map fun x => .c (.d x)) (vs ++ us) F
  | [], [], F, [], [], h, _, _ => h
  | [], [], F, y :: r, u :: s, h, hl, hy => by
    have h : F = [] := h
    subst h
    obtain ⟨u', hu, hd⟩ := hy 0 y rfl
    simp at hu; subst hu
    exact ⟨[], [], rfl, ⟨rfl, hd⟩, XTsRep.snoc (xs := []) (vs := []) rfl (by simpa using hl) fun j z hj => by
      obtain ⟨u', hu, hd⟩ := hy (j + 1) z (by simpa using hj)
      exact ⟨u', by simpa using hu, hd⟩⟩
  | [], [], _, [], _ :: _, _, hl, _ => by simp at hl
  | [], [], _, _ :: _, [], _, hl, _ => by simp at hl
  | [], _ :: _, _, _, _, h, _, _ => h.elim
  | _ :: _, [], _, _, _, h, _, _ => h.elim
  | x :: r, v :: s, F, ys, us, ⟨F1, F2, e, h1, h2⟩, hl, hy => ⟨F1, F2, e, h1, h2.snoc hl hy⟩

theorem sound_callSem (R : RelM w0 S nt (lookS slots) σ a w μ) (hd : ∀ d, o.dst = some d → d < nt) {f : FuncId} {args : Array Operand} {cs : Array Value} {caps : List DV} {bo : List (Nat × Nat)} {L : Nat}
    (hexec : callable P f = true → (execOp a.eval o).run P w = .ok (.enter f (args.map a.eval ++ cs)) w)
    (hcl : cs.toList.length = caps.length) (hbo : ∀ p ∈ bo, Valid σ p)
    (hcaps : ∀ N : Nat → Prop, (∀ b, Nof S σ μ w b → N b) → (∀ p ∈ bo, ∀ b base, μ p.1 = some (b, base) → N b) → ∀ (j : Nat) y, caps[j]? = some y → ∃ u, cs.toList[j]? = some u ∧ DRep w N y u)
    (hK : ∀ x us, K x us → nodupL us = true)
    (h : (callSem real EX true (rho slots) L f args.toList caps bo).run σ (OpOut.run (Meets P) σ K)) : Sound P w0 S nt slots σ a w o K := by
  unfold callSem at h
  rw [G.run_bind] at h
  obtain ⟨as, le, h1, hv, hgiven⟩ := givenArgs_spec R h
  clear h
  cases hok : exOk le.ex (le.bo ++ bo) with
  | false => rw [hok] at h1; exact h1.elim
  | true =>
  rw [hok] at h1
  obtain ⟨hnd, hsep⟩ := exOk_spec hok
  have h1 : ∃ out, Meets P f (as ++ caps.map fun x => .c (.d x)) out ∧ (callRet real (rho slots) L (EX f).2 args.toList ⟨le.ex, le.bo ++ bo⟩ out).run σ fun r => K r.1 r.2 := h1
  obtain ⟨out, ⟨hcall, hm⟩, hret⟩ := h1
  have hvex : ∀ p ∈ le.ex, Valid σ p := fun p hp => hv p (by simp [hp])
  have hvbo : ∀ p ∈ le.bo ++ bo, Valid σ p := fun p hp => by
    rcases List.mem_append.1 hp with hp | hp
    · exact hv p (by simp [hp])
    · exact hbo p hp
  generalize hB : le.bo ++ bo = B at hsep hret hvbo
  let N : Nat → Prop := fun b => Nof S σ μ w b ∨ ∃ p ∈ B, ∃ base, μ p.1 = some (b, base)
  have hNof : ∀ b, Nof S σ μ w b → N b := fun b hb => .inl hb
  have hNB : ∀ p ∈ B, ∀ b base, μ p.1 = some (b, base) → N b := fun p hp b base hm => .inr ⟨p, hp, base, hm⟩
  have hargs : XTsRep w N (as ++ caps.map fun x => .c (.d x)) (args.toList.map a.eval ++ cs.toList) (blk μ le.ex) :=
    (hgiven N hNof fun p hp => hNB p (by rw [← hB]; simp [hp])).snoc hcl (hcaps N hNof fun p hp => hNB p (by rw [← hB]; simp [hp]))
  have hFlt : ∀ b, b ∈ blk μ le.ex → b < w.heap.size ∧ ¬ N b := fun b hb => by
    obtain ⟨p, hp, base, hmp⟩ := blk_mem hb
    refine ⟨(R.own p.1 b base (hvex p hp).1 hmp).1, fun hn => ?_⟩
    rcases hn with hn | ⟨q, hq, base', hmq⟩
    · exact hn.2.2 p.1 base (hvex p hp).1 hmp
    · exact hsep p hp q hq (R.inj q.1 p.1 b base' base (hvbo q hq).1 (hvex p hp).1 hmq hmp)
  have hNlt : ∀ b, N b → b < w.heap.size := fun b hn => by
    rcases hn with hn | ⟨q, hq, base', hmq⟩
    · exact hn.1
    · exact (R.own q.1 b base' (hvbo q hq).1 hmq).1
  have hcalls := hm w _ _ N hargs (blk_nodup R hnd hvex) hFlt hNlt
  intro next Q hn
  unfold Oper.wp
  rw [hexec hcall, Oper.upon_enter]
  have hvals : (args.toList.map a.eval ++ cs.toList).toArray = args.map a.eval ++ cs := by apply Array.ext'; simp
  rw [hvals] at hcalls
  refine hcalls.mono fun e w' hp => ?_
  obtain ⟨v, F1, F2, rfl, env, hsize, hsame, shape, hFs, hFn, hres, hback⟩ := hp
  refine hn _ _ ?_
  -- what the answer's parts may lie in
  have hfin : ∀ (gone : List (Nat × Nat)) (N' : Nat → Prop), (gone = [] → B = [] ) → (B ≠ [] → gone = B) →
      (∀ b, (b < w'.heap.size ∧ b ∉ F1 ++ F2 ∧ S.lent b ∧ ∀ l base, live σ l → (∀ p ∈ le.ex ++ gone, p.1 ≠ l) → μ l ≠ some (b, base)) → N' b) → ∀ b, Nout w w' N (blk μ le.ex) (F1 ++ F2) b → N' b := by
    intro gone N' _ hg hN' b ⟨h1, h2, h3⟩
    refine hN' b ⟨h1, h2, ?_, fun l base hl hnl hml => ?_⟩
    · rcases h3 with (h3 | ⟨q, hq, base', hmq⟩) | h3 | h3
      · exact h3.2.1
      · exact R.reach b (R.own q.1 b base' (hvbo q hq).1 hmq).2
      · obtain ⟨p, hp, base, hmp⟩ := blk_mem h3
        exact R.reach b (R.own p.1 b base (hvex p hp).1 hmp).2
      · exact R.reach b (.inl (Nat.le_trans R.grow h3))
    rcases h3 with (h3 | ⟨q, hq, base', hmq⟩) | h3 | h3
    · exact h3.2.2 l base hl hml
    · have hBne : B ≠ [] := fun e => by rw [e] at hq; simp at hq
      have := R.inj q.1 l b base' base (hvbo q hq).1 hl hmq hml
      exact hnl q (by rw [hg hBne]; simp [hq]) this
    · obtain ⟨p, hp, base', hmp⟩ := blk_mem h3
      have := R.inj p.1 l b base' base (hvex p hp).1 hl hmp hml
      exact hnl p (by simp [hp]) this
    · have := (R.own l b base hl hml).1; omega
  unfold callRet at hret
  rw [G.run_bind] at hret
  -- the turns and the rest, once the parts may be read in what is left
  have core : ∀ (gone : List (Nat × Nat)) (Nf : Nat → Prop), (∀ p ∈ gone, p ∈ B) →
      (∀ N' : Nat → Prop, (∀ b, (b < w'.heap.size ∧ b ∉ F1 ++ F2 ∧ S.lent b ∧ ∀ l base, live σ l → (∀ p ∈ le.ex ++ gone, p.1 ≠ l) → μ l ≠ some (b, base)) → N' b) → ∀ b, Nf b → N' b) →
      XARep w' Nf out.res v F1 → (∀ bs, splitB args.toList.length out.back = some bs → BackRep w' Nf bs (args.toList.map a.eval) F2) →
      ((taken L out.res).run σ fun r => ((optv (splitB args.toList.length out.back)).bind fun bs => (backArgs real (rho slots) args.toList bs).bind fun us => G.ret (r.1, r.2 ++ us ++ killed (r.2 ++ us) (le.ex ++ gone))).run σ fun r => K r.1 r.2) →
      Cont w0 S nt slots σ o K (a.put o.dst v) w' := by
    intro gone Nf hgone hNf hres hback hrun
    obtain ⟨x, τ1, h2, t1⟩ := taken_spec (μ := μ) hrun hres
    rw [G.run_bind] at h2
    obtain ⟨bs, hbs, h3⟩ := optv_run h2
    rw [G.run_bind] at h3
    obtain ⟨τ2, hk, t2⟩ := backArgs_spec R h3 (hback bs hbs)
    let τ : Turns := τ1 ++ τ2 ++ killT (usOf τ1 ++ usOf τ2) (le.ex ++ gone)
    have hus : usOf τ = usOf τ1 ++ usOf τ2 ++ killed (usOf τ1 ++ usOf τ2) (le.ex ++ gone) := by simp only [τ, usOf_append, usOf_killT]
    have hk : K x (usOf τ) := by rw [hus]; exact hk
    have hblk : blkT τ = F1 ++ F2 := by simp only [τ, blkT_append, killT_blk, t1.1, t2.1, List.append_nil]
    have hvgone : ∀ p ∈ le.ex ++ gone, Valid σ p := fun p hp => by
      rcases List.mem_append.1 hp with hp | hp
      · exact hvex p hp
      · exact hvbo p (hgone p hp)
    have hturn : ∀ t ∈ τ, Turn σ μ t := fun t ht => by
      rcases List.mem_append.1 ht with ht | ht
      · rcases List.mem_append.1 ht with ht | ht
        · exact t1.2.1 t ht
        · exact t2.2.1 t ht
      · obtain ⟨h1, h2, h3⟩ := killT_mem _ ht
        have := (hvgone _ h1).2
        left
        simp only at this
        omega
    have hall : ∀ p ∈ le.ex ++ gone, ∃ t ∈ τ, t.1 = p.1 := fun p hp => by
      rcases killT_all (usOf τ1 ++ usOf τ2) hp with ⟨q, hq, e⟩ | ⟨t, ht, e⟩
      · rw [← usOf_append] at hq
        obtain ⟨t, ht, rfl⟩ := List.mem_map.1 hq
        exact ⟨t, List.mem_append.2 (.inl ht), e⟩
      · exact ⟨t, List.mem_append.2 (.inr ht), e⟩
    have hobj : ∀ N' : Nat → Prop, (∀ b, (b < w'.heap.size ∧ b ∉ F1 ++ F2 ∧ S.lent b ∧ ∀ l base, live σ l → (∀ p ∈ le.ex ++ gone, p.1 ≠ l) → μ l ≠ some (b, base)) → N' b) → ∀ σ' μ', Fits τ σ' μ' →
        ARep σ' μ' w' N' x v ∧ ∀ t ∈ τ, ObjRep σ' μ' w' N' t.1 t.2.1.2 := by
      intro N' hN' σ' μ' hf
      have r1 := t1.2.2 σ' μ' N' (hNf N' hN') (Fits.left (Fits.left hf))
      have r2 := t2.2.2 σ' μ' N' (hNf N' hN') (Fits.right (Fits.left hf))
      refine ⟨r1.1, fun t ht => ?_⟩
      rcases List.mem_append.1 ht with ht | ht
      · rcases List.mem_append.1 ht with ht | ht
        · exact r1.2 t ht
        · exact r2.2 t ht
      · obtain ⟨_, h2, _⟩ := killT_mem _ ht
        rw [h2]; trivial
    obtain ⟨hN', hf, R'⟩ := R.turned (gone := gone) (hK x _ hk) hvex hturn hall env hsize hsame shape hFs hFn hblk fun N' hN' hf => (hobj N' hN' _ _ hf).2
    exact ⟨x, usOf τ, hk, placeT μ τ, R'.put hd (hobj _ hN' _ _ hf).1⟩
  have hsplit : ∀ bs, splitB args.toList.length out.back = some bs → BackRep w' (Nout w w' N (blk μ le.ex) (F1 ++ F2)) bs (args.toList.map a.eval) F2 ∧ ∀ c, some c ∈ bs → some c ∈ out.back :=
    fun bs hbs => splitB_spec hbs (by simp) hback
  cases B with
  | nil =>
    refine core [] (Nout w w' N (blk μ le.ex) (F1 ++ F2)) (fun p hp => by simp at hp) (fun N' hN' => hfin [] N' (fun _ => rfl) (fun h => (h rfl).elim) hN') hres (fun bs hbs => (hsplit bs hbs).1) ?_
    simpa using hret
  | cons q B' =>
    cases hkeep : (EX f).2 with
    | true =>
      rw [hkeep] at hret
      refine core (q :: B') (Nout w w' N (blk μ le.ex) (F1 ++ F2)) (fun p hp => hp) (fun N' hN' => hfin (q :: B') N' (fun h => by simp at h) (fun _ => rfl) hN') hres (fun bs hbs => (hsplit bs hbs).1) hret
    | false =>
      rw [hkeep] at hret
      -- no part leads to what was lent
      have hpl : (∀ N N' : Nat → Prop, ∀ c ∈ out.res.parts, TrV N N' c) ∧ (∀ N N' : Nat → Prop, ∀ c, some c ∈ out.back → TrV N N' c) ∧
          ((taken L out.res).run σ fun r => ((optv (splitB args.toList.length out.back)).bind fun bs => (backArgs real (rho slots) args.toList bs).bind fun us => G.ret (r.1, r.2 ++ us ++ killed (r.2 ++ us) (le.ex ++ []))).run σ fun r => K r.1 r.2) := by
        have aux : ∀ {α : Type} {m : G α} {Q Q' : α → Prop} {p : Prop}, m.run σ Q → (∀ x, Q x → p ∧ Q' x) → p ∧ m.run σ Q' := by
          intro α m Q Q' p hm hq
          induction m with
          | ret x => exact hq x hm
          | get l k ih => exact ih _ hm
          | vc q k ih => obtain ⟨h1, h2⟩ := ih hm.2; exact ⟨h1, hm.1, h2⟩
          | fail => exact hm.elim
        have h5 := aux (p := (∀ N N' : Nat → Prop, ∀ c ∈ out.res.parts, TrV N N' c) ∧ ∀ N N' : Nat → Prop, ∀ c, some c ∈ out.back → TrV N N' c) hret (Q' := fun r => ((optv (splitB args.toList.length out.back)).bind fun bs => (backArgs real (rho slots) args.toList bs).bind fun us => G.ret (r.1, r.2 ++ us ++ killed (r.2 ++ us) (le.ex ++ []))).run σ fun r => K r.1 r.2) ?_
        · exact ⟨h5.1.1, h5.1.2, h5.2⟩
        intro r hr
        simp only [G.run_bind] at hr ⊢
        refine aux hr fun bs hbs => aux hbs fun us hus => ?_
        obtain ⟨q1, b1, h6⟩ := plainA_spec (N := fun _ => True) (N' := fun _ => True) hus
        obtain ⟨q2, b2, h7⟩ := plainB_spec (N := fun _ => True) (N' := fun _ => True) h6
        refine ⟨⟨fun N N' c hc => ?_, fun N N' c hc => ?_⟩, by simpa using h7⟩
        · obtain ⟨q1, _⟩ := plainA_spec (N := N) (N' := N') hus
          exact q1 c hc
        · obtain ⟨q2, _⟩ := plainB_spec (N := N) (N' := N') h6
          exact q2 c hc
      obtain ⟨g1, g2, g3⟩ := hpl
      refine core [] (fun _ => False) (fun p hp => by simp at hp) (fun N' _ b hb => hb.elim) (hres.tr (g1 _ _)) (fun bs hbs => ?_) g3
      obtain ⟨s1, s2⟩ := hsplit bs hbs
      exact s1.tr fun c hc => g2 _ _ c (s2 c hc)
end
end Go.Rk
