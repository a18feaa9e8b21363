/- Calls, two: what comes back, and the call. -/
import Derived.Test.YtbkpfnddpnccmaaRk12
namespace Go.Rk

/-- Labels with what they bear from now on, and where it lies. -/
abbrev Turns := List (Nat × (Nat × HO) × Option (Nat × Nat))
def usOf (τ : Turns) : List (Nat × Nat × HO) := τ.map fun t => (t.1, t.2.1)
def blkT (τ : Turns) : List Nat := τ.filterMap fun t => t.2.2.map (·.1)
def Fits (τ : Turns) (σ' : Objs) (μ' : Place) : Prop := ∀ t ∈ τ, σ' t.1 = t.2.1 ∧ μ' t.1 = t.2.2
def Turn (σ : Objs) (μ : Place) (t : Nat × (Nat × HO) × Option (Nat × Nat)) : Prop :=
  (σ t.1).1 < t.2.1.1 ∨ ((σ t.1).1 = t.2.1.1 ∧ t.2.2 = μ t.1 ∧ (∀ cells, t.2.1.2 = .box cells → ∃ c', (σ t.1).2 = .box c') ∧
    ∀ sz n row, t.2.1.2 = .arr sz n row → ∃ row', (σ t.1).2 = .arr sz n row')
theorem usOf_append (a b : Turns) : usOf (a ++ b) = usOf a ++ usOf b := by simp [usOf]
theorem blkT_append (a b : Turns) : blkT (a ++ b) = blkT a ++ blkT b := by simp [blkT]
theorem Fits.left {a b : Turns} {σ' : Objs} {μ' : Place} (h : Fits (a ++ b) σ' μ') : Fits a σ' μ' := fun t ht => h t (by simp [ht])
theorem Fits.right {a b : Turns} {σ' : Objs} {μ' : Place} (h : Fits (a ++ b) σ' μ') : Fits b σ' μ' := fun t ht => h t (by simp [ht])

section
variable {σ : Objs} {μ : Place} {w : World} {N : Nat → Prop}

/-- What is shown of what is taken: abstract things 'Z' of the labels' turns. -/
def TakenOk (σ : Objs) (μ : Place) (w : World) (N : Nat → Prop) (τ : Turns) (F : List Nat) (Z : Objs → Place → (Nat → Prop) → Prop) : Prop :=
  blkT τ = F ∧ (∀ t ∈ τ, Turn σ μ t) ∧ ∀ σ' μ' N', (∀ b, N b → N' b) → Fits τ σ' μ' → Z σ' μ' N' ∧ ∀ t ∈ τ, ObjRep σ' μ' w N' t.1 t.2.1.2

theorem TakenOk.both {τ1 τ2 : Turns} {F1 F2 : List Nat} {Z1 Z2 : Objs → Place → (Nat → Prop) → Prop} (h1 : TakenOk σ μ w N τ1 F1 Z1) (h2 : TakenOk σ μ w N τ2 F2 Z2) :
    TakenOk σ μ w N (τ1 ++ τ2) (F1 ++ F2) fun σ' μ' N' => Z1 σ' μ' N' ∧ Z2 σ' μ' N' := by
  refine ⟨by rw [blkT_append, h1.1, h2.1], fun t ht => ?_, fun σ' μ' N' hn hf => ⟨⟨(h1.2.2 σ' μ' N' hn hf.left).1, (h2.2.2 σ' μ' N' hn hf.right).1⟩, fun t ht => ?_⟩⟩
  · rcases List.mem_append.1 ht with ht | ht
    · exact h1.2.1 t ht
    · exact h2.2.1 t ht
  · rcases List.mem_append.1 ht with ht | ht
    · exact (h1.2.2 σ' μ' N' hn hf.left).2 t ht
    · exact (h2.2.2 σ' μ' N' hn hf.right).2 t ht
theorem TakenOk.nothing {Z : Objs → Place → (Nat → Prop) → Prop} (h : ∀ σ' μ' N', (∀ b, N b → N' b) → Z σ' μ' N') : TakenOk σ μ w N [] [] Z :=
  ⟨rfl, fun t ht => by simp at ht, fun σ' μ' N' hn _ => ⟨h σ' μ' N' hn, fun t ht => by simp at ht⟩⟩
theorem TakenOk.imp {τ : Turns} {F : List Nat} {Z Z' : Objs → Place → (Nat → Prop) → Prop} (h : TakenOk σ μ w N τ F Z) (hz : ∀ σ' μ' N', Fits τ σ' μ' → Z σ' μ' N' → Z' σ' μ' N') : TakenOk σ μ w N τ F Z' :=
  ⟨h.1, h.2.1, fun σ' μ' N' hn hf => ⟨hz σ' μ' N' hf (h.2.2 σ' μ' N' hn hf).1, (h.2.2 σ' μ' N' hn hf).2⟩⟩

/-- An own row under a label, of a version that is new or that it had. -/
theorem own_taken {L ver sz n : Nat} {row : Nat → List DV} {v : Value} {F : List Nat} (hx : OwnRep w N sz n row v F)
    (hv : (σ L).1 < ver ∨ ((σ L).1 = ver ∧ (∃ row', (σ L).2 = .arr sz n row') ∧ ((∃ ad, v = .slice ad 0 0) → μ L = none) ∧ ∀ b base m cap, v = .slice (some ⟨b, base, none⟩) m cap → 0 < cap → μ L = some (b, base))) :
    ∃ p, TakenOk σ μ w N [(L, (ver, .arr sz n row), p)] F fun σ' μ' N' => CRep σ' μ' w N' (.own L 0 n ver) v := by
  obtain ⟨hr, hx⟩ := hx
  have turn : ∀ p, (p = μ L ∨ (σ L).1 < ver) → Turn σ μ (L, (ver, .arr sz n row), p) := fun p hp => by
    rcases hv with hv | ⟨hv, ⟨row', hrow⟩, _⟩
    · exact .inl hv
    · rcases hp with rfl | hp
      · exact .inr ⟨hv, rfl, fun c h => by simp at h, fun sz' n' r h => by simp at h; obtain ⟨rfl, rfl, _⟩ := h; exact ⟨row', hrow⟩⟩
      · exact .inl hp
  rcases hx with ⟨rfl, rfl, ad, rfl⟩ | ⟨b, base, cap, cs, e, rfl, rfl, hpos, hc, hb, hs, hcs⟩
  · refine ⟨none, rfl, fun t ht => ?_, fun σ' μ' N' hn hf => ?_⟩
    · simp at ht; subst ht
      refine turn _ ?_
      rcases hv with hv | ⟨_, _, h0, _⟩
      · exact .inr hv
      · exact .inl (h0 ⟨ad, rfl⟩).symm
    · obtain ⟨hσ, hμ⟩ := hf _ (List.mem_cons_self ..)
      simp only at hσ hμ
      refine ⟨⟨rfl, by rw [hσ]; exact Nat.le_refl _, fun sz' n' row' h => ⟨by omega, .inl ⟨hμ, rfl, ad, rfl⟩⟩⟩, fun t ht => ?_⟩
      simp at ht; subst ht
      exact ⟨fun i hi => by omega, .inl ⟨hμ, rfl⟩⟩
  · refine ⟨some (b, base), rfl, fun t ht => ?_, fun σ' μ' N' hn hf => ?_⟩
    · simp at ht; subst ht
      refine turn _ ?_
      rcases hv with hv | ⟨_, _, _, h1⟩
      · exact .inr hv
      · exact .inl (h1 b base n cap rfl hpos).symm
    · obtain ⟨hσ, hμ⟩ := hf _ (List.mem_cons_self ..)
      simp only at hσ hμ
      refine ⟨⟨rfl, by rw [hσ]; exact Nat.le_refl _, fun sz' n' row' h => ?_⟩, fun t ht => ?_⟩
      · rw [hσ] at h; simp at h; obtain ⟨rfl, rfl, rfl⟩ := h
        exact ⟨by omega, .inr ⟨b, base, base, cap, cs, e, hμ, rfl, hc, fun _ => by simp, hb, hs, fun _ => hpos⟩⟩
      · simp at ht; subst ht
        have := Nat.mul_le_mul_right sz hc
        refine ⟨hr, .inr ⟨b, base, cs, e, hμ, hb, by omega, fun i j x hi hj => ?_⟩⟩
        obtain ⟨u, hu, hd⟩ := hcs i j x hi hj
        exact ⟨u, hu, hd.mono hn⟩

theorem takenCells_spec {l : Nat} : ∀ {cells : List XC} {j : Nat} {vs : List Value} {F : List Nat} {Q : List CV × List (Nat × Nat × HO) → Prop}, (takenCells l j cells).run σ Q → XCsRep w N cells vs F →
    ∃ cvs τ, Q (cvs, usOf τ) ∧ TakenOk σ μ w N τ F fun σ' μ' N' => CsRep σ' μ' w N' cvs vs
  | [], j, [], F, Q, h, hx => by
    have hx : F = [] := hx
    subst hx
    exact ⟨[], [], h, .nothing fun _ _ _ _ => trivial⟩
  | [], _, _ :: _, _, _, _, h => h.elim
  | _ :: _, _, [], _, _, _, h => h.elim
  | x :: r, j, v :: s, F, Q, h, hx => by
    obtain ⟨F1, F2, rfl, h1, h2⟩ := hx
    unfold takenCells at h
    cases x with
    | d x =>
      simp only [G.run_bind] at h
      obtain ⟨rfl, h1⟩ := h1
      obtain ⟨cvs, τ, hq, ht⟩ := takenCells_spec h h2
      refine ⟨_, τ, hq, ?_⟩
      have := (TakenOk.nothing (σ := σ) (μ := μ) (w := w) (Z := fun σ' μ' N' => CRep σ' μ' w N' (.d x) v) fun σ' μ' N' hn => DRep.mono hn h1).both ht
      exact this
    | own sz n row =>
      simp only [G.run, G.run_bind] at h
      obtain ⟨cvs, τ, hq, ht⟩ := takenCells_spec h h2
      obtain ⟨p, ho⟩ := own_taken (σ := σ) (μ := μ) (L := cellLab l j) (ver := (σ (cellLab l j)).1 + 1) h1 (.inl (by omega))
      exact ⟨_, [(cellLab l j, ((σ (cellLab l j)).1 + 1, .arr sz n row), p)] ++ τ, hq, ho.both ht⟩

theorem takenCell_spec {L : Nat} {x : XV} {v : Value} {F : List Nat} {Q : CV × List (Nat × Nat × HO) → Prop} (h : (takenCell L x).run σ Q) (hx : XVRep w N x v F) :
    ∃ c τ, Q (c, usOf τ) ∧ TakenOk σ μ w N τ F fun σ' μ' N' => CRep σ' μ' w N' c v := by
  unfold takenCell at h
  cases x with
  | d x =>
    obtain ⟨rfl, hx⟩ := hx
    exact ⟨_, [], h, .nothing fun σ' μ' N' hn => DRep.mono hn hx⟩
  | own sz n row =>
    obtain ⟨p, ho⟩ := own_taken (σ := σ) (μ := μ) (L := L) (ver := (σ L).1 + 1) hx (.inl (by omega))
    exact ⟨_, [(L, ((σ L).1 + 1, .arr sz n row), p)], h, ho⟩
  | box cells =>
    simp only [G.run, G.run_bind] at h
    obtain ⟨b, cs, e, F', rfl, rfl, hb, hcs⟩ := hx
    obtain ⟨cvs, τ, hq, ht⟩ := takenCells_spec (μ := μ) h hcs
    refine ⟨_, (L, ((σ L).1 + 1, .box cvs), some (b, 0)) :: τ, hq, by simp [blkT]; exact ht.1, fun t h' => ?_, fun σ' μ' N' hn hf => ?_⟩
    · rcases List.mem_cons.1 h' with rfl | h'
      · exact .inl (by simp)
      · exact ht.2.1 t h'
    · obtain ⟨hσ, hμ⟩ := hf _ (List.mem_cons_self ..)
      simp only at hσ hμ
      have hr := ht.2.2 σ' μ' N' hn fun t h' => hf t (by simp [h'])
      refine ⟨⟨rfl, by rw [hσ]; exact Nat.le_refl _, fun cells' _ => ⟨b, hμ, rfl⟩⟩, fun t h' => ?_⟩
      rcases List.mem_cons.1 h' with rfl | h'
      · exact ⟨b, cs, e, hμ, hb, hr.1⟩
      · exact hr.2 t h'

theorem takenList_spec {L : Nat} : ∀ {xs : List XV} {k : Nat} {vs : List Value} {F : List Nat} {Q : List CV × List (Nat × Nat × HO) → Prop}, (takenList L k xs).run σ Q → XVsRep w N xs vs F →
    ∃ cvs τ, Q (cvs, usOf τ) ∧ TakenOk σ μ w N τ F fun σ' μ' N' => CsRep σ' μ' w N' cvs vs
  | [], k, [], F, Q, h, hx => by
    have hx : F = [] := hx
    subst hx
    exact ⟨[], [], h, .nothing fun _ _ _ _ => trivial⟩
  | [], _, _ :: _, _, _, _, h => h.elim
  | _ :: _, _, [], _, _, _, h => h.elim
  | x :: r, k, v :: s, F, Q, h, hx => by
    obtain ⟨F1, F2, rfl, h1, h2⟩ := hx
    simp only [takenList, G.run_bind] at h
    obtain ⟨c, τ1, hq, t1⟩ := takenCell_spec (μ := μ) h h1
    obtain ⟨cvs, τ2, hq, t2⟩ := takenList_spec hq h2
    exact ⟨c :: cvs, τ1 ++ τ2, by rw [usOf_append]; exact hq, t1.both t2⟩
theorem taken1_spec {L k : Nat} {x : XT} {v : Value} {F : List Nat} {Q : TV × Nat × List (Nat × Nat × HO) → Prop} (h : (taken1 L k x).run σ Q) (hx : XTRep w N x v F) :
    ∃ c m τ, Q (c, m, usOf τ) ∧ TakenOk σ μ w N τ F fun σ' μ' N' => TRep σ' μ' w N' c v := by
  unfold taken1 at h
  cases x with
  | c x =>
    simp only [G.run_bind] at h
    obtain ⟨c, τ, hq, ht⟩ := takenCell_spec (μ := μ) h hx
    exact ⟨_, _, τ, hq, ht⟩
  | agg xs =>
    simp only [G.run_bind] at h
    obtain ⟨cs, rfl, hx⟩ := hx
    obtain ⟨c, τ, hq, ht⟩ := takenList_spec (μ := μ) h hx
    exact ⟨_, _, τ, hq, ht.imp fun σ' μ' N' _ hz => ⟨cs, rfl, hz⟩⟩
theorem takenTup_spec {L : Nat} : ∀ {xs : List XT} {k : Nat} {vs : List Value} {F : List Nat} {Q : List TV × List (Nat × Nat × HO) → Prop}, (takenTup L k xs).run σ Q → XTsRep w N xs vs F →
    ∃ cvs τ, Q (cvs, usOf τ) ∧ TakenOk σ μ w N τ F fun σ' μ' N' => TsRep σ' μ' w N' cvs vs
  | [], k, [], F, Q, h, hx => by
    have hx : F = [] := hx
    subst hx
    exact ⟨[], [], h, .nothing fun _ _ _ _ => trivial⟩
  | [], _, _ :: _, _, _, _, h => h.elim
  | _ :: _, _, [], _, _, _, h => h.elim
  | x :: r, k, v :: s, F, Q, h, hx => by
    obtain ⟨F1, F2, rfl, h1, h2⟩ := hx
    simp only [takenTup, G.run_bind] at h
    obtain ⟨c, m, τ1, hq, t1⟩ := taken1_spec (μ := μ) h h1
    obtain ⟨cvs, τ2, hq, t2⟩ := takenTup_spec hq h2
    exact ⟨c :: cvs, τ1 ++ τ2, by rw [usOf_append]; exact hq, t1.both t2⟩
theorem taken_spec {L : Nat} {x : XA} {v : Value} {F : List Nat} {Q : AV × List (Nat × Nat × HO) → Prop} (h : (taken L x).run σ Q) (hx : XARep w N x v F) :
    ∃ c τ, Q (c, usOf τ) ∧ TakenOk σ μ w N τ F fun σ' μ' N' => ARep σ' μ' w N' c v := by
  unfold taken at h
  cases x with
  | one x =>
    simp only [G.run_bind] at h
    obtain ⟨c, m, τ, hq, ht⟩ := taken1_spec (μ := μ) h hx
    exact ⟨_, τ, hq, ht.imp fun σ' μ' N' _ hz => by cases c <;> exact hz⟩
  | tup xs =>
    simp only [G.run_bind] at h
    obtain ⟨cs, rfl, hx⟩ := hx
    obtain ⟨c, τ, hq, ht⟩ := takenTup_spec (μ := μ) h hx
    exact ⟨_, τ, hq, ht.imp fun σ' μ' N' _ hz => ⟨cs, rfl, hz⟩⟩
end

section
variable {w0 : World} {S : Sets} {nt : Nat} {slots : List (Nat × AV)} {σ : Objs} {a : Act} {w w' : World} {μ : Place} {N : Nat → Prop}

theorem backArg_spec {x : AV} {b : Option XV} {v : Value} {F : List Nat} {Q : List (Nat × Nat × HO) → Prop} (h : (backArg real x b).run σ Q) (hv : ARep σ μ w (Nof S σ μ w) x v)
    (hb : ∀ y, b = some y → XVRep w' N y v F) (hn : b = none → F = []) : ∃ τ, Q (usOf τ) ∧ TakenOk σ μ w' N τ F fun _ _ _ => True := by
  unfold backArg at h
  split at h
  · rename_i l ver off cells
    simp only [G.run] at h
    split at h
    · rename_i ver' old hσ
      obtain ⟨h1, h2, h⟩ := h
      have h1 : ver = ver' := h1
      have h2 : off = 0 := h2
      subst h1 h2
      rw [G.run_bind] at h
      obtain ⟨bk, cs, e, F', rfl, rfl, hbk, hcs⟩ := hb _ rfl
      obtain ⟨b0, hm, he⟩ := hv.2.2 old hσ
      simp at he; subst he
      obtain ⟨cvs, τ, hq, ht⟩ := takenCells_spec (μ := μ) h hcs
      refine ⟨(l, (ver, .box cvs), some (bk, 0)) :: τ, hq, by simp [blkT]; exact ht.1, fun t h' => ?_, fun σ' μ' N' hn' hf => ⟨trivial, fun t h' => ?_⟩⟩
      · rcases List.mem_cons.1 h' with rfl | h'
        · exact .inr ⟨by rw [hσ], hm.symm, fun _ _ => ⟨old, by rw [hσ]⟩, fun _ _ _ h => by simp at h⟩
        · exact ht.2.1 t h'
      · obtain ⟨hσ', hμ'⟩ := hf _ (List.mem_cons_self ..)
        have hr := ht.2.2 σ' μ' N' hn' fun t h' => hf t (by simp [h'])
        rcases List.mem_cons.1 h' with rfl | h'
        · exact ⟨bk, cs, e, hμ', hbk, hr.1⟩
        · exact hr.2 t h'
    · exact h.elim
  · rename_i l off len ver sz n row
    simp only [G.run] at h
    split at h
    · rename_i ver' sz' n' row' hσ
      cases hsz : Nat.beq sz sz' with
      | false => rw [hsz] at h; exact h.elim
      | true =>
        rw [hsz] at h
        obtain ⟨h1, h2, h3, h⟩ := h
        have h1 : ver = ver' := h1
        have h2 : off = 0 := h2
        have h3 : n = n' := h3
        subst h1 h2 h3
        have hsz := Nat.eq_of_beq_eq_true hsz
        subst hsz
        have hx := hb _ rfl
        obtain ⟨_, h5⟩ := hv.2.2 sz n row' hσ
        obtain ⟨p, ho⟩ := own_taken (σ := σ) (μ := μ) (L := l) (ver := ver) hx (.inr ⟨by rw [hσ], ⟨row', by rw [hσ]⟩, fun ⟨ad, e⟩ => by
            rcases h5 with ⟨hm, _⟩ | ⟨b, base, o', cap, cs, e', hm, e1, hcap, ho', hbb, hfit, hpos⟩
            · exact hm
            · rw [e] at e1; simp at e1; have := hpos rfl; omega, fun bb base m cap e hc => by
            rcases h5 with ⟨hm, _, ad, e1⟩ | ⟨b, base', o', cap', cs, e', hm, e1, hcap, ho', hbb, hfit, hpos⟩
            · rw [e] at e1; simp at e1; omega
            · rw [e] at e1; simp at e1
              obtain ⟨⟨rfl, rfl⟩, _, _⟩ := e1
              rw [ho' (.inr rfl)]; simpa using hm⟩)
        exact ⟨[(l, (ver, .arr sz n row), p)], h, ho.imp fun _ _ _ _ _ => trivial⟩
    · exact h.elim
  · rw [hn rfl]
    exact ⟨[], h, .nothing fun _ _ _ _ => trivial⟩
  · exact h.elim
theorem backArgs_spec (R : RelM w0 S nt (lookS slots) σ a w μ) : ∀ {xs : List Operand} {bs : List (Option XV)} {F : List Nat} {Q : List (Nat × Nat × HO) → Prop}, (backArgs real (rho slots) xs bs).run σ Q →
    BackRep w' N bs (xs.map a.eval) F → ∃ τ, Q (usOf τ) ∧ TakenOk σ μ w' N τ F fun _ _ _ => True
  | [], [], F, Q, h, hx => by
    have hx : F = [] := hx
    subst hx
    exact ⟨[], h, .nothing fun _ _ _ _ => trivial⟩
  | [], _ :: _, _, _, h, _ => h.elim
  | _ :: _, [], _, _, h, _ => h.elim
  | x :: r, b :: s, F, Q, h, hx => by
    simp only [backArgs, G.run_bind] at h
    cases b with
    | none =>
      obtain ⟨τ1, hq, t1⟩ := backArg_spec (w' := w') (N := N) (F := []) h (rho_rep R x) (fun y hy => by simp at hy) (fun _ => rfl)
      obtain ⟨τ2, hq, t2⟩ := backArgs_spec R hq hx
      exact ⟨τ1 ++ τ2, by rw [usOf_append]; exact hq, (t1.both t2).imp fun _ _ _ _ _ => trivial⟩
    | some y =>
      obtain ⟨F1, F2, rfl, h1, h2⟩ := hx
      obtain ⟨τ1, hq, t1⟩ := backArg_spec (w' := w') (N := N) (F := F1) h (rho_rep R x) (fun z hz => by simp at hz; subst hz; exact h1) (fun hz => by simp at hz)
      obtain ⟨τ2, hq, t2⟩ := backArgs_spec R hq h2
      exact ⟨τ1 ++ τ2, by rw [usOf_append]; exact hq, (t1.both t2).imp fun _ _ _ _ _ => trivial⟩
end
end Go.Rk
