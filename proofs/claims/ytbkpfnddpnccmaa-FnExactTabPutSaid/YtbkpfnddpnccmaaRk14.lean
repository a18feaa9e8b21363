/- Calls, three: what a function is said to do, and what a call of it does. -/
import Derived.Test.YtbkpfnddpnccmaaRk13
namespace Go.Rk

def Env (w w' : World) : Prop := w'.os = w.os ∧ w'.output = w.output ∧ w'.tape = w.tape
def Nout (w w' : World) (N : Nat → Prop) (I F : List Nat) (b : Nat) : Prop := b < w'.heap.size ∧ b ∉ F ∧ (N b ∨ b ∈ I ∨ w.heap.size ≤ b)
def callable (P : Program) (f : FuncId) : Bool := match P.funcs[f]? with | some fn => !(fn.name == "runtime.NumGoroutine") && fn.body.isSome | none => false

def Post (w : World) (N : Nat → Prop) (F : List Nat) (vals : List Value) (out : Out) (e : Ending) (w' : World) : Prop :=
  ∃ v F1 F2, e = .returned v ∧ Env w w' ∧ w.heap.size ≤ w'.heap.size ∧ (∀ b, b < w.heap.size → b ∉ F → w'.heap[b]? = w.heap[b]?) ∧
    (∀ (b : Nat) cs e fr, w.heap[b]? = some (Obj.cells cs e fr) → ∃ cs', w'.heap[b]? = some (Obj.cells cs' e fr) ∧ cs'.size = cs.size) ∧
    (∀ b, b ∈ F1 ++ F2 → b < w'.heap.size ∧ (b ∈ F ∨ w.heap.size ≤ b)) ∧ (F1 ++ F2).Nodup ∧
    XARep w' (Nout w w' N F (F1 ++ F2)) out.res v F1 ∧ BackRep w' (Nout w w' N F (F1 ++ F2)) out.back vals F2

/-- Called with these, the function answers that: in every world where they can be read, in every order, with any room. -/
def Meets (P : Program) (f : FuncId) (args : List XT) (out : Out) : Prop :=
  callable P f = true ∧ ∀ (w : World) (vals : List Value) (F : List Nat) (N : Nat → Prop), XTsRep w N args vals F → F.Nodup → (∀ b, b ∈ F → b < w.heap.size ∧ ¬ N b) → (∀ b, N b → b < w.heap.size) →
    Calls P f vals.toArray w (Post w N F vals out)

section
variable {w : World} {N N' : Nat → Prop} {σ : Objs}

theorem OwnRep.tr {sz n : Nat} {row : Nat → List DV} {v : Value} {F : List Nat} (h : (∀ b, N b → N' b) ∨ real.flat n row) (hx : OwnRep w N sz n row v F) : OwnRep w N' sz n row v F := by
  refine ⟨hx.1, hx.2.imp id fun ⟨b, base, cap, cs, e, h1, h2, h3, h4, h5, h6, h7⟩ => ⟨b, base, cap, cs, e, h1, h2, h3, h4, h5, h6, fun i j x hi hj => ?_⟩⟩
  obtain ⟨u, hu, hd⟩ := h7 i j x hi hj
  refine ⟨u, hu, ?_⟩
  rcases h with h | h
  · exact hd.mono h
  · obtain ⟨q, rfl⟩ := h i hi x (List.mem_of_getElem? hj)
    cases hd with
    | v _ h1 => exact DRep.v _ h1
theorem DRep.plain {u v : Value} (hx : DRep w N (.v u) v) : DRep w N' (.v u) v := by
  cases hx with
  | v _ h1 => exact DRep.v _ h1

/-- Either N grows, or it does not matter. -/
def TrC (N N' : Nat → Prop) (x : XC) : Prop := (∀ b, N b → N' b) ∨ (match x with | .d x => ∃ u, x = .v u | .own _ n row => real.flat n row)
def TrV (N N' : Nat → Prop) (x : XV) : Prop := (∀ b, N b → N' b) ∨ (match x with | .d x => ∃ u, x = .v u | .own _ n row => real.flat n row | .box cells => ∀ c ∈ cells, TrC N N' c)
theorem XCRep.tr {x : XC} {v : Value} {F : List Nat} (h : TrC N N' x) (hx : XCRep w N x v F) : XCRep w N' x v F := by
  cases x with
  | d x =>
    rcases h with h | ⟨u, rfl⟩
    · exact ⟨hx.1, hx.2.mono h⟩
    · exact ⟨hx.1, hx.2.plain⟩
  | own sz n row => exact OwnRep.tr h hx
theorem XCsRep.tr : ∀ {xs : List XC} {vs : List Value} {F : List Nat}, (∀ c ∈ xs, TrC N N' c) → XCsRep w N xs vs F → XCsRep w N' xs vs F
  | [], [], _, _, hx => hx
  | [], _ :: _, _, _, hx => hx.elim
  | _ :: _, [], _, _, hx => hx.elim
  | x :: r, v :: s, F, h, ⟨F1, F2, e, h1, h2⟩ => ⟨F1, F2, e, h1.tr (h x (by simp)), XCsRep.tr (fun c hc => h c (by simp [hc])) h2⟩
theorem XVRep.tr {x : XV} {v : Value} {F : List Nat} (h : TrV N N' x) (hx : XVRep w N x v F) : XVRep w N' x v F := by
  cases x with
  | d x =>
    rcases h with h | ⟨u, rfl⟩
    · exact ⟨hx.1, hx.2.mono h⟩
    · exact ⟨hx.1, hx.2.plain⟩
  | own sz n row => exact OwnRep.tr h hx
  | box cells =>
    obtain ⟨b, cs, e, F', h1, h2, h3, h4⟩ := hx
    exact ⟨b, cs, e, F', h1, h2, h3, h4.tr fun c hc => by
      rcases h with h | h
      · exact .inl h
      · exact h c hc⟩
theorem XVsRep.tr : ∀ {xs : List XV} {vs : List Value} {F : List Nat}, (∀ c ∈ xs, TrV N N' c) → XVsRep w N xs vs F → XVsRep w N' xs vs F
  | [], [], _, _, hx => hx
  | [], _ :: _, _, _, hx => hx.elim
  | _ :: _, [], _, _, hx => hx.elim
  | x :: r, v :: s, F, h, ⟨F1, F2, e, h1, h2⟩ => ⟨F1, F2, e, h1.tr (h x (by simp)), XVsRep.tr (fun c hc => h c (by simp [hc])) h2⟩
def XT.parts : XT → List XV
  | .c x => [x]
  | .agg xs => xs
theorem XTRep.tr {x : XT} {v : Value} {F : List Nat} (h : ∀ c ∈ x.parts, TrV N N' c) (hx : XTRep w N x v F) : XTRep w N' x v F := by
  cases x with
  | c x => exact XVRep.tr (h x (by simp [XT.parts])) hx
  | agg xs => obtain ⟨cs, h1, h2⟩ := hx; exact ⟨cs, h1, h2.tr h⟩
theorem XTsRep.tr : ∀ {xs : List XT} {vs : List Value} {F : List Nat}, (∀ x ∈ xs, ∀ c ∈ x.parts, TrV N N' c) → XTsRep w N xs vs F → XTsRep w N' xs vs F
  | [], [], _, _, hx => hx
  | [], _ :: _, _, _, hx => hx.elim
  | _ :: _, [], _, _, hx => hx.elim
  | x :: r, v :: s, F, h, ⟨F1, F2, e, h1, h2⟩ => ⟨F1, F2, e, h1.tr (h x (by simp)), XTsRep.tr (fun c hc => h c (by simp [hc])) h2⟩
def XA.parts : XA → List XV
  | .one x => x.parts
  | .tup xs => xs.flatMap XT.parts
theorem XARep.tr {x : XA} {v : Value} {F : List Nat} (h : ∀ c ∈ x.parts, TrV N N' c) (hx : XARep w N x v F) : XARep w N' x v F := by
  cases x with
  | one x => exact XTRep.tr h hx
  | tup xs => obtain ⟨cs, h1, h2⟩ := hx; exact ⟨cs, h1, h2.tr fun x hx c hc => h c (by simp only [XA.parts, List.mem_flatMap]; exact ⟨x, hx, hc⟩)⟩
theorem BackRep.tr : ∀ {xs : List (Option XV)} {vs : List Value} {F : List Nat}, (∀ c, some c ∈ xs → TrV N N' c) → BackRep w N xs vs F → BackRep w N' xs vs F
  | [], [], _, _, hx => hx
  | [], _ :: _, _, _, hx => hx.elim
  | none :: _, [], _, _, hx => hx.elim
  | some _ :: _, [], _, _, hx => hx.elim
  | none :: r, v :: s, F, h, hx => BackRep.tr (xs := r) (fun c hc => h c (by simp [hc])) hx
  | some x :: r, v :: s, F, h, ⟨F1, F2, e, h1, h2⟩ => ⟨F1, F2, e, h1.tr (h x (by simp)), BackRep.tr (fun c hc => h c (by simp [hc])) h2⟩

theorem plainC_spec {x : XC} {Q : Bool → Prop} (h : (plainC real x).run σ Q) : TrC N N' x ∧ ∃ b, Q b := by
  unfold plainC at h
  split at h
  · exact ⟨.inr ⟨_, rfl⟩, _, h⟩
  · exact ⟨.inr h.1, _, h.2⟩
  · exact h.elim
theorem plainCs_spec : ∀ {xs : List XC} {Q : Bool → Prop}, (plainCs real xs).run σ Q → (∀ c ∈ xs, TrC N N' c) ∧ ∃ b, Q b
  | [], Q, h => ⟨fun c hc => by simp at hc, _, h⟩
  | x :: r, Q, h => by
    simp only [plainCs, G.run_bind] at h
    obtain ⟨h1, b, h⟩ := plainC_spec (N := N) (N' := N') h
    obtain ⟨h2, h3⟩ := plainCs_spec h
    exact ⟨fun c hc => by rcases List.mem_cons.1 hc with rfl | hc; exact h1; exact h2 c hc, h3⟩
theorem plainV_spec {x : XV} {Q : Bool → Prop} (h : (plainV real x).run σ Q) : TrV N N' x ∧ ∃ b, Q b := by
  unfold plainV at h
  split at h
  · exact ⟨.inr ⟨_, rfl⟩, _, h⟩
  · exact ⟨.inr h.1, _, h.2⟩
  · obtain ⟨h1, h2⟩ := plainCs_spec (N := N) (N' := N') h
    exact ⟨.inr h1, h2⟩
  · exact h.elim
theorem plainVs_spec : ∀ {xs : List XV} {Q : Bool → Prop}, (plainVs real xs).run σ Q → (∀ c ∈ xs, TrV N N' c) ∧ ∃ b, Q b
  | [], Q, h => ⟨fun c hc => by simp at hc, _, h⟩
  | x :: r, Q, h => by
    simp only [plainVs, G.run_bind] at h
    obtain ⟨h1, b, h⟩ := plainV_spec (N := N) (N' := N') h
    obtain ⟨h2, h3⟩ := plainVs_spec h
    exact ⟨fun c hc => by rcases List.mem_cons.1 hc with rfl | hc; exact h1; exact h2 c hc, h3⟩
theorem plainT_spec {x : XT} {Q : Bool → Prop} (h : (plainT real x).run σ Q) : (∀ c ∈ x.parts, TrV N N' c) ∧ ∃ b, Q b := by
  cases x with
  | c x =>
    obtain ⟨h1, h2⟩ := plainV_spec (N := N) (N' := N') (x := x) h
    exact ⟨fun c hc => by simp [XT.parts] at hc; subst hc; exact h1, h2⟩
  | agg xs => exact plainVs_spec h
theorem plainTs_spec : ∀ {xs : List XT} {Q : Bool → Prop}, (plainTs real xs).run σ Q → (∀ x ∈ xs, ∀ c ∈ x.parts, TrV N N' c) ∧ ∃ b, Q b
  | [], Q, h => ⟨fun c hc => by simp at hc, _, h⟩
  | x :: r, Q, h => by
    simp only [plainTs, G.run_bind] at h
    obtain ⟨h1, b, h⟩ := plainT_spec (N := N) (N' := N') h
    obtain ⟨h2, h3⟩ := plainTs_spec h
    exact ⟨fun c hc => by rcases List.mem_cons.1 hc with rfl | hc; exact h1; exact h2 c hc, h3⟩
theorem plainA_spec {x : XA} {Q : Bool → Prop} (h : (plainA real x).run σ Q) : (∀ c ∈ x.parts, TrV N N' c) ∧ ∃ b, Q b := by
  cases x with
  | one x => exact plainT_spec h
  | tup xs =>
    obtain ⟨h1, h2⟩ := plainTs_spec (N := N) (N' := N') (xs := xs) h
    exact ⟨fun c hc => by simp only [XA.parts, List.mem_flatMap] at hc; obtain ⟨x, hx, hc⟩ := hc; exact h1 x hx c hc, h2⟩
theorem plainB_spec : ∀ {xs : List (Option XV)} {Q : Bool → Prop}, (plainB real xs).run σ Q → (∀ c, some c ∈ xs → TrV N N' c) ∧ ∃ b, Q b
  | [], Q, h => ⟨fun c hc => by simp at hc, _, h⟩
  | none :: r, Q, h => by
    obtain ⟨h2, h3⟩ := plainB_spec (xs := r) h
    exact ⟨fun c hc => h2 c (by simpa using hc), h3⟩
  | some x :: r, Q, h => by
    simp only [plainB, G.run_bind] at h
    obtain ⟨h1, b, h⟩ := plainV_spec (N := N) (N' := N') h
    obtain ⟨h2, h3⟩ := plainB_spec h
    exact ⟨fun c hc => by rcases List.mem_cons.1 hc with e | hc; exact (by injection e with e; subst e; exact h1); exact h2 c hc, h3⟩

theorem allNone_spec : ∀ {bs : List (Option XV)} {vs : List Value} {F : List Nat}, allNone bs = true → BackRep w N bs vs F → F = []
  | [], [], _, _, h => h
  | [], _ :: _, _, _, h => h.elim
  | none :: r, [], _, _, h => h.elim
  | none :: r, v :: s, _, h1, h => allNone_spec (bs := r) h1 h
  | some _ :: _, _, _, h1, _ => by simp [allNone] at h1
theorem splitB_spec : ∀ {n : Nat} {bs bs' : List (Option XV)} {v1 v2 : List Value} {F : List Nat}, splitB n bs = some bs' → v1.length = n → BackRep w N bs (v1 ++ v2) F → BackRep w N bs' v1 F ∧ ∀ c, some c ∈ bs' → some c ∈ bs
  | 0, bs, bs', [], v2, F, h, _, hx => by
    unfold splitB at h
    split at h
    · rename_i h0
      simp at h; subst h
      exact ⟨allNone_spec h0 hx, fun c hc => by simp at hc⟩
    · simp at h
  | n + 1, [], bs', v1, v2, F, h, _, hx => by simp [splitB] at h
  | n + 1, x :: r, bs', v :: s, v2, F, h, hl, hx => by
    simp only [splitB, Option.map_eq_some_iff] at h
    obtain ⟨r', h', rfl⟩ := h
    cases x with
    | none =>
      obtain ⟨h1, h2⟩ := splitB_spec (v1 := s) h' (by simpa using hl) hx
      exact ⟨h1, fun c hc => by simp at hc ⊢; exact h2 c hc⟩
    | some x =>
      obtain ⟨F1, F2, e, h1, h2⟩ := hx
      obtain ⟨h3, h4⟩ := splitB_spec (v1 := s) h' (by simpa using hl) h2
      exact ⟨⟨F1, F2, e, h1, h3⟩, fun c hc => by simp at hc ⊢; exact hc.imp id (h4 c)⟩
  | 0, _, _, _ :: _, _, _, _, h, _ => by simp at h
  | n + 1, _ :: _, _, [], _, _, _, h, _ => by simp at h
end

/-! ### All turns together -/
theorem hasLab_iff : ∀ {us : List (Nat × Nat × HO)} {l : Nat}, hasLab us l = true ↔ ∃ p ∈ us, p.1 = l
  | [], l => by simp [hasLab]
  | p :: r, l => by
    unfold hasLab
    cases hb : Nat.beq p.1 l with
    | true => have := Nat.eq_of_beq_eq_true hb; simp [this]
    | false =>
      have : p.1 ≠ l := fun e => by rw [e] at hb; simp at hb
      simp only [cond_false, hasLab_iff, List.mem_cons]
      exact ⟨fun ⟨q, hq, e⟩ => ⟨q, .inr hq, e⟩, fun ⟨q, hq, e⟩ => by rcases hq with rfl | hq; exact (this e).elim; exact ⟨q, hq, e⟩⟩
theorem putO_spec {σ : Objs} : ∀ {us : List (Nat × Nat × HO)}, nodupL us = true → (∀ p ∈ us, putO σ us p.1 = p.2) ∧ ∀ l, (∀ p ∈ us, p.1 ≠ l) → putO σ us l = σ l
  | [], _ => ⟨fun p hp => by simp at hp, fun l _ => rfl⟩
  | p :: r, h => by
    unfold nodupL at h
    cases hb : hasLab r p.1 with
    | true => simp [hb] at h
    | false =>
      simp only [hb, cond_false] at h
      obtain ⟨h1, h2⟩ := putO_spec (σ := σ) h
      have hn : ∀ q ∈ r, q.1 ≠ p.1 := fun q hq e => by
        have : hasLab r p.1 = true := hasLab_iff.2 ⟨q, hq, e⟩
        rw [hb] at this; simp at this
      refine ⟨fun q hq => ?_, fun l hl => ?_⟩
      · rcases List.mem_cons.1 hq with rfl | hq
        · simp [putO]
        · simp only [putO, updO_ne _ _ (hn q hq)]; exact h1 q hq
      · have : l ≠ p.1 := fun e => hl p (by simp) e.symm
        simp only [putO, updO_ne _ _ this]
        exact h2 l fun q hq => hl q (by simp [hq])
def findT : Turns → Nat → Option (Option (Nat × Nat))
  | [], _ => none
  | t :: r, l => if t.1 = l then some t.2.2 else findT r l
def placeT (μ : Place) (τ : Turns) : Place := fun l => (findT τ l).getD (μ l)
theorem findT_spec : ∀ {τ : Turns}, nodupL (usOf τ) = true → (∀ t ∈ τ, findT τ t.1 = some t.2.2) ∧ ∀ l, (∀ t ∈ τ, t.1 ≠ l) → findT τ l = none
  | [], _ => ⟨fun t ht => by simp at ht, fun l _ => rfl⟩
  | t :: r, h => by
    have h : nodupL ((t.1, t.2.1) :: usOf r) = true := h
    unfold nodupL at h
    cases hb : hasLab (usOf r) t.1 with
    | true => simp [hb] at h
    | false =>
      simp only [hb, cond_false] at h
      obtain ⟨h1, h2⟩ := findT_spec h
      have hn : ∀ q ∈ r, q.1 ≠ t.1 := fun q hq e => by
        have : hasLab (usOf r) t.1 = true := hasLab_iff.2 ⟨(q.1, q.2.1), List.mem_map.2 ⟨q, hq, rfl⟩, e⟩
        rw [hb] at this; simp at this
      refine ⟨fun q hq => ?_, fun l hl => ?_⟩
      · rcases List.mem_cons.1 hq with rfl | hq
        · simp [findT]
        · simp only [findT, if_neg (hn q hq).symm]; exact h1 q hq
      · simp only [findT, if_neg (hl t (by simp))]
        exact h2 l fun q hq => hl q (by simp [hq])
theorem blkT_inj : ∀ {τ : Turns}, (blkT τ).Nodup → ∀ {t t'}, t ∈ τ → t' ∈ τ → ∀ {b base base'}, t.2.2 = some (b, base) → t'.2.2 = some (b, base') → t = t'
  | [], _, t, t', h0, _, _, _, _, _, _ => by simp at h0
  | x :: r, hn, t, t', h0, h0', b, base, base', e, e' => by
    have hmem : ∀ t ∈ r, ∀ b base, t.2.2 = some (b, base) → b ∈ blkT r := fun t ht b base e => List.mem_filterMap.2 ⟨t, ht, by rw [e]; rfl⟩
    have hcons : blkT (x :: r) = blkT [x] ++ blkT r := blkT_append [x] r
    rw [hcons, List.nodup_append] at hn
    have hx : ∀ b base, x.2.2 = some (b, base) → b ∈ blkT [x] := fun b base e => by simp [blkT, e]
    rcases List.mem_cons.1 h0 with rfl | h <;> rcases List.mem_cons.1 h0' with rfl | h'
    · rfl
    · exact (hn.2.2 b (hx b base e) b (hmem t' h' b base' e') rfl).elim
    · exact (hn.2.2 b (hx b base' e') b (hmem t h b base e) rfl).elim
    · exact blkT_inj hn.2.1 h h' e e'

/-- What was handed over and has not come back, as turns. -/
def killT (new : List (Nat × Nat × HO)) : List (Nat × Nat) → Turns
  | [] => []
  | p :: r => bif hasLab new p.1 then killT new r else (p.1, (p.2 + 1, .dead), none) :: killT new r
theorem killT_us (new : List (Nat × Nat × HO)) : ∀ ls, usOf (killT new ls) = killed new ls
  | [] => rfl
  | p :: r => by
    unfold killT killed
    cases hasLab new p.1 with
    | true => exact killT_us new r
    | false => simp only [cond_false]; rw [← killT_us new r]; rfl
theorem killT_blk (new : List (Nat × Nat × HO)) : ∀ ls, blkT (killT new ls) = []
  | [] => rfl
  | p :: r => by
    unfold killT
    cases hasLab new p.1 with
    | true => exact killT_blk new r
    | false => simpa [blkT] using killT_blk new r
theorem killT_mem (new : List (Nat × Nat × HO)) : ∀ {ls t}, t ∈ killT new ls → (t.1, t.2.1.1 - 1) ∈ ls ∧ t.2.1.2 = .dead ∧ 0 < t.2.1.1
  | p :: r, t, h => by
    unfold killT at h
    cases hb : hasLab new p.1 with
    | true =>
      simp only [hb, cond_true] at h
      obtain ⟨h1, h2⟩ := killT_mem new h
      exact ⟨List.mem_cons_of_mem _ h1, h2⟩
    | false =>
      simp only [hb, cond_false] at h
      rcases List.mem_cons.1 h with rfl | h
      · exact ⟨by simp, rfl, by simp⟩
      · obtain ⟨h1, h2⟩ := killT_mem new h
        exact ⟨List.mem_cons_of_mem _ h1, h2⟩
theorem killT_all (new : List (Nat × Nat × HO)) : ∀ {ls p}, p ∈ ls → (∃ q ∈ new, q.1 = p.1) ∨ ∃ t ∈ killT new ls, t.1 = p.1
  | q :: r, p, h => by
    unfold killT
    cases hb : hasLab new q.1 with
    | true =>
      simp only [cond_true]
      rcases List.mem_cons.1 h with rfl | h
      · exact .inl (hasLab_iff.1 hb)
      · exact killT_all new h
    | false =>
      simp only [cond_false]
      rcases List.mem_cons.1 h with rfl | h
      · exact .inr ⟨_, List.mem_cons_self .., rfl⟩
      · exact (killT_all new h).imp id fun ⟨t, ht, e⟩ => ⟨t, List.mem_cons_of_mem _ ht, e⟩
end Go.Rk
