/- A row of operations, in the order of the text or in any. -/
import Derived.Test.YtbkpfnddpnccmaaRk17
import Derived.Test.YtbkpfnddpnccmaaRk1
namespace Go.Rk
structure Ev where
  o : Oper
  g : Bool
  x : AV
  us : List (Nat × Nat × HO)
  lk : List Nat
def Ev.rc (ops : Array Oper) (e : Ev) : Rec := ⟨e.o.dst, Oper.pre e.o, e.o.looksAt ops, e.lk, e.us.map (·.1)⟩
def Ev.put (e : Ev) (σ : St) : St := σ.put e.o.dst (wrapG e.o e.g e.x) e.us

section
variable (P : Program) (T : TypeId → Option TI) (EX : FuncId → List Nat × Bool) (nt : Nat) (ops : Array Oper)
def Good (e : Ev) (σ : St) : Prop :=
  dstOk nt e.o.dst = true ∧ usOk e.o e.us = true ∧ nodupL e.us = true ∧ guardv real ops σ.slots e.o = .ret e.g ∧
  (e.g = true → ∀ σ' : Objs, (∀ l, l ∈ e.lk → σ' l = σ.o l) → (semOp real T EX e.o true (rho σ.slots)).run σ' (OpOut.run (Meets P) σ' fun x us => x = e.x ∧ us = e.us))
def chain : List Ev → St → Prop
  | [], _ => True
  | e :: r, σ => Good P T EX nt ops e σ ∧ chain r (e.put σ)
end
def puts : List Ev → St → St
  | [], σ => σ
  | e :: r, σ => puts r (e.put σ)

section
variable {P : Program} {T : TypeId → Option TI} {EX : FuncId → List Nat × Bool} {nt : Nat} {ops : Array Oper}

theorem guardv_ret {sl : List (Nat × AV)} {o : Oper} {σ : Objs} {Q : Bool → List Nat → Prop} (h : (guardv real ops sl o).wp σ Q) : ∃ g, guardv real ops sl o = .ret g ∧ Q g [] := by
  unfold guardv at *
  split at h
  · exact ⟨_, rfl, h⟩
  · split at h
    · split at h
      · exact ⟨_, rfl, h⟩
      · exact ⟨_, rfl, h⟩
      · exact h.elim
    · exact h.elim

theorem awp_chain {draw : Bool} {Q : St → Prop} : ∀ (l : List Oper) (rs : List Rec) (σ : St), awpOps real T EX (Meets P) nt draw ops Q l rs σ →
    ∃ evs : List Ev, evs.map (·.o) = l ∧ chain P T EX nt ops evs σ ∧ (draw = true → indep (rs.reverse ++ evs.map (Ev.rc ops)) = true) ∧ Q (puts evs σ) := by
  intro l
  induction l with
  | nil =>
    intro rs σ h
    refine ⟨[], rfl, trivial, ?_⟩
    cases draw with
    | false => exact ⟨fun h => (by cases h), h⟩
    | true => exact ⟨fun _ => by rw [List.map_nil, List.append_nil]; exact h.1, h.2⟩
  | cons o r ih =>
    intro rs σ h
    obtain ⟨g, hg, h⟩ := guardv_ret h
    obtain ⟨out, lk, h, hrun⟩ := G.wp_det h
    have key : ∃ x us lk', (dstOk nt o.dst = true ∧ usOk o us = true ∧ nodupL us = true ∧
          awpOps real T EX (Meets P) nt draw ops Q r (⟨o.dst, Oper.pre o, o.looksAt ops, lk ++ lk', us.map (·.1)⟩ :: rs) (σ.put o.dst (wrapG o g x) us)) ∧
        (g = true → ∀ σ' : Objs, (∀ l, l ∈ lk ++ lk' → σ' l = σ.o l) → OpOut.run (Meets P) σ' (fun x' us' => x' = x ∧ us' = us) out) := by
      cases out with
      | val x us => exact ⟨x, us, [], h, fun _ _ _ => ⟨rfl, rfl⟩⟩
      | call f args ret =>
        obtain ⟨out, hM, h⟩ : ∃ out, (g = true → Meets P f args out) ∧ _ := h
        obtain ⟨q, lk', h, hrun'⟩ := G.wp_det h
        exact ⟨q.1, q.2, lk', h, fun hg σ' hl => ⟨out, hM hg, hrun' σ' (fun l hm => hl l (by simp [hm])) _ ⟨rfl, rfl⟩⟩⟩
    obtain ⟨x, us, lk', ⟨h1, h2, h3, h4⟩, h5⟩ := key
    obtain ⟨evs, e1, e2, e3, e4⟩ := ih _ _ h4
    refine ⟨⟨o, g, x, us, lk ++ lk'⟩ :: evs, by simp [e1], ⟨⟨h1, h2, h3, hg, fun hgt σ' hl => ?_⟩, e2⟩, fun hd => ?_, e4⟩
    · have hgt' : g = true := hgt
      subst hgt'
      exact hrun σ' (fun l hm => hl l (by simp [hm])) _ (h5 rfl σ' hl)
    · have := e3 hd
      simpa [Ev.rc] using this

theorem Region.wanted_of {σ : Objs} {sl : List (Nat × AV)} {w0 : World} {S : Sets} {a : Act} {w : World} {μ : Place} {o : Oper} {g : Bool}
    (R : RelM w0 S nt (lookS sl) σ a w μ) (h : guardv real ops sl o = .ret g) (hb : ∀ j want d, o.guard = some (j, want) → (ops[j]?).bind (·.dst) = some d → d < nt) :
    Region.wanted o (yielded ops a.tmps) = g := by
  unfold guardv at h
  unfold Region.wanted
  cases ho : o.guard with
  | none => simp only [ho] at h; cases h; rfl
  | some q =>
    obtain ⟨j, want⟩ := q
    simp only [ho] at h ⊢
    unfold yielded
    cases hd : (ops[j]?).bind (·.dst) with
    | none => simp only [hd] at h; cases h
    | some d =>
      simp only [hd] at h ⊢
      have hs := R.slots d
      have hlt : d < a.tmps.size := by rw [R.size]; exact hb j want d ho hd
      have he : a.tmps[d]? = some (a.tmps.getD d undef) := by simp [hlt]
      simp only [Option.bind_some, he]
      generalize a.tmps.getD d undef = v at hs
      split at h
      · rename_i t b hq
        rw [hq] at hs
        cases h
        cases t with
        | true =>
          have := hs.1 rfl
          cases this
          cases b <;> cases want <;> rfl
        | false =>
          have := hs.2 rfl
          subst this
          rfl
      · rename_i b hq
        rw [hq] at hs
        cases h
        cases hs
        cases b <;> cases want <;> rfl
      · cases h

theorem ev_step (hT : TTok P T) {Q : Exit → Act → World → Prop} {K : Act → World → Prop} {w0 : World} {S : Sets} {a : Act} {w : World} {μ : Place} {σ τ : St} {e : Ev} {j : Nat}
    (hj : ops[j]? = some e.o) (hb : ∀ j want d, e.o.guard = some (j, want) → (ops[j]?).bind (·.dst) = some d → d < nt)
    (hg : Good P T EX nt ops e σ) (R : RelM w0 S nt (lookS τ.slots) τ.o a w μ) (hs : ∀ k, k ∈ e.o.looksAt ops → lookS τ.slots k = lookS σ.slots k) (ho : ∀ l, l ∈ e.lk → τ.o l = σ.o l)
    (hn : ∀ a' w', Rel w0 S nt (putS (lookS τ.slots) e.o.dst (wrapG e.o e.g e.x)) (putO τ.o e.us) a' w' → K a' w') : wpOp P ops Q j K a w := by
  obtain ⟨h1, h2, h3, h4, h5⟩ := hg
  have hd : ∀ d, e.o.dst = some d → d < nt := fun d hd => by
    unfold dstOk at h1
    rw [hd] at h1
    exact of_decide_eq_true (by simpa using h1)
  have h4' : guardv real ops τ.slots e.o = .ret e.g := by
    rw [← h4]
    unfold guardv
    cases hgu : e.o.guard with
    | none => rfl
    | some q =>
      obtain ⟨i, want⟩ := q
      simp only
      cases hd : (ops[i]?).bind (·.dst) with
      | none => rfl
      | some d =>
        have := hs d (by unfold Oper.looksAt; simp only [hgu, hd]; simp)
        simp only [this]
  unfold wpOp
  simp only [hj]
  rw [Region.wanted_of R h4' hb]
  cases hgt : e.g with
  | false =>
    simp only [Bool.false_eq_true, if_false]
    rw [hgt] at h4 hn
    cases hgu : e.o.guard with
    | none => unfold guardv at h4; simp only [hgu] at h4; cases h4
    | some q =>
      have hu : e.us = [] := by unfold usOk at h2; rw [hgu] at h2; simpa using h2
      apply hn
      rw [hu]
      unfold wrapG
      rw [hgu]
      have hx : ARep τ.o μ w (Nof S τ.o μ w) (.gd false e.x) undef := ⟨fun h => Bool.noConfusion h, fun _ => rfl⟩
      exact ⟨μ, R.put hd hx⟩
  | true =>
    simp only [if_true]
    left
    have hc : semOp real T EX e.o true (rho τ.slots) = semOp real T EX e.o true (rho σ.slots) := semOp_congr _ fun x hx => by
      cases x with
      | tmp t => exact hs t (by unfold Oper.looksAt; exact List.mem_append_left _ (List.mem_filterMap.2 ⟨.tmp t, by simpa using hx, rfl⟩))
      | _ => rfl
    have := h5 hgt τ.o ho
    rw [← hc] at this
    refine op_sound hT R hd ?_ this K Q ?_
    · rintro x us ⟨-, rfl⟩; exact h3
    · rintro a' w' ⟨x, us, ⟨rfl, rfl⟩, μ', R'⟩
      apply hn
      rw [hgt]
      unfold wrapG
      cases hgu : e.o.guard with
      | none => exact ⟨μ', R'⟩
      | some q =>
        refine ⟨μ', R'.size, R'.defs, R'.env, R'.grow, R'.reach, R'.frame, R'.shape, R'.own, R'.inj, R'.ghost, R'.ghl, R'.objs, fun k => ?_⟩
        have := R'.slots k
        unfold putS at this ⊢
        split
        · rename_i hk; simp only [hk, if_true] at this; exact ⟨fun _ => this, fun h => by cases h⟩
        · rename_i hk; simpa only [hk, if_false] using this

/-! ## Those that were taken, in the order of the text -/
def some' (E : Nat → Bool) : Nat → List Ev → St → St
  | _, [], σ => σ
  | i, e :: r, σ => some' E (i + 1) r (bif E i then e.put σ else σ)

theorem puts_some : ∀ (evs : List Ev) (i : Nat) (σ : St) (E : Nat → Bool), (∀ m, m < evs.length → E (i + m) = true) → some' E i evs σ = puts evs σ
  | [], _, _, _, _ => rfl
  | e :: r, i, σ, E, h => by
    have h0 : E i = true := h 0 (by simp)
    simp only [some', puts, h0, cond_true]
    exact puts_some r (i + 1) _ E fun m hm => by rw [Nat.add_assoc, Nat.add_comm 1 m]; exact h (m + 1) (by simpa using hm)

theorem Ev.put_s (e : Ev) (σ : St) : lookS (e.put σ).slots = putS (lookS σ.slots) e.o.dst (wrapG e.o e.g e.x) := by
  unfold Ev.put St.put
  exact lookS_put _ _ _
theorem Ev.put_o (e : Ev) (σ : St) : (e.put σ).o = putO σ.o e.us := by
  funext l
  unfold Ev.put St.put St.o
  rw [lookO_put]

theorem putO_in {σ τ : Objs} {l : Nat} : ∀ {us : List (Nat × Nat × HO)}, (l ∉ us.map (·.1) → σ l = τ l) → putO σ us l = putO τ us l
  | [], h => h (by simp)
  | (j, x) :: r, h => by
    simp only [putO, updO]
    split
    · rfl
    · rename_i hl
      exact putO_in fun hr => h (by simpa using ⟨hl, by simpa using hr⟩)
theorem putO_off {σ : Objs} {l : Nat} : ∀ {us : List (Nat × Nat × HO)}, l ∉ us.map (·.1) → putO σ us l = σ l
  | [], _ => rfl
  | (j, x) :: r, h => by
    have h1 : l ≠ j := fun e => h (by simp [e])
    simp only [putO, updO, h1, if_false]
    exact putO_off fun hr => h (by simp only [List.map_cons, List.mem_cons]; exact .inr hr)

theorem some_s {k : Nat} : ∀ (evs : List Ev) (i : Nat) (σ τ : St) (E F : Nat → Bool), lookS σ.slots k = lookS τ.slots k →
    (∀ m e, evs[m]? = some e → e.o.dst = some k → E (i + m) = F (i + m)) → lookS (some' E i evs σ).slots k = lookS (some' F i evs τ).slots k
  | [], _, _, _, _, _, h, _ => h
  | e :: r, i, σ, τ, E, F, h, hm => by
    simp only [some']
    refine some_s r (i + 1) _ _ E F ?_ fun m e' he hd => by rw [Nat.add_assoc, Nat.add_comm 1 m]; exact hm (m + 1) e' (by simpa using he) hd
    by_cases hd : e.o.dst = some k
    · have h0 : E i = F i := hm 0 e (by simp) hd
      rw [h0]
      cases F i with
      | false => exact h
      | true => simp only [cond_true, Ev.put_s, putS, hd, if_true]
    · have hp : ∀ σ : St, lookS (e.put σ).slots k = lookS σ.slots k := fun σ => by rw [Ev.put_s]; simp only [putS, hd, if_false]
      cases E i <;> cases F i <;> simp only [cond_true, cond_false, hp, h]

theorem some_o {l : Nat} : ∀ (evs : List Ev) (i : Nat) (σ τ : St) (E F : Nat → Bool), σ.o l = τ.o l →
    (∀ m e, evs[m]? = some e → l ∈ e.us.map (·.1) → E (i + m) = F (i + m)) → (some' E i evs σ).o l = (some' F i evs τ).o l
  | [], _, _, _, _, _, h, _ => h
  | e :: r, i, σ, τ, E, F, h, hm => by
    simp only [some']
    refine some_o r (i + 1) _ _ E F ?_ fun m e' he hd => by rw [Nat.add_assoc, Nat.add_comm 1 m]; exact hm (m + 1) e' (by simpa using he) hd
    by_cases hd : l ∈ e.us.map (·.1)
    · have h0 : E i = F i := hm 0 e (by simp) hd
      rw [h0]
      cases F i with
      | false => exact h
      | true => simp only [cond_true, Ev.put_o]; exact putO_in fun hn => absurd hd hn
    · have hp : ∀ σ : St, (e.put σ).o l = σ.o l := fun σ => by rw [Ev.put_o]; exact putO_off hd
      cases E i <;> cases F i <;> simp only [cond_true, cond_false, hp, h]

theorem push_s {d : Option Nat} {x : AV} : ∀ (evs : List Ev) (i : Nat) (σ τ : St) (E : Nat → Bool), lookS τ.slots = putS (lookS σ.slots) d x →
    (∀ m e k, evs[m]? = some e → E (i + m) = true → d = some k → e.o.dst ≠ some k) → lookS (some' E i evs τ).slots = putS (lookS (some' E i evs σ).slots) d x
  | [], _, _, _, _, h, _ => h
  | e :: r, i, σ, τ, E, h, hm => by
    simp only [some']
    refine push_s r (i + 1) _ _ E ?_ fun m e' k he hE hd => hm (m + 1) e' k (by simpa using he) (by rw [← hE, Nat.add_assoc, Nat.add_comm 1 m]) hd
    cases hE : E i with
    | false => exact h
    | true =>
      have h0 := hm 0 e
      simp only [cond_true, Ev.put_s, h]
      funext k
      unfold putS
      by_cases h1 : e.o.dst = some k
      · have : d ≠ some k := fun hd => h0 k (by simp) hE hd h1
        simp [h1, this]
      · simp [h1]

theorem push_o {us : List (Nat × Nat × HO)} : ∀ (evs : List Ev) (i : Nat) (σ τ : St) (E : Nat → Bool), τ.o = putO σ.o us →
    (∀ m e l, evs[m]? = some e → E (i + m) = true → l ∈ us.map (·.1) → l ∉ e.us.map (·.1)) → (some' E i evs τ).o = putO (some' E i evs σ).o us
  | [], _, _, _, _, h, _ => h
  | e :: r, i, σ, τ, E, h, hm => by
    simp only [some']
    refine push_o r (i + 1) _ _ E ?_ fun m e' k he hE hd => hm (m + 1) e' k (by simpa using he) (by rw [← hE, Nat.add_assoc, Nat.add_comm 1 m]) hd
    cases hE : E i with
    | false => exact h
    | true =>
      have h0 := hm 0 e
      simp only [cond_true, Ev.put_o, h]
      funext l
      by_cases h1 : l ∈ us.map (·.1)
      · have h2 := h0 l (by simp) hE h1
        rw [putO_off h2]
        exact putO_in fun hn => absurd h1 hn
      · rw [putO_off (σ := putO σ.o e.us) h1]
        exact putO_in fun _ => putO_off h1

/-- One more is taken. -/
theorem more_s {e : Ev} : ∀ (evs : List Ev) (i j : Nat) (σ : St) (E : Nat → Bool), evs[j]? = some e → E (i + j) = false →
    (∀ m e' k, evs[m]? = some e' → E (i + m) = true → j < m → e.o.dst = some k → e'.o.dst ≠ some k) →
    lookS (some' (fun n => n == i + j || E n) i evs σ).slots = putS (lookS (some' E i evs σ).slots) e.o.dst (wrapG e.o e.g e.x)
  | [], _, _, _, _, h, _, _ => by simp at h
  | e0 :: r, i, 0, σ, E, h, hE, hm => by
    simp only [List.getElem?_cons_zero, Option.some.injEq] at h
    subst h
    have hE' : E i = false := hE
    have hr : ∀ (σ : St), some' (fun n => n == i + 0 || E n) (i + 1) r σ = some' E (i + 1) r σ := fun σ => by
      have : ∀ (r : List Ev) (k : Nat) (σ : St), i < k → some' (fun n => n == i + 0 || E n) k r σ = some' E k r σ := by
        intro r
        induction r with
        | nil => intro k σ _; rfl
        | cons e r ih => intro k σ hk; simp only [some']; rw [ih _ _ (by omega)]; have : (k == i + 0) = false := by simp; omega
                         rw [this]; rfl
      exact this r _ σ (by omega)
    simp only [some', hE', cond_false]
    rw [hr]
    simp only [Nat.add_zero, BEq.rfl, Bool.true_or, cond_true]
    exact push_s r (i + 1) _ _ E (Ev.put_s _ _) fun m e' k he hEm hd => hm (m + 1) e' k (by simpa using he) (by rw [← hEm, Nat.add_assoc, Nat.add_comm 1 m]) (by omega) hd
  | e0 :: r, i, j + 1, σ, E, h, hE, hm => by
    have h' : r[j]? = some e := by simpa using h
    simp only [some']
    have e1 : (i == i + (j + 1)) = false := by simp
    rw [e1, Bool.false_or]
    have e2 : i + (j + 1) = i + 1 + j := by omega
    rw [e2]
    exact more_s r (i + 1) j _ E h' (by rw [← e2]; exact hE) fun m e' k he hEm hj hd => hm (m + 1) e' k (by simpa using he) (by rw [← hEm, Nat.add_assoc, Nat.add_comm 1 m]) (by omega) hd

theorem more_o {e : Ev} : ∀ (evs : List Ev) (i j : Nat) (σ : St) (E : Nat → Bool), evs[j]? = some e → E (i + j) = false →
    (∀ m e' l, evs[m]? = some e' → E (i + m) = true → j < m → l ∈ e.us.map (·.1) → l ∉ e'.us.map (·.1)) →
    (some' (fun n => n == i + j || E n) i evs σ).o = putO (some' E i evs σ).o e.us
  | [], _, _, _, _, h, _, _ => by simp at h
  | e0 :: r, i, 0, σ, E, h, hE, hm => by
    simp only [List.getElem?_cons_zero, Option.some.injEq] at h
    subst h
    have hE' : E i = false := hE
    have hr : ∀ (σ : St), some' (fun n => n == i + 0 || E n) (i + 1) r σ = some' E (i + 1) r σ := fun σ => by
      have : ∀ (r : List Ev) (k : Nat) (σ : St), i < k → some' (fun n => n == i + 0 || E n) k r σ = some' E k r σ := by
        intro r
        induction r with
        | nil => intro k σ _; rfl
        | cons e r ih => intro k σ hk; simp only [some']; rw [ih _ _ (by omega)]; have : (k == i + 0) = false := by simp; omega
                         rw [this]; rfl
      exact this r _ σ (by omega)
    simp only [some', hE', cond_false]
    rw [hr]
    simp only [Nat.add_zero, BEq.rfl, Bool.true_or, cond_true]
    exact push_o r (i + 1) _ _ E (Ev.put_o _ _) fun m e' k he hEm hd => hm (m + 1) e' k (by simpa using he) (by rw [← hEm, Nat.add_assoc, Nat.add_comm 1 m]) (by omega) hd
  | e0 :: r, i, j + 1, σ, E, h, hE, hm => by
    have h' : r[j]? = some e := by simpa using h
    simp only [some']
    have e1 : (i == i + (j + 1)) = false := by simp
    rw [e1, Bool.false_or]
    have e2 : i + (j + 1) = i + 1 + j := by omega
    rw [e2]
    exact more_o r (i + 1) j _ E h' (by rw [← e2]; exact hE) fun m e' k he hEm hj hd => hm (m + 1) e' k (by simpa using he) (by rw [← hEm, Nat.add_assoc, Nat.add_comm 1 m]) (by omega) hd
end
end Go.Rk
