/- A region, in whatever order it is taken. -/
import Derived.Test.YtbkpfnddpnccmaaRk18
namespace Go.Rk

theorem memN_spec : ∀ {l : List Nat} {k : Nat}, memN l k = false → k ∉ l
  | [], _, _ => by simp
  | j :: r, k, h => by
    unfold memN at h
    cases hj : Nat.beq j k with
    | true => simp [hj] at h
    | false =>
      simp only [hj, cond_false] at h
      have h1 := memN_spec h
      have h2 : k ≠ j := fun e => by subst e; simp at hj
      simp [h1, h2]
theorem apartN_spec : ∀ {l m : List Nat}, apartN l m = true → ∀ k, k ∈ l → k ∉ m
  | [], _, _, k, hk => by simp at hk
  | j :: r, m, h, k, hk => by
    unfold apartN at h
    cases hj : memN m j with
    | true => simp [hj] at h
    | false =>
      simp only [hj, cond_false] at h
      rcases List.mem_cons.1 hk with rfl | hk
      · exact memN_spec hj
      · exact apartN_spec h k hk
theorem offN_spec {d : Option Nat} {l : List Nat} (h : offN d l = true) {k : Nat} (hd : d = some k) : k ∉ l := by
  subst hd
  exact memN_spec (by simpa [offN] using h)
theorem offD_spec {d e : Option Nat} (h : offD d e = true) {k : Nat} (hd : d = some k) : e ≠ some k := by
  subst hd
  cases e with
  | none => simp
  | some j => intro e; cases e; simp [offD] at h
theorem apartR_spec {x y : Rec} (h : apartR x y = true) : (∀ k, x.dst = some k → k ∉ y.sl) ∧ (∀ k, y.dst = some k → k ∉ x.sl) ∧ (∀ k, x.dst = some k → y.dst ≠ some k) ∧
    (∀ l, l ∈ x.us → l ∉ y.lk) ∧ (∀ l, l ∈ y.us → l ∉ x.lk) ∧ (∀ l, l ∈ x.us → l ∉ y.us) := by
  simp only [apartR, Bool.and_eq_true] at h
  obtain ⟨h1, h2, h3, h4, h5, h6⟩ := h
  exact ⟨fun k hd => offN_spec h1 hd, fun k hd => offN_spec h2 hd, fun k hd => offD_spec h3 hd, apartN_spec h4, apartN_spec h5, apartN_spec h6⟩

theorem preB_spec : ∀ {rs : List Rec} {i : Nat}, preB i rs = true → ∀ (m : Nat) (r : Rec), rs[m]? = some r → ∀ p, p ∈ r.pre → p < i + m
  | [], _, _, m, r, h, _, _ => by simp at h
  | r0 :: rs, i, h, 0, r, hr, p, hp => by
    simp only [List.getElem?_cons_zero, Option.some.injEq] at hr
    subst hr
    simp only [preB, Bool.and_eq_true, List.all_eq_true] at h
    have := h.1 p hp
    simpa [Nat.blt_eq] using this
  | r0 :: rs, i, h, m + 1, r, hr, p, hp => by
    simp only [preB, Bool.and_eq_true] at h
    have := preB_spec h.2 m r (by simpa using hr) p hp
    omega
theorem pairsB_spec : ∀ {rs : List Rec} {an : List Nat} {i : Nat}, pairsB i rs an = true → ∀ (m k : Nat) (x y : Rec) (b : Nat), m < k → rs[m]? = some x → rs[k]? = some y → an[k]? = some b →
    b.testBit (i + m) = true ∨ apartR x y = true
  | [], _, _, _, m, k, x, y, b, _, h, _, _ => by simp at h
  | _ :: _, [], _, _, m, k, x, y, b, _, _, _, h => by simp at h
  | r :: rs, _ :: an, i, h, 0, k + 1, x, y, b, _, hx, hy, hb => by
    simp only [List.getElem?_cons_zero, Option.some.injEq] at hx
    subst hx
    simp only [pairsB, Bool.and_eq_true, List.all_eq_true] at h
    have := h.1 (y, b) (by
      apply List.mem_of_getElem? (i := k)
      simp only [List.getElem?_cons_succ] at hy hb
      rw [List.getElem?_zip_eq_some]
      exact ⟨hy, hb⟩)
    simpa [Bool.or_eq_true] using this
  | r :: rs, _ :: an, i, h, m + 1, k + 1, x, y, b, hm, hx, hy, hb => by
    simp only [pairsB, Bool.and_eq_true] at h
    have := pairsB_spec h.2 m k x y b (by omega) (by simpa using hx) (by simpa using hy) (by simpa using hb)
    rw [show i + (m + 1) = i + 1 + m by omega]
    exact this

theorem orAll_spec {an : List Nat} {j : Nat} : ∀ {l : List Nat}, (orAll an l).testBit j = true → ∃ p, p ∈ l ∧ (j = p ∨ (an.getD p 0).testBit j = true)
  | [], h => by simp [orAll] at h
  | p :: r, h => by
    simp only [orAll, Nat.testBit_or, Bool.or_eq_true] at h
    rcases h with (h | h) | h
    · exact ⟨p, by simp, .inr h⟩
    · refine ⟨p, by simp, .inl ?_⟩
      rw [Nat.one_shiftLeft, Nat.testBit_two_pow] at h
      exact (of_decide_eq_true h).symm
    · obtain ⟨q, hq, h⟩ := orAll_spec h
      exact ⟨q, by simp [hq], h⟩

def InvA (E : Nat → Bool) (all : List Rec) (an : List Nat) : Prop :=
  ∀ (i b : Nat) (r : Rec), an[i]? = some b → all[i]? = some r → (∀ p, p ∈ r.pre → E p = true) → ∀ j, b.testBit j = true → E j = true
theorem ancs_spec {E : Nat → Bool} {all : List Rec} (hc : ∀ (i : Nat) (r : Rec), all[i]? = some r → E i = true → ∀ p, p ∈ r.pre → E p = true) :
    ∀ (rs pre : List Rec) (an : List Nat), all = pre ++ rs → an.length = pre.length → InvA E all an → InvA E all (ancs rs an) ∧ (ancs rs an).length = all.length
  | [], pre, an, ha, hl, hi => ⟨hi, by rw [ha]; simpa [ancs] using hl⟩
  | r :: rs, pre, an, ha, hl, hi => by
    refine ancs_spec hc rs (pre ++ [r]) (an ++ [orAll an r.pre]) (by simp [ha]) (by simp [hl]) ?_
    intro i b r' hb hr' hp j hj
    by_cases hlt : i < an.length
    · exact hi i b r' (by rwa [List.getElem?_append_left hlt] at hb) hr' hp j hj
    · have hb' := hb
      rw [List.getElem?_append_right (by omega)] at hb'
      have h0 : i - an.length = 0 := by
        rcases Nat.eq_zero_or_pos (i - an.length) with h | h
        · exact h
        · rw [List.getElem?_eq_none (by simp; omega)] at hb'; cases hb'
      rw [h0] at hb'
      simp only [List.getElem?_cons_zero, Option.some.injEq] at hb'
      subst hb'
      have hir : r' = r := by
        rw [ha, List.getElem?_append_right (by omega), show i - pre.length = 0 by omega] at hr'
        simpa using hr'.symm
      subst hir
      obtain ⟨p, hpm, h⟩ := orAll_spec hj
      rcases h with rfl | h
      · exact hp _ hpm
      · cases hq : an[p]? with
        | none => simp [List.getD, hq] at h
        | some b =>
          have hpl : p < an.length := (List.getElem?_eq_some_iff.1 hq).1
          have hall : all[p]? = some (all[p]'(by rw [ha]; simp; omega)) := List.getElem?_eq_getElem _
          exact hi p b _ hq hall (hc p _ hall (hp p hpm)) j (by simpa [List.getD, hq] using h)

section
variable {P : Program} {T : TypeId → Option TI} {EX : FuncId → List Nat × Bool} {nt : Nat} {ops : Array Oper}

theorem chain_at : ∀ {evs : List Ev} {σ : St} {j : Nat} {e : Ev}, chain P T EX nt ops evs σ → evs[j]? = some e → Good P T EX nt ops e (puts (evs.take j) σ)
  | [], _, _, _, _, h => by simp at h
  | e0 :: r, σ, 0, e, hc, h => by
    simp only [List.getElem?_cons_zero, Option.some.injEq] at h
    subst h
    exact hc.1
  | e0 :: r, σ, j + 1, e, hc, h => by
    simp only [List.take_succ_cons, puts]
    exact chain_at hc.2 (by simpa using h)
theorem some_none : ∀ {evs : List Ev} {i : Nat} {σ : St} {E : Nat → Bool}, (∀ m, m < evs.length → E (i + m) = false) → some' E i evs σ = σ
  | [], _, _, _, _ => rfl
  | e :: r, i, σ, E, h => by
    have h0 : E i = false := h 0 (by simp)
    simp only [some', h0, cond_false]
    exact some_none fun m hm => by rw [Nat.add_assoc, Nat.add_comm 1 m]; exact h (m + 1) (by simpa using hm)
theorem take_some : ∀ (evs : List Ev) (i j : Nat) (σ : St), some' (fun n => decide (n < i + j)) i evs σ = puts (evs.take j) σ
  | [], _, j, _ => by simp [some', puts]
  | e :: r, i, 0, σ => by
    rw [some_none (fun m _ => by simp)]
    rfl
  | e :: r, i, j + 1, σ => by
    simp only [some', List.take_succ_cons, puts]
    have h0 : decide (i < i + (j + 1)) = true := by simp
    rw [h0, show i + (j + 1) = i + 1 + j by omega]
    exact take_some r (i + 1) j _

variable {w0 : World} {S : Sets}

theorem any_sound (hT : TTok P T) {Q : Exit → Act → World → Prop} {σ : St} {evs : List Ev} (he : evs.map (·.o) = ops.toList) (hc : chain P T EX nt ops evs σ)
    (hi : indep (evs.map (Ev.rc ops)) = true) (hq : ∀ a' w', Rel w0 S nt (lookS (puts evs σ).slots) (puts evs σ).o a' w' → Q .normal a' w') :
    ∀ (fuel : Nat) (listed : Array Bool) (a : Act) (w : World), listed.size = ops.size → ((List.range ops.size).countP fun i => !listed.getD i false) ≤ fuel →
      (∀ i (r : Rec), (evs.map (Ev.rc ops))[i]? = some r → listed.getD i false = true → ∀ p, p ∈ r.pre → listed.getD p false = true) →
      Rel w0 S nt (lookS (some' (fun n => listed.getD n false) 0 evs σ).slots) (some' (fun n => listed.getD n false) 0 evs σ).o a w →
      wpAny P .any ops Q fuel listed a w := by
  have hlen : evs.length = ops.size := by have := congrArg List.length he; simpa using this
  have hop : ∀ (j : Nat) (e : Ev), evs[j]? = some e → ops[j]? = some e.o := fun j e h => by
    have : (evs.map (·.o))[j]? = some e.o := by simp [h]
    rw [he] at this
    simpa using this
  have hop' : ∀ (j : Nat) (o : Oper), ops[j]? = some o → ∃ e, evs[j]? = some e ∧ e.o = o := fun j o h => by
    have : (evs.map (·.o))[j]? = some o := by rw [he]; simpa using h
    simpa using this
  simp only [indep, Bool.and_eq_true] at hi
  obtain ⟨hpre, hpairs⟩ := hi
  have hb : ∀ (o : Oper) (j : Nat) (want : Bool) (d : Nat), o.guard = some (j, want) → (ops[j]?).bind (·.dst) = some d → d < nt := fun o j want d _ h => by
    cases hj : ops[j]? with
    | none => simp [hj] at h
    | some o' =>
      obtain ⟨e, he1, rfl⟩ := hop' j o' hj
      have := (chain_at hc he1).1
      unfold dstOk at this
      simp only [hj, Option.bind_some] at h
      rw [h] at this
      exact of_decide_eq_true (by simpa using this)
  -- all that is before is there: then nothing is ready only at the end
  have hdone : ∀ listed : Array Bool, listed.size = ops.size → Region.ready .any ops listed = [] → ∀ i, i < ops.size → listed.getD i false = true := by
    intro listed hsz hr i
    induction i using Nat.strongRecOn with
    | _ i ih =>
      intro hlt
      cases hl : listed.getD i false with
      | true => rfl
      | false =>
        exfalso
        have hmem : i ∈ Region.ready .any ops listed := by
          rw [mem_ready]
          refine ⟨?_, ops[i], by simp [hlt], fun e hea hbi => ?_⟩
          · have : i < listed.size := by omega
            simpa [this] using hl
          · obtain ⟨ev, hev, heo⟩ := hop' i ops[i] (by simp [hlt])
            have hp := preB_spec hpre i (Ev.rc ops ev) (by simp [hev]) e.on (by
              simp only [Ev.rc, Oper.pre, heo, List.mem_map, List.mem_filter]
              exact ⟨e, ⟨by simpa using hea, hbi⟩, rfl⟩)
            exact ih e.on (by omega) (by omega)
        rw [hr] at hmem
        simp at hmem
  have hfin : ∀ (listed : Array Bool) (a : Act) (w : World), listed.size = ops.size → Region.ready .any ops listed = [] →
      Rel w0 S nt (lookS (some' (fun n => listed.getD n false) 0 evs σ).slots) (some' (fun n => listed.getD n false) 0 evs σ).o a w → Q .normal a w := by
    intro listed a w hsz hr R
    rw [puts_some evs 0 σ _ (fun m hm => hdone listed hsz hr _ (by omega))] at R
    exact hq a w R
  intro fuel
  induction fuel with
  | zero =>
    intro listed a w hsz hcnt _ R
    have hr : Region.ready .any ops listed = [] := by
      cases hrr : Region.ready .any ops listed with
      | nil => rfl
      | cons j r =>
        exfalso
        have hj : j ∈ Region.ready .any ops listed := by rw [hrr]; simp
        obtain ⟨h0, o, ho, -⟩ := mem_ready.1 hj
        have hlt : j < ops.size := (Array.getElem?_eq_some_iff.1 ho).1
        have : listed.getD j false = false := by
          have : j < listed.size := by omega
          simpa [this] using h0
        have hz := List.countP_eq_zero.1 (Nat.le_zero.1 hcnt) j (by simpa using hlt)
        simp [this] at hz
    exact ⟨hr, hfin listed a w hsz hr R⟩
  | succ fuel ih =>
    intro listed a w hsz hcnt hcl R
    refine ⟨fun hr => hfin listed a w hsz hr R, fun j hj => ?_⟩
    obtain ⟨h0, o, ho, haft⟩ := mem_ready.1 hj
    have hlt : j < ops.size := (Array.getElem?_eq_some_iff.1 ho).1
    have hEj : listed.getD j false = false := by
      have : j < listed.size := by omega
      simpa [this] using h0
    obtain ⟨e, hej, rfl⟩ := hop' j o ho
    have hpj : ∀ p, p ∈ Oper.pre e.o → listed.getD p false = true := fun p hp => by
      simp only [Oper.pre, List.mem_map, List.mem_filter] at hp
      obtain ⟨d, ⟨hd1, hd2⟩, rfl⟩ := hp
      exact haft d (by simpa using hd1) hd2
    obtain ⟨hinv, hal⟩ := ancs_spec (E := fun n => listed.getD n false) hcl (evs.map (Ev.rc ops)) [] [] rfl rfl (fun i b r h => by simp at h)
    generalize ancs (evs.map (Ev.rc ops)) [] = an at hinv hal hpairs
    have hanc : ∀ k, k < ops.size → ∃ b, an[k]? = some b := fun k hk => ⟨an[k]'(by rw [hal]; simp; omega), List.getElem?_eq_getElem _⟩
    -- one that comes ahead in the text
    have hlow : ∀ (m : Nat) (e' : Ev), evs[m]? = some e' → m < j → listed.getD m false = true ∨ apartR (Ev.rc ops e') (Ev.rc ops e) = true := fun m e' he' hm => by
      obtain ⟨b, hb⟩ := hanc j hlt
      rcases pairsB_spec hpairs m j (Ev.rc ops e') (Ev.rc ops e) b hm (by simp [he']) (by simp [hej]) hb with h | h
      · exact .inl (hinv j b (Ev.rc ops e) hb (by simp [hej]) (fun p hp => hpj p hp) m (by simpa using h))
      · exact .inr h
    have hhigh : ∀ (m : Nat) (e' : Ev), evs[m]? = some e' → j < m → listed.getD m false = false ∨ apartR (Ev.rc ops e) (Ev.rc ops e') = true := fun m e' he' hm => by
      cases hEm : listed.getD m false with
      | false => exact .inl rfl
      | true =>
        have hml : m < ops.size := by rw [← hlen]; exact (List.getElem?_eq_some_iff.1 he').1
        obtain ⟨b, hb⟩ := hanc m hml
        rcases pairsB_spec hpairs j m (Ev.rc ops e) (Ev.rc ops e') b hm (by simp [hej]) (by simp [he']) hb with h | h
        · have := hinv m b (Ev.rc ops e') hb (by simp [he']) (hcl m _ (by simp [he']) hEm) j (by simpa using h)
          simp only at this
          rw [hEj] at this
          cases this
        · exact .inr h
    obtain ⟨μ, R⟩ := R
    refine ev_step hT (σ := puts (evs.take j) σ) (τ := some' (fun n => listed.getD n false) 0 evs σ) ho (hb _) (chain_at hc hej) R (fun k hk => ?_) (fun l hl => ?_) (fun a' w' R' => ?_)
    · rw [← take_some evs 0 j σ]
      refine some_s evs 0 σ σ _ _ rfl fun m e' he' hd => ?_
      simp only [Nat.zero_add]
      rcases Nat.lt_trichotomy m j with h | h | h
      · rcases hlow m e' he' h with hE | hap
        · rw [hE]; simp [h]
        · exact absurd hk ((apartR_spec hap).1 k hd)
      · subst h; rw [hEj]; simp
      · rcases hhigh m e' he' h with hE | hap
        · rw [hE]; simp; omega
        · exact absurd hk ((apartR_spec hap).2.1 k hd)
    · rw [← take_some evs 0 j σ]
      refine some_o evs 0 σ σ _ _ rfl fun m e' he' hd => ?_
      simp only [Nat.zero_add]
      rcases Nat.lt_trichotomy m j with h | h | h
      · rcases hlow m e' he' h with hE | hap
        · rw [hE]; simp [h]
        · exact absurd hl ((apartR_spec hap).2.2.2.1 l hd)
      · subst h; rw [hEj]; simp
      · rcases hhigh m e' he' h with hE | hap
        · rw [hE]; simp; omega
        · exact absurd hl ((apartR_spec hap).2.2.2.2.1 l hd)
    · have hfun : (fun n => (listed.setIfInBounds j true).getD n false) = fun n => n == 0 + j || listed.getD n false := by
        funext n
        simp only [Nat.zero_add]
        by_cases hn : n = j
        · subst hn
          have : n < listed.size := by omega
          simp [this]
        · rw [getD_set_ne false (Ne.symm hn)]
          simp [hn]
      have hat : ∀ n, (listed.setIfInBounds j true).getD n false = (n == j || listed.getD n false) := fun n => by have := congrFun hfun n; simpa using this
      refine ih (listed.setIfInBounds j true) a' w' (by simpa using hsz) ?_ ?_ ?_
      · have hlt' : ((List.range ops.size).countP fun i => !(listed.setIfInBounds j true).getD i false) < ((List.range ops.size).countP fun i => !listed.getD i false) := by
          have gen : ∀ l : List Nat, j ∈ l → (l.countP fun i => !(listed.setIfInBounds j true).getD i false) < (l.countP fun i => !listed.getD i false) := by
            intro l
            induction l with
            | nil => intro h; simp at h
            | cons x l ihl =>
              intro hx
              have hle : (l.countP fun i => !(listed.setIfInBounds j true).getD i false) ≤ (l.countP fun i => !listed.getD i false) :=
                List.countP_mono_left fun x _ h => by rw [hat] at h; simp at h ⊢; exact h.2
              by_cases hxj : x = j
              · subst hxj
                rw [List.countP_cons_of_neg (by rw [hat]; simp), List.countP_cons_of_pos (by rw [hEj]; rfl)]
                omega
              · have := ihl (by simpa [Ne.symm hxj] using hx)
                have hxx : (listed.setIfInBounds j true).getD x false = listed.getD x false := by rw [hat]; simp [hxj]
                simp only [List.countP_cons, hxx]
                omega
          exact gen _ (by simpa using hlt)
        omega
      · intro i r hr hEi p hp
        rw [hat] at hEi ⊢
        simp only [Bool.or_eq_true] at hEi ⊢
        right
        rcases hEi with h | h
        · have hij : i = j := by simpa using h
          subst hij
          have : r = Ev.rc ops e := by simp [hej] at hr; exact hr.symm
          subst this
          exact hpj p hp
        · exact hcl i r hr h p hp
      · rw [hfun]
        rw [more_s evs 0 j σ _ hej (by simpa using hEj) ?_, more_o evs 0 j σ _ hej (by simpa using hEj) ?_]
        · exact R'
        · intro m e' l he' hEm hm hl
          rcases hhigh m e' he' hm with h | h
          · simp only [Nat.zero_add] at hEm; rw [h] at hEm; cases hEm
          · exact (apartR_spec h).2.2.2.2.2 l hl
        · intro m e' k he' hEm hm hd
          rcases hhigh m e' he' hm with h | h
          · simp only [Nat.zero_add] at hEm; rw [h] at hEm; cases hEm
          · exact (apartR_spec h).2.2.1 k hd

theorem text_sound (hT : TTok P T) {Q : Exit → Act → World → Prop} {σ : St} {evs : List Ev} (he : evs.map (·.o) = ops.toList) (hc : chain P T EX nt ops evs σ)
    (hq : ∀ a' w', Rel w0 S nt (lookS (puts evs σ).slots) (puts evs σ).o a' w' → Q .normal a' w') :
    ∀ (k j : Nat) (a : Act) (w : World), j + k = evs.length → Rel w0 S nt (lookS (puts (evs.take j) σ).slots) (puts (evs.take j) σ).o a w → wpOps P ops Q (List.range' j k) a w := by
  have hop : ∀ (j : Nat) (e : Ev), evs[j]? = some e → ops[j]? = some e.o := fun j e h => by
    have : (evs.map (·.o))[j]? = some e.o := by simp [h]
    rw [he] at this
    simpa using this
  have hb : ∀ (o : Oper) (j : Nat) (want : Bool) (d : Nat), o.guard = some (j, want) → (ops[j]?).bind (·.dst) = some d → d < nt := fun o j want d _ h => by
    cases hj : ops[j]? with
    | none => simp [hj] at h
    | some o' =>
      have : (evs.map (·.o))[j]? = some o' := by rw [he]; simpa using hj
      obtain ⟨e, he1, rfl⟩ : ∃ e : Ev, evs[j]? = some e ∧ e.o = o' := by simpa using this
      have := (chain_at hc he1).1
      unfold dstOk at this
      simp only [hj, Option.bind_some] at h
      rw [h] at this
      exact of_decide_eq_true (by simpa using this)
  have hputs : ∀ (l : List Ev) (σ : St) (e : Ev), puts (l ++ [e]) σ = e.put (puts l σ) := by
    intro l
    induction l with
    | nil => intro σ e; rfl
    | cons x l ih => intro σ e; exact ih _ _
  intro k
  induction k with
  | zero =>
    intro j a w hj R
    rw [List.take_of_length_le (by omega)] at R
    exact hq a w R
  | succ k ih =>
    intro j a w hj R
    have hlt : j < evs.length := by omega
    obtain ⟨μ, R⟩ := R
    rw [List.range'_succ, wpOps_cons]
    have hej : evs[j]? = some evs[j] := List.getElem?_eq_getElem _
    refine ev_step hT (hop j _ hej) (hb _) (chain_at hc hej) R (fun _ _ => rfl) (fun _ _ => rfl) fun a' w' R' => ih (j + 1) a' w' (by omega) ?_
    rw [List.take_add_one, hej, Option.toList_some, hputs, Ev.put_s, Ev.put_o]
    exact R'

/-- A region does what its abstract walk says. -/
theorem region_sound (hT : TTok P T) (hm : P.follows .mixedOrders = true) {id : Nat} {draw : Bool} {Q : St → Prop} {Qc : Exit → Act → World → Prop} {σ : St} {a : Act} {w : World}
    (h : awpOps real T EX (Meets P) nt draw ops Q ops.toList [] σ) (R : Rel w0 S nt (lookS σ.slots) σ.o a w)
    (hq : ∀ σ' a' w', Q σ' → Rel w0 S nt (lookS σ'.slots) σ'.o a' w' → Qc .normal a' w') : (Code.region id ops draw).wp P Qc a w := by
  obtain ⟨evs, he, hc, hi, hQ⟩ := awp_chain _ _ _ h
  have hlen : evs.length = ops.size := by have := congrArg List.length he; simpa using this
  cases draw with
  | false =>
    refine wp_region ?_
    rw [List.range_eq_range']
    exact text_sound hT he hc (fun a' w' R' => hq _ a' w' hQ R') ops.size 0 a w (by omega) (by simpa [puts] using R)
  | true =>
    refine wp_region_any hm (any_sound hT he hc (by simpa using hi rfl) (fun a' w' R' => hq _ a' w' hQ R') ops.size _ a _ (by simp) ?_ ?_ ?_)
    · exact Nat.le_trans List.countP_le_length (by simp)
    · intro i r _ hE
      have hrep : (Array.replicate ops.size false).getD i false = false := by
        simp only [Array.getD_eq_getD_getElem?, Array.getElem?_replicate]
        split <;> rfl
      rw [hrep] at hE; cases hE
    · have hrep : ∀ i, (Array.replicate ops.size false).getD i false = false := fun i => by
        simp only [Array.getD_eq_getD_getElem?, Array.getElem?_replicate]
        split <;> rfl
      rw [some_none fun m _ => hrep _]
      obtain ⟨μ, R⟩ := R
      exact ⟨μ, R.drew⟩
end
end Go.Rk
