/- A function: from its code's walk to what a call of it answers. -/
import Derived.Test.YtbkpfnddpnccmaaRk20
namespace Go.Rk
def slotsOf : Nat → List TV → List (Nat × AV)
  | _, [] => []
  | i, x :: r => (i, x.av) :: slotsOf (i + 1) r
section
variable (A : Ar) (T : TypeId → Option TI) (EX : FuncId → List Nat × Bool) (M : FuncId → List XT → Out → Prop)
def exB : CV → Bool
  | .bp _ _ _ => false
  | _ => true
def exA : AV → Bool
  | .c x => exB x
  | _ => true
def resG (σ : St) : List ResultVar → G (List XT × Lent)
  | [] => .ret ([], .none)
  | .tmp t :: r => (givenArg A true (exA (σ.s t)) (σ.s t)).bind fun a => (resG σ r).bind fun b => .ret (a.1 :: b.1, a.2.both b.2)
  | .cell c t :: r => (cellv A true (σ.s c)).bind fun
    | .bp l ver off => .get l fun q => match q with
      | (ver', .box cells) => .vc (A.same ver ver') ((tiv T t).bind fun i => (optv (takeN i.size (dropN off cells))).bind fun cs => (mkAV (isAggT i.desc) cs).bind fun x =>
          (givenArg A true (exA x) x).bind fun a => (resG σ r).bind fun b => .ret (a.1 :: b.1, a.2.both b.2))
      | _ => .fail
    | _ => .fail
def backG : List TV → List (Option XV) → G (List (Option XV) × Lent)
  | [], [] => .ret ([], .none)
  | _ :: r, none :: s => (backG r s).bind fun b => .ret (none :: b.1, b.2)
  | .c x :: r, some _ :: s => (givenCell A (exB x) x).bind fun a => (backG r s).bind fun b => .ret (some a.1 :: b.1, a.2.both b.2)
  | _, _ => .fail
def XAof : List XT → XA
  | [x] => .one x
  | xs => .tup xs
def Final (rs : List ResultVar) (tvs : List TV) (out : Out) (σ : St) : Prop :=
  (resG A T σ rs).wp σ.o fun r _ => (backG A tvs out.back).wp σ.o fun b _ =>
    exOk (r.2.ex ++ b.2.ex) [] = true ∧ r.2.bo.isEmpty = true ∧ b.2.bo.isEmpty = true ∧ XAof r.1 = out.res ∧ b.1 = out.back
/-- The walk of a whole function, from what is handed to it. -/
def awpFn (nt : Nat) (H : List Nat) (c : Code) (rs : List ResultVar) (args : List XT) (out : Out) : Prop :=
  (takenTup 0 0 args).wp (lookO []) fun r _ => nodupL r.2 = true ∧ Nat.ble r.1.length nt = true ∧ (r.1.all fun x => labA x.av) = true ∧
    awp A T EX M nt H c (fun e τ => match e with | .exit _ => False | _ => Final A T rs r.1 out τ) ⟨slotsOf 0 r.1, r.2⟩
end

section
variable {P : Program} {T : TypeId → Option TI} {EX : FuncId → List Nat × Bool}

theorem wp_run {α : Type} {m : G α} {σ : Objs} {Q : α → List Nat → Prop} (h : m.wp σ Q) : m.run σ fun a => ∃ r, Q a r := by
  obtain ⟨a, r, hq, hr⟩ := G.wp_det h
  exact hr σ (fun _ _ => rfl) _ ⟨r, hq⟩

theorem slotsOf_none : ∀ {tvs : List TV} {i k : Nat}, k < i ∨ i + tvs.length ≤ k → lookS (slotsOf i tvs) k = .c .junk
  | [], _, _, _ => rfl
  | x :: r, i, k, h => by
    simp only [slotsOf, lookS]
    have : Nat.beq i k = false := by
      cases hb : Nat.beq i k with
      | false => rfl
      | true => have := Nat.eq_of_beq_eq_true hb; simp at h; omega
    rw [this]
    exact slotsOf_none (by simp at h; omega)
theorem slotsOf_some : ∀ {tvs : List TV} {i k : Nat} {x : TV}, tvs[k]? = some x → lookS (slotsOf i tvs) (i + k) = x.av
  | [], _, _, _, h => by simp at h
  | y :: r, i, 0, x, h => by
    simp at h; subst h
    simp [slotsOf, lookS]
  | y :: r, i, k + 1, x, h => by
    simp only [slotsOf, lookS]
    have : Nat.beq i (i + (k + 1)) = false := by
      cases hb : Nat.beq i (i + (k + 1)) with
      | false => rfl
      | true => have := Nat.eq_of_beq_eq_true hb; omega
    rw [this, show i + (k + 1) = i + 1 + k by omega]
    exact slotsOf_some (by simpa using h)

section
variable {σ : Objs} {μ : Place} {w : World} {N : Nat → Prop}
theorem TRep.av {x : TV} {v : Value} (h : TRep σ μ w N x v) : ARep σ μ w N x.av v := by
  cases x with
  | c x => exact h
  | agg xs => exact h
theorem TsRep.len : ∀ {xs : List TV} {vs : List Value}, TsRep σ μ w N xs vs → xs.length = vs.length
  | [], [], _ => rfl
  | _ :: _, _ :: _, h => by simp [TsRep.len h.2]
  | [], _ :: _, h => h.elim
  | _ :: _, [], h => h.elim
theorem TsRep.at : ∀ {xs : List TV} {vs : List Value}, TsRep σ μ w N xs vs → ∀ {k : Nat} {x : TV}, xs[k]? = some x → ∃ v, vs[k]? = some v ∧ TRep σ μ w N x v
  | [], [], _, _, _, h => by simp at h
  | x :: _, v :: _, h, 0, y, e => by simp at e; subst e; exact ⟨v, rfl, h.1⟩
  | x :: _, v :: _, h, k + 1, y, e => by obtain ⟨u, h1, h2⟩ := TsRep.at h.2 (by simpa using e); exact ⟨u, by simpa using h1, h2⟩
  | [], _ :: _, h, _, _, _ => h.elim
  | _ :: _, [], h, _, _, _ => h.elim
end

section
variable {w0 : World} {S : Sets} {nt : Nat} {slots : List (Nat × AV)} {σ : Objs} {a : Act} {w : World} {μ : Place}

/-- What the results are. -/
def resV (P : Program) (tmps : Array Value) (w : World) : List ResultVar → List Value → Prop
  | [], [] => True
  | .tmp t :: r, v :: s => v = tmps.getD t undef ∧ resV P tmps w r s
  | .cell c t :: r, v :: s => (∃ ad, tmps.getD c undef = .pointer (some ad) ∧ (loadVar t ad).run P w = .ok v w) ∧ resV P tmps w r s
  | _, _ => False
theorem resG_spec (hT : TTok P T) {τ : St} (R : RelM w0 S nt (lookS τ.slots) τ.o a w μ) : ∀ {ts : List ResultVar} {Q : List XT × Lent → Prop}, (resG real T τ ts).run τ.o Q →
    ∃ vs ys le, Q (ys, le) ∧ resV P a.tmps w ts vs ∧ GivenOk S τ.o μ w le fun N F => XTsRep w N ys vs F
  | [], Q, h => ⟨[], [], .none, h, trivial, .none fun _ => rfl⟩
  | .tmp t :: r, Q, h => by
    simp only [resG, G.run_bind] at h
    obtain ⟨y, l1, h1, g1⟩ := givenArg_spec R h (R.slots t)
    obtain ⟨vs, ys, l2, h2, hv, g2⟩ := resG_spec hT R h1
    exact ⟨_ :: vs, _, _, h2, ⟨rfl, hv⟩, g1.both g2⟩
  | .cell c t :: r, Q, h => by
    simp only [resG, G.run_bind] at h
    obtain ⟨x, hc, h⟩ := cellv_run h (R.slots c)
    split at h
    · rename_i l ver off
      simp only [G.run] at h
      split at h
      · rename_i ver' cells hσ
        obtain ⟨hv, h⟩ := h
        have hv : ver = ver' := hv
        subst hv
        rw [G.run_bind] at h
        obtain ⟨i, hi, h⟩ := tiv_run h
        rw [G.run_bind] at h
        obtain ⟨xs, hxs, h⟩ := optv_run h
        rw [G.run_bind] at h
        obtain ⟨hone, hle, hc⟩ := hc
        obtain ⟨b, hμ, he⟩ := hc cells hσ
        have ob := R.objs l
        rw [hσ] at ob
        obtain ⟨b', cs, e, hμ', hb, hcs⟩ := ob
        rw [hμ] at hμ'; simp at hμ'; subst hμ'
        obtain ⟨hl, hg⟩ := takeN_spec hxs
        obtain ⟨v, hr, y, hy, hk⟩ := load_run hT hi (N := Nof S τ.o μ w) (off := off) hb hl (fun j x hj => by
          have := hg j x hj
          rw [dropN_get] at this
          obtain ⟨u, hu, hc⟩ := hcs.get this
          exact ⟨u, by simpa using hu, hc⟩) h
        rw [G.run_bind] at hk
        obtain ⟨z, l1, h1, g1⟩ := givenArg_spec R hk hy
        rw [G.run_bind] at h1
        obtain ⟨vs, ys, l2, h2, hv, g2⟩ := resG_spec hT R h1
        exact ⟨v :: vs, _, _, h2, ⟨⟨_, he, hr⟩, hv⟩, g1.both g2⟩
      · exact h.elim
    · exact h.elim
theorem backG_spec (R : RelM w0 S nt (lookS slots) σ a w μ) : ∀ {tvs : List TV} {bs : List (Option XV)} {vals : List Value} {Q : List (Option XV) × Lent → Prop}, tvs.length = vals.length →
    (∀ (k : Nat) (x : TV) (v : Value), tvs[k]? = some x → vals[k]? = some v → ARep σ μ w (Nof S σ μ w) x.av v) → (backG real tvs bs).run σ Q →
    ∃ ys le, Q (ys, le) ∧ GivenOk S σ μ w le fun N F => BackRep w N ys vals F
  | [], [], [], Q, _, _, h => ⟨[], .none, h, .none fun _ => rfl⟩
  | [], [], _ :: _, Q, hl, _, h => by simp at hl
  | _ :: _, _, [], Q, hl, _, h => by simp at hl
  | [], _ :: _, _, Q, _, _, h => h.elim
  | x :: r, [], _, Q, _, _, h => h.elim
  | x :: r, none :: s, v :: vs, Q, hl, hg, h => by
    simp only [backG, G.run_bind] at h
    obtain ⟨ys, le, h1, g⟩ := backG_spec R (by simpa using hl) (fun k y u hy hu => hg (k + 1) y u (by simpa using hy) (by simpa using hu)) h
    exact ⟨_, _, h1, g.1, fun N hn hl => g.2 N hn hl⟩
  | .agg x :: r, some _ :: s, v :: vs, Q, hl, hg, h => h.elim
  | .c x :: r, some _ :: s, v :: vs, Q, hl, hg, h => by
    simp only [backG, G.run_bind] at h
    obtain ⟨y, l1, h1, g1⟩ := givenCell_spec R h (hg 0 (.c x) v rfl rfl)
    obtain ⟨ys, l2, h2, g2⟩ := backG_spec R (by simpa using hl) (fun k y u hy hu => hg (k + 1) y u (by simpa using hy) (by simpa using hu)) h1
    exact ⟨_, _, h2, g1.both g2⟩
end

def resF (tmps : Array Value) : ResultVar → Sem Value
  | .tmp t => pure (tmps.getD t undef)
  | .cell a t => do loadVar t (← asAddr (tmps.getD a undef))
theorem results_eq (fn : Func) (tmps : Array Value) : results fn tmps = (do let vs ← fn.results.mapM (resF tmps); pure (if h : vs.size = 1 then vs[0] else .tuple vs)) := by
  unfold results
  have : (fun x : ResultVar => match x with
    | .tmp t => (pure (tmps.getD t undef) : Sem Value)
    | .cell a t => do loadVar t (← asAddr (tmps.getD a undef))) = resF tmps := by funext x; cases x <;> rfl
  rw [← this]
  rfl
theorem resF_run {P : Program} {tmps : Array Value} {w : World} {x : ResultVar} {r : List ResultVar} {v : Value} {s : List Value} (h : resV P tmps w (x :: r) (v :: s)) :
    (resF tmps x).run P w = .ok v w ∧ resV P tmps w r s := by
  cases x with
  | tmp t => obtain ⟨rfl, h2⟩ := h; exact ⟨by simp [resF], h2⟩
  | cell c t => obtain ⟨⟨ad, h1, h3⟩, h2⟩ := h; exact ⟨by simp [resF, h1, asAddr, h3], h2⟩
theorem resV_nil {P : Program} {tmps : Array Value} {w : World} {vs : List Value} (h : resV P tmps w [] vs) : vs = [] := by
  cases vs with
  | nil => rfl
  | cons _ _ => exact h.elim
theorem resV_cons {P : Program} {tmps : Array Value} {w : World} {x : ResultVar} {r : List ResultVar} {vs : List Value} (h : resV P tmps w (x :: r) vs) : ∃ v s, vs = v :: s := by
  cases vs with
  | nil => cases x <;> exact h.elim
  | cons v s => exact ⟨v, s, rfl⟩
def resOf : List Value → Value
  | [x] => x
  | xs => .tuple xs.toArray
theorem results_run {fn : Func} {tmps : Array Value} {P : Program} {w : World} {vs : List Value} (hl : fn.results.toList.length ≤ 3) (h : resV P tmps w fn.results.toList vs) :
    (results fn tmps).run P w = .ok (resOf vs) w := by
  rw [results_eq]
  rcases hf : fn.results with ⟨l⟩
  rw [hf] at h hl
  rcases l with _ | ⟨x, _ | ⟨y, _ | ⟨z, _ | ⟨u, l⟩⟩⟩⟩
  · obtain rfl := resV_nil h
    simp [resOf]
  · obtain ⟨v, s, rfl⟩ := resV_cons h
    obtain ⟨h1, h⟩ := resF_run h
    obtain rfl := resV_nil h
    simp [h1, resOf]
  · obtain ⟨v, s, rfl⟩ := resV_cons h
    obtain ⟨h1, h⟩ := resF_run h
    obtain ⟨v2, s, rfl⟩ := resV_cons h
    obtain ⟨h2, h⟩ := resF_run h
    obtain rfl := resV_nil h
    simp [h1, h2, resOf]
  · obtain ⟨v, s, rfl⟩ := resV_cons h
    obtain ⟨h1, h⟩ := resF_run h
    obtain ⟨v2, s, rfl⟩ := resV_cons h
    obtain ⟨h2, h⟩ := resF_run h
    obtain ⟨v3, s, rfl⟩ := resV_cons h
    obtain ⟨h3, h⟩ := resF_run h
    obtain rfl := resV_nil h
    simp [h1, h2, h3, resOf]
  · simp at hl

theorem meets_of (hT : TTok P T) (hm : P.follows .mixedOrders = true) {f : FuncId} {fn : Func} {c : Code} {H : List Nat} {args : List XT} {out : Out}
    (hf : P.funcs[f]? = some fn) (hb : fn.body = some c) (hcall : callable P f = true) (hrl : fn.results.toList.length ≤ 3)
    (h : awpFn real T EX (Meets P) fn.ntmps H c fn.results.toList args out) : Meets P f args out := by
  refine ⟨hcall, fun w vals F N hx hnd hF hN => ?_⟩
  obtain ⟨cvs, τ, ⟨_, h1, h2, hlab, h3⟩, tk⟩ := takenTup_spec (μ := fun _ => none) (wp_run h) hx
  have hlen2 : cvs.length ≤ fn.ntmps := Nat.le_of_ble_eq_true h2
  let S : Sets := ⟨fun b => b ∈ F, fun b => N b ∨ b ∈ F ∨ w.heap.size ≤ b, (cvs.map TV.av).zip vals⟩
  obtain ⟨p1, p2⟩ := putO_spec (σ := lookO []) h1
  obtain ⟨f1, f2⟩ := findT_spec h1
  let σ' : Objs := putO (lookO []) (usOf τ)
  let μ' : Place := placeT (fun _ => none) τ
  have hσ' : lookO (usOf τ) = σ' := by have := lookO_put [] (usOf τ); simpa using this
  have hfits : Fits τ σ' μ' := fun t ht => ⟨p1 (t.1, t.2.1) (List.mem_map.2 ⟨t, ht, rfl⟩), by simp [μ', placeT, f1 t ht]⟩
  have hcase : ∀ l, (∃ t ∈ τ, t.1 = l) ∨ (σ' l = (0, .dead) ∧ μ' l = none) := fun l => by
    by_cases h : ∃ t ∈ τ, t.1 = l
    · exact .inl h
    · right
      have hn : ∀ t ∈ τ, t.1 ≠ l := fun t ht e => h ⟨t, ht, e⟩
      refine ⟨?_, by simp [μ', placeT, f2 l hn]⟩
      have := p2 l fun p hp => by obtain ⟨t, ht, rfl⟩ := List.mem_map.1 hp; exact hn t ht
      exact this
  have hmem : ∀ l b base, μ' l = some (b, base) → ∃ t ∈ τ, t.1 = l ∧ t.2.2 = some (b, base) ∧ b ∈ F := fun l b base hm => by
    rcases hcase l with ⟨t, ht, rfl⟩ | ⟨_, h⟩
    · rw [(hfits t ht).2] at hm
      refine ⟨t, ht, rfl, hm, ?_⟩
      rw [← tk.1]
      exact List.mem_filterMap.2 ⟨t, ht, by rw [hm]; rfl⟩
    · rw [h] at hm; cases hm
  have hNN : ∀ b, N b → Nof S σ' μ' w b := fun b hb => ⟨hN b hb, .inl hb, fun l base _ hm => by
    obtain ⟨_, _, _, _, hbF⟩ := hmem l b base hm
    exact (hF b hbF).2 hb⟩
  obtain ⟨hts, hobj⟩ := tk.2.2 σ' μ' (Nof S σ' μ' w) hNN hfits
  have hlen := hts.len
  let a0 : Act := { tmps := vals.toArray ++ Array.replicate (fn.ntmps - vals.toArray.size) undef, defers := [] }
  have hslots : ∀ k, ARep σ' μ' w (Nof S σ' μ' w) (lookS (slotsOf 0 cvs) k) (a0.tmps.getD k undef) := fun k => by
    cases hk : cvs[k]? with
    | none =>
      rw [slotsOf_none (by right; have := List.getElem?_eq_none_iff.1 hk; omega)]
      trivial
    | some x =>
      have := slotsOf_some (i := 0) hk
      rw [Nat.zero_add] at this
      rw [this]
      obtain ⟨v, hv, hr⟩ := hts.at hk
      have hkl : k < vals.length := (List.getElem?_eq_some_iff.1 hv).1
      have : a0.tmps.getD k undef = v := by
        have h1 : a0.tmps[k]? = some v := by
          simp only [a0]
          rw [Array.getElem?_append_left (by simpa using hkl)]
          simpa using hv
        simp [Array.getD_eq_getD_getElem?, h1]
      rw [this]
      exact hr.av
  have R0 : Rel w S fn.ntmps (lookS (slotsOf 0 cvs)) σ' a0 w := by
    refine ⟨μ', ⟨?_, rfl, ⟨rfl, rfl, rfl⟩, Nat.le_refl _, fun b hb => ?_, fun _ _ _ => rfl, fun b cs e fr hb => ⟨cs, hb, rfl⟩, fun l b base _ hm => ?_, fun l l' b base base' _ _ hm hm' => ?_, fun p hp => ?_, fun p hp => ?_, fun l => ?_, hslots⟩⟩
    · simp [a0]; omega
    · rcases hb with hb | hb
      · exact .inr (.inr hb)
      · exact .inr (.inl hb)
    · obtain ⟨_, _, _, _, hbF⟩ := hmem l b base hm
      exact ⟨(hF b hbF).1, .inr hbF⟩
    · obtain ⟨t, ht, rfl, e, _⟩ := hmem l b base hm
      obtain ⟨t', ht', rfl, e', _⟩ := hmem l' b base' hm'
      rw [blkT_inj (by rw [tk.1]; exact hnd) ht ht' e e']
    · obtain ⟨k, hk⟩ := List.mem_iff_getElem?.1 hp
      rw [List.getElem?_zip_eq_some] at hk
      obtain ⟨hk1, hk2⟩ := hk
      simp only [List.getElem?_map, Option.map_eq_some_iff] at hk1
      obtain ⟨x, hx1, hx2⟩ := hk1
      obtain ⟨v, hv, hr⟩ := hts.at hx1
      rw [hk2] at hv
      cases hv
      rw [← hx2]
      exact hr.av
    · have := List.of_mem_zip (a := p.1) (b := p.2) hp
      obtain ⟨x, hx1, hx2⟩ := List.mem_map.1 this.1
      rw [← hx2]
      simp only [List.all_eq_true] at hlab
      exact hlab x hx1
    · rcases hcase l with ⟨t, ht, rfl⟩ | ⟨h, _⟩
      · rw [(hfits t ht).1]; exact hobj t ht
      · rw [h]; trivial
  have hsz : vals.toArray.size = vals.length := by simp
  refine calls_of_wp hf hb ?_
  have R0' : Rel w S fn.ntmps (lookS (⟨slotsOf 0 cvs, usOf τ⟩ : St).slots) (St.o ⟨slotsOf 0 cvs, usOf τ⟩) a0 w := by
    have : St.o ⟨slotsOf 0 cvs, usOf τ⟩ = σ' := by rw [← hσ']; rfl
    rw [this]
    exact R0
  refine awp_sound hT hm c _ _ _ a0 w h3 R0' ?_
  intro e τ' a' w' hfin R'
  have hfin' : Final real T fn.results.toList cvs out τ' ∧ (e.ex = .normal ∨ e.ex = .ret) := by
    cases e with
    | normal => exact ⟨hfin, .inl rfl⟩
    | ret => exact ⟨hfin, .inr rfl⟩
    | exit id => exact hfin.elim
  obtain ⟨hfin', hex⟩ := hfin'
  obtain ⟨μ'', R''⟩ := R'
  have hpost : a'.defers = [] ∧ ∃ v, (results fn a'.tmps).run P w' = .ok v w' ∧ Post w N F vals out (.returned v) w' := by
    obtain ⟨vs, ys, l1, hb', hvs, g1⟩ := resG_spec hT R'' (wp_run hfin')
    refine ⟨R''.defs, _, results_run hrl hvs, ?_⟩
    obtain ⟨_, hb'⟩ := hb'
    obtain ⟨zs, l2, ⟨_, k1, k2, k3, k4, k5⟩, g2⟩ := backG_spec R'' hlen (fun k x v hx hv => R''.ghost (x.av, v) (by
      apply List.mem_of_getElem? (i := k)
      rw [List.getElem?_zip_eq_some]
      exact ⟨by simp [hx], hv⟩)) (wp_run hb')
    have hb1 : l1.bo = [] := by simpa using k2
    have hb2 : l2.bo = [] := by simpa using k3
    obtain ⟨hnd', _⟩ := exOk_spec k1
    have hval : ∀ p ∈ l1.ex ++ l2.ex, Valid τ'.o p := fun p hp => by
      rcases List.mem_append.1 hp with hp | hp
      · exact g1.1 p (by simp [hp])
      · exact g2.1 p (by simp [hp])
    have hNo : ∀ b, Nof S τ'.o μ'' w' b → Nout w w' N F (blk μ'' l1.ex ++ blk μ'' l2.ex) b := fun b hb => by
      refine ⟨hb.1, fun hin => ?_, hb.2.1⟩
      rw [← blk_append] at hin
      obtain ⟨p, hp, base, hmp⟩ := blk_mem hin
      exact hb.2.2 p.1 base (hval p hp).1 hmp
    have e1 := g1.2 _ hNo (fun p hp => by rw [hb1] at hp; simp at hp)
    have e2 := g2.2 _ hNo (fun p hp => by rw [hb2] at hp; simp at hp)
    refine ⟨_, blk μ'' l1.ex, blk μ'' l2.ex, rfl, R''.env, R''.grow, R''.frame, R''.shape, fun b hb => ?_, ?_, ?_, ?_⟩
    · rw [← blk_append] at hb
      obtain ⟨p, hp, base, hmp⟩ := blk_mem hb
      have := R''.own p.1 b base (hval p hp).1 hmp
      exact ⟨this.1, this.2.symm⟩
    · rw [← blk_append]
      exact blk_nodup R'' hnd' hval
    · rw [← k4]
      rcases ys with _ | ⟨y, _ | ⟨y', ys⟩⟩ <;> rcases vs with _ | ⟨v, _ | ⟨v', vs⟩⟩
      · exact ⟨#[], rfl, e1⟩
      · exact e1.elim
      · exact e1.elim
      · exact e1.elim
      · obtain ⟨F1, F2, e, q1, q2⟩ := e1
        have q2 : F2 = [] := q2
        subst q2
        rw [List.append_nil] at e
        rw [← e] at q1
        exact q1
      · obtain ⟨F1, F2, e, q1, q2⟩ := e1
        exact q2.elim
      · exact e1.elim
      · obtain ⟨F1, F2, e, q1, q2⟩ := e1
        exact q2.elim
      · exact ⟨_, rfl, by simpa using e1⟩
    · rw [← k5]; exact e2
  rcases hex with h | h <;> rw [h] <;> exact hpost
end
end Go.Rk
