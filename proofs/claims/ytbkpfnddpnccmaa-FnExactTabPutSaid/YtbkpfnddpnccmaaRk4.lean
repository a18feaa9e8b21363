/- What the readers of operands say of the machine's values. -/
import Derived.Test.YtbkpfnddpnccmaaRk3
import Derived.Laws.Tables
import Derived.Laws.Entries
namespace Go.Rk

/-- The table of types says what the program's own says. -/
structure TTok (P : Program) (T : TypeId → Option TI) : Prop where
  desc : ∀ t i, T t = some i → P.underlying t = some i.desc
  info : ∀ t i, T t = some i → ∃ inf z, P.info? t = some inf ∧ inf.size = i.size ∧ inf.bytes = i.bytes ∧ inf.zero = some z ∧ z.cells.toList = i.zero ∧ i.zero.length = i.size ∧ ∀ x ∈ i.zero, x.oneCell' = true
  eq : ∀ t i, T t = some i → i.eqk = true → ∀ (xs ys : List CV) (r : Bool), kindsB xs i.zero = true → eqCells real xs ys = some r → ∀ (us vs : Array Value), us.toList.length = xs.length → vs.toList.length = ys.length →
    (∀ (j : Nat) x, xs[j]? = some (CV.d (.v x)) → us[j]? = some x) → (∀ (j : Nat) y, ys[j]? = some (CV.d (.v y)) → vs[j]? = some y) →
    ∀ w, (eqGuard .eql t (.tmp 0) (.tmp 0) (.agg us) (.agg vs)).run P w = .ok () w ∧ (eqGuard .neq t (.tmp 0) (.tmp 0) (.agg us) (.agg vs)).run P w = .ok () w ∧ (Op.equal t (.agg us) (.agg vs)).run P w = .ok r w

section
variable {P : Program} {T : TypeId → Option TI} {w0 : World} {S : Sets} {nt : Nat} {slots : List (Nat × AV)} {σ : Objs} {a : Act} {w : World} {μ : Place} {N : Nat → Prop}

theorem tiv_run {t : TypeId} {Q : TI → Prop} (h : (tiv T t).run σ Q) : ∃ i, T t = some i ∧ Q i := by
  unfold tiv at h
  cases e : T t with
  | none => simp [e, G.run] at h
  | some i => simp only [e, G.run] at h; exact ⟨i, rfl, h⟩
theorem elemv_run {t : TypeId} {Q : TI → Prop} (h : (elemv T t).run σ Q) : ∃ it e i, T t = some it ∧ it.desc = .slice e ∧ T e = some i ∧ Q i := by
  unfold elemv at h
  split at h
  · rename_i e s b z q ht
    obtain ⟨i, hi, hq⟩ := tiv_run h
    exact ⟨_, e, i, ht, rfl, hi, hq⟩
  · exact h.elim
theorem fieldv_run {t : TypeId} {f : Nat} {Q : Nat × TI → Prop} (h : (fieldv T t f).run σ Q) :
    ∃ it fs x i, T t = some it ∧ it.desc = .struct fs ∧ fs[f]? = some x ∧ T x.type = some i ∧ i.size ≠ 0 ∧ Q (x.offset, i) := by
  unfold fieldv at h
  split at h
  · rename_i fs s b z q ht
    split at h
    · rename_i x hx
      split at h
      · rename_i i hi
        cases hz : Nat.beq i.size 0 with
        | true => simp [hz, G.run] at h
        | false => simp only [hz, cond_false, G.run] at h; exact ⟨_, fs, x, i, ht, rfl, hx, hi, fun e => by simp [e] at hz, h⟩
      · exact h.elim
    · exact h.elim
  · exact h.elim

theorem opv_run {x : AV} {v : Value} {Q : AV → Prop} (h : (opv real true x).run σ Q) (hx : ARep σ μ w N x v) : ∃ y, ARep σ μ w N y v ∧ Q y := by
  cases x with
  | gd t y => exact ⟨y, hx.1 (h.1 rfl), h.2⟩
  | _ => exact ⟨_, hx, h⟩
theorem cellv_run {x : AV} {v : Value} {Q : CV → Prop} (h : (cellv real true x).run σ Q) (hx : ARep σ μ w N x v) : ∃ y, CRep σ μ w N y v ∧ Q y := by
  cases x with
  | gd t y => cases y with
    | c y => exact ⟨y, hx.1 (h.1 rfl), h.2⟩
    | _ => exact h.elim
  | c y => exact ⟨y, hx, h⟩
  | _ => exact h.elim
theorem intv_run {x : AV} {v : Value} {Q : IntKind × Int → Prop} (h : (intv real true x).run σ Q) (hx : ARep σ μ w N x v) : ∃ k n, v = .int k n ∧ Q (k, n) := by
  unfold intv at h
  split at h
  · have := hx.1 (h.1 rfl); cases this; exact ⟨_, _, rfl, h.2⟩
  · cases hx; exact ⟨_, _, rfl, h⟩
  · exact h.elim
theorem boolv_run {g : Bool} {x : AV} {v : Value} {Q : Bool → Prop} (h : (boolv real g x).run σ Q) (hx : g = true → ARep σ μ w N x v) : ∃ b, (g = true → v = .bool b) ∧ Q b := by
  unfold boolv at h
  split at h
  · refine ⟨_, fun hg => ?_, h.2⟩; have := (hx hg).1 (h.1 hg); cases this; rfl
  · refine ⟨_, fun hg => ?_, h⟩; have := hx hg; cases this; rfl
  · exact h.elim

theorem noAgg {v : Value} (h : v.oneCell' = true) : v.cells = #[v] := by cases v <;> first | rfl | simp [Value.oneCell'] at h

theorem csRep_consts : ∀ {l : List Value}, (∀ x ∈ l, x.oneCell' = true) → CsRep σ μ w N (l.map fun x => CV.d (.v x)) l
  | [], _ => trivial
  | x :: r, h => ⟨DRep.v x (h x (by simp)), csRep_consts fun y hy => h y (by simp [hy])⟩
theorem constAV_rep (v : Value) : ARep σ μ w N (constAV v) v := by
  cases v with
  | agg cs =>
    show ARep σ μ w N (if cs.toList.all (·.oneCell') = true then AV.agg (cs.toList.map fun x => CV.d (.v x)) else .c .junk) (.agg cs)
    by_cases h : cs.toList.all (·.oneCell') = true
    · rw [if_pos h]; exact ⟨cs, rfl, csRep_consts (List.all_eq_true.1 h)⟩
    · rw [if_neg h]; trivial
  | tuple vs => trivial
  | _ => exact DRep.v _ rfl

theorem rho_rep (R : RelM w0 S nt (lookS slots) σ a w μ) (x : Operand) : ARep σ μ w (Nof S σ μ w) (rho slots x) (a.eval x) := by
  cases x with
  | tmp t => exact R.slots t
  | const v => exact constAV_rep v
  | global g => trivial
  | func f => exact DRep.fn f [] #[] (fun _ => undef) rfl (fun j x h => by simp at h) (fun j x h => by simp at h)

/-! ### Cells in rows -/
theorem CsRep.length : ∀ {xs : List CV} {vs : List Value}, CsRep σ μ w N xs vs → vs.length = xs.length
  | [], [], _ => rfl
  | _ :: _, _ :: _, h => by simp [h.2.length]
  | [], _ :: _, h => h.elim
  | _ :: _, [], h => h.elim
theorem CsRep.get : ∀ {xs : List CV} {vs : List Value} {j : Nat} {x : CV}, CsRep σ μ w N xs vs → xs[j]? = some x → ∃ u, vs[j]? = some u ∧ CRep σ μ w N x u
  | _ :: _, v :: _, 0, x, h, e => by simp at e; subst e; exact ⟨v, rfl, h.1⟩
  | _ :: _, _ :: _, j + 1, x, h, e => by simp at e; simpa using h.2.get e
  | [], [], _, _, _, e => by simp at e
  | [], _ :: _, _, _, h, _ => h.elim
  | _ :: _, [], _, _, h, _ => h.elim
theorem CsRep.of_get : ∀ {xs : List CV} {vs : List Value}, vs.length = xs.length → (∀ (j : Nat) x, xs[j]? = some x → ∃ u, vs[j]? = some u ∧ CRep σ μ w N x u) → CsRep σ μ w N xs vs
  | [], [], _, _ => trivial
  | x :: r, v :: s, hl, h => by
    refine ⟨?_, CsRep.of_get (by simpa using hl) fun j y hj => ?_⟩
    · obtain ⟨u, hu, hc⟩ := h 0 x rfl; simp at hu; subst hu; exact hc
    · obtain ⟨u, hu, hc⟩ := h (j + 1) y (by simpa using hj); exact ⟨u, by simpa using hu, hc⟩
  | [], _ :: _, hl, _ => by simp at hl
  | _ :: _, [], hl, _ => by simp at hl
theorem takeN_spec {α : Type} : ∀ {n : Nat} {l r : List α}, takeN n l = some r → r.length = n ∧ ∀ (j : Nat) x, r[j]? = some x → l[j]? = some x
  | 0, l, r, h => by simp [takeN] at h; subst h; simp
  | n + 1, [], r, h => by simp [takeN] at h
  | n + 1, y :: l, r, h => by
    simp only [takeN, Option.map_eq_some_iff] at h
    obtain ⟨r', h', rfl⟩ := h
    obtain ⟨h1, h2⟩ := takeN_spec h'
    refine ⟨by simp [h1], fun j x hj => ?_⟩
    cases j with
    | zero => simpa using hj
    | succ j => simp at hj ⊢; exact h2 j x hj
theorem dropN_get {α : Type} : ∀ (n : Nat) (l : List α) (j : Nat), (dropN n l)[j]? = l[n + j]?
  | 0, l, j => by simp [dropN]
  | n + 1, [], j => by simp [dropN]
  | n + 1, _ :: r, j => by
    rw [show n + 1 + j = (n + j) + 1 by omega]
    simpa [dropN] using dropN_get n r j
theorem dropN_length {α : Type} : ∀ (n : Nat) (l : List α), (dropN n l).length = l.length - n
  | 0, l => by simp [dropN]
  | n + 1, [] => by simp [dropN]
  | n + 1, _ :: r => by simp [dropN, dropN_length n r]
theorem patch_spec {α : Type} : ∀ {off : Nat} {xs l r : List α}, patch off xs l = some r → r.length = l.length ∧ off + xs.length ≤ l.length ∧
    ∀ (j : Nat) x, r[j]? = some x → (if j < off then l[j]? = some x else if j < off + xs.length then xs[j - off]? = some x else l[j]? = some x)
  | 0, [], l, r, h => by simp [patch] at h; subst h; simp
  | 0, x :: xs, y :: l, r, h => by
    simp only [patch, Option.map_eq_some_iff] at h
    obtain ⟨r', h', rfl⟩ := h
    obtain ⟨h1, h2, h3⟩ := patch_spec h'
    refine ⟨by simp [h1], by simp at h2 ⊢; omega, fun j z hj => ?_⟩
    cases j with
    | zero => simpa using hj
    | succ j =>
      simp at hj
      have := h3 j z hj
      simp at this ⊢
      exact this
  | 0, _ :: _, [], r, h => by simp [patch] at h
  | n + 1, xs, y :: l, r, h => by
    simp only [patch, Option.map_eq_some_iff] at h
    obtain ⟨r', h', rfl⟩ := h
    obtain ⟨h1, h2, h3⟩ := patch_spec h'
    refine ⟨by simp [h1], by simp at h2 ⊢; omega, fun j z hj => ?_⟩
    cases j with
    | zero => simpa using hj
    | succ j =>
      simp at hj
      have := h3 j z hj
      rw [show j + 1 - (n + 1) = j - n by omega]
      by_cases c1 : j < n
      · simp [c1] at this ⊢; exact this
      · by_cases c2 : j < n + xs.length
        · rw [if_neg c1, if_pos c2] at this
          rw [if_neg (by omega), if_pos (by omega)]; exact this
        · rw [if_neg c1, if_neg c2] at this
          rw [if_neg (by omega), if_neg (by omega)]; simpa using this
  | n + 1, xs, [], r, h => by cases xs <;> simp [patch] at h

theorem toDs_spec : ∀ {xs : List CV} {ds : List DV}, toDs xs = some ds → xs = ds.map .d
  | [], ds, h => by simp [toDs] at h; subst h; rfl
  | x :: r, ds, h => by
    simp only [toDs] at h
    split at h
    · rename_i a b ha hb
      simp at h; subst h
      have := toDs_spec hb
      cases x <;> simp [toD] at ha
      subst ha; simp [this]
    · simp at h
end
end Go.Rk
