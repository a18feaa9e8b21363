/- From one state to another that says no more: slots and own things left out, versions named anew. -/
import Derived.Test.YtbkpfnddpnccmaaRk24
namespace Go.Rk
def okC (so to : Nat → Nat × HO) : CV → CV → Prop
  | _, .junk => True
  | .d x, .d y => x = y
  | .own l off len ver, .own l' off' len' ver' => l = l' ∧ off = off' ∧ len = len' ∧ ver = (so l).1 ∧ ver' = (to l).1
  | .bp l ver off, .bp l' ver' off' => l = l' ∧ off = off' ∧ ver = (so l).1 ∧ ver' = (to l).1
  | .zc, .zc => True
  | _, _ => False
def okCs (so to : Nat → Nat × HO) : List CV → List CV → Prop
  | [], [] => True
  | x :: r, y :: s => okC so to x y ∧ okCs so to r s
  | _, _ => False
def okA (so to : Nat → Nat × HO) : AV → AV → Prop
  | _, .c .junk => True
  | .c x, .c y => okC so to x y
  | .agg x, .agg y => okCs so to x y
  | _, _ => False
def okO (so to : Nat → Nat × HO) : HO → HO → Prop
  | _, .dead => True
  | .box x, .box y => okCs so to x y
  | .arr sz n row, .arr sz' n' row' => sz = sz' ∧ n = n' ∧ ∀ i, i < n → row i = row' i
  | _, _ => False
def okSlots (σ τ : St) : List (Nat × AV) → Prop
  | [] => True
  | (k, x) :: r => okA σ.o τ.o (lookS σ.slots k) x ∧ okSlots σ τ r
def okObjs (σ τ : St) : List (Nat × Nat × HO) → Prop
  | [] => True
  | (l, _, o) :: r => okO σ.o τ.o (σ.o l).2 o ∧ okObjs σ τ r

section
variable {w0 : World} {S : Sets} {nt : Nat} {σ τ : Objs} {μ : Place} {w : World}
/-- What is live there is live here; versions of what is dead do not matter. -/
theorem okC_rep (ho : ∀ l, okO σ τ (σ l).2 (τ l).2) {N : Nat → Prop} {x y : CV} {v : Value} (h : okC σ τ x y) (hx : CRep σ μ w N x v) : CRep τ μ w N y v := by
  cases y with
  | junk => trivial
  | d y => cases x <;> first | exact h.elim | (have h : _ = y := h; subst h; exact hx)
  | zc => cases x <;> first | exact h.elim | exact hx
  | own l' off' len' ver' =>
    cases x with
    | own l off len ver =>
      obtain ⟨rfl, rfl, rfl, hv, hv'⟩ := h
      obtain ⟨h1, h2, h3⟩ := hx
      refine ⟨h1, by omega, fun sz n row e => ?_⟩
      have hoo := ho l
      rw [e] at hoo
      cases hσ : (σ l).2 with
      | arr sz1 n1 row1 =>
        rw [hσ] at hoo
        obtain ⟨rfl, rfl, _⟩ := hoo
        exact h3 sz1 n1 row1 (by rw [hv, ← hσ])
      | box _ => rw [hσ] at hoo; exact hoo.elim
      | dead => rw [hσ] at hoo; exact hoo.elim
    | _ => exact h.elim
  | bp l' ver' off' =>
    cases x with
    | bp l ver off =>
      obtain ⟨rfl, rfl, hv, hv'⟩ := h
      obtain ⟨h1, h2, h3⟩ := hx
      refine ⟨h1, by omega, fun cells e => ?_⟩
      have hoo := ho l
      rw [e] at hoo
      cases hσ : (σ l).2 with
      | box cells1 => exact h3 cells1 (by rw [hv, ← hσ])
      | arr _ _ _ => rw [hσ] at hoo; exact hoo.elim
      | dead => rw [hσ] at hoo; exact hoo.elim
    | _ => exact h.elim
  | op l' ver' row' off' => cases x <;> exact h.elim
  | clo f caps => cases x <;> exact h.elim
theorem okCs_rep (ho : ∀ l, okO σ τ (σ l).2 (τ l).2) {N : Nat → Prop} : ∀ {xs ys : List CV} {vs : List Value}, okCs σ τ xs ys → CsRep σ μ w N xs vs → CsRep τ μ w N ys vs
  | [], [], [], _, _ => trivial
  | [], [], _ :: _, _, h => h.elim
  | _ :: _, [], _, h, _ => h.elim
  | [], _ :: _, _, h, _ => h.elim
  | _ :: _, _ :: _, [], _, h => h.elim
  | _ :: _, _ :: _, _ :: _, h, hx => ⟨okC_rep ho h.1 hx.1, okCs_rep ho h.2 hx.2⟩
end
theorem CRep.mono {σ : Objs} {μ : Place} {w : World} {N N' : Nat → Prop} (h : ∀ b, N b → N' b) {x : CV} {v : Value} (hx : CRep σ μ w N x v) : CRep σ μ w N' x v := by
  cases x with
  | d x => exact DRep.mono h hx
  | _ => exact hx
theorem CsRep.mono {σ : Objs} {μ : Place} {w : World} {N N' : Nat → Prop} (h : ∀ b, N b → N' b) : ∀ {xs : List CV} {vs : List Value}, CsRep σ μ w N xs vs → CsRep σ μ w N' xs vs
  | [], [], _ => trivial
  | [], _ :: _, h => h.elim
  | _ :: _, [], h => h.elim
  | _ :: _, _ :: _, hx => ⟨hx.1.mono h, CsRep.mono h hx.2⟩

theorem lookO_none : ∀ {objs : List (Nat × Nat × HO)} {l : Nat}, (∀ p ∈ objs, p.1 ≠ l) → lookO objs l = (0, .dead)
  | [], _, _ => rfl
  | (j, v) :: r, l, h => by
    unfold lookO
    have : Nat.beq j l = false := by
      cases hb : Nat.beq j l with
      | false => rfl
      | true => exact absurd (Nat.eq_of_beq_eq_true hb) (h (j, v) (by simp))
    rw [this]
    exact lookO_none fun p hp => h p (by simp [hp])
theorem lookO_mem : ∀ {objs : List (Nat × Nat × HO)} {l : Nat}, (∃ v, (l, v) ∈ objs ∧ lookO objs l = v) ∨ (lookO objs l = (0, .dead))
  | [], _ => .inr rfl
  | (j, v) :: r, l => by
    unfold lookO
    cases hb : Nat.beq j l with
    | true => left; have := Nat.eq_of_beq_eq_true hb; subst this; exact ⟨v, by simp, rfl⟩
    | false =>
      rcases lookO_mem (objs := r) (l := l) with ⟨u, h1, h2⟩ | h
      · left; exact ⟨u, by simp [h1], by simpa using h2⟩
      · right; simpa using h
theorem lookS_mem : ∀ {sl : List (Nat × AV)} {l : Nat}, (∃ v, (l, v) ∈ sl ∧ lookS sl l = v) ∨ (lookS sl l = .c .junk)
  | [], _ => .inr rfl
  | (j, v) :: r, l => by
    unfold lookS
    cases hb : Nat.beq j l with
    | true => left; have := Nat.eq_of_beq_eq_true hb; subst this; exact ⟨v, by simp, rfl⟩
    | false =>
      rcases lookS_mem (sl := r) (l := l) with ⟨u, h1, h2⟩ | h
      · left; exact ⟨u, by simp [h1], by simpa using h2⟩
      · right; simpa using h
theorem okSlots_mem {σ τ : St} : ∀ {l : List (Nat × AV)}, okSlots σ τ l → ∀ p ∈ l, okA σ.o τ.o (lookS σ.slots p.1) p.2
  | [], _, p, hp => by simp at hp
  | (k, x) :: r, h, p, hp => by
    rcases List.mem_cons.1 hp with rfl | hp
    · exact h.1
    · exact okSlots_mem h.2 p hp
theorem okObjs_mem {σ τ : St} : ∀ {l : List (Nat × Nat × HO)}, okObjs σ τ l → ∀ p ∈ l, okO σ.o τ.o (σ.o p.1).2 p.2.2
  | [], _, p, hp => by simp at hp
  | (k, x) :: r, h, p, hp => by
    rcases List.mem_cons.1 hp with rfl | hp
    · exact h.1
    · exact okObjs_mem h.2 p hp
def ghOk (τ : St) : List (Nat × Nat × HO) → Prop
  | [] => True
  | (l, v, _) :: r => (Nat.ble 64 l = true ∨ v ≤ (τ.o l).1) ∧ ghOk τ r
theorem ghOk_mem {τ : St} : ∀ {l : List (Nat × Nat × HO)}, ghOk τ l → ∀ p ∈ l, p.1 < 64 → p.2.1 ≤ (τ.o p.1).1
  | [], _, p, hp, _ => by simp at hp
  | (k, x) :: r, h, p, hp, hlt => by
    rcases List.mem_cons.1 hp with rfl | hp
    · rcases h.1 with h | h
      · have := Nat.le_of_ble_eq_true h; simp at hlt; omega
      · exact h
    · exact ghOk_mem h.2 p hp hlt

section
variable {σ τ : Objs} {μ : Place} {w : World} {N : Nat → Prop}
theorem stale_rep (hv : ∀ l, l < 64 → (σ l).1 ≤ (τ l).1) (ho : ∀ l, okO σ τ (σ l).2 (τ l).2) {x : CV} {v : Value} (h : labC x = true) (hx : CRep σ μ w N x v) : CRep τ μ w N x v := by
  cases x with
  | own l off len ver =>
    have hl : l < 64 := by simpa [labC, Nat.blt_eq] using h
    obtain ⟨h1, h2, h3⟩ := hx
    have := hv l hl
    refine ⟨h1, by omega, fun sz n row e => ?_⟩
    have hoo := ho l
    have ev : (τ l).1 = ver := by rw [e]
    have es : (σ l).1 = ver := by omega
    rw [e] at hoo
    cases hσ : (σ l).2 with
    | arr sz1 n1 row1 =>
      rw [hσ] at hoo
      obtain ⟨rfl, rfl, _⟩ := hoo
      exact h3 sz1 n1 row1 (by rw [← es, ← hσ])
    | box _ => rw [hσ] at hoo; exact hoo.elim
    | dead => rw [hσ] at hoo; exact hoo.elim
  | bp l ver off =>
    have hl : l < 64 := by simpa [labC, Nat.blt_eq] using h
    obtain ⟨h1, h2, h3⟩ := hx
    have := hv l hl
    refine ⟨h1, by omega, fun cells e => ?_⟩
    have hoo := ho l
    have ev : (τ l).1 = ver := by rw [e]
    have es : (σ l).1 = ver := by omega
    rw [e] at hoo
    cases hσ : (σ l).2 with
    | box cells1 => exact h3 cells1 (by rw [← es, ← hσ])
    | arr _ _ _ => rw [hσ] at hoo; exact hoo.elim
    | dead => rw [hσ] at hoo; exact hoo.elim
  | op l ver row off => cases h
  | clo f caps => cases h
  | junk => trivial
  | d x => exact hx
  | zc => exact hx
end

theorem stales_rep {σ τ : Objs} {μ : Place} {w : World} {N : Nat → Prop} (hv : ∀ l, l < 64 → (σ l).1 ≤ (τ l).1) (ho : ∀ l, okO σ τ (σ l).2 (τ l).2) : ∀ {xs : List CV} {vs : List Value}, (∀ x ∈ xs, labC x = true) →
    CsRep σ μ w N xs vs → CsRep τ μ w N xs vs
  | [], [], _, _ => trivial
  | [], _ :: _, _, h => h.elim
  | _ :: _, [], _, h => h.elim
  | x :: _, _ :: _, hb, h => ⟨stale_rep hv ho (hb x (by simp)) h.1, stales_rep hv ho (fun y hy => hb y (by simp [hy])) h.2⟩

theorem cov_of {nt : Nat} {σ τ : St} (h1 : okSlots σ τ τ.slots) (h2 : okObjs σ τ τ.objs) (h3 : ghOk τ σ.objs) : Cov nt σ τ := by
  rintro w0 S a w ⟨μ, R⟩
  have ho : ∀ l, okO σ.o τ.o (σ.o l).2 (τ.o l).2 := fun l => by
    rcases lookO_mem (objs := τ.objs) (l := l) with ⟨v, hm, e⟩ | e
    · have := okObjs_mem h2 _ hm
      show okO σ.o τ.o (σ.o l).2 (lookO τ.objs l).2
      rw [e]; exact this
    · show okO σ.o τ.o (σ.o l).2 (lookO τ.objs l).2
      rw [e]
      cases (σ.o l).2 <;> trivial
  have hl : ∀ l, live τ.o l → live σ.o l := fun l hl => by
    have := ho l
    intro e
    rw [e] at this
    apply hl
    cases ht : (τ.o l).2 with
    | dead => rfl
    | box _ => rw [ht] at this; exact this.elim
    | arr _ _ _ => rw [ht] at this; exact this.elim
  have hv : ∀ l, l < 64 → (σ.o l).1 ≤ (τ.o l).1 := fun l hlt => by
    rcases lookO_mem (objs := σ.objs) (l := l) with ⟨v, hm, e⟩ | e
    · have := ghOk_mem h3 _ hm hlt
      show (lookO σ.objs l).1 ≤ _
      rw [e]; exact this
    · show (lookO σ.objs l).1 ≤ _
      rw [e]; exact Nat.zero_le _
  have hN : ∀ b, Nof S σ.o μ w b → Nof S τ.o μ w b := fun b hb => ⟨hb.1, hb.2.1, fun l base h => hb.2.2 l base (hl l h)⟩
  refine ⟨μ, R.size, R.defs, R.env, R.grow, R.reach, R.frame, R.shape, fun l b base h => R.own l b base (hl l h), fun l l' b base base' h h' => R.inj l l' b base base' (hl l h) (hl l' h'), fun p hp => ?_, R.ghl, fun l => ?_, fun k => ?_⟩
  · have hg := R.ghost p hp
    have hb := R.ghl p hp
    obtain ⟨x, v⟩ := p
    cases x with
    | c x => exact (stale_rep hv ho hb hg).mono hN
    | agg xs =>
      obtain ⟨cs, h1, h2⟩ := hg
      exact ⟨cs, h1, (stales_rep hv ho (by simpa [labA] using hb) h2).mono hN⟩
    | tup _ => cases hb
    | gd _ _ => cases hb
  · have hr := R.objs l
    have := ho l
    revert hr this
    generalize (σ.o l).2 = o1
    generalize (τ.o l).2 = o2
    intro hr this
    cases o2 with
    | dead => trivial
    | box y =>
      cases o1 with
      | box x =>
        obtain ⟨b, cs, e, q1, q2, q3⟩ := hr
        exact ⟨b, cs, e, q1, q2, (okCs_rep ho this q3).mono hN⟩
      | _ => exact this.elim
    | arr sz n row =>
      cases o1 with
      | arr sz1 n1 row1 =>
        obtain ⟨rfl, rfl, hrow⟩ := this
        refine ⟨fun i hi => by rw [← hrow i hi]; exact hr.1 i hi, hr.2.imp id ?_⟩
        rintro ⟨b, base, cs, e, q1, q2, q3, q4⟩
        refine ⟨b, base, cs, e, q1, q2, q3, fun i j x hi hj => ?_⟩
        rw [← hrow i hi] at hj
        obtain ⟨u, hu, hd⟩ := q4 i j x hi hj
        exact ⟨u, hu, hd.mono hN⟩
      | _ => exact this.elim
  · have hr := R.slots k
    have hs : okA σ.o τ.o (lookS σ.slots k) (lookS τ.slots k) := by
      rcases lookS_mem (sl := τ.slots) (l := k) with ⟨v, hm, e⟩ | e
      · have := okSlots_mem h1 _ hm
        rw [e]; exact this
      · rw [e]; cases lookS σ.slots k <;> first | trivial | (rename_i x; cases x <;> trivial)
    revert hr hs
    generalize lookS σ.slots k = x
    generalize lookS τ.slots k = y
    intro hr hs
    cases y with
    | c y =>
      cases x with
      | c x =>
        have hs' : okC σ.o τ.o x y := by cases y <;> first | trivial | exact hs
        exact (okC_rep ho hs' hr).mono hN
      | _ => cases y <;> first | trivial | exact hs.elim
    | agg y =>
      cases x with
      | agg x => obtain ⟨cs, q1, q2⟩ := hr; exact ⟨cs, q1, (okCs_rep ho hs q2).mono hN⟩
      | _ => exact hs.elim
    | _ => cases x <;> exact hs.elim
end Go.Rk
