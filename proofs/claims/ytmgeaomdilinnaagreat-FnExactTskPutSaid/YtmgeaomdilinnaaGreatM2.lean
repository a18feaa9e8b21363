/- The walk over this seat's functions, part 2: what each of them answers, at all data. -/
import Derived.Test.YtmgeaomdilinnaaGreatM1
import Derived.Laws.AppendOwn
import Derived.Laws.MakeOwn
/- Operations, more: arithmetic and tests, slices and their lengths. -/
namespace Go.Rk
set_option linter.unusedSimpArgs false
set_option linter.unusedVariables false
section
variable {P : Program} {T : TypeId → Option TI} {EX : FuncId → List Nat × Bool} {M : Ms}
variable {w0 : World} {S : Sets} {nt : Nat} {slots : List (Nat × AV)} {σ : Objs} {a : Act} {w : World} {μ : Place}
variable {o : Oper} {K : AV → List (Nat × Nat × HO) → Prop} {next : Act → World → Prop} {Q : Exit → Act → World → Prop}

theorem bin_run {op : BinOp} {k : IntKind} {m n : Int} {v : Value} (h : binSem real op k m n = some v) (t : TypeId) (x y : Operand) (w : World) :
    ((do eqGuard op t x y (.int k m) (.int k n); binOp op t (.int k m) (.int k n)) : Sem Value).run P w = .ok v w ∧ v.oneCell' = true := by
  cases op <;> simp only [binSem] at h <;> first
    | (simp at h; done)
    | (injection h with h; subst h; exact ⟨by simp [eqGuard, binOp, Op.intArith, Op.intCmp, Op.intBits, real], rfl⟩)
    | (cases n with
       | negSucc n => cases h
       | ofNat n =>
         injection h with h; subst h
         have hn : ¬ (n : Int) < 0 := by omega
         exact ⟨by simp [eqGuard, binOp, Op.shift, real, hn], rfl⟩)
theorem div_run {op : BinOp} {k : IntKind} {m n : Int} {v : Value} (hn : n ≠ 0) (h : divSem real op k m n = some v) (t : TypeId) (x y : Operand) (w : World) :
    ((do eqGuard op t x y (.int k m) (.int k n); binOp op t (.int k m) (.int k n)) : Sem Value).run P w = .ok v w ∧ v.oneCell' = true := by
  cases op <;> simp only [divSem] at h <;> first
    | (simp at h; done)
    | (injection h with h; subst h; exact ⟨by simp [eqGuard, binOp, Op.intDiv, real, hn], rfl⟩)

theorem eqCells_data : ∀ {xs ys : List CV} {r : Bool}, eqCells real xs ys = some r → xs.length = ys.length ∧ (∀ (j : Nat) x, xs[j]? = some x → ∃ u, x = .d (.v u)) ∧ ∀ (j : Nat) x, ys[j]? = some x → ∃ u, x = .d (.v u)
  | [], [], _, _ => by simp
  | [], _ :: _, _, h => by simp [eqCells] at h
  | x :: r, ys, q, h => by
    unfold eqCells at h
    split at h
    · simp_all
    · rename_i k m r1 k' n s1 e1
      simp only [List.cons.injEq] at e1
      obtain ⟨rfl, rfl⟩ := e1
      split at h
      · simp only [Option.map_eq_some_iff] at h
        obtain ⟨q', h', _⟩ := h
        obtain ⟨h1, h2, h3⟩ := eqCells_data h'
        refine ⟨by simp [h1], fun j x hj => ?_, fun j x hj => ?_⟩
        · cases j with
          | zero => simp at hj; exact ⟨_, hj.symm⟩
          | succ j => exact h2 j x (by simpa using hj)
        · cases j with
          | zero => simp at hj; exact ⟨_, hj.symm⟩
          | succ j => exact h3 j x (by simpa using hj)
      · simp at h
    · rename_i m r1 n s1 e1
      simp only [List.cons.injEq] at e1
      obtain ⟨rfl, rfl⟩ := e1
      simp only [Option.map_eq_some_iff] at h
      obtain ⟨q', h', _⟩ := h
      obtain ⟨h1, h2, h3⟩ := eqCells_data h'
      refine ⟨by simp [h1], fun j x hj => ?_, fun j x hj => ?_⟩
      · cases j with
        | zero => simp at hj; exact ⟨_, hj.symm⟩
        | succ j => exact h2 j x (by simpa using hj)
      · cases j with
        | zero => simp at hj; exact ⟨_, hj.symm⟩
        | succ j => exact h3 j x (by simpa using hj)
    · simp at h

theorem eq_run (hT : TTok P T) {t : TypeId} {i : TI} (hi : T t = some i) {xs ys : List CV} (hq' : (i.eqk && kindsB xs i.zero) = true) {r : Bool} (h : eqCells real xs ys = some r) {us vs : Array Value} {N : Nat → Prop}
    (hx : CsRep σ μ w N xs us.toList) (hy : CsRep σ μ w N ys vs.toList) (x y : Operand) (w : World) :
    ((do eqGuard .eql t x y (.agg us) (.agg vs); binOp .eql t (.agg us) (.agg vs)) : Sem Value).run P w = .ok (.bool r) w ∧
    ((do eqGuard .neq t x y (.agg us) (.agg vs); binOp .neq t (.agg us) (.agg vs)) : Sem Value).run P w = .ok (.bool (!r)) w := by
  obtain ⟨h1, h2, h3⟩ := eqCells_data h
  have hv : ∀ {w' : World} {zs : List CV} {ws : Array Value}, CsRep σ μ w' N zs ws.toList → ∀ (j : Nat) x, zs[j]? = some (CV.d (.v x)) → ws[j]? = some x := by
    intro w' zs ws hz j x hj
    obtain ⟨u, hu, hc⟩ := hz.get hj
    cases hc
    simpa using hu
  simp only [Bool.and_eq_true] at hq'
  obtain ⟨hq, hsz⟩ := hq'
  obtain ⟨g1, g2, g3⟩ := hT.eq t i hi hq xs ys r hsz h us vs hx.length hy.length (hv hx) (hv hy) w
  have e1 : eqGuard .eql t x y (.agg us) (.agg vs) = eqGuard .eql t (.tmp 0) (.tmp 0) (.agg us) (.agg vs) := rfl
  have e2 : eqGuard .neq t x y (.agg us) (.agg vs) = eqGuard .neq t (.tmp 0) (.tmp 0) (.agg us) (.agg vs) := rfl
  exact ⟨by simp [e1, g1, binOp, g3], by simp [e2, g2, binOp, g3]⟩

theorem equal_bool {t : TypeId} (hu : P.underlying t = some .bool) (m n : Bool) (w : World) : (Op.equal t (.bool m) (.bool n)).run P w = .ok (m == n) w := by
  have h : ∀ d, (Op.equalIn (d + 1) t (.bool m) (.bool n)).run P w = .ok (m == n) w := fun d => by
    unfold Op.equalIn
    simp [underlying, hu]
  exact h 9999
theorem equal_nil {t e : TypeId} {ad : Option Addr} {n cap : Nat} (hu : P.underlying t = some (.slice e)) : (Op.equal t (.slice ad n cap) (.slice none 0 0)).run P w = .ok ad.isNone w := by
  have h : ∀ d, (Op.equalIn (d + 1) t (.slice ad n cap) (.slice none 0 0)).run P w = .ok ad.isNone w := fun d => by
    unfold Op.equalIn
    cases ad <;> simp [underlying, hu]
  exact h 9999
theorem scal {N : Nat → Prop} {x v : Value} (h : ARep σ μ w N (.c (.d (.v x))) v) : v = x := by cases h; rfl
theorem sound_binOp (hT : TTok P T) (R : RelM w0 S nt (lookS slots) σ a w μ) (hd : ∀ d, o.dst = some d → d < nt) {op : BinOp} {t yt : TypeId} {x y : Operand} (ho : o.op = .binOp op t x y yt)
    (h : (semOp real T EX o true (rho slots)).run σ (OpOut.run M σ K)) : Sound P w0 S nt slots σ a w o K := by
  simp only [semOp, ho, G.run_bind] at h
  obtain ⟨p, hp, h1⟩ := opv_run h (rho_rep R x)
  clear h
  obtain ⟨q, hq, h⟩ := opv_run h1 (rho_rep R y)
  clear h1
  have hex : ∀ v, ((do eqGuard op t x y (a.eval x) (a.eval y); binOp op t (a.eval x) (a.eval y)) : Sem Value).run P w = .ok v w → (execOp a.eval o).run P w = .ok (.value v) w := by
    intro v hv
    simp only [execOp, ho]
    simp only [Sem.run_bind] at hv ⊢
    rw [hv]; rfl
  split at h
  · rename_i k m k' n
    have ex := scal hp
    have ey := scal hq
    split at h
    · rename_i hk; subst hk
      split at h
      · rename_i v hv
        obtain ⟨h1, h2⟩ := bin_run (P := P) hv t x y w
        exact sound_val R hd (hex v (by rw [ex, ey]; exact h1)) (x := .c (.d (.v v))) (DRep.v _ h2) h
      · split at h
        · rename_i v hv
          obtain ⟨hn, h⟩ := h
          obtain ⟨h1, h2⟩ := div_run (P := P) (hn rfl) hv t x y w
          exact sound_val R hd (hex v (by rw [ex, ey]; exact h1)) (x := .c (.d (.v v))) (DRep.v _ h2) h
        · exact h.elim
    · exact h.elim
  · rename_i m n
    have ex := scal hp
    have ey := scal hq
    rw [G.run_bind] at h
    obtain ⟨i, hi, h1⟩ := tiv_run h
    clear h
    have hu := hT.desc t i hi
    split at h1
    · rename_i hdsc
      rw [hdsc] at hu
      exact sound_val R hd (hex (.bool (m == n)) (by rw [ex, ey]; simp [eqGuard, binOp, equal_bool hu])) (x := .c (.d (.v (.bool (m == n))))) (DRep.v _ rfl) h1
    · rename_i hdsc
      rw [hdsc] at hu
      exact sound_val R hd (hex (.bool (!(m == n))) (by rw [ex, ey]; simp [eqGuard, binOp, equal_bool hu])) (x := .c (.d (.v (.bool (!(m == n)))))) (DRep.v _ rfl) h1
    · exact h1.elim
  · rename_i xs ys
    rw [G.run_bind] at h
    obtain ⟨i, hi, h1⟩ := tiv_run h
    clear h
    split at h1
    · rename_i hqk
      rw [G.run_bind] at h1
      obtain ⟨r, hr, h⟩ := optv_run h1
      clear h1
      obtain ⟨us, ex, hx⟩ := hp
      obtain ⟨vs, ey, hy⟩ := hq
      obtain ⟨h1, h2⟩ := eq_run (w := w) hT hi hqk hr hx hy x y w
      split at h
      · exact sound_val R hd (hex (.bool r) (by rw [ex, ey]; exact h1)) (x := .c (.d (.v (.bool r)))) (DRep.v _ rfl) h
      · exact sound_val R hd (hex (.bool (!r)) (by rw [ex, ey]; exact h2)) (x := .c (.d (.v (.bool (!r))))) (DRep.v _ rfl) h
      · exact h.elim
    · exact h1.elim
  · rename_i ad cap
    have ex := scal hp
    have ey := scal hq
    rw [G.run_bind] at h
    obtain ⟨i, hi, h1⟩ := tiv_run h
    clear h
    have hu := hT.desc t i hi
    split at h1
    · rename_i hdsc
      rw [hdsc] at hu
      exact sound_val R hd (hex (.bool ad.isNone) (by rw [ex, ey]; simp [eqGuard, binOp, equal_nil hu])) (x := .c (.d (.v (.bool ad.isNone)))) (DRep.v _ rfl) h1
    · exact h1.elim
  · rename_i sz n row
    have ey := scal hq
    rw [G.run_bind] at h
    obtain ⟨i, hi, h1⟩ := tiv_run h
    clear h
    have hu := hT.desc t i hi
    split at h1
    · rename_i hdsc
      rw [hdsc] at hu
      obtain ⟨hn, h1⟩ := h1
      have hn : 0 < n := by have := (hn rfl).2; omega
      have hp : DRep w (Nof S σ μ w) (.sl sz n row) (a.eval x) := hp
      obtain ⟨ad, cap, ex⟩ : ∃ ad cap, a.eval x = .slice (some ad) n cap := by
        generalize a.eval x = v at hp
        cases hp with
        | nil => omega
        | empty => omega
        | sl _ _ _ b off cap => exact ⟨_, cap, rfl⟩
      exact sound_val R hd (hex (.bool false) (by rw [ex, ey]; simp [eqGuard, binOp, equal_nil hu])) (x := .c (.d (.v (.bool false)))) (DRep.v _ rfl) h1
    · exact h1.elim
  · exact h.elim

/-! ### Rows to be read -/
/-- A slice's rows as they lie: where, and what. -/
def RowsAt (w : World) (N : Nat → Prop) (sz n : Nat) (row : Nat → List DV) (v : Value) : Prop :=
  (∀ i, i < n → (row i).length = sz) ∧ ((n = 0 ∧ ∃ ad cap, v = .slice ad 0 cap) ∨ ∃ b off cap cs e fr, v = .slice (some ⟨b, off, none⟩) n cap ∧ w.heap[b]? = some (.cells cs e fr) ∧
    ∀ i j x, i < n → (row i)[j]? = some x → ∃ u, cs[off + i * sz + j]? = some u ∧ DRep w N x u)

theorem rowsv_run {e : TI} (R : RelM w0 S nt (lookS slots) σ a w μ) {x : CV} {v : Value} (hx : CRep σ μ w (Nof S σ μ w) x v) {Q : Nat × (Nat → List DV) → Prop} (h : (rowsv real e x).run σ Q) :
    ∃ n row, RowsAt w (Nof S σ μ w) e.size n row v ∧ Q (n, row) := by
  unfold rowsv at h
  split at h
  · rename_i sz n row
    cases hsz : nbeq sz e.size with
    | false => rw [hsz] at h; exact h.elim
    | true =>
      rw [hsz] at h
      have hsz := eq_of_nbeq hsz
      subst hsz
      refine ⟨n, row, ?_, h⟩
      cases hx with
      | nil => exact ⟨fun i hi => by omega, .inl ⟨rfl, none, 0, rfl⟩⟩
      | empty _ _ ad => exact ⟨fun i hi => by omega, .inl ⟨rfl, some ad, 0, rfl⟩⟩
      | sl _ _ _ b off cap cs e' fr u hN hb hc hs hr hu hd =>
        exact ⟨hr, .inr ⟨b, off, cap, cs, e', fr, rfl, hb, fun i j x hi hj => ⟨u i j, hu i j x hi hj, hd i j x hi hj⟩⟩⟩
  · cases hx
    exact ⟨0, _, ⟨fun i hi => by omega, .inl ⟨rfl, _, _, rfl⟩⟩, h⟩
  · obtain ⟨ad, rfl⟩ := hx
    exact ⟨0, _, ⟨fun i hi => by omega, .inl ⟨rfl, ad, 0, rfl⟩⟩, h⟩
  · rename_i l off len ver
    simp only [G.run] at h
    split at h
    · rename_i ver' sz n row hσ
      cases hsz : nbeq sz e.size with
      | false => rw [hsz] at h; exact h.elim
      | true =>
        rw [hsz] at h
        obtain ⟨hv, h⟩ := h
        have hv : ver = ver' := hv
        subst hv
        have hsz := eq_of_nbeq hsz
        subst hsz
        refine ⟨len, _, ?_, h⟩
        obtain ⟨_, _, h3⟩ := hx
        obtain ⟨h4, h5⟩ := h3 _ n row hσ
        have ob := R.objs l
        rw [hσ] at ob
        obtain ⟨hr, ob⟩ := ob
        refine ⟨fun i hi => hr (off + i) (by omega), ?_⟩
        rcases h5 with ⟨_, rfl, ad, rfl⟩ | ⟨b, base, o', cap, cs, e', hμ, rfl, hcap, ho', hb, _⟩
        · exact .inl ⟨rfl, ad, 0, rfl⟩
        · rcases ob with ⟨h1, _⟩ | ⟨b', base', cs1, e1, hμ', hb1, hsz0, hcs⟩
          · rw [hμ] at h1; simp at h1
          rw [hμ] at hμ'; simp at hμ'; obtain ⟨rfl, rfl⟩ := hμ'
          by_cases hl : len = 0
          · subst hl; exact .inl ⟨rfl, _, cap, rfl⟩
          · refine .inr ⟨b, o', cap, cs1, e1, (0, 0), rfl, hb1, fun i j x hi hj => ?_⟩
            obtain ⟨u, hu, hd⟩ := hcs (off + i) j x (by omega) hj
            exact ⟨u, by rw [ho' (.inl (by omega)), ← hu, Nat.add_mul]; congr 1; omega, hd⟩
    · exact h.elim
  · exact h.elim

theorem lenv_run {x : CV} {v : Value} {N : Nat → Prop} (hx : CRep σ μ w N x v) {Q : Nat → Prop} (h : (lenv real x).run σ Q) : ∃ n ad cap, v = .slice ad n cap ∧ Q n := by
  unfold lenv at h
  split at h
  · rename_i sz n row
    cases hx with
    | nil => exact ⟨0, none, 0, rfl, h⟩
    | empty _ _ ad => exact ⟨0, some ad, 0, rfl, h⟩
    | sl _ _ _ b off cap cs e' fr u => exact ⟨n, _, cap, rfl, h⟩
  · cases hx; exact ⟨0, _, _, rfl, h⟩
  · obtain ⟨ad, rfl⟩ := hx; exact ⟨0, ad, 0, rfl, h⟩
  · rename_i l off len ver
    simp only [G.run] at h
    split at h
    · rename_i ver' sz n row hσ
      obtain ⟨hv, h⟩ := h
      have hv : ver = ver' := hv
      subst hv
      obtain ⟨_, h5⟩ := hx.2.2 sz n row hσ
      rcases h5 with ⟨_, rfl, ad, rfl⟩ | ⟨b, base, o', cap, cs, e', _, rfl, _⟩
      · exact ⟨0, ad, 0, rfl, h⟩
      · exact ⟨len, _, cap, rfl, h⟩
    · exact h.elim
  · rename_i l len ver
    simp only [G.run] at h
    split at h
    · rename_i ver' sz n row foc hσ
      obtain ⟨hv, h⟩ := h
      have hv : ver = ver' := hv
      subst hv
      obtain ⟨_, h5⟩ := hx.2.2 sz n row foc hσ
      rcases h5 with ⟨_, rfl, ad, rfl⟩ | ⟨b, base, cap, cs, e', _, rfl, _⟩
      · exact ⟨0, ad, 0, rfl, h⟩
      · exact ⟨len, _, cap, rfl, h⟩
    · exact h.elim
  · exact h.elim

theorem sound_len (hT : TTok P T) (R : RelM w0 S nt (lookS slots) σ a w μ) (hd : ∀ d, o.dst = some d → d < nt) {args : Array Operand} {ts : Array TypeId} (ho : o.op = .call ⟨.builtin .len, args, ts⟩)
    (h : (semOp real T EX o true (rho slots)).run σ (OpOut.run M σ K)) : Sound P w0 S nt slots σ a w o K := by
  simp only [semOp, ho] at h
  split at h
  · rename_i x t hargs hts
    rw [G.run_bind] at h
    obtain ⟨i, hi, h⟩ := tiv_run h
    split at h
    · rename_i e hdsc
      rw [G.run_bind] at h
      obtain ⟨c, hc, h⟩ := cellv_run h (rho_rep R x)
      rw [G.run_bind] at h
      obtain ⟨n, ad, cap, he, h⟩ := lenv_run hc h
      have hu := hT.desc t i hi
      rw [hdsc] at hu
      refine sound_val R hd (v := .int .i64 n) ?_ (x := .c (.d (.v (.int .i64 n)))) (DRep.v _ rfl) h
      have ha : args = #[x] := by apply Array.ext'; simpa using hargs
      subst ha
      simp [execOp, ho, resolve, invoke, builtin, Builtin.len_, hts, underlying, hu, he, goInt]
    · exact h.elim
  · exact h.elim

theorem sound_min (R : RelM w0 S nt (lookS slots) σ a w μ) (hd : ∀ d, o.dst = some d → d < nt) {args : Array Operand} {ts : Array TypeId} (ho : o.op = .call ⟨.builtin .min, args, ts⟩)
    (h : (semOp real T EX o true (rho slots)).run σ (OpOut.run M σ K)) : Sound P w0 S nt slots σ a w o K := by
  simp only [semOp, ho] at h
  split at h
  · rename_i x y hargs
    rw [G.run_bind] at h
    obtain ⟨k, m, ex, h⟩ := intv_run h (rho_rep R x)
    rw [G.run_bind] at h
    obtain ⟨k', n, ey, h⟩ := intv_run h (rho_rep R y)
    refine sound_val R hd (v := .int k (if n < m then n else m)) ?_ (x := .c (.d (.v (.int k (if n < m then n else m))))) (DRep.v _ rfl) h
    have ha : args = #[x, y] := by apply Array.ext'; simpa using hargs
    subst ha
    simp [execOp, ho, resolve, invoke, builtin, Builtin.min_, Builtin.min2, ex, ey]
  · exact h.elim
theorem sound_max (R : RelM w0 S nt (lookS slots) σ a w μ) (hd : ∀ d, o.dst = some d → d < nt) {args : Array Operand} {ts : Array TypeId} (ho : o.op = .call ⟨.builtin .max, args, ts⟩)
    (h : (semOp real T EX o true (rho slots)).run σ (OpOut.run M σ K)) : Sound P w0 S nt slots σ a w o K := by
  simp only [semOp, ho] at h
  split at h
  · rename_i x y hargs
    rw [G.run_bind] at h
    obtain ⟨k, m, ex, h⟩ := intv_run h (rho_rep R x)
    rw [G.run_bind] at h
    obtain ⟨k', n, ey, h⟩ := intv_run h (rho_rep R y)
    refine sound_val R hd (v := .int k (if n > m then n else m)) ?_ (x := .c (.d (.v (.int k (if n > m then n else m))))) (DRep.v _ rfl) h
    have ha : args = #[x, y] := by apply Array.ext'; simpa using hargs
    subst ha
    simp [execOp, ho, resolve, invoke, builtin, Builtin.max_, Builtin.max2, ex, ey]
  · exact h.elim
end
end Go.Rk
/- Operations, more: aggregates built, slices made, cut and grown. -/
namespace Go.Rk
set_option linter.unusedSimpArgs false
set_option linter.unusedVariables false
section
variable {P : Program} {T : TypeId → Option TI} {EX : FuncId → List Nat × Bool} {M : Ms}
variable {w0 : World} {S : Sets} {nt : Nat} {slots : List (Nat × AV)} {σ : Objs} {a : Act} {w : World} {μ : Place}
variable {o : Oper} {K : AV → List (Nat × Nat × HO) → Prop} {next : Act → World → Prop} {Q : Exit → Act → World → Prop}

/-- Cells laid over others, one by one. -/
theorem lay_spec (off : Nat) : ∀ (vs : List Value) (k : Nat) (cs : Array Value), off + k + vs.length ≤ cs.size →
    ((vs.zipIdx k).foldl (fun cs (c, j) => cs.setIfInBounds (off + j) c) cs).size = cs.size ∧
    ∀ j, ((vs.zipIdx k).foldl (fun cs (c, j) => cs.setIfInBounds (off + j) c) cs)[j]? = if off + k ≤ j ∧ j < off + k + vs.length then vs[j - (off + k)]? else cs[j]?
  | [], k, cs, _ => by
    simp only [List.zipIdx_nil, List.foldl_nil, true_and]
    intro j
    rw [if_neg (by simp only [List.length_nil]; omega)]
  | v :: r, k, cs, h => by
    simp only [List.zipIdx_cons, List.foldl_cons]
    simp only [List.length_cons] at h
    obtain ⟨h1, h2⟩ := lay_spec off r (k + 1) (cs.setIfInBounds (off + k) v) (by simp; omega)
    refine ⟨by rw [h1]; simp, fun j => ?_⟩
    rw [h2 j]
    by_cases c1 : off + (k + 1) ≤ j ∧ j < off + (k + 1) + r.length
    · rw [if_pos c1, if_pos (by simp; omega), show j - (off + k) = (j - (off + (k + 1))) + 1 by omega]
      simp
    · rw [if_neg c1]
      by_cases c2 : j = off + k
      · subst c2
        rw [if_pos (by simp), Array.getElem?_setIfInBounds]
        simp; omega
      · rw [if_neg (by simp; omega), Array.getElem?_setIfInBounds, if_neg (by omega)]

theorem fill_rep {N : Nat → Prop} {place : Nat → Option (Nat × Nat)} : ∀ {parts : List (Nat × List CV)} {vals : List (Nat × Value)} {cells cs : List CV} {zs : Array Value},
    fillC place cells parts = some cs → CsRep σ μ w N cells zs.toList →
    (parts.length = vals.length ∧ ∀ (j : Nat) i xs, parts[j]? = some (i, xs) → ∃ v, vals[j]? = some (i, v) ∧ CsRep σ μ w N xs v.cells.toList) →
    ∃ ws, Instr.fill place zs vals = some ws ∧ CsRep σ μ w N cs ws.toList
  | [], [], cells, cs, zs, h, hz, _ => by simp [fillC] at h; subst h; exact ⟨zs, rfl, hz⟩
  | [], _ :: _, _, _, _, _, _, hp => by simp at hp
  | _ :: _, [], _, _, _, _, _, hp => by simp at hp
  | (i, xs) :: r, (i', v) :: s, cells, cs, zs, h, hz, hp => by
    obtain ⟨v', hv', hxs⟩ := hp.2 0 i xs rfl
    simp at hv'; obtain ⟨rfl, rfl⟩ := hv'
    unfold fillC at h
    split at h
    · simp at h
    · rename_i off size hpl
      split at h
      · rename_i hsz
        split at h
        · rename_i cs1 hpa
          obtain ⟨p1, p2, p3⟩ := patch_spec hpa
          have hl := hxs.length
          have hzl := hz.length
          rw [Array.length_toList] at hl hzl
          have hfit : off + 0 + v.cells.toList.length ≤ zs.size := by rw [Array.length_toList]; omega
          obtain ⟨q1, q2⟩ := lay_spec off v.cells.toList 0 zs hfit
          have hz1 : CsRep σ μ w N cs1 ((v.cells.toList.zipIdx 0).foldl (fun cs (c, j) => cs.setIfInBounds (off + j) c) zs).toList := by
            refine CsRep.of_get (by rw [Array.length_toList, q1, p1, hzl]) fun j x hj => ?_
            rw [Array.getElem?_toList, q2 j]
            have hp3 := p3 j x hj
            by_cases c1 : j < off
            · rw [if_pos c1] at hp3
              rw [if_neg (by omega)]
              obtain ⟨u, hu, hc⟩ := hz.get hp3
              exact ⟨u, by simpa using hu, hc⟩
            · by_cases c2 : j < off + xs.length
              · rw [if_neg c1, if_pos c2] at hp3
                rw [if_pos (by rw [Array.length_toList]; omega)]
                obtain ⟨u, hu, hc⟩ := hxs.get hp3
                exact ⟨u, by simpa using hu, hc⟩
              · rw [if_neg c1, if_neg c2] at hp3
                rw [if_neg (by rw [Array.length_toList]; omega)]
                obtain ⟨u, hu, hc⟩ := hz.get hp3
                exact ⟨u, by simpa using hu, hc⟩
          obtain ⟨ws, hws, hcs⟩ := fill_rep (parts := r) (vals := s) h hz1 ⟨by simpa using hp.1, fun j i' xs' hj => by
            have := hp.2 (j + 1) i' xs' (by simpa using hj)
            simpa using this⟩
          refine ⟨ws, ?_, hcs⟩
          unfold Instr.fill
          simp only [hpl]
          rw [if_neg (by simp; omega)]
          have hzi : v.cells.zipIdx.foldl (fun cs (c, j) => cs.setIfInBounds (off + j) c) zs = (v.cells.toList.zipIdx 0).foldl (fun cs (c, j) => cs.setIfInBounds (off + j) c) zs := by
            rw [← Array.foldl_toList]; simp
          rw [hzi]
          exact hws
        · simp at h
      · simp at h

theorem partsv_run (R : RelM w0 S nt (lookS slots) σ a w μ) : ∀ {l : List (Nat × Operand)} {Q : List (Nat × List CV) → Prop}, (partsv real true (rho slots) l).run σ Q →
    ∃ ps, Q ps ∧ ps.length = (l.map fun q => (q.1, a.eval q.2)).length ∧ ∀ (j : Nat) i xs, ps[j]? = some (i, xs) → ∃ v, (l.map fun q => (q.1, a.eval q.2))[j]? = some (i, v) ∧ CsRep σ μ w (Nof S σ μ w) xs v.cells.toList
  | [], Q, h => ⟨[], h, rfl, fun j i xs hj => by simp at hj⟩
  | (i, x) :: r, Q, h => by
    simp only [partsv, G.run_bind] at h
    obtain ⟨cs, hcs, h⟩ := cellsv_run h (rho_rep R x)
    obtain ⟨ps, hq, hl, hps⟩ := partsv_run R h
    refine ⟨_, hq, by simpa using hl, fun j i' xs hj => ?_⟩
    cases j with
    | zero => simp at hj; obtain ⟨rfl, rfl⟩ := hj; exact ⟨_, rfl, hcs⟩
    | succ j => simp at hj; simpa using hps j i' xs hj

theorem sizesv_run (hT : TTok P T) : ∀ {fs : List Field} {Q : List (Nat × Nat) → Prop}, (sizesv T fs).run σ Q → ∃ ps, Q ps ∧ fs.mapM (fun f => (P.info? f.type).map fun i => (f.offset, i.size)) = some ps
  | [], Q, h => ⟨[], h, rfl⟩
  | f :: r, Q, h => by
    simp only [sizesv, G.run_bind] at h
    obtain ⟨i, hi, h⟩ := tiv_run h
    obtain ⟨ps, hq, hp⟩ := sizesv_run hT h
    obtain ⟨inf, z, h1, h2, _⟩ := hT.info _ i hi
    exact ⟨_, hq, by simp [List.mapM_cons, h1, hp, h2]⟩

theorem sound_build (hT : TTok P T) (R : RelM w0 S nt (lookS slots) σ a w μ) (hd : ∀ d, o.dst = some d → d < nt) {t : TypeId} {parts : Array (Nat × Operand)} (ho : o.op = .build t parts)
    (h : (semOp real T EX o true (rho slots)).run σ (OpOut.run M σ K)) : Sound P w0 S nt slots σ a w o K := by
  simp only [semOp, ho, G.run_bind] at h
  obtain ⟨i, hi, h1⟩ := tiv_run h
  clear h
  split at h1
  · rename_i fs hdsc
    rw [G.run_bind] at h1
    obtain ⟨ps, h, hps⟩ := sizesv_run hT h1
    clear h1
    rw [G.run_bind] at h
    obtain ⟨vs, h1, hvl, hvs⟩ := partsv_run R h
    clear h
    rw [G.run_bind] at h1
    obtain ⟨cs, hcs, hk⟩ := optv_run h1
    obtain ⟨inf, z, e1, e2, e3, e4, e5, e6⟩ := hT.info t i hi
    have hu := hT.desc t i hi
    rw [hdsc] at hu
    obtain ⟨ws, hw, hrep⟩ := fill_rep (σ := σ) (μ := μ) (w := w) (N := Nof S σ μ w) (zs := z.cells) hcs (by rw [e5]; exact zero_csRep hT hi) ⟨hvl, hvs⟩
    refine sound_val R hd (v := .agg ws) ?_ (x := .agg cs) ⟨_, rfl, hrep⟩ hk
    have hb : P.built t (parts.map fun (i, x) => (i, a.eval x)).toList = some ws := by
      unfold Program.built
      simp only [e1, hu, e4, hps]
      rw [← hw]
      congr 1
      · funext k; simp
      · simp
    simp only [execOp, ho, Sem.run_bind, run_build w t _ ws hb, Result.andThen_ok]
    rfl
  · exact h1.elim

theorem rowsOf_spec {z : List DV} {sz : Nat} (hz : z.length = sz) : ∀ {n : Nat} {cs : List CV} {row : Nat → List DV}, rowsOf real z sz n cs = some row →
    (∀ i, (row i).length = sz) ∧ ∀ i j x, i < n → (row i)[j]? = some x → cs[i * sz + j]? = some (.d x)
  | 0, cs, row, h => by simp [rowsOf] at h; subst h; exact ⟨fun i => hz, fun i j x hi => by omega⟩
  | n + 1, cs, row, h => by
    unfold rowsOf at h
    split at h
    · simp at h
    · rename_i p hp
      split at h
      · rename_i x r hx hr
        simp at h; subst h
        obtain ⟨h1, h2⟩ := takeN_spec hp
        have hx := toDs_spec hx
        obtain ⟨h3, h4⟩ := rowsOf_spec hz hr
        have hxl : x.length = sz := by rw [← h1, hx]; simp
        refine ⟨fun i => ?_, fun i j y hi hj0 => ?_⟩
        · show (if i < 1 then x else r (i - 1)).length = sz
          split
          · exact hxl
          · exact h3 _
        · have hj : (if i < 1 then x else r (i - 1))[j]? = some y := hj0
          clear hj0
          by_cases c : i < 1
          · rw [if_pos c] at hj
            have : i = 0 := by omega
            subst this
            have := h2 j (.d y) (by rw [hx]; simp [hj])
            simpa using this
          · rw [if_neg c] at hj
            have := h4 (i - 1) j y (by omega) hj
            rw [dropN_get] at this
            rw [← this]
            congr 1
            obtain ⟨k, rfl⟩ : ∃ k, i = k + 1 := ⟨i - 1, by omega⟩
            simp [Nat.add_mul]; omega
      · simp at h

theorem intsK_spec {k : IntKind} : ∀ {cs : List CV} {l : List Int}, intsK k cs = some l → ∀ (i : Nat) (x : CV), cs[i]? = some x → x = CV.d (.v (.int k (l.getD i 0)))
  | [], _, _, i, x, hx => by simp at hx
  | y :: r, l, h, i, x, hx => by
    unfold intsK at h
    split at h
    · rename_i e; cases e
    · rename_i k' n r' e
      cases e
      split at h
      · rename_i hk
        subst hk
        cases hr : intsK k' r with
        | none => rw [hr] at h; cases h
        | some l' =>
          rw [hr] at h
          simp at h
          subst h
          cases i with
          | zero => simp at hx; subst hx; rfl
          | succ i => exact intsK_spec hr i x (by simpa using hx)
      · cases h
    · cases h
theorem dropN_eq {α : Type} : ∀ (n : Nat) (l : List α), dropN n l = l.drop n
  | 0, _ => rfl
  | _ + 1, [] => rfl
  | n + 1, _ :: r => dropN_eq n r
theorem colN_spec {sz j : Nat} (hj : j < sz) : ∀ (n : Nat) (l : List Int) (i : Nat), i < n → i * sz + j < l.length → (colN sz j n l).getD i 0 = l.getD (i * sz + j) 0
  | 0, _, _, h, _ => absurd h (Nat.not_lt_zero _)
  | n + 1, l, i, hi, hl => by
    have hjl : j < l.length := by
      have : 0 ≤ i * sz := Nat.zero_le _
      omega
    unfold colN
    rw [dropN_eq, List.drop_eq_getElem_cons hjl]
    cases i with
    | zero => simp [List.getD_eq_getElem?_getD, List.getElem?_eq_getElem hjl]
    | succ i =>
      simp only [dropN_eq]
      have e : (i + 1) * sz = sz + i * sz := by rw [Nat.succ_mul, Nat.add_comm]
      have ih := colN_spec hj n (l.drop sz) i (by omega) (by rw [List.length_drop]; omega)
      rw [List.getD_cons_succ, ih, List.getD_eq_getElem?_getD, List.getD_eq_getElem?_getD, List.getElem?_drop]
      congr 2
      omega
theorem colsN_spec {sz : Nat} {l : List Int} : ∀ (n j : Nat), (colsN sz l n j).length = n ∧ ∀ q, q < n → (colsN sz l n j)[q]? = some (colN sz (j + q) l.length l)
  | 0, _ => ⟨rfl, fun q h => absurd h (Nat.not_lt_zero _)⟩
  | n + 1, j => by
    obtain ⟨h1, h2⟩ := colsN_spec (sz := sz) (l := l) n (j + 1)
    refine ⟨by simp [colsN, h1], fun q hq => ?_⟩
    cases q with
    | zero => rfl
    | succ q =>
      have := h2 q (by omega)
      simp only [colsN, List.getElem?_cons_succ]
      rw [this, show j + 1 + q = j + (q + 1) by omega]
theorem litRow_spec {two : Bool} {sz n : Nat} {cs : List CV} {row : Nat → List DV} (h1 : ∀ i, (row i).length = sz) (h2 : ∀ i j x, i < n → (row i)[j]? = some x → cs[i * sz + j]? = some (CV.d x)) :
    (∀ i, (litRow real two sz cs row i).length = sz) ∧ ∀ i j x, i < n → (litRow real two sz cs row i)[j]? = some x → cs[i * sz + j]? = some (CV.d x) := by
  unfold litRow
  cases litOk two sz cs with
  | false => exact ⟨h1, h2⟩
  | true =>
    simp only [cond_true]
    cases headK cs with
    | none => exact ⟨h1, h2⟩
    | some k =>
      simp only
      cases hl : intsK k cs with
      | none => exact ⟨h1, h2⟩
      | some l =>
        refine ⟨fun i => by simp [(colsN_spec (l := l) sz 0).1], fun i j x hi hj => ?_⟩
        simp only [List.getElem?_map] at hj
        have hjs : j < sz := by
          have : j < (colsN sz l sz 0).length := by
            cases hc : (colsN sz l sz 0)[j]? with
            | none => rw [hc] at hj; cases hj
            | some c => exact (List.getElem?_eq_some_iff.1 hc).1
          rwa [(colsN_spec (l := l) sz 0).1] at this
        rw [(colsN_spec (l := l) sz 0).2 j hjs] at hj
        have hlen : (row i).length = sz := h1 i
        obtain ⟨y, hy⟩ : ∃ y, (row i)[j]? = some y := ⟨(row i)[j], List.getElem?_eq_getElem (by omega)⟩
        have hc := h2 i j y hi hy
        have he := intsK_spec hl _ _ hc
        have hll : i * sz + j < l.length := by
          have hcl : i * sz + j < cs.length := (List.getElem?_eq_some_iff.1 hc).1
          have : ∀ {cs : List CV} {l : List Int}, intsK k cs = some l → l.length = cs.length := by
            intro cs
            induction cs with
            | nil => intro l h; simp [intsK] at h; subst h; rfl
            | cons c r ih =>
              intro l h
              unfold intsK at h
              split at h
              · cases h; rename_i e; cases e
              · rename_i e
                split at h
                · cases hr : intsK k _ with
                  | none => rw [hr] at h; cases h
                  | some m =>
                    rw [hr] at h
                    simp at h
                    subst h
                    cases e
                    simp [ih hr]
                · cases h
              · cases h
          rw [this hl]; exact hcl
        have hin : i < l.length := by
          have : i * 1 ≤ i * sz := Nat.mul_le_mul_left _ (by omega)
          omega
        have hv : DV.v (.int k ((colN sz j l.length l).getD i 0)) = x := by simpa [real] using hj
        rw [colN_spec hjs _ _ _ hin hll] at hv
        rw [hc, he, hv]
theorem build_run (hT : TTok P T) {t e : TypeId} {len : Nat} {parts : Array (Nat × Operand)} (ho : o.op = .buildSlice t len parts) {i : TI} (hi : T e = some i) (hu : P.underlying t = some (.slice e))
    {vs : List (Nat × List CV)} {cs : List CV} (hcs : fillC (fun k => some (k * i.size, i.size)) ((List.replicate len (i.zero.map fun x => CV.d (.v x))).flatten) vs = some cs)
    (hvl : vs.length = (parts.toList.map fun q => (q.1, a.eval q.2)).length)
    (hvs : ∀ (j : Nat) i xs, vs[j]? = some (i, xs) → ∃ v, (parts.toList.map fun q => (q.1, a.eval q.2))[j]? = some (i, v) ∧ CsRep σ μ w (Nof S σ μ w) xs v.cells.toList) (hle : len * i.size ≤ 16777216) :
    ∃ ws : Array Value, CsRep σ μ w (Nof S σ μ w) cs ws.toList ∧ ws.size = len * i.size ∧ (execOp a.eval o).run P w = .ok (.value (.slice (some ⟨w.heap.size, 0, none⟩) len len)) (w.alloc (.cells ws e)) := by
  obtain ⟨inf, z, e1, e2, e3, e4, e5, e6, e7⟩ := hT.info e i hi
  have hzs : z.cells.size = i.size := by rw [← e6, ← e5]; simp
  let zs : Array Value := (Array.range (len * i.size)).map ((if len * i.size = 0 then #[] else z.cells)[· % (if len * i.size = 0 then #[] else z.cells).size]!)
  have hzs' : CsRep σ μ w (Nof S σ μ w) ((List.replicate len (i.zero.map fun x => CV.d (.v x))).flatten) zs.toList := by
    have hlen : ((List.replicate len (i.zero.map fun x => CV.d (.v x))).flatten).length = len * i.size := by simp [e6]
    refine CsRep.of_get (by rw [hlen]; simp [zs]) fun j x hj => ?_
    have hjl : j < len * i.size := by rw [← hlen]; exact (List.getElem?_eq_some_iff.1 hj).1
    have hne : len * i.size ≠ 0 := by omega
    have hipos : 0 < i.size := Nat.pos_of_ne_zero fun h => by simp [h] at hne
    have hmod : j % i.size < i.size := Nat.mod_lt _ hipos
    have hget : ∀ (n : Nat) (l : List CV) (j : Nat), 0 < l.length → j < n * l.length → (List.replicate n l).flatten[j]? = l[j % l.length]? := by
      intro n l
      induction n with
      | zero => intro j _ h; simp at h
      | succ n ih =>
        intro j hl hj
        rw [List.replicate_succ, List.flatten_cons, List.getElem?_append]
        split
        · rename_i hc; rw [Nat.mod_eq_of_lt hc]
        · rename_i hc
          rw [ih (j - l.length) hl (by rw [Nat.succ_mul] at hj; omega)]
          congr 1
          exact (Nat.mod_eq_sub_mod (by omega)).symm
    rw [hget len _ j (by rw [List.length_map, e6]; exact hipos) (by rw [List.length_map, e6]; exact hjl)] at hj
    simp only [List.length_map, e6, List.getElem?_map, Option.map_eq_some_iff] at hj
    obtain ⟨u, hu', rfl⟩ := hj
    refine ⟨u, ?_, DRep.v u (e7 u (List.mem_of_getElem? hu'))⟩
    have hzj : z.cells[j % i.size]? = some u := by rw [← Array.getElem?_toList, e5]; exact hu'
    have hzj' : z.cells[j % i.size]! = u := by rw [getElem!_def, hzj]
    simp [zs, hne, hjl, hzs, hzj']
  obtain ⟨ws, hw, hrep⟩ := fill_rep (σ := σ) (μ := μ) (w := w) (N := Nof S σ μ w) (zs := zs) hcs hzs' ⟨hvl, hvs⟩
  have hwl : ws.size = len * i.size := by
    have hpl : ∀ {parts : List (Nat × List CV)} {cells cs : List CV}, fillC (fun k => some (k * i.size, i.size)) cells parts = some cs → cs.length = cells.length := by
      intro parts
      induction parts with
      | nil => intro cells cs h; simp [fillC] at h; simp [h]
      | cons p r ih =>
        intro cells cs h
        unfold fillC at h
        simp only at h
        split at h
        · split at h
          · rename_i cs1 hpa; rw [ih h, (patch_spec hpa).1]
          · simp at h
        · simp at h
    have h1 := hrep.length
    rw [hpl hcs] at h1
    simpa [e6] using h1
  have hexec : (execOp a.eval o).run P w = .ok (.value (.slice (some ⟨w.heap.size, 0, none⟩) len len)) (w.alloc (.cells ws e)) := by
    have hno : ¬ (16777216 < len * i.size) := by omega
    have hw' : Instr.fill (fun k => some (k * i.size, i.size)) zs (parts.map fun (i, x) => (i, a.eval x)).toList = some ws := by rw [← hw]; congr 1; simp
    by_cases hz0 : len * i.size = 0
    · simp only [zs, hz0, if_true] at hw'
      simp [execOp, ho, Instr.buildSlice, underlying, hu, sizeOf_run hT hi, hz0, newRow]
      simp at hw'
      simp [hw']
    · simp only [zs, hz0, if_false] at hw'
      simp at hw'
      simp [execOp, ho, Instr.buildSlice, underlying, hu, sizeOf_run hT hi, hz0, hno, newRow, zeroValue, typeInfo, e1, e4, hw']
  exact ⟨ws, hrep, hwl, hexec⟩
theorem sound_buildOpen (hT : TTok P T) (R : RelM w0 S nt (lookS slots) σ a w μ) (hd : ∀ d, o.dst = some d → d < nt) {t e : TypeId} {parts : Array (Nat × Operand)} (ho : o.op = .buildSlice t 1 parts) {i : TI} (hi : T e = some i) (hu : P.underlying t = some (.slice e))
    {vs : List (Nat × List CV)} {cs : List CV} (hcs : fillC (fun k => some (k * i.size, i.size)) ((List.replicate 1 (i.zero.map fun x => CV.d (.v x))).flatten) vs = some cs)
    (hvl : vs.length = (parts.toList.map fun q => (q.1, a.eval q.2)).length)
    (hvs : ∀ (j : Nat) i xs, vs[j]? = some (i, xs) → ∃ v, (parts.toList.map fun q => (q.1, a.eval q.2))[j]? = some (i, v) ∧ CsRep σ μ w (Nof S σ μ w) xs v.cells.toList) (hle : i.size ≤ 16777216) {L : Nat}
    (hk : K (.c (.nown L 1 ((σ L).1 + 1))) [(L, (σ L).1 + 1, .nest i.size 1 (real.rep []) (some (0, cs)))]) : Sound P w0 S nt slots σ a w o K := by
  obtain ⟨ws, hrep, hwl, hexec⟩ := build_run hT ho hi hu hcs hvl hvs (by omega)
  rw [Nat.one_mul] at hwl
  have hcl : cs.length = i.size := by have := hrep.length; rw [Array.length_toList, hwl] at this; exact this.symm
  obtain ⟨st, R'⟩ := R.allocC L ((σ L).1 + 1) (by omega) (.nest i.size 1 (real.rep []) (some (0, cs))) ws e fun hst =>
    .inr ⟨w.heap.size, 0, ws, e, by simp, heap_alloc_new _ _, by omega, ⟨fun k hk hn => (hn ⟨cs, by rw [show k = 0 by omega]⟩).elim, fun _ _ _ => False, fun k j x hk hn _ => (hn ⟨cs, by rw [show k = 0 by omega]⟩).elim,
      fun k => ⟨fun h => by simp at h, fun ⟨_, _, _, _, _, h⟩ => h.elim⟩, fun _ _ _ _ _ _ _ _ _ _ _ h => h.elim⟩, by simp, by simp, fun k cells hf => by
        simp at hf; obtain ⟨rfl, rfl⟩ := hf
        refine ⟨by omega, hcl, fun j x hj => ?_⟩
        obtain ⟨u, hu', hc⟩ := hrep.get hj
        exact ⟨u, by simpa using hu', hc.step hst⟩⟩
  refine sound_mem R' hd (v := .slice (some ⟨w.heap.size, 0, none⟩) 1 1) (.inl hexec) rfl ?_ hk
  refine ⟨rfl, by simp, fun sz' n' row' foc' hσ' => ?_⟩
  simp at hσ'; obtain ⟨rfl, rfl, rfl, rfl⟩ := hσ'
  exact ⟨rfl, .inr ⟨w.heap.size, 0, 1, ws, e, by simp, rfl, Nat.le_refl _, by omega, heap_alloc_new _ _, by omega⟩⟩
theorem sound_buildSlice (hT : TTok P T) (R : RelM w0 S nt (lookS slots) σ a w μ) (hd : ∀ d, o.dst = some d → d < nt) {t : TypeId} {len : Nat} {parts : Array (Nat × Operand)} (ho : o.op = .buildSlice t len parts)
    (h : (semOp real T EX o true (rho slots)).run σ (OpOut.run M σ K)) : Sound P w0 S nt slots σ a w o K := by
  simp only [semOp, ho, G.run_bind] at h
  obtain ⟨it, e, i, hit, hdesc, hi, h1⟩ := elemv_run h
  clear h
  have hu : P.underlying t = some (.slice e) := by rw [hT.desc t it hit, hdesc]
  obtain ⟨vs, h, hvl, hvs⟩ := partsv_run R h1
  clear h1
  obtain ⟨cs, hcs, h1⟩ := optv_run h
  clear h
  cases hrow : rowsOf real (i.zero.map DV.v) i.size len cs with
  | none =>
    rw [hrow] at h1
    simp only at h1
    cases hif : (nbeq len 1 && (noJunk cs && nble i.size 16777216)) with
    | false => rw [hif] at h1; exact h1.elim
    | true =>
    rw [hif] at h1
    simp only [Bool.and_eq_true] at hif
    obtain ⟨hl1, hnj, hle⟩ := hif
    have hl1 := eq_of_nbeq hl1
    subst hl1
    have hle := le_of_nble hle
    have hk : K (.c (.nown (o.dst.getD 0 * 64 + baseOf EX) 1 ((σ (o.dst.getD 0 * 64 + baseOf EX)).1 + 1))) [((o.dst.getD 0 * 64 + baseOf EX), (σ (o.dst.getD 0 * 64 + baseOf EX)).1 + 1, .nest i.size 1 (real.rep []) (some (0, cs)))] := h1
    exact sound_buildOpen hT R hd ho hi hu hcs hvl hvs hle hk
  | some row =>
  rw [hrow] at h1
  have h := h1
  clear h1
  simp only at h
  cases hle : nble (len * i.size) 16777216 with
  | false => rw [hle] at h; exact h.elim
  | true =>
  rw [hle] at h
  have hle := le_of_nble hle
  have hk : K (.c (.own (o.dst.getD 0 * 64 + baseOf EX) 0 len ((σ (o.dst.getD 0 * 64 + baseOf EX)).1 + 1))) [((o.dst.getD 0 * 64 + baseOf EX), (σ (o.dst.getD 0 * 64 + baseOf EX)).1 + 1, .arr i.size len (litRow real (EX 0).2 i.size cs row))] := h
  generalize (o.dst.getD 0 * 64 + baseOf EX) = L at *
  obtain ⟨ws, hrep, hwl, hexec⟩ := build_run hT ho hi hu hcs hvl hvs hle
  obtain ⟨inf, z, e1, e2, e3, e4, e5, e6, e7⟩ := hT.info e i hi
  obtain ⟨r1, r2⟩ := rowsOf_spec (by simp [e6]) hrow
  obtain ⟨r1, r2⟩ := litRow_spec (two := (EX 0).2) r1 r2
  clear hrow
  generalize litRow real (EX 0).2 i.size cs row = row2 at *
  by_cases hlen : len = 0
  · subst hlen
    obtain ⟨st, R'⟩ := (R.garb (.cells ws e)).bare L ((σ L).1 + 1) (by omega) (.arr i.size 0 row2) (.inr (.inl ⟨_, _, rfl⟩))
    refine sound_mem R' hd (v := .slice (some ⟨w.heap.size, 0, none⟩) 0 0) (.inl hexec) rfl ?_ hk
    exact ⟨rfl, by simp, fun sz' n' row' hσ' => ⟨by omega, .inl ⟨by simp, rfl, _, rfl⟩⟩⟩
  obtain ⟨st, R'⟩ := R.alloc L ((σ L).1 + 1) (by omega) (.arr i.size len row2) ws e ⟨fun k _ => r1 k, by rw [hwl]; omega, fun k j x hk' hj => by
    obtain ⟨u, hu', hc⟩ := hrep.get (r2 k j x hk' hj)
    exact ⟨u, by simpa using hu', hc⟩⟩
  refine sound_mem R' hd (v := .slice (some ⟨w.heap.size, 0, none⟩) len len) (.inl hexec) rfl ?_ hk
  refine ⟨rfl, by simp, fun sz' n' row' hσ' => ?_⟩
  simp at hσ'; obtain ⟨rfl, rfl, rfl⟩ := hσ'
  exact ⟨by omega, .inr ⟨w.heap.size, 0, 0, len, ws, e, by simp, rfl, Nat.le_refl _, fun _ => by simp, heap_alloc_new _ _, by rw [hwl]; omega, fun _ => by omega⟩⟩
end
end Go.Rk
/- Operations, more: slices made, cut and grown. -/
namespace Go.Rk
set_option linter.unusedSimpArgs false
set_option linter.unusedVariables false
section
variable {P : Program} {T : TypeId → Option TI} {EX : FuncId → List Nat × Bool} {M : Ms}
variable {w0 : World} {S : Sets} {nt : Nat} {slots : List (Nat × AV)} {σ : Objs} {a : Act} {w : World} {μ : Place}
variable {o : Oper} {K : AV → List (Nat × Nat × HO) → Prop} {next : Act → World → Prop} {Q : Exit → Act → World → Prop}

theorem sound_makeSlice (hT : TTok P T) (R : RelM w0 S nt (lookS slots) σ a w μ) (hd : ∀ d, o.dst = some d → d < nt) {t : TypeId} {x y : Operand} (ho : o.op = .makeSlice t x y)
    (h : (semOp real T EX o true (rho slots)).run σ (OpOut.run M σ K)) : Sound P w0 S nt slots σ a w o K := by
  simp only [semOp, ho, G.run_bind] at h
  obtain ⟨it, e, i, hit, hdesc, hi, h1⟩ := elemv_run h
  clear h
  have hu : P.underlying t = some (.slice e) := by rw [hT.desc t it hit, hdesc]
  obtain ⟨k, n, ex, h⟩ := intv_run h1 (rho_rep R x)
  clear h1
  obtain ⟨k', c, ey, h1⟩ := intv_run h (rho_rep R y)
  clear h
  obtain ⟨⟨h0, hnc, hb, hm⟩, hk⟩ := h1
  simp only at h0 hnc hb hm
  subst hnc
  cases hfr : (EX 9998).1.contains (o.dst.getD 0) with
  | true =>
    rw [hfr] at hk
    have hk : K (.c (.d (.sl i.size n.toNat (real.rep (i.zero.map .v))))) [] := hk
    obtain ⟨inf, z, e1, e2, e3, e4, e5, e6, e7⟩ := hT.info e i hi
    have hmk := run_make (P := P) w t e inf z hu e1 e4 k k' n n h0 (Int.le_refl _) (by rw [e3, Int.mul_comm]; omega) (by omega)
    have hzs : z.cells.size = i.size := by rw [← e6, ← e5]; simp
    rw [e2] at hmk
    have hexec : (execOp a.eval o).run P w = .ok (.value (.slice (some ⟨w.heap.size, 0, none⟩) n.toNat n.toNat)) (w.alloc (.cells (madeCells z.cells (n.toNat * i.size)) e)) := by
      simp only [execOp, ho, ex, ey, Sem.run_bind, hmk, Result.andThen_ok]; rfl
    have R' := R.garb (.cells (madeCells z.cells (n.toNat * i.size)) e)
    refine sound_mem R' hd (v := .slice (some ⟨w.heap.size, 0, none⟩) n.toNat n.toNat) (.inl hexec) rfl ?_ hk
    show DRep _ _ _ _
    by_cases hn0 : n.toNat = 0
    · rw [hn0]; exact .empty _ _ _
    · refine .sl i.size n.toNat _ w.heap.size 0 n.toNat (madeCells z.cells (n.toNat * i.size)) e (0, 0) (fun _ j => z.cells[j]!) ?_ (heap_alloc_new _ _) (Nat.le_refl _) (by rw [size_madeCells]; omega) (fun r hr => by show (i.zero.map DV.v).length = _; simp [e6]) (fun r j u hr hj => ?_) (fun r j u hr hj => ?_)
      · exact ⟨by rw [size_alloc']; omega, R.reach _ (.inl R.grow), fun l hl hm => by have := (R.ownH l _ hl hm).1; omega⟩
      · have hj : (i.zero.map DV.v)[j]? = some u := hj
        simp only [List.getElem?_map, Option.map_eq_some_iff] at hj
        obtain ⟨v, hv, rfl⟩ := hj
        have hjl : j < i.size := by rw [← e6]; exact (List.getElem?_eq_some_iff.1 hv).1
        have hlt : r * i.size + j < n.toNat * i.size := by
          have := Nat.mul_le_mul_right i.size (show r + 1 ≤ n.toNat from hr)
          rw [Nat.succ_mul] at this; omega
        have hmod : (r * i.size + j) % i.size = j := by rw [Nat.mul_add_mod_self_right, Nat.mod_eq_of_lt hjl]
        simp [madeCells, hlt, hzs, hmod]
      · have hj : (i.zero.map DV.v)[j]? = some u := hj
        simp only [List.getElem?_map, Option.map_eq_some_iff] at hj
        obtain ⟨v, hv, rfl⟩ := hj
        have hzj : z.cells[j]? = some v := by rw [← Array.getElem?_toList, e5]; exact hv
        have hzj' : z.cells[j]! = v := by rw [getElem!_def, hzj]
        rw [hzj']
        exact DRep.v v (e7 v (List.mem_of_getElem? hv))
  | false =>
  rw [hfr] at hk
  have hk : K (.c (.own (o.dst.getD 0 * 64 + baseOf EX) 0 n.toNat ((σ (o.dst.getD 0 * 64 + baseOf EX)).1 + 1))) [((o.dst.getD 0 * 64 + baseOf EX), (σ (o.dst.getD 0 * 64 + baseOf EX)).1 + 1, .arr i.size n.toNat (real.rep (i.zero.map .v)))] := hk
  generalize (o.dst.getD 0 * 64 + baseOf EX) = L at *
  obtain ⟨inf, z, e1, e2, e3, e4, e5, e6, e7⟩ := hT.info e i hi
  have hmk := run_make (P := P) w t e inf z hu e1 e4 k k' n n h0 (Int.le_refl _) (by rw [e3, Int.mul_comm]; omega) (by omega)
  have hzs : z.cells.size = i.size := by rw [← e6, ← e5]; simp
  rw [e2] at hmk
  have hexec : (execOp a.eval o).run P w = .ok (.value (.slice (some ⟨w.heap.size, 0, none⟩) n.toNat n.toNat)) (w.alloc (.cells (madeCells z.cells (n.toNat * i.size)) e)) := by
    simp only [execOp, ho, ex, ey, Sem.run_bind, hmk, Result.andThen_ok]; rfl
  by_cases hn0 : n.toNat = 0
  · rw [hn0] at hk hexec
    obtain ⟨st, R'⟩ := (R.garb (.cells (madeCells z.cells (0 * i.size)) e)).bare L ((σ L).1 + 1) (by omega) (.arr i.size 0 (real.rep (i.zero.map .v))) (.inr (.inl ⟨_, _, rfl⟩))
    refine sound_mem R' hd (v := .slice (some ⟨w.heap.size, 0, none⟩) 0 0) (.inl hexec) rfl ?_ hk
    exact ⟨rfl, by simp, fun sz' n' row' hσ' => ⟨by omega, .inl ⟨by simp, rfl, _, rfl⟩⟩⟩
  obtain ⟨st, R'⟩ := R.alloc L ((σ L).1 + 1) (by omega) (.arr i.size n.toNat (real.rep (i.zero.map .v))) (madeCells z.cells (n.toNat * i.size)) e
    ⟨fun j _ => by show (i.zero.map DV.v).length = _; simp [e6], by rw [size_madeCells]; omega, fun r j u hr hj => by
      have hj : (i.zero.map DV.v)[j]? = some u := hj
      simp only [List.getElem?_map, Option.map_eq_some_iff] at hj
      obtain ⟨v, hv, rfl⟩ := hj
      have hjl : j < i.size := by rw [← e6]; exact (List.getElem?_eq_some_iff.1 hv).1
      refine ⟨v, ?_, DRep.v v (e7 v (List.mem_of_getElem? hv))⟩
      have hlt : r * i.size + j < n.toNat * i.size := by
        have := Nat.mul_le_mul_right i.size (show r + 1 ≤ n.toNat from hr)
        rw [Nat.succ_mul] at this; omega
      have hmod : (r * i.size + j) % i.size = j := by rw [Nat.mul_add_mod_self_right, Nat.mod_eq_of_lt hjl]
      have hzj : z.cells[j]? = some v := by rw [← Array.getElem?_toList, e5]; exact hv
      have hzj' : z.cells[j]! = v := by rw [getElem!_def, hzj]
      simp [madeCells, hlt, hzs, hmod, hzj']⟩
  refine sound_mem R' hd (v := .slice (some ⟨w.heap.size, 0, none⟩) n.toNat n.toNat) (.inl hexec) rfl ?_ hk
  · refine ⟨rfl, by simp, fun sz' n' row' hσ' => ?_⟩
    simp at hσ'; obtain ⟨rfl, rfl, rfl⟩ := hσ'
    exact ⟨by omega, .inr ⟨w.heap.size, 0, 0, n.toNat, _, e, by simp, rfl, Nat.le_refl _, fun _ => by simp, heap_alloc_new _ _, by rw [size_madeCells]; omega, fun _ => by omega⟩⟩

def loOk (a : Act) : Option Operand → Int → Prop
  | none, A => A = 0
  | some x, A => ∃ k, a.eval x = .int k A
def hiOk (a : Act) : Option Operand → Int → Nat → Prop
  | none, B, n => B = n
  | some x, B, _ => ∃ k, a.eval x = .int k B

theorem slice_run {t e : TypeId} (hu : P.underlying t = some (.slice e)) {i : TI} (hT : TTok P T) (hi : T e = some i) {x : Operand} {lo hi' : Option Operand} {ad : Option Addr} {len cap : Nat} {A B : Int}
    (ho : o.op = .slice t x lo hi' none) (ex : a.eval x = .slice ad len cap) (hlo : loOk a lo A) (hhi : hiOk a hi' B len) (h0 : 0 ≤ A) (h1 : A ≤ B) (h2 : B ≤ len) (h3 : len ≤ cap) :
    (execOp a.eval o).run P w = .ok (.value (.slice (if cap = A.toNat then ad else ad.map (·.add (A.toNat * i.size))) (B.toNat - A.toNat) (cap - A.toNat))) w := by
  have hs := sizeOf_run hT hi w
  have hB : 0 ≤ B := by omega
  have hBc : B ≤ cap := by omega
  have hmx : max B 0 = B := by omega
  cases lo with
  | none =>
    have hlo : A = 0 := hlo
    subst hlo
    cases hi' with
    | none =>
      have hhi : B = len := hhi
      subst hhi
      simp [execOp, ho, ex, Instr.sliceAt, underlying, hu, Instr.slice, Instr.sliceBounds, hs]
    | some y =>
      obtain ⟨k, ey⟩ := hhi
      simp [execOp, ho, ex, Instr.sliceAt, underlying, hu, Instr.slice, Instr.sliceBounds, Instr.sliceBound, asIntOf, ey, hs, hB, hBc]
  | some z =>
    obtain ⟨k, ez⟩ := hlo
    cases hi' with
    | none =>
      have hhi : B = len := hhi
      subst hhi
      simp [execOp, ho, ex, Instr.sliceAt, underlying, hu, Instr.slice, Instr.sliceBounds, Instr.sliceBound, asIntOf, ez, hs, h0, h1]
    | some y =>
      obtain ⟨k', ey⟩ := hhi
      simp [execOp, ho, ex, Instr.sliceAt, underlying, hu, Instr.slice, Instr.sliceBounds, Instr.sliceBound, asIntOf, ey, ez, hs, hB, hBc, h0, h1, hmx]

theorem sliceSem_run {e : TI} {x : CV} {v : Value} {A B : Int} {Q : CV → Prop} (hx : CRep σ μ w (Nof S σ μ w) x v) (h : (sliceSem real e x A B).run σ Q) :
    ∃ ad len cap, v = .slice ad len cap ∧ 0 ≤ A ∧ A ≤ B ∧ B ≤ len ∧ len ≤ cap ∧
      ∃ y, CRep σ μ w (Nof S σ μ w) y (.slice (if cap = A.toNat then ad else ad.map (·.add (A.toNat * e.size))) (B.toNat - A.toNat) (cap - A.toNat)) ∧ Q y := by
  unfold sliceSem at h
  split at h
  · rename_i sz n row
    cases hsz : nbeq sz e.size with
    | false => rw [hsz] at h; exact h.elim
    | true =>
      rw [hsz] at h
      obtain ⟨⟨h0, h1, h2⟩, h⟩ := h
      have hsz := eq_of_nbeq hsz
      subst hsz
      have hl : (real.dif B A) = B.toNat - A.toNat := by show (B - A).toNat = _; omega
      cases hx with
      | nil =>
        refine ⟨none, 0, 0, rfl, h0, h1, h2, Nat.le_refl _, _, ?_, h⟩
        have : A.toNat = 0 := by omega
        have hb : B.toNat = 0 := by omega
        rw [hl, this, hb]
        exact DRep.nil _ _
      | empty _ _ ad =>
        refine ⟨some ad, 0, 0, rfl, h0, h1, h2, Nat.le_refl _, _, ?_, h⟩
        have : A.toNat = 0 := by omega
        have hb : B.toNat = 0 := by omega
        rw [hl, this, hb]
        exact DRep.empty _ _ ad
      | sl _ _ _ b off cap cs e' fr u hN hb hc hs hr hu hd =>
        refine ⟨_, n, cap, rfl, h0, h1, h2, hc, _, ?_, h⟩
        rw [hl]
        have hAn : A.toNat ≤ B.toNat ∧ B.toNat ≤ n := by omega
        have hmul : (cap - A.toNat) * e.size + A.toNat * e.size = cap * e.size := by rw [← Nat.add_mul]; congr 1; omega
        by_cases hcA : cap = A.toNat
        · rw [if_pos hcA]
          refine DRep.sl _ _ _ b off _ cs e' fr (fun i j => u (A.toNat + i) j) hN hb (by omega) (by omega) (fun i hi => by omega) (fun i j x hi hj => by omega) (fun i j x hi hj => by omega)
        · rw [if_neg hcA]
          simp only [Option.map_some, add_off]
          refine DRep.sl _ _ _ b _ _ cs e' fr (fun i j => u (A.toNat + i) j) hN hb (by omega) (by omega) (fun i hi => hr (A.toNat + i) (by omega)) (fun i j x hi hj => ?_) (fun i j x hi hj => hd (A.toNat + i) j x (by omega) hj)
          have := hu (A.toNat + i) j x (by omega) hj
          rw [← this]; congr 1; rw [Nat.add_mul]; omega
  · cases hx
    obtain ⟨⟨h0, h1, h2⟩, h⟩ := h
    refine ⟨none, 0, 0, rfl, h0, h1, h2, Nat.le_refl _, _, ?_, h⟩
    have : A.toNat = 0 := by omega
    have hb : B.toNat = 0 := by omega
    rw [this, hb]
    exact DRep.v _ rfl
  · rename_i l off len ver
    simp only [G.run] at h
    split at h
    · rename_i ver' sz n row hσ
      cases hsz : nbeq sz e.size with
      | false => rw [hsz] at h; exact h.elim
      | true =>
        rw [hsz] at h
        obtain ⟨hv, ⟨h0, h1, h2⟩, h⟩ := h
        have hv : ver = ver' := hv
        subst hv
        have hsz := eq_of_nbeq hsz
        subst hsz
        have hl : (real.dif B A) = B.toNat - A.toNat := by show (B - A).toNat = _; omega
        have ha : real.add off (real.nat A) = off + A.toNat := rfl
        rw [hl, ha] at h
        obtain ⟨_, hle, h3⟩ := hx
        obtain ⟨h4, h5⟩ := h3 _ n row hσ
        rcases h5 with ⟨hm, hl0, ad, rfl⟩ | ⟨b, base, o', cap, cs, e', hμ, rfl, hcap, ho', hb, hfit, hpos⟩
        · refine ⟨ad, 0, 0, rfl, h0, h1, by omega, Nat.le_refl _, .own l (off + A.toNat) (B.toNat - A.toNat) ver, ⟨rfl, hle, fun sz' n' row' hσ' => ?_⟩, h⟩
          rw [hσ] at hσ'; simp at hσ'; obtain ⟨rfl, rfl, rfl⟩ := hσ'
          have : A.toNat = 0 := by omega
          have hb0 : B.toNat = 0 := by omega
          refine ⟨by omega, .inl ⟨hm, by omega, ad, by rw [this, hb0]; rfl⟩⟩
        · refine ⟨_, len, cap, rfl, h0, h1, h2, hcap, .own l (off + A.toNat) (B.toNat - A.toNat) ver, ⟨rfl, hle, fun sz' n' row' hσ' => ?_⟩, h⟩
          rw [hσ] at hσ'; simp at hσ'; obtain ⟨rfl, rfl, rfl⟩ := hσ'
          have hmul : (cap - A.toNat) * e.size + A.toNat * e.size = cap * e.size := by rw [← Nat.add_mul]; congr 1; omega
          refine ⟨by omega, .inr ?_⟩
          by_cases hcA : cap = A.toNat
          · rw [if_pos hcA]
            refine ⟨b, base, o', cap - A.toNat, cs, e', hμ, rfl, by omega, fun hh => ?_, hb, by omega, fun hh => by have := hpos (by omega); omega⟩
            have hh' : 0 < B.toNat - A.toNat ∨ off + A.toNat = 0 := hh
            have hA0 : A.toNat = 0 := by omega
            have ho0 : off = 0 := by omega
            rw [ho' (.inr ho0), hA0]; simp
          · rw [if_neg hcA]
            simp only [Option.map_some, add_off]
            refine ⟨b, base, o' + A.toNat * e.size, cap - A.toNat, cs, e', hμ, rfl, by omega, fun hh => ?_, hb, by omega, fun hh => by have := hpos (by omega); omega⟩
            have hh' : 0 < B.toNat - A.toNat ∨ off + A.toNat = 0 := hh
            have : 0 < len ∨ off = 0 := by omega
            rw [ho' this, Nat.add_mul]; omega
    · exact h.elim
  · exact h.elim

theorem loSem_run (R : RelM w0 S nt (lookS slots) σ a w μ) {lo : Option Operand} {Q : Int → Prop} (h : (loSem real true (rho slots) lo).run σ Q) : ∃ A, loOk a lo A ∧ Q A := by
  cases lo with
  | none => exact ⟨0, rfl, h⟩
  | some z =>
    simp only [loSem, G.run_bind] at h
    obtain ⟨k, A, ez, h⟩ := intv_run h (rho_rep R z)
    exact ⟨A, ⟨k, ez⟩, h⟩
theorem hiSem_run (R : RelM w0 S nt (lookS slots) σ a w μ) {x : Operand} {c : CV} (hc : CRep σ μ w (Nof S σ μ w) c (a.eval x)) {hi' : Option Operand} {Q : Int → Prop} (h : (hiSem real true (rho slots) c hi').run σ Q) :
    ∃ B, (∀ n ad cap, a.eval x = .slice ad n cap → hiOk a hi' B n) ∧ Q B := by
  cases hi' with
  | none =>
    simp only [hiSem, G.run_bind] at h
    obtain ⟨n, ad, cap, ex, h⟩ := lenv_run hc h
    exact ⟨n, fun n' ad' cap' ex' => by rw [ex] at ex'; simp at ex'; show (n : Int) = n'; omega, h⟩
  | some y =>
    simp only [hiSem, G.run_bind] at h
    obtain ⟨k, n, ey, h⟩ := intv_run h (rho_rep R y)
    exact ⟨n, fun _ _ _ _ => ⟨k, ey⟩, h⟩
theorem sound_slice (hT : TTok P T) (R : RelM w0 S nt (lookS slots) σ a w μ) (hd : ∀ d, o.dst = some d → d < nt) {t : TypeId} {x : Operand} {lo hi' mx : Option Operand} (ho : o.op = .slice t x lo hi' mx)
    (h : (semOp real T EX o true (rho slots)).run σ (OpOut.run M σ K)) : Sound P w0 S nt slots σ a w o K := by
  simp only [semOp, ho, G.run_bind] at h
  obtain ⟨it, e, i, hit, hdesc, hi, h1⟩ := elemv_run h
  clear h
  have hu : P.underlying t = some (.slice e) := by rw [hT.desc t it hit, hdesc]
  cases mx with
  | some m => exact h1.elim
  | none =>
  simp only [G.run_bind] at h1
  obtain ⟨c, hc, h⟩ := cellv_run h1 (rho_rep R x)
  clear h1
  have key : ∀ A B, loOk a lo A → (∀ n ad cap, a.eval x = .slice ad n cap → hiOk a hi' B n) → (sliceSem real i c A B).run σ (fun y => K (.c y) []) → Sound P w0 S nt slots σ a w o K := by
    intro A B hA hB hs
    obtain ⟨ad, len, cap, ex, g0, g1, g2, g3, y, hy, hk⟩ := sliceSem_run hc hs
    exact sound_val R hd (slice_run hu hT hi ho ex hA (hB _ _ _ ex) g0 g1 g2 g3) (x := .c y) hy hk
  obtain ⟨A, hA, h1⟩ := loSem_run R h
  clear h
  obtain ⟨B, hB, h⟩ := hiSem_run R hc h1
  exact key A B hA hB h
end
end Go.Rk
/- Operations, the last: a slice grown. -/
namespace Go.Rk
set_option linter.unusedSimpArgs false
set_option linter.unusedVariables false
section
variable {P : Program} {T : TypeId → Option TI} {EX : FuncId → List Nat × Bool} {M : Ms}
variable {w0 : World} {S : Sets} {nt : Nat} {slots : List (Nat × AV)} {σ : Objs} {a : Act} {w : World} {μ : Place}
variable {o : Oper} {K : AV → List (Nat × Nat × HO) → Prop} {next : Act → World → Prop} {Q : Exit → Act → World → Prop}

theorem DRep.one {N : Nat → Prop} {x : DV} {v : Value} (h : DRep w N x v) : v.oneCell' = true := by cases h <;> first | assumption | rfl

/-- The cells of rows, one behind the other. -/
theorem rows_flat {N : Nat → Prop} {sz n off : Nat} {row : Nat → List DV} {cs : Array Value} (hr : ∀ i, i < n → (row i).length = sz)
    (hc : ∀ i j x, i < n → (row i)[j]? = some x → ∃ u, cs[off + i * sz + j]? = some u ∧ DRep w N x u) :
    ∃ news : List Value, news.length = n * sz ∧ (∀ (k : Nat) v, news[k]? = some v → cs[off + k]? = some v) ∧ (∀ v ∈ news, v.oneCell' = true) ∧
      ∀ i j x, i < n → (row i)[j]? = some x → ∃ u, news[i * sz + j]? = some u ∧ DRep w N x u := by
  have hk : ∀ k, k < n * sz → ∃ u, cs[off + k]? = some u ∧ u.oneCell' = true := fun k hk => by
    have hsz : 0 < sz := Nat.pos_of_ne_zero fun h => by simp [h] at hk
    have hi : k / sz < n := Nat.div_lt_of_lt_mul (by rw [Nat.mul_comm]; exact hk)
    have hj : k % sz < (row (k / sz)).length := by rw [hr _ hi]; exact Nat.mod_lt _ hsz
    obtain ⟨u, hu, hd⟩ := hc _ _ _ hi (List.getElem?_eq_getElem hj)
    refine ⟨u, ?_, hd.one⟩
    rw [← hu]; congr 1
    have := Nat.div_add_mod k sz
    rw [Nat.mul_comm] at this; omega
  refine ⟨(List.range (n * sz)).map fun k => cs.getD (off + k) undef, by simp, fun k v hv => ?_, fun v hv => ?_, fun i j x hi hj => ?_⟩
  · simp only [List.getElem?_map, Option.map_eq_some_iff] at hv
    obtain ⟨k', hk', rfl⟩ := hv
    obtain ⟨hlt, rfl⟩ := List.getElem?_eq_some_iff.1 hk'
    simp at hlt ⊢
    obtain ⟨u, hu, _⟩ := hk k hlt
    rw [hu]; rfl
  · simp only [List.mem_map, List.mem_range] at hv
    obtain ⟨k, hlt, rfl⟩ := hv
    obtain ⟨u, hu, h1⟩ := hk k hlt
    simp [hu, h1]
  · obtain ⟨u, hu, hd⟩ := hc i j x hi hj
    have hj' : j < sz := by rw [← hr i hi]; exact (List.getElem?_eq_some_iff.1 hj).1
    have hlt : i * sz + j < n * sz := by
      have := Nat.mul_le_mul_right sz (show i + 1 ≤ n from hi)
      rw [Nat.succ_mul] at this; omega
    refine ⟨u, ?_, hd⟩
    rw [show off + i * sz + j = off + (i * sz + j) by omega] at hu
    simp [hlt, hu]

/-- What is appended, as it is read. -/
theorem src_cells {N : Nat → Prop} {sz m : Nat} {row : Nat → List DV} {v : Value} (h : RowsAt w N sz m row v) :
    ∃ news : List Value, news.length = m * sz ∧ (∀ w' : World, w'.heap = w.heap → (Builtin.firstCells sz m v).run P w' = .ok news.toArray w') ∧ (Builtin.lenOf v = pure m) ∧ (∀ u ∈ news, u.oneCell' = true) ∧
      ∀ i j x, i < m → (row i)[j]? = some x → ∃ u, news[i * sz + j]? = some u ∧ DRep w N x u := by
  obtain ⟨hr, h⟩ := h
  rcases h with ⟨rfl, ad, cap, rfl⟩ | ⟨b, off, cap, cs, e, fr, rfl, hb, hc⟩
  · refine ⟨[], by simp, fun w' _ => ?_, rfl, fun u hu => by simp at hu, fun i j x hi => by omega⟩
    cases ad with
    | none => simp [Builtin.firstCells]
    | some ad => simp [Builtin.firstCells, loadCells, loadCellsFrom]
  · obtain ⟨news, h1, h2, h3, h4⟩ := rows_flat hr hc
    refine ⟨news, h1, fun w' hw' => ?_, rfl, h3, h4⟩
    refine run_firstCells_some w' sz m _ m cap news h1 fun j u hj => ?_
    rw [add_off, cell_at (by rw [hw']; exact hb)]
    exact h2 j u hj

theorem append_none {t u e : TypeId} {ty : TypeId} {i : TI} (hT : TTok P T) (hu : P.underlying t = some (.slice e)) {ui : TypeId} (hu2 : P.underlying u = some (.slice ui)) (hi : T e = some i)
    {N : Nat → Prop} {m : Nat} {row : Nat → List DV} {v : Value} (hs : RowsAt w N i.size m row v) (hroom : m * i.bytes ≤ 140737488355328 ∧ m ≤ 140737488355328) (ad : Option Addr) :
    ∃ w' v', (Builtin.append_ #[t, u] ty #[.slice ad 0 0, v]).run P w = .ok v' w' ∧
      ((m = 0 ∧ w' = w ∧ v' = .slice ad 0 0) ∨ ∃ cap cs, (0 < m ∧ m ≤ cap) ∧ v' = .slice (some ⟨w.heap.size, 0, none⟩) m cap ∧ w' = w.drew.alloc (.cells cs e) ∧ cap * i.size ≤ cs.size ∧
        ∀ r j x, r < m → (row r)[j]? = some x → ∃ q, cs[r * i.size + j]? = some q ∧ DRep w N x q) := by
  obtain ⟨inf, z, e1, e2, e3, e4, e5, e6, e7⟩ := hT.info e i hi
  obtain ⟨news, n1, n2, n3, n4, n5⟩ := src_cells (P := P) hs
  by_cases hm : m = 0
  · subst hm
    refine ⟨w, .slice ad 0 0, ?_, .inl ⟨rfl, rfl, rfl⟩⟩
    have hnil : news = [] := by simpa using n1
    subst hnil
    have := n2 w rfl
    cases ad with
    | none => simp [Builtin.append_, underlying, hu, hu2, sizeOf_run hT hi, n3, this]
    | some ad => simp [Builtin.append_, underlying, hu, hu2, sizeOf_run hT hi, n3, this, storeCells]
  · have hfit := growslice_fits (need := m) (old := 0) (bytes := i.bytes) (by omega) hroom.1
    have h63 : ¬ (9223372036854775807 < (m : Int)) := by omega
    have h48 : ¬ (281474976710656 < Builtin.nextslicecap m 0 * i.bytes) := by omega
    have hzs : z.cells.size = i.size := by rw [← e6, ← e5]; simp
    have hcap : m ≤ grownCap w m 0 e := by simp [grownCap, Question.cut]
    refine ⟨w.drew.alloc (.cells (news.toArray ++ Builtin.zeroCells z.cells (grownCap w m 0 e - m)) e), .slice (some ⟨w.heap.size, 0, none⟩) m (grownCap w m 0 e), ?_,
      .inr ⟨grownCap w m 0 e, _, ⟨by omega, hcap⟩, rfl, rfl, ?_, fun r j x hr hj => ?_⟩⟩
    · have hf := n2 w.drew rfl
      have h0 : (Builtin.firstCells i.size 0 (.slice ad 0 0)).run P w.drew = .ok #[] w.drew := by
        cases ad <;> simp [Builtin.firstCells, loadCells, loadCellsFrom]
      simp [Builtin.append_, underlying, hu, hu2, sizeOf_run hT hi, n3, hm, h63, typeInfo, e1, e3, h48, Question.forced, h0, hf, zeroValue, e4, newRow, grownCap]
    · rw [Array.size_append, size_zeroCells, hzs]
      simp only [List.size_toArray, n1]
      rw [← Nat.add_mul]
      exact Nat.mul_le_mul_right _ (by omega)
    · obtain ⟨q, hq, hd⟩ := n5 r j x hr hj
      refine ⟨q, ?_, hd⟩
      rw [Array.getElem?_append_left (by simpa using (List.getElem?_eq_some_iff.1 hq).1)]
      simpa using hq

theorem append_own {t u e : TypeId} {ty : TypeId} {i : TI} (hT : TTok P T) (hu : P.underlying t = some (.slice e)) {ui : TypeId} (hu2 : P.underlying u = some (.slice ui)) (hi : T e = some i)
    {N : Nat → Prop} {m : Nat} {row : Nat → List DV} {v : Value} (hs : RowsAt w N i.size m row v)
    {b base n cap : Nat} {cs : Array Value} {el : TypeId} (hb : w.heap[b]? = some (.cells cs el (0, 0))) (_hcap : n ≤ cap) (hfitc : base + cap * i.size ≤ cs.size)
    {row' : Nat → List DV} (hr' : ∀ r, r < n → (row' r).length = i.size) (hc' : ∀ r j x, r < n → (row' r)[j]? = some x → ∃ q, cs[base + r * i.size + j]? = some q ∧ DRep w N x q)
    (hroom : (n + m) * i.bytes ≤ 140737488355328 ∧ n + m ≤ 140737488355328) :
    ∃ w' v', (Builtin.append_ #[t, u] ty #[.slice (some ⟨b, base, none⟩) n cap, v]).run P w = .ok v' w' ∧
      ((n + m ≤ cap ∧ v' = .slice (some ⟨b, base, none⟩) (n + m) cap ∧ ∃ cs', cs'.size = cs.size ∧ w' = w.setRow b cs' ∧
          (∀ r j x, r < n → (row' r)[j]? = some x → ∃ q, cs'[base + r * i.size + j]? = some q ∧ DRep w N x q) ∧
          ∀ r j x, r < m → (row r)[j]? = some x → ∃ q, cs'[base + (n + r) * i.size + j]? = some q ∧ DRep w N x q) ∨
        ∃ cap' cs', (0 < n + m ∧ n + m ≤ cap') ∧ v' = .slice (some ⟨w.heap.size, 0, none⟩) (n + m) cap' ∧ w' = w.drew.alloc (.cells cs' e) ∧ cap' * i.size ≤ cs'.size ∧
          (∀ r j x, r < n → (row' r)[j]? = some x → ∃ q, cs'[r * i.size + j]? = some q ∧ DRep w N x q) ∧
          ∀ r j x, r < m → (row r)[j]? = some x → ∃ q, cs'[(n + r) * i.size + j]? = some q ∧ DRep w N x q) := by
  obtain ⟨inf, z, e1, e2, e3, e4, e5, e6, e7⟩ := hT.info e i hi
  obtain ⟨news, n1, n2, n3, n4, n5⟩ := src_cells (P := P) hs
  by_cases hroom' : n + m ≤ cap
  · have hmul : (n + m) * i.size ≤ cap * i.size := Nat.mul_le_mul_right _ hroom'
    rw [Nat.add_mul] at hmul
    have hfit : base + n * i.size + news.length ≤ cs.size := by rw [n1]; omega
    have hst := run_storeCells_at P b (base + n * i.size) el news 0 cs w hb (by simpa using hfit) n4
    simp only [Nat.add_zero] at hst
    refine ⟨_, .slice (some ⟨b, base, none⟩) (n + m) cap, ?_, .inl ⟨hroom', rfl, _, spliced_size _ _ _ hfit, rfl, fun r j x hr hj => ?_, fun r j x hr hj => ?_⟩⟩
    · have hf := n2 w rfl
      simp [Builtin.append_, underlying, hu, hu2, sizeOf_run hT hi, n3, hroom', hf, add_off, hst]
    · obtain ⟨q, hq, hd⟩ := hc' r j x hr hj
      refine ⟨q, ?_, hd⟩
      have hj' : j < i.size := by rw [← hr' r hr]; exact (List.getElem?_eq_some_iff.1 hj).1
      have : (r + 1) * i.size ≤ n * i.size := Nat.mul_le_mul_right _ hr
      rw [Nat.succ_mul] at this
      rw [spliced_get _ _ _ _ hfit, if_pos (by omega)]; exact hq
    · obtain ⟨q, hq, hd⟩ := n5 r j x hr hj
      refine ⟨q, ?_, hd⟩
      have hlt := (List.getElem?_eq_some_iff.1 hq).1
      rw [spliced_get _ _ _ _ hfit, Nat.add_mul, if_neg (by omega), if_pos (by omega), ← hq]
      congr 1; omega
  · have hg : cap < n + m := by omega
    have hfit := growslice_fits (need := n + m) (old := cap) (bytes := i.bytes) hg hroom.1
    have h63 : ¬ (9223372036854775807 < ((n : Int) + (m : Int))) := by omega
    have h48 : ¬ (281474976710656 < Builtin.nextslicecap (n + m) cap * i.bytes) := by omega
    have hzs : z.cells.size = i.size := by rw [← e6, ← e5]; simp
    have hcap' : n + m ≤ grownCap w (n + m) cap e := by simp [grownCap, Question.cut]
    obtain ⟨olds, o1, o2, o3, o4⟩ := rows_flat hr' hc'
    have ho := run_firstCells_some (P := P) w.drew i.size n ⟨b, base, none⟩ n cap olds o1 (fun j q hj => by rw [add_off, cell_at (w := w.drew) hb]; exact o2 j q hj)
    refine ⟨w.drew.alloc (.cells (olds.toArray ++ news.toArray ++ Builtin.zeroCells z.cells (grownCap w (n + m) cap e - (n + m))) e), .slice (some ⟨w.heap.size, 0, none⟩) (n + m) (grownCap w (n + m) cap e), ?_,
      .inr ⟨grownCap w (n + m) cap e, _, ⟨by omega, hcap'⟩, rfl, rfl, ?_, fun r j x hr hj => ?_, fun r j x hr hj => ?_⟩⟩
    · have hf := n2 w.drew rfl
      simp [Builtin.append_, underlying, hu, hu2, sizeOf_run hT hi, n3, hroom', h63, typeInfo, e1, e3, h48, Question.forced, ho, hf, zeroValue, e4, newRow, grownCap]
      congr 2
      apply Array.ext'
      simp [List.append_assoc]
    · rw [Array.size_append, Array.size_append, size_zeroCells, hzs]
      simp only [List.size_toArray, n1, o1]
      rw [← Nat.add_mul, ← Nat.add_mul]
      exact Nat.mul_le_mul_right _ (by omega)
    · obtain ⟨q, hq, hd⟩ := o4 r j x hr hj
      refine ⟨q, ?_, hd⟩
      have hlt := (List.getElem?_eq_some_iff.1 hq).1
      rw [Array.getElem?_append_left (by simp; omega), Array.getElem?_append_left (by simpa using hlt)]
      simpa using hq
    · obtain ⟨q, hq, hd⟩ := n5 r j x hr hj
      refine ⟨q, ?_, hd⟩
      have hlt := (List.getElem?_eq_some_iff.1 hq).1
      rw [Nat.add_mul, Array.getElem?_append_left (by simp; omega), Array.getElem?_append_right (by simp; omega)]
      simp only [List.size_toArray, o1]
      rw [show n * i.size + r * i.size + j - n * i.size = r * i.size + j by omega]
      simpa using hq

theorem sound_append_rows (hT : TTok P T) (R : RelM w0 S nt (lookS slots) σ a w μ) (hd : ∀ d, o.dst = some d → d < nt) {args : Array Operand} {ts : Array TypeId} (ho : o.op = .call ⟨.builtin .append, args, ts⟩)
    {x y : Operand} {t u e ui : TypeId} {i : TI} (hargs : args.toList = [x, y]) (ht : ts[0]? = some t) (hu' : ts[1]? = some u) (hi : T e = some i) (hut : P.underlying t = some (.slice e)) (huu : P.underlying u = some (.slice ui))
    {c d : CV} (hc : CRep σ μ w (Nof S σ μ w) c (a.eval x)) (hdd : CRep σ μ w (Nof S σ μ w) d (a.eval y))
    (h : ((rowsv real i d).bind fun new => appendSem real (o.dst.getD 0 * 64 + baseOf EX) i c new.1 new.2).run σ (OpOut.run M σ K)) : Sound P w0 S nt slots σ a w o K := by
  rw [G.run_bind] at h
  obtain ⟨m, row, hrows, h1⟩ := rowsv_run R hdd h
  clear h
  have ha : args = #[x, y] := by apply Array.ext'; simpa using hargs
  subst ha
  have hex : ∀ v' w', (Builtin.append_ ts o.type #[a.eval x, a.eval y]).run P w = .ok v' w' → (execOp a.eval o).run P w = .ok (.value v') w' := by
    intro v' w' hv
    simp [execOp, ho, resolve, invoke, builtin, hv]
  have hts : ∀ v' w', (Builtin.append_ #[t, u] o.type #[a.eval x, a.eval y]).run P w = .ok v' w' → (Builtin.append_ ts o.type #[a.eval x, a.eval y]).run P w = .ok v' w' := by
    intro v' w' hv
    rw [← hv]
    unfold Builtin.append_
    simp [ht, hu']
  generalize hL : (o.dst.getD 0 * 64 + baseOf EX) = L at h1
  have hnew : ∀ ad, a.eval x = .slice ad 0 0 → real.room m i.bytes → K (.c (.own L 0 m ((σ L).1 + 1))) [(L, (σ L).1 + 1, .arr i.size m row)] → Sound P w0 S nt slots σ a w o K := by
    intro ad ex hroom hk
    obtain ⟨w', v', hr, hcase⟩ := append_none (ty := o.type) hT hut huu hi hrows hroom ad
    rw [← ex] at hr
    have hr := hex _ _ (hts _ _ hr)
    rcases hcase with ⟨rfl, rfl, rfl⟩ | ⟨cap, cs, ⟨hm0', hcap⟩, rfl, rfl, hfit, hcont⟩
    · obtain ⟨st, R'⟩ := R.bare L ((σ L).1 + 1) (by omega) (.arr i.size 0 row) (.inr (.inl ⟨_, _, rfl⟩))
      refine sound_mem R' hd (v := .slice ad 0 0) (.inl hr) rfl ?_ hk
      exact ⟨rfl, by simp, fun sz' n' row' hσ' => ⟨by omega, .inl ⟨by simp, rfl, ad, rfl⟩⟩⟩
    · obtain ⟨st, R'⟩ := R.drew.alloc L ((σ L).1 + 1) (by omega) (.arr i.size m row) cs e ⟨hrows.1, by
        have := Nat.mul_le_mul_right i.size hcap; omega, fun r j x' hr' hj => by
        obtain ⟨q, hq, hdq⟩ := hcont r j x' hr' hj
        exact ⟨q, by rw [Nat.zero_add]; exact hq, (show DRep w.drew (Nof S σ μ w) x' q from DRep.same_heap (w := w) (w' := w.drew) rfl hdq)⟩⟩
      refine sound_mem R' hd (v := .slice (some ⟨w.heap.size, 0, none⟩) m cap) (.inl hr) rfl ?_ hk
      refine ⟨rfl, by simp, fun sz' n' row' hσ' => ?_⟩
      simp at hσ'; obtain ⟨rfl, rfl, rfl⟩ := hσ'
      exact ⟨by omega, .inr ⟨w.heap.size, 0, 0, cap, cs, e, by simp, rfl, hcap, fun _ => by simp, heap_alloc_new w.drew _, by omega, fun _ => by omega⟩⟩
  unfold appendSem at h1
  split at h1
  · obtain ⟨hroom, hk⟩ := h1
    exact hnew none (by generalize he : a.eval x = q at hc; cases hc; rfl) hroom hk
  · obtain ⟨hroom, hk⟩ := h1
    obtain ⟨ad, ex⟩ := hc
    exact hnew ad ex hroom hk
  · rename_i l off len ver
    simp only [G.run] at h1
    split at h1
    · rename_i ver' sz n row' hσ
      cases hsz : nbeq sz i.size with
      | false => rw [hsz] at h1; exact h1.elim
      | true =>
        rw [hsz] at h1
        obtain ⟨hv, h0, hl, hroom, hk⟩ := h1
        have hv : ver = ver' := hv
        have h0 : off = 0 := h0
        have hl : len = n := hl
        have hk : K (.c (.own l 0 (n + m) (ver + 1))) [(l, ver + 1, .arr sz (n + m) (real.app n row' row))] := hk
        subst hv h0 hl
        have hsz := eq_of_nbeq hsz
        subst hsz
        obtain ⟨_, hle, h3⟩ := hc
        obtain ⟨h4, h5⟩ := h3 _ len row' hσ
        have hσ1 : (σ l).1 = ver := by rw [hσ]
        have ob := R.objs l
        rw [hσ] at ob
        obtain ⟨hr, ob⟩ := ob
        have hrl : ∀ r, r < len + m → (real.app len row' row r).length = i.size := fun r hr1 => by
          show (if r < len then row' r else row (r - len)).length = _
          split
          · exact hr r ‹_›
          · exact hrows.1 _ (by omega)
        rcases h5 with ⟨hm0, rfl, ad, ex⟩ | ⟨b, base, o', cap, cs, e', hμ, ex, hcap, ho', hb, hfitc, hpos⟩
        · -- nothing lay there yet
          have hroom0 : m * i.bytes ≤ 140737488355328 ∧ m ≤ 140737488355328 := by
            have h1 : (0 + m) * i.bytes ≤ 140737488355328 ∧ 0 + m ≤ 140737488355328 := hroom
            rwa [Nat.zero_add] at h1
          obtain ⟨w', v', hr', hcase⟩ := append_none (t := t) (u := u) (e := e) (ty := o.type) (ui := ui) hT hut huu hi hrows hroom0 ad
          rw [← ex] at hr'
          have hr' := hex _ _ (hts _ _ hr')
          have happ : real.app 0 row' row = row := by funext r; show (if r < 0 then row' r else row (r - 0)) = row r; simp
          rw [Nat.zero_add, happ] at hk
          rcases hcase with ⟨rfl, rfl, rfl⟩ | ⟨cap, cs, ⟨hm0', hcap⟩, rfl, rfl, hfit, hcont⟩
          · obtain ⟨st, R'⟩ := R.bare l (ver + 1) (by omega) (.arr i.size 0 row) (.inr (.inl ⟨_, _, rfl⟩))
            refine sound_mem R' hd (v := .slice ad 0 0) (.inl hr') rfl ?_ hk
            exact ⟨rfl, by simp, fun sz' n' row' hσ' => ⟨by omega, .inl ⟨by simp, rfl, ad, rfl⟩⟩⟩
          · obtain ⟨st, R'⟩ := R.drew.alloc l (ver + 1) (by omega) (.arr i.size m row) cs e ⟨hrows.1, by
              have := Nat.mul_le_mul_right i.size hcap; omega, fun r j x' hr' hj => by
              obtain ⟨q, hq, hdq⟩ := hcont r j x' hr' hj
              exact ⟨q, by rw [Nat.zero_add]; exact hq, (show DRep w.drew (Nof S σ μ w) x' q from DRep.same_heap (w := w) (w' := w.drew) rfl hdq)⟩⟩
            refine sound_mem R' hd (v := .slice (some ⟨w.heap.size, 0, none⟩) m cap) (.inl hr') rfl ?_ hk
            refine ⟨rfl, by simp, fun sz' n' row' hσ' => ?_⟩
            simp at hσ'; obtain ⟨rfl, rfl, rfl⟩ := hσ'
            exact ⟨by omega, .inr ⟨w.heap.size, 0, 0, cap, cs, e, by simp, rfl, hcap, fun _ => by simp, heap_alloc_new w.drew _, by omega, fun _ => by omega⟩⟩
        · have hob : o' = base := by rw [ho' (.inr rfl)]; simp
          subst hob
          rcases ob with ⟨h1, _⟩ | ⟨b', base', cs1, e1, hμ', hb1, hsz0, hcs⟩
          · rw [hμ] at h1; simp at h1
          rw [hμ] at hμ'; simp at hμ'; obtain ⟨rfl, rfl⟩ := hμ'
          rw [hb] at hb1; simp at hb1; obtain ⟨rfl, rfl⟩ := hb1
          obtain ⟨w', v', hr', hcase⟩ := append_own (ty := o.type) hT hut huu hi hrows hb hcap hfitc hr hcs hroom
          rw [← ex] at hr'
          have hr' := hex _ _ (hts _ _ hr')
          rcases hcase with ⟨hc1, rfl, cs', hs', rfl, c1, c2⟩ | ⟨cap', cs', ⟨hnm, hc1⟩, rfl, rfl, hfit', c1, c2⟩
          · have hmul := Nat.mul_le_mul_right i.size hc1
            obtain ⟨st, R'⟩ := R.write l (ver + 1) (.arr i.size (len + m) (real.app len row' row)) (by simp [live, hσ]) (by simp) (.inl ⟨by omega, by rw [hσ]; rfl⟩) hμ hb hs'
              ⟨hrl, by omega, fun r j x' hr1 hj => by
                have hj : (if r < len then row' r else row (r - len))[j]? = some x' := hj
                by_cases c : r < len
                · rw [if_pos c] at hj; exact c1 r j x' c hj
                · rw [if_neg c] at hj
                  have := c2 (r - len) j x' (by omega) hj
                  rwa [show len + (r - len) = r by omega] at this⟩
            refine sound_mem R' hd (v := .slice (some ⟨b, o', none⟩) (len + m) cap) (.inl hr') rfl ?_ hk
            refine ⟨rfl, by simp, fun sz' n' row'' hσ' => ?_⟩
            simp at hσ'; obtain ⟨rfl, rfl, rfl⟩ := hσ'
            exact ⟨by omega, .inr ⟨b, o', o', cap, cs', e', hμ, rfl, hc1, fun _ => by simp, setRow_heap _ _ _ _ _ _ hb, by omega, fun _ => hpos rfl⟩⟩
          · have hmul := Nat.mul_le_mul_right i.size hc1
            obtain ⟨st, R'⟩ := R.drew.alloc l (ver + 1) (by omega) (.arr i.size (len + m) (real.app len row' row)) cs' e
              ⟨hrl, by omega, fun r j x' hr1 hj => by
                have hj : (if r < len then row' r else row (r - len))[j]? = some x' := hj
                by_cases c : r < len
                · rw [if_pos c] at hj
                  obtain ⟨q, hq, hdq⟩ := c1 r j x' c hj
                  exact ⟨q, by rw [Nat.zero_add]; exact hq, (show DRep w.drew (Nof S σ μ w) x' q from DRep.same_heap (w := w) (w' := w.drew) rfl hdq)⟩
                · rw [if_neg c] at hj
                  have := c2 (r - len) j x' (by omega) hj
                  rw [show len + (r - len) = r by omega] at this
                  obtain ⟨q, hq, hdq⟩ := this
                  exact ⟨q, by rw [Nat.zero_add]; exact hq, (show DRep w.drew (Nof S σ μ w) x' q from DRep.same_heap (w := w) (w' := w.drew) rfl hdq)⟩⟩
            refine sound_mem R' hd (v := .slice (some ⟨w.heap.size, 0, none⟩) (len + m) cap') (.inl hr') rfl ?_ hk
            refine ⟨rfl, by simp, fun sz' n' row'' hσ' => ?_⟩
            simp at hσ'; obtain ⟨rfl, rfl, rfl⟩ := hσ'
            exact ⟨by omega, .inr ⟨w.heap.size, 0, 0, cap', cs', e, by simp, rfl, hc1, fun _ => by simp, heap_alloc_new w.drew _, by omega, fun _ => by omega⟩⟩
    · exact h1.elim
  · exact h1.elim

/-- Rows of values, as they lie. -/
theorem vals_rows {N : Nat → Prop} {sz n base : Nat} {cs : Array Value} (h : ∀ i j, i < n → j < sz → ∃ u, cs[base + i * sz + j]? = some u ∧ u.oneCell' = true) :
    ∃ row : Nat → List DV, (∀ i, i < n → (row i).length = sz) ∧ (∀ i j, i < n → j < sz → ∃ u, (row i)[j]? = some (.v u) ∧ cs[base + i * sz + j]? = some u) ∧
      ∀ i j x, i < n → (row i)[j]? = some x → ∃ u, cs[base + i * sz + j]? = some u ∧ DRep w N x u := by
  refine ⟨fun i => (List.range sz).map fun j => .v (cs.getD (base + i * sz + j) undef), fun i hi => by simp, fun i j hi hj => ?_, fun i j x hi hj => ?_⟩
  · obtain ⟨u, hu, h1⟩ := h i j hi hj
    exact ⟨u, by simp [hj, Array.getD_eq_getD_getElem?, hu], hu⟩
  · simp only [List.getElem?_map, Option.map_eq_some_iff] at hj
    obtain ⟨k, hk, rfl⟩ := hj
    obtain ⟨hlt, rfl⟩ := List.getElem?_eq_some_iff.1 hk
    simp at hlt ⊢
    obtain ⟨u, hu, h1⟩ := h i j hi hlt
    exact ⟨u, hu, by simp [hu]; exact DRep.v u h1⟩
theorem vals_at {N : Nat → Prop} {x : Value} {u : Value} (h : DRep w N (.v x) u) : u = x := by cases h; rfl
theorem Kids.val {cs : Array Value} {base sz n : Nat} {row : Nat → List DV} {skip F : Nat → Prop} (h : Kids w cs base sz n row skip F) {i j : Nat} (hi : i < n) (hs : ¬ skip i) (hj : j < sz) : ∃ u, cs[base + i * sz + j]? = some u ∧ u.oneCell' = true := by
  obtain ⟨h0, G, h1, _⟩ := h
  obtain ⟨u, hu, hd⟩ := h1 i j _ hi hs (List.getElem?_eq_getElem (by rw [h0 i hi hs]; exact hj))
  exact ⟨u, hu, hd.one⟩
/-- The same values at another place. -/
theorem Kids.moved {cs cs' : Array Value} {base base' sz n n' : Nat} {row : Nat → List DV} {skip skip' F : Nat → Prop} (h : Kids w cs base sz n row skip F) (hn : ∀ i, i < n' ∧ ¬ skip' i ↔ i < n ∧ ¬ skip i)
    (hv : ∀ i j u, i < n → ¬ skip i → j < sz → cs[base + i * sz + j]? = some u → cs'[base' + i * sz + j]? = some u) : Kids w cs' base' sz n' row skip' F := by
  obtain ⟨h0, G, h1, h2, h3⟩ := h
  have e : ∀ i, i < n' → ¬ skip' i → i < n ∧ ¬ skip i := fun i a b => (hn i).1 ⟨a, b⟩
  refine ⟨fun i hi hs => h0 i (e i hi hs).1 (e i hi hs).2, G, fun i j x hi hs hj => ?_, fun k => (h2 k).trans ⟨fun ⟨i, j, q1, q2, q3⟩ => ⟨i, j, ((hn i).2 ⟨q1, q2⟩).1, ((hn i).2 ⟨q1, q2⟩).2, q3⟩, fun ⟨i, j, q1, q2, q3⟩ => ⟨i, j, (e i q1 q2).1, (e i q1 q2).2, q3⟩⟩,
    fun i j i' j' k q1 q2 q3 q4 q5 q6 => h3 i j i' j' k (e i q1 q2).1 (e i q1 q2).2 q3 (e i' q4 q5).1 (e i' q4 q5).2 q6⟩
  obtain ⟨u, hu, hd⟩ := h1 i j x (e i hi hs).1 (e i hi hs).2 hj
  exact ⟨u, hv i j u (e i hi hs).1 (e i hi hs).2 (by rw [← h0 i (e i hi hs).1 (e i hi hs).2]; exact (List.getElem?_eq_some_iff.1 hj).1) hu, hd⟩

theorem noJunk_at : ∀ {xs : List CV} {j : Nat} {x : CV}, noJunk xs = true → xs[j]? = some x → x ≠ .junk
  | [], _, _, _, h => by simp at h
  | y :: r, j, x, hn, h => by
    have hy : y ≠ .junk := fun e => by subst e; simp [noJunk] at hn
    have hr : noJunk r = true := by cases y <;> simp [noJunk] at hn hy ⊢ <;> exact hn
    cases j with
    | zero => simp at h; subst h; exact hy
    | succ j => exact noJunk_at hr (by simpa using h)
theorem sound_nestApp (hT : TTok P T) (R : RelM w0 S nt (lookS slots) σ a w μ) (hd : ∀ d, o.dst = some d → d < nt) {args : Array Operand} {ts : Array TypeId} (ho : o.op = .call ⟨.builtin .append, args, ts⟩)
    {x y : Operand} {t u e ui : TypeId} {i : TI} (hargs : args.toList = [x, y]) (ht : ts[0]? = some t) (hu' : ts[1]? = some u) (hi : T e = some i) (hut : P.underlying t = some (.slice e)) (huu : P.underlying u = some (.slice ui))
    {c : CV} {l2 len2 ver2 : Nat} (hc : CRep σ μ w (Nof S σ μ w) c (a.eval x)) (hdd : CRep σ μ w (Nof S σ μ w) (.nown l2 len2 ver2) (a.eval y))
    (h : (nestApp real (o.dst.getD 0 * 64 + baseOf EX) i c l2 ver2).run σ (OpOut.run M σ K)) (hK : ∀ x us, K x us → nodupL us = true) : Sound P w0 S nt slots σ a w o K := by
  have ha : args = #[x, y] := by apply Array.ext'; simpa using hargs
  subst ha
  have hex : ∀ v' w', (Builtin.append_ #[t, u] o.type #[a.eval x, a.eval y]).run P w = .ok v' w' → (execOp a.eval o).run P w = .ok (.value v') w' := by
    intro v' w' hv
    have : (Builtin.append_ ts o.type #[a.eval x, a.eval y]).run P w = .ok v' w' := by
      rw [← hv]
      unfold Builtin.append_
      simp [ht, hu']
    simp [execOp, ho, resolve, invoke, builtin, this]
  generalize hL : (o.dst.getD 0 * 64 + baseOf EX) = L at h
  unfold nestApp at h
  simp only [G.run] at h
  split at h
  · rename_i v2 sz2 n2 row2 i2 cells hσ2
    cases hif : (nbeq sz2 i.size && (nbeq n2 1 && noJunk cells)) with
    | false => rw [hif] at h; exact h.elim
    | true =>
    rw [hif] at h
    simp only [Bool.and_eq_true] at hif
    obtain ⟨e1, e2, hnj⟩ := hif
    have e1 := eq_of_nbeq e1
    have e2 := eq_of_nbeq e2
    subst e1 e2
    obtain ⟨hv2, h⟩ := h
    have hv2 : ver2 = v2 := hv2
    subst hv2
    obtain ⟨_, _, hy⟩ := hdd
    obtain ⟨hl2, hy⟩ := hy _ _ _ _ hσ2
    subst hl2
    have ob := R.objs l2
    rw [hσ2] at ob
    have hlv2 : live σ l2 := by simp [live, hσ2]
    rcases ob with ⟨_, h1, _⟩ | ⟨b2, base2, cs2, el2, hμ2, hb2, hsz2, _, _, _, hfoc2⟩
    · omega
    obtain ⟨hi2, hcl, hcells⟩ := hfoc2 _ _ rfl
    obtain rfl : i2 = 0 := by omega
    rcases hy with ⟨_, h1, _⟩ | ⟨b2', base2', cap2, cs2', el2', hμ2', ey, hcap2, _, hb2', hfit2⟩
    · omega
    rw [hμ2] at hμ2'; simp at hμ2'; obtain ⟨rfl, rfl⟩ := hμ2'
    rw [hb2] at hb2'; simp at hb2'; obtain ⟨rfl, rfl⟩ := hb2'
    have hvals : ∀ r j, r < 1 → j < i.size → ∃ u, cs2[base2 + r * i.size + j]? = some u ∧ u.oneCell' = true := fun r j hr hj => by
      obtain rfl : r = 0 := by omega
      obtain ⟨u, hu, hcu⟩ := hcells j _ (List.getElem?_eq_getElem (by rw [hcl]; exact hj))
      exact ⟨u, hu, hcu.one (noJunk_at hnj (List.getElem?_eq_getElem (by rw [hcl]; exact hj)))⟩
    obtain ⟨src, s1, s2, s3⟩ := vals_rows (w := w) (N := Nof S σ μ w) hvals
    have hrows : RowsAt w (Nof S σ μ w) i.size 1 src (a.eval y) := ⟨s1, .inr ⟨b2, base2, cap2, cs2, el2, (0, 0), ey, hb2, s3⟩⟩
    obtain ⟨st1, R1⟩ := R.bare l2 (ver2 + 1) (by rw [hσ2]; omega) .dead (.inl rfl)
    -- the open row's cells, where their values lie
    have hopen : ∀ {σ' : Objs} {μ' : Place} {w' : World} {cs : Array Value} {off : Nat}, Step S (updO σ l2 (ver2 + 1, .dead)) σ' (updP μ l2 none) μ' w w' →
        (∀ j q, j < i.size → cs2[base2 + 0 * i.size + j]? = some q → cs[off + j]? = some q) → ∀ (j : Nat) y, cells[j]? = some y → ∃ q, cs[off + j]? = some q ∧ CRep σ' μ' w' (Nof S σ' μ' w') y q := fun hst hv j y hj => by
      obtain ⟨u, hu, hcu⟩ := hcells j y hj
      exact ⟨u, hv j u (by rw [← hcl]; exact (List.getElem?_eq_some_iff.1 hj).1) hu, (hcu.step st1).step hst⟩
    have hsrcv : ∀ {cs : Array Value} {off : Nat}, (∀ r j x, r < 1 → (src r)[j]? = some x → ∃ q, cs[off + r * i.size + j]? = some q ∧ DRep w (Nof S σ μ w) x q) →
        ∀ j q, j < i.size → cs2[base2 + 0 * i.size + j]? = some q → cs[off + j]? = some q := fun h j q hj hq => by
      obtain ⟨u, hu1, hu2⟩ := s2 0 j (by omega) hj
      obtain ⟨q', h1, h2⟩ := h 0 j _ (by omega) hu1
      rw [hq] at hu2; cases hu2
      have := vals_at h2
      subst this
      simpa using h1
    have hnew : ∀ (L : Nat) ad, L ≠ l2 → a.eval x = .slice ad 0 0 → real.room 1 i.bytes → ∀ (row : Nat → List DV) (ver : Nat), (σ L).1 < ver → K (.c (.nown L 1 ver)) [(L, ver, .nest i.size 1 row (some (0, cells))), (l2, ver2 + 1, .dead)] →
        Sound P w0 S nt slots σ a w o K := fun L ad hLl ex hroom row ver hver hk => by
      obtain ⟨w', v', hr, hcase⟩ := append_none (ty := o.type) hT hut huu hi hrows hroom ad
      rw [← ex] at hr
      have hr := hex _ _ hr
      rcases hcase with ⟨h0, _⟩ | ⟨cap, cs, ⟨_, hcap⟩, rfl, rfl, hfit, hcont⟩
      · omega
      have hfit1 : i.size ≤ cs.size := by have := Nat.mul_le_mul_right i.size hcap; omega
      obtain ⟨st, R'⟩ := R1.drew.allocC L ver (by rw [updO_ne _ _ hLl]; exact hver) (.nest i.size 1 row (some (0, cells))) cs e fun hst =>
        .inr ⟨w.heap.size, 0, cs, e, by simp, heap_alloc_new w.drew _, by omega, ⟨fun k hk hn => (hn ⟨cells, by rw [show k = 0 by omega]⟩).elim, fun _ _ _ => False, fun k j x hk hn _ => (hn ⟨cells, by rw [show k = 0 by omega]⟩).elim,
          fun k => ⟨fun h => by simp at h, fun ⟨_, _, _, _, _, h⟩ => h.elim⟩, fun _ _ _ _ _ _ _ _ _ _ _ h => h.elim⟩, by simp, by simp, fun k cells' hf => by
            simp at hf; obtain ⟨rfl, rfl⟩ := hf
            refine ⟨by omega, hcl, fun j x hj => ?_⟩
            obtain ⟨q, hq, hcq⟩ := hopen (cs := cs) (off := 0) (Step.drew (w := w)) (hsrcv (cs := cs) (off := 0) (by simpa using hcont)) j x hj
            exact ⟨q, by simpa using hq, hcq.step hst⟩⟩
      refine sound_mem R' hd (v := .slice (some ⟨w.heap.size, 0, none⟩) 1 cap) (.inl hr) rfl ?_ hk
      refine ⟨rfl, by simp, fun sz' n' row' foc' hσ' => ?_⟩
      simp at hσ'; obtain ⟨rfl, rfl, rfl, rfl⟩ := hσ'
      exact ⟨rfl, .inr ⟨w.heap.size, 0, cap, cs, e, by simp, rfl, hcap, by omega, heap_alloc_new w.drew _, by omega⟩⟩
    have hne : ∀ {L ver : Nat} {o1 o2 : HO} {v2 : Nat} {x : AV}, K x [(L, ver, o1), (l2, v2, o2)] → L ≠ l2 := fun hk e => by
      have := hK _ _ hk
      subst e
      simp [nodupL, hasLab] at this
    split at h
    · obtain ⟨hroom, hk⟩ := h
      simp only [G.run] at hk
      exact hnew L none (hne hk) (by generalize he : a.eval x = q at hc; cases hc; rfl) hroom _ _ (by omega) hk
    · obtain ⟨hroom, hk⟩ := h
      simp only [G.run] at hk
      obtain ⟨ad, ex⟩ := hc
      exact hnew L ad (hne hk) ex hroom _ _ (by omega) hk
    · rename_i l len ver
      simp only [G.run] at h
      split at h
      · rename_i ver' sz n row hσ
        cases hsz : nbeq sz i.size with
        | false => rw [hsz] at h; exact h.elim
        | true =>
        rw [hsz] at h
        obtain ⟨hv, hl, hroom, hk⟩ := h
        have hv : ver = ver' := hv
        have hl : len = n := hl
        have hk : K (.c (.nown l (n + 1) (ver + 1))) [(l, ver + 1, .nest sz (n + 1) row (some (n, cells))), (l2, ver2 + 1, .dead)] := hk
        have hsz := eq_of_nbeq hsz
        subst hv hl hsz
        have hll : l ≠ l2 := fun e => by subst e; rw [hσ] at hσ2; simp at hσ2
        obtain ⟨_, hle, h3⟩ := hc
        obtain ⟨_, h5⟩ := h3 _ _ row _ hσ
        have hσ1 : updO σ l2 (ver2 + 1, HO.dead) l = (ver, .nest i.size len row none) := by rw [updO_ne _ _ hll, hσ]
        have hlv : live σ l := by simp [live, hσ]
        have hlv1 : live (updO σ l2 (ver2 + 1, HO.dead)) l := by simp [live, hσ1]
        have ob := R.objs l
        rw [hσ] at ob
        rcases h5 with ⟨hm0, rfl, ad, ex⟩ | ⟨b, base, cap, cs, el, hμ, ex, hcap, hpos, hb, hfitc⟩
        · exact hnew l ad hll ex (by have h1 : (0 + 1) * i.bytes ≤ 140737488355328 ∧ 0 + 1 ≤ 140737488355328 := hroom; exact ⟨by have := h1.1; omega, by omega⟩) row (ver + 1) (by rw [hσ]; omega) hk
        rcases ob with ⟨h1, _⟩ | ⟨b', base', cs1, el1, hμ', hb1, hsz0, hkid, hkb, hknd, _⟩
        · rw [hμ] at h1; simp at h1
        rw [hμ] at hμ'; simp at hμ'; obtain ⟨rfl, rfl⟩ := hμ'
        rw [hb] at hb1; simp at hb1; obtain ⟨rfl, rfl⟩ := hb1
        have hnf : ∀ k, ¬ isFoc none k := fun k ⟨c, hc⟩ => by cases hc
        obtain ⟨old, o1, o2, o3⟩ := vals_rows (w := w) (N := Nof S σ μ w) (cs := cs) (base := base) (sz := i.size) (n := len) fun r j hr hj => hkid.val hr (hnf r) hj
        obtain ⟨w', v', hr', hcase⟩ := append_own (ty := o.type) hT hut huu hi hrows hb hcap hfitc o1 o3 hroom
        rw [← ex] at hr'
        have hr' := hex _ _ hr'
        have hoth : ∀ {cs' : Array Value} {off : Nat}, (∀ r j x, r < len → (old r)[j]? = some x → ∃ q, cs'[off + r * i.size + j]? = some q ∧ DRep w (Nof S σ μ w) x q) →
            ∀ r j u, r < len → j < i.size → cs[base + r * i.size + j]? = some u → cs'[off + r * i.size + j]? = some u := fun h r j u hr hj hu => by
          obtain ⟨u', q1, q2⟩ := o2 r j hr hj
          obtain ⟨q, h1, h2⟩ := h r j _ hr q1
          rw [hu] at q2; cases q2
          have := vals_at h2
          subst this
          exact h1
        have hfn : ∀ k, (k < len + 1 ∧ ¬ isFoc (some (len, cells)) k) ↔ k < len ∧ ¬ isFoc none k := fun k => by
          refine ⟨fun ⟨h1, h2⟩ => ⟨?_, hnf k⟩, fun ⟨h1, _⟩ => ⟨by omega, fun ⟨c, hc⟩ => by simp at hc; omega⟩⟩
          have : k ≠ len := fun e => h2 ⟨cells, by rw [e]⟩
          omega
        have hμ1 : updP μ l2 none l = some (b, base) := by rw [updP_ne _ _ hll]; exact hμ
        have hk1 : (updP μ l2 none).k l = μ.k l := updP_k_ne _ _ hll
        rcases hcase with ⟨hc1, rfl, cs', hs', rfl, c1, c2⟩ | ⟨cap', cs', ⟨hnm, hc1⟩, rfl, rfl, hfit', c1, c2⟩
        · have hmul := Nat.mul_le_mul_right i.size hc1
          rw [Nat.add_mul] at hmul
          obtain ⟨st, R'⟩ := R1.writeC l (ver + 1) (.nest i.size (len + 1) row (some (len, cells))) hlv1 (by simp) (fun h => by cases h) (.inl (by rw [hσ1]; exact Nat.lt_succ_self _)) hμ1 hb hs'
            fun hst => .inr ⟨b, base, cs', el, hμ1, setRow_heap _ _ _ _ _ _ hb, by rw [Nat.add_mul, hs']; omega, by
              rw [hk1]
              exact (hkid.carry (w' := w.setRow b cs') fun b' hb' => setRow_other _ _ _ _ fun eb => hkb (eb ▸ hb')).moved hfn fun r j u hr _ hj hu => hoth c1 r j u hr hj hu, by rw [hk1]; exact hkb, by rw [hk1]; exact hknd, fun k cells' hf => by
                simp at hf; obtain ⟨rfl, rfl⟩ := hf
                refine ⟨by omega, hcl, fun j x hj => ?_⟩
                exact hopen (cs := cs') (off := base + len * i.size) hst (hsrcv (fun r j x hr hj => by
                  obtain ⟨q, h1, h2⟩ := c2 r j x hr hj
                  exact ⟨q, by rw [← h1]; congr 1; rw [Nat.add_mul]; omega, h2⟩)) j x hj⟩
          refine sound_mem R' hd (v := .slice (some ⟨b, base, none⟩) (len + 1) cap) (.inl hr') rfl ?_ hk
          refine ⟨rfl, by simp, fun sz' n' row'' foc' hσ' => ?_⟩
          simp at hσ'; obtain ⟨rfl, rfl, rfl, rfl⟩ := hσ'
          exact ⟨rfl, .inr ⟨b, base, cap, cs', el, hμ1, rfl, hc1, hpos, setRow_heap _ _ _ _ _ _ hb, by omega⟩⟩
        · have hmul := Nat.mul_le_mul_right i.size hc1
          rw [Nat.add_mul] at hmul
          obtain ⟨st, R'⟩ := R1.drew.allocK l (ver + 1) (by rw [hσ1]; exact Nat.lt_succ_self _) (.nest i.size (len + 1) row (some (len, cells))) cs' e (μ.k l) (fun b' hb' => ⟨hlv1, by rw [hk1]; exact hb'⟩) (fun h => by cases h)
            fun hst => .inr ⟨w.heap.size, 0, cs', e, by simp, heap_alloc_new w.drew _, by rw [Nat.add_mul]; omega, by
              rw [updK_k_same]
              exact (hkid.carry (w := w) (w' := w.drew.alloc (.cells cs' e)) fun b' hb' => heap_alloc_lt w.drew _ (R.ownH l b' hlv (.inr hb')).1).moved hfn fun r j u hr _ hj hu => hoth (by simpa using c1) r j u hr hj hu, by
                rw [updK_k_same]; intro hin; have := (R.ownH l _ hlv (.inr hin)).1; omega, by rw [updK_k_same]; exact hknd, fun k cells' hf => by
                simp at hf; obtain ⟨rfl, rfl⟩ := hf
                refine ⟨by omega, hcl, fun j x hj => ?_⟩
                obtain ⟨q, hq, hcq⟩ := hopen (cs := cs') (off := 0 + len * i.size) (Step.drew (w := w)) (hsrcv (fun r j x hr hj => by
                  obtain ⟨q, h1, h2⟩ := c2 r j x hr hj
                  exact ⟨q, by rw [← h1]; congr 1; rw [Nat.add_mul]; omega, h2⟩)) j x hj
                exact ⟨q, hq, hcq.step hst⟩⟩
          refine sound_mem R' hd (v := .slice (some ⟨w.heap.size, 0, none⟩) (len + 1) cap') (.inl hr') rfl ?_ hk
          refine ⟨rfl, by simp, fun sz' n' row'' foc' hσ' => ?_⟩
          simp at hσ'; obtain ⟨rfl, rfl, rfl, rfl⟩ := hσ'
          exact ⟨rfl, .inr ⟨w.heap.size, 0, cap', cs', e, by simp, rfl, hc1, by omega, heap_alloc_new w.drew _, by omega⟩⟩
      · exact h.elim
    · exact h.elim
  · exact h.elim

theorem sound_append (hT : TTok P T) (R : RelM w0 S nt (lookS slots) σ a w μ) (hd : ∀ d, o.dst = some d → d < nt) {args : Array Operand} {ts : Array TypeId} (ho : o.op = .call ⟨.builtin .append, args, ts⟩)
    (hK : ∀ x us, K x us → nodupL us = true) (h : (semOp real T EX o true (rho slots)).run σ (OpOut.run M σ K)) : Sound P w0 S nt slots σ a w o K := by
  simp only [semOp, ho] at h
  split at h
  · rename_i x y t u hargs ht hu'
    rw [G.run_bind] at h
    obtain ⟨iu, hiu, h1⟩ := tiv_run h
    clear h
    split at h1
    · rename_i ui hdu
      rw [G.run_bind] at h1
      obtain ⟨it, e, i, hit, hdesc, hi, h⟩ := elemv_run h1
      clear h1
      have hut : P.underlying t = some (.slice e) := by rw [hT.desc t it hit, hdesc]
      have huu : P.underlying u = some (.slice ui) := by rw [hT.desc u iu hiu, hdu]
      rw [G.run_bind] at h
      obtain ⟨c, hc, h1⟩ := cellv_run h (rho_rep R x)
      clear h
      rw [G.run_bind] at h1
      obtain ⟨d, hdd, h⟩ := cellv_run h1 (rho_rep R y)
      clear h1
      have hrw : ∀ d, (∀ l len ver, d ≠ CV.nown l len ver) → (match d with
          | .nown l2 _ ver2 => nestApp real (o.dst.getD 0 * 64 + baseOf EX) i c l2 ver2
          | b => (rowsv real i b).bind fun new => appendSem real (o.dst.getD 0 * 64 + baseOf EX) i c new.1 new.2) = (rowsv real i d).bind fun new => appendSem real (o.dst.getD 0 * 64 + baseOf EX) i c new.1 new.2 := by
        intro d hd
        cases d with
        | nown l len ver => exact (hd l len ver rfl).elim
        | _ => rfl
      by_cases hnw : ∃ l len ver, d = CV.nown l len ver
      · obtain ⟨l2, len2, ver2, rfl⟩ := hnw
        exact sound_nestApp (EX := EX) (M := M) hT R hd ho hargs ht hu' hi hut huu hc hdd h hK
      · refine sound_append_rows (EX := EX) (M := M) hT R hd ho hargs ht hu' hi hut huu hc hdd ?_
        rw [← hrw d fun l len ver e => hnw ⟨l, len, ver, e⟩]
        exact h
    · exact h1.elim
  · exact h.elim

theorem sound_clear (hT : TTok P T) (R : RelM w0 S nt (lookS slots) σ a w μ) (hd : ∀ d, o.dst = some d → d < nt) {args : Array Operand} {ts : Array TypeId} (ho : o.op = .call ⟨.builtin .clear, args, ts⟩)
    (h : (semOp real T EX o true (rho slots)).run σ (OpOut.run M σ K)) : Sound P w0 S nt slots σ a w o K := by
  simp only [semOp, ho] at h
  split at h
  · rename_i x t hargs ht
    rw [G.run_bind] at h
    obtain ⟨it, e, i, hit, hdesc, hi, h1⟩ := elemv_run h
    clear h
    have hut : P.underlying t = some (.slice e) := by rw [hT.desc t it hit, hdesc]
    rw [G.run_bind] at h1
    obtain ⟨c, hc, h⟩ := cellv_run h1 (rho_rep R x)
    clear h1
    have ha : args = #[x] := by apply Array.ext'; simpa using hargs
    subst ha
    obtain ⟨inf, z, e1, e2, e3, e4, e5, e6, e7⟩ := hT.info e i hi
    have hex : ∀ v' w', (Builtin.clear_ #[t] o.type #[a.eval x]).run P w = .ok v' w' → (execOp a.eval o).run P w = .ok (.value v') w' := by
      intro v' w' hv
      have : (Builtin.clear_ ts o.type #[a.eval x]).run P w = .ok v' w' := by
        rw [← hv]; unfold Builtin.clear_; simp [ht]
      simp [execOp, ho, resolve, invoke, builtin, this]
    split at h
    · rename_i l off len ver
      simp only [G.run] at h
      split at h
      · rename_i ver' sz n row hσ
        cases hsz : nbeq sz i.size with
        | false => rw [hsz] at h; exact h.elim
        | true =>
          rw [hsz] at h
          have hsz := eq_of_nbeq hsz
          subst hsz
          obtain ⟨hv, hK⟩ := h
          have hv : ver = ver' := hv
          subst hv
          have hK : K (.c .junk) [(l, ver, .arr i.size n (real.app off row (real.app len (real.rep (i.zero.map .v)) (real.sub (off + len) row))))] := hK
          obtain ⟨_, hle, h3⟩ := hc
          obtain ⟨h4, h5⟩ := h3 _ n row hσ
          have hnone : len = 0 → (∃ ad cap, a.eval x = .slice ad 0 cap) → Sound P w0 S nt slots σ a w o K := by
            rintro rfl ⟨ad, cap, ex⟩
            have erow : real.app off row (real.app 0 (real.rep (i.zero.map .v)) (real.sub (off + 0) row)) = row := by
              funext r
              show (if r < off then row r else if r - off < 0 then i.zero.map DV.v else row (off + 0 + (r - off - 0))) = row r
              by_cases c : r < off
              · rw [if_pos c]
              · rw [if_neg c, if_neg (by omega)]; congr 1; omega
            rw [erow] at hK
            have eσ : updO σ l (ver, .arr i.size n row) = σ := by
              funext k
              by_cases ek : k = l
              · subst ek; rw [updO_same, hσ]
              · rw [updO_ne _ _ ek]
            refine sound_mem (x := .c .junk) (v := .tuple #[]) R hd (.inl (hex _ _ ?_)) ?_ trivial hK
            · rw [ex]
              unfold Builtin.clear_
              cases ad <;> simp [underlying, hut]
            · exact eσ
          rcases h5 with ⟨_, h0, ad, ex⟩ | ⟨b, base, o', cap, cs, e', hμ, ex, hcap, ho', hb, hfitc, hpos⟩
          · exact hnone h0 ⟨ad, 0, ex⟩
          by_cases hl0 : len = 0
          · exact hnone hl0 ⟨_, cap, by rw [ex, hl0]⟩
          have eo := ho' (.inl (by omega))
          have ob := R.objs l
          rw [hσ] at ob
          obtain ⟨hr, ob⟩ := ob
          rcases ob with ⟨h1, _⟩ | ⟨b', base', cs1, e1', hμ', hb1, hsz0, hcs⟩
          · rw [hμ] at h1; simp at h1
          rw [hμ] at hμ'; simp at hμ'; obtain ⟨rfl, rfl⟩ := hμ'
          rw [hb] at hb1; simp at hb1; obtain ⟨rfl, rfl⟩ := hb1
          have hzs : z.cells.size = i.size := by rw [← e6, ← e5]; simp
          have hmul : len * i.size ≤ cap * i.size := Nat.mul_le_mul_right _ hcap
          have hzl : (Builtin.zeroCells z.cells len).toList.length = len * i.size := by rw [Array.length_toList, size_zeroCells, hzs]
          have hzget : ∀ k, k < len * i.size → (Builtin.zeroCells z.cells len).toList[k]? = z.cells[k % i.size]? := fun k hk => by
            have hp : 0 < i.size := Nat.pos_of_ne_zero fun h => by simp [h] at hk
            have hm : k % i.size < z.cells.size := by rw [hzs]; exact Nat.mod_lt _ hp
            have e1 : z.cells[k % i.size]? = some z.cells[k % i.size] := Array.getElem?_eq_getElem hm
            have e2 : z.cells[k % i.size]! = z.cells[k % i.size] := by rw [getElem!_def, e1]
            rw [e1, Array.getElem?_toList]
            simp [Builtin.zeroCells, hzs, hk, e2]
          have hzone : ∀ u ∈ (Builtin.zeroCells z.cells len).toList, u.oneCell' = true := fun u hu => by
            obtain ⟨k, hk, rfl⟩ := List.mem_iff_getElem.1 hu
            have := hzget k (by rw [← hzl]; exact hk)
            rw [List.getElem?_eq_getElem hk] at this
            refine e7 _ ?_
            rw [← e5]
            exact List.mem_of_getElem? (i := k % i.size) (by rw [Array.getElem?_toList]; exact this.symm)
          have hfit : o' + (Builtin.zeroCells z.cells len).toList.length ≤ cs.size := by rw [hzl]; omega
          have hst := run_storeCells_at P b o' e' (Builtin.zeroCells z.cells len).toList 0 cs w hb (by simpa using hfit) hzone
          simp only [Nat.add_zero] at hst
          have hcs : ∀ r j y, r < n → (row r)[j]? = some y → ∃ u, cs[base + r * i.size + j]? = some u ∧ DRep w (Nof S σ μ w) y u := hcs
          obtain ⟨st, R'⟩ := R.write l ver (.arr i.size n (real.app off row (real.app len (real.rep (i.zero.map .v)) (real.sub (off + len) row)))) (by simp [live, hσ]) (by simp)
            (.inr ⟨by rw [hσ], fun _ h => by simp at h, fun sz' n' row' h => by simp at h; obtain ⟨rfl, rfl, _⟩ := h; exact ⟨n, row, by rw [hσ], Nat.le_refl _⟩⟩) hμ hb (spliced_size _ _ _ hfit)
            ⟨fun r hr1 => by
                show (if r < off then row r else (if r - off < len then i.zero.map DV.v else row (off + len + (r - off - len)) : List DV)).length = i.size
                by_cases c1 : r < off
                · rw [if_pos c1]; exact hr r hr1
                · rw [if_neg c1]
                  by_cases c2 : r - off < len
                  · rw [if_pos c2]; simp [e6]
                  · rw [if_neg c2]; exact hr _ (by omega), by rw [spliced_size _ _ _ hfit]; exact hsz0, fun r j y hr1 hj => by
              have hj : (if r < off then row r else if r - off < len then i.zero.map DV.v else row (off + len + (r - off - len)))[j]? = some y := hj
              rw [spliced_get _ _ _ _ hfit, hzl, eo]
              have hrj : ∀ q, r < n → (row q).length = i.size → (row q)[j]? = some y → j < i.size := fun q _ hq hj => by rw [← hq]; exact (List.getElem?_eq_some_iff.1 hj).1
              by_cases c1 : r < off
              · rw [if_pos c1] at hj
                have hjs := hrj r hr1 (hr r hr1) hj
                have : (r + 1) * i.size ≤ off * i.size := Nat.mul_le_mul_right _ c1
                rw [Nat.add_mul] at this
                rw [if_pos (by omega)]
                exact hcs r j y hr1 hj
              · rw [if_neg c1] at hj
                by_cases c2 : r - off < len
                · rw [if_pos c2] at hj
                  have hj : (i.zero.map DV.v)[j]? = some y := hj
                  simp only [List.getElem?_map, Option.map_eq_some_iff] at hj
                  obtain ⟨v, hv, rfl⟩ := hj
                  have hjl : j < i.size := by rw [← e6]; exact (List.getElem?_eq_some_iff.1 hv).1
                  have h1 : off * i.size ≤ r * i.size := Nat.mul_le_mul_right _ (by omega)
                  have h2 : (r + 1) * i.size ≤ (off + len) * i.size := Nat.mul_le_mul_right _ (by omega)
                  rw [Nat.add_mul, Nat.add_mul] at h2
                  refine ⟨v, ?_, DRep.v v (e7 v (List.mem_of_getElem? hv))⟩
                  rw [if_neg (by omega), if_pos (by omega), hzget _ (by omega)]
                  have : base + r * i.size + j - (base + off * i.size) = j + (r - off) * i.size := by rw [Nat.sub_mul]; omega
                  rw [this, Nat.add_mul_mod_self_right, Nat.mod_eq_of_lt hjl, ← Array.getElem?_toList, e5]; exact hv
                · rw [if_neg c2, show off + len + (r - off - len) = r by omega] at hj
                  have h2 : (off + len) * i.size ≤ r * i.size := Nat.mul_le_mul_right _ (by omega)
                  rw [Nat.add_mul] at h2
                  rw [if_neg (by omega), if_neg (by omega)]
                  exact hcs r j y hr1 hj⟩
          refine sound_mem (x := .c .junk) (v := .tuple #[]) R' hd (.inl (hex _ _ ?_)) rfl trivial hK
          obtain ⟨len', rfl⟩ : ∃ k, len = k + 1 := ⟨len - 1, by omega⟩
          rw [ex]
          simp [Builtin.clear_, underlying, hut, e4, zeroValue, typeInfo, e1, hst]
      · exact h.elim
    · exact h.elim
  · exact h.elim
theorem sound_copy (hT : TTok P T) (R : RelM w0 S nt (lookS slots) σ a w μ) (hd : ∀ d, o.dst = some d → d < nt) {args : Array Operand} {ts : Array TypeId} (ho : o.op = .call ⟨.builtin .copy, args, ts⟩)
    (h : (semOp real T EX o true (rho slots)).run σ (OpOut.run M σ K)) : Sound P w0 S nt slots σ a w o K := by
  simp only [semOp, ho] at h
  split at h
  · rename_i x y t u hargs ht hu'
    rw [G.run_bind] at h
    obtain ⟨iu, hiu, h1⟩ := tiv_run h
    clear h
    split at h1
    · rename_i ui hdu
      rw [G.run_bind] at h1
      obtain ⟨it, e, i, hit, hdesc, hi, h⟩ := elemv_run h1
      clear h1
      have hut : P.underlying t = some (.slice e) := by rw [hT.desc t it hit, hdesc]
      rw [G.run_bind] at h
      obtain ⟨c, hc, h1⟩ := cellv_run h (rho_rep R x)
      clear h
      rw [G.run_bind] at h1
      obtain ⟨d, hdd, h⟩ := cellv_run h1 (rho_rep R y)
      clear h1
      rw [G.run_bind] at h
      obtain ⟨m, src, hrows, h1⟩ := rowsv_run R hdd h
      clear h
      have ha : args = #[x, y] := by apply Array.ext'; simpa using hargs
      subst ha
      have hex : ∀ v' w', (Builtin.copy_ #[t, u] o.type #[a.eval x, a.eval y]).run P w = .ok v' w' → (execOp a.eval o).run P w = .ok (.value v') w' := by
        intro v' w' hv
        have : (Builtin.copy_ ts o.type #[a.eval x, a.eval y]).run P w = .ok v' w' := by
          rw [← hv]
          unfold Builtin.copy_
          simp [ht]
        simp [execOp, ho, resolve, invoke, builtin, this]
      unfold copySem at h1
      split at h1
      · rename_i l off len ver
        simp only [G.run] at h1
        split at h1
        · rename_i ver' sz n row hσ
          cases hsz : nbeq sz i.size with
          | false => rw [hsz] at h1; exact h1.elim
          | true =>
          rw [hsz] at h1
          obtain ⟨hv, hk⟩ := h1
          have hv : ver = ver' := hv
          have hsz := eq_of_nbeq hsz
          subst hv hsz
          obtain ⟨k, hkd⟩ : ∃ k, k = Nat.min m len := ⟨_, rfl⟩
          have hmn : real.mn (real.int len) (real.int m) = (k : Int) := by
            show (if (m : Int) < (len : Int) then (m : Int) else (len : Int)) = _
            rw [hkd]
            show _ = ((min m len : Nat) : Int)
            split <;> omega
          have hk : K (.c (.d (.v (.int .i64 (real.mn (real.int len) (real.int m)))))) [(l, ver, .arr i.size n (real.app off row (real.app (real.nat (real.mn (real.int len) (real.int m))) src (real.sub (real.add off (real.nat (real.mn (real.int len) (real.int m)))) row))))] := hk
          rw [hmn, show real.nat (k : Int) = k from Int.toNat_natCast k] at hk
          have hkm : k ≤ m ∧ k ≤ len := by rw [hkd]; exact ⟨Nat.min_le_left _ _, Nat.min_le_right _ _⟩
          obtain ⟨_, hle, h3⟩ := hc
          obtain ⟨h4, h5⟩ := h3 _ n row hσ
          have hsl : ∃ ad cap, a.eval y = .slice ad m cap := by
            rcases hrows.2 with ⟨rfl, ad, cap, e1⟩ | ⟨b, o2, cap, cs, e2, fr, e1, _⟩
            · exact ⟨ad, cap, e1⟩
            · exact ⟨_, cap, e1⟩
          obtain ⟨sad, scap, ey⟩ := hsl
          by_cases hk0 : k = 0
          · have hnone : ∀ ad cap, a.eval x = .slice ad len cap → Sound P w0 S nt slots σ a w o K := fun ad cap ex => by
              have erow : real.app off row (real.app 0 src (real.sub (off + 0) row)) = row := by
                funext r
                show (if r < off then row r else if r - off < 0 then src (r - off) else row (off + 0 + (r - off - 0))) = row r
                by_cases c : r < off
                · rw [if_pos c]
                · rw [if_neg c, if_neg (by omega)]; congr 1; omega
              have eσ : updO σ l (ver, .arr i.size n row) = σ := by
                funext q
                by_cases ek : q = l
                · subst ek; rw [updO_same, hσ]
                · rw [updO_ne _ _ ek]
              rw [hk0] at hk
              have hk : K (.c (.d (.v (.int .i64 0)))) [(l, ver, .arr i.size n (real.app off row (real.app 0 src (real.sub (off + 0) row))))] := hk
              rw [erow] at hk
              refine sound_mem (x := .c (.d (.v (.int .i64 0)))) (v := .int .i64 0) R hd (.inl (hex _ _ ?_)) ?_ (DRep.v _ rfl) hk
              · have hl0 : ∀ (q : Addr), (loadCells q 0).run P w = .ok #[] w := fun q => by simpa using run_loadCells_list (P := P) w q [] (by simp)
                have hmin : Nat.min m len = 0 := by rw [← hkd]; exact hk0
                have hmin' : min m len = 0 := hmin
                rw [ex, ey]
                cases ad <;> cases sad <;> simp [Builtin.copy_, underlying, hut, Builtin.lenOf, Builtin.firstCells, sizeOf_run hT hi, hmin, hmin', hl0, storeCells, goInt]
              · exact eσ
            rcases h5 with ⟨_, h0, ad, ex⟩ | ⟨b, base, o', cap, cs, e', hμ, ex, hcap, ho', hb, hfitc, hpos⟩
            · exact hnone ad 0 (by rw [ex, h0])
            · exact hnone _ cap ex
          rcases h5 with ⟨_, h0, ad, ex⟩ | ⟨b, base, o', cap, cs, e', hμ, ex, hcap, ho', hb, hfitc, hpos⟩
          · omega
          have eo := ho' (.inl (by omega))
          have ob := R.objs l
          rw [hσ] at ob
          obtain ⟨hr, ob⟩ := ob
          rcases ob with ⟨h1, _⟩ | ⟨b', base', cs1, e1', hμ', hb1, hsz0, hcs⟩
          · rw [hμ] at h1; simp at h1
          rw [hμ] at hμ'; simp at hμ'; obtain ⟨rfl, rfl⟩ := hμ'
          rw [hb] at hb1; simp at hb1; obtain ⟨rfl, rfl⟩ := hb1
          rcases hrows.2 with ⟨h0, _⟩ | ⟨b2, o2, cap2, cs2, el2, fr2, ey2, hb2, hc2⟩
          · omega
          obtain ⟨news, n1, n2, n3, n4⟩ := rows_flat (w := w) (N := Nof S σ μ w) (n := k) (row := src) (fun r hr => hrows.1 r (by omega)) (fun r j x hr hj => hc2 r j x (by omega) hj)
          have hmul : k * i.size ≤ cap * i.size := Nat.mul_le_mul_right _ (by omega)
          have hfit : o' + news.length ≤ cs.size := by rw [n1]; omega
          have hst := run_storeCells_at P b o' e' news 0 cs w hb (by simpa using hfit) n3
          simp only [Nat.add_zero] at hst
          have hcs : ∀ r j y, r < n → (row r)[j]? = some y → ∃ u, cs[base + r * i.size + j]? = some u ∧ DRep w (Nof S σ μ w) y u := hcs
          obtain ⟨st, R'⟩ := R.write l ver (.arr i.size n (real.app off row (real.app k src (real.sub (off + k) row)))) (by simp [live, hσ]) (by simp)
            (.inr ⟨by rw [hσ], fun _ h => by simp at h, fun sz' n' row' h => by simp at h; obtain ⟨rfl, rfl, _⟩ := h; exact ⟨n, row, by rw [hσ], Nat.le_refl _⟩⟩) hμ hb (spliced_size _ _ _ hfit)
            ⟨fun r hr1 => by
                show (if r < off then row r else (if r - off < k then src (r - off) else row (off + k + (r - off - k))) : List DV).length = i.size
                by_cases c1 : r < off
                · rw [if_pos c1]; exact hr r hr1
                · rw [if_neg c1]
                  by_cases c2 : r - off < k
                  · rw [if_pos c2]; exact hrows.1 _ (by omega)
                  · rw [if_neg c2]; exact hr _ (by omega), by rw [spliced_size _ _ _ hfit]; exact hsz0, fun r j y hr1 hj => by
              have hj : (if r < off then row r else if r - off < k then src (r - off) else row (off + k + (r - off - k)))[j]? = some y := hj
              rw [spliced_get _ _ _ _ hfit, n1, eo]
              have hrj : ∀ q, r < n → (row q).length = i.size → (row q)[j]? = some y → j < i.size := fun q _ hq hj => by rw [← hq]; exact (List.getElem?_eq_some_iff.1 hj).1
              by_cases c1 : r < off
              · rw [if_pos c1] at hj
                have hjs := hrj r hr1 (hr r hr1) hj
                have : (r + 1) * i.size ≤ off * i.size := Nat.mul_le_mul_right _ c1
                rw [Nat.add_mul] at this
                rw [if_pos (by omega)]
                exact hcs r j y hr1 hj
              · rw [if_neg c1] at hj
                by_cases c2 : r - off < k
                · rw [if_pos c2] at hj
                  obtain ⟨u, hu, hdu⟩ := n4 _ j y c2 hj
                  have hjl := (List.getElem?_eq_some_iff.1 hu).1
                  have h1 : off * i.size ≤ r * i.size := Nat.mul_le_mul_right _ (by omega)
                  have e3 : (r - off) * i.size = r * i.size - off * i.size := Nat.sub_mul _ _ _
                  refine ⟨u, ?_, hdu⟩
                  rw [if_neg (by omega), if_pos (by omega), ← hu]
                  congr 1; omega
                · rw [if_neg c2, show off + k + (r - off - k) = r by omega] at hj
                  have h2 : (off + k) * i.size ≤ r * i.size := Nat.mul_le_mul_right _ (by omega)
                  rw [Nat.add_mul] at h2
                  rw [if_neg (by omega), if_neg (by omega)]
                  exact hcs r j y hr1 hj⟩
          refine sound_mem (x := .c (.d (.v (.int .i64 k)))) (v := .int .i64 k) R' hd (.inl (hex _ _ ?_)) rfl (DRep.v _ rfl) hk
          have hmin : Nat.min m len = k := hkd.symm
          have hmin' : min m len = k := hmin
          have hload := run_loadCells_list (P := P) w ⟨b2, o2, none⟩ news (fun j v hj => by rw [add_off, cell_at hb2]; exact n2 j v hj)
          rw [n1] at hload
          rw [ex, ey2]
          simp [Builtin.copy_, underlying, hut, Builtin.lenOf, Builtin.firstCells, sizeOf_run hT hi, hmin, hmin', hload, hst, goInt]
        · exact h1.elim
      · exact h1.elim
    · exact h1.elim
  · exact h.elim
end
end Go.Rk
/- Calls, one: what is handed over. -/
namespace Go.Rk
set_option linter.unusedSimpArgs false
set_option linter.unusedVariables false

def OwnRep (w : World) (N : Nat → Prop) (sz n : Nat) (row : Nat → List DV) (v : Value) (F : List Nat) : Prop :=
  (∀ i, i < n → (row i).length = sz) ∧ ((n = 0 ∧ F = [] ∧ ∃ ad, v = .slice ad 0 0) ∨
    ∃ b base cap cs e, F = [b] ∧ v = .slice (some ⟨b, base, none⟩) n cap ∧ 0 < cap ∧ n ≤ cap ∧ w.heap[b]? = some (.cells cs e (0, 0)) ∧ base + cap * sz ≤ cs.size ∧
      ∀ i j x, i < n → (row i)[j]? = some x → ∃ u, cs[base + i * sz + j]? = some u ∧ DRep w N x u)
/-- A nest with all its blocks, the own one first. -/
def NestRep (w : World) (sz n : Nat) (row : Nat → List DV) (v : Value) (F : List Nat) : Prop :=
  F.Nodup ∧ NRep w (.sl sz n row) v (fun b => b ∈ F) ∧ ∀ b base cap, v = .slice (some ⟨b, base, none⟩) n cap → 0 < cap → ∃ F', F = b :: F'
def XCRep (w : World) (N : Nat → Prop) : XC → Value → List Nat → Prop
  | .d x, v, F => F = [] ∧ DRep w N x v
  | .own sz n row, v, F => OwnRep w N sz n row v F
def XCsRep (w : World) (N : Nat → Prop) : List XC → List Value → List Nat → Prop
  | [], [], F => F = []
  | x :: r, v :: s, F => ∃ F1 F2, F = F1 ++ F2 ∧ XCRep w N x v F1 ∧ XCsRep w N r s F2
  | _, _, _ => False
def XVRep (w : World) (N : Nat → Prop) : XV → Value → List Nat → Prop
  | .d x, v, F => F = [] ∧ DRep w N x v
  | .own sz n row, v, F => OwnRep w N sz n row v F
  | .box cells, v, F => ∃ b cs e F', F = b :: F' ∧ v = .pointer (some ⟨b, 0, none⟩) ∧ w.heap[b]? = some (.cells cs e (0, 0)) ∧ XCsRep w N cells cs.toList F'
  | .nown sz n row, v, F => NestRep w sz n row v F
def XVsRep (w : World) (N : Nat → Prop) : List XV → List Value → List Nat → Prop
  | [], [], F => F = []
  | x :: r, v :: s, F => ∃ F1 F2, F = F1 ++ F2 ∧ XVRep w N x v F1 ∧ XVsRep w N r s F2
  | _, _, _ => False
def XTRep (w : World) (N : Nat → Prop) : XT → Value → List Nat → Prop
  | .c x, v, F => XVRep w N x v F
  | .agg xs, v, F => ∃ cs, v = .agg cs ∧ XVsRep w N xs cs.toList F
def XTsRep (w : World) (N : Nat → Prop) : List XT → List Value → List Nat → Prop
  | [], [], F => F = []
  | x :: r, v :: s, F => ∃ F1 F2, F = F1 ++ F2 ∧ XTRep w N x v F1 ∧ XTsRep w N r s F2
  | _, _, _ => False
def XARep (w : World) (N : Nat → Prop) : XA → Value → List Nat → Prop
  | .one x, v, F => XTRep w N x v F
  | .tup xs, v, F => ∃ cs, v = .tuple cs ∧ XTsRep w N xs cs.toList F
def BackRep (w : World) (N : Nat → Prop) : List (Option XV) → List Value → List Nat → Prop
  | [], [], F => F = []
  | none :: r, _ :: s, F => BackRep w N r s F
  | some x :: r, v :: s, F => ∃ F1 F2, F = F1 ++ F2 ∧ XVRep w N x v F1 ∧ BackRep w N r s F2
  | _, _, _ => False

/-- The blocks of labels, in order. -/
def blkP (m : Option (Nat × Nat)) (k : List Nat) : List Nat := (m.map (·.1)).toList ++ k
theorem mem_blkP {m : Option (Nat × Nat)} {k : List Nat} {b : Nat} : b ∈ blkP m k ↔ (∃ base, m = some (b, base)) ∨ b ∈ k := by
  unfold blkP
  rw [List.mem_append]
  cases m with
  | none => simp
  | some q => obtain ⟨q1, q2⟩ := q; simp [eq_comm]
def blk (μ : Place) (ls : List (Nat × Nat)) : List Nat := ls.flatMap fun p => blkP (μ p.1) (μ.k p.1)
theorem blk_append (μ : Place) (a b : List (Nat × Nat)) : blk μ (a ++ b) = blk μ a ++ blk μ b := by simp [blk]
theorem blk_one (μ : Place) (p : Nat × Nat) : blk μ [p] = blkP (μ p.1) (μ.k p.1) := by simp [blk]
def Valid (σ : Objs) (p : Nat × Nat) : Prop := live σ p.1 ∧ (σ p.1).1 = p.2

section
variable {P : Program} {T : TypeId → Option TI}
variable {w0 : World} {S : Sets} {nt : Nat} {slots : List (Nat × AV)} {σ : Objs} {a : Act} {w : World} {μ : Place}

theorem DRep.mono {N N' : Nat → Prop} (h : ∀ b, N b → N' b) {x : DV} {v : Value} (hx : DRep w N x v) : DRep w N' x v := hx.carry fun b hb => ⟨rfl, h b hb⟩

/-- An own thing that is named whole. -/
theorem own_whole (R : RelM w0 S nt (lookS slots) σ a w μ) {l len ver sz n : Nat} {row : Nat → List DV} {v : Value} (hσ : σ l = (ver, .arr sz n row))
    (hx : CRep σ μ w (Nof S σ μ w) (.own l 0 len ver) v) {N : Nat → Prop} (hN : ∀ b, Nof S σ μ w b → N b) : OwnRep w N sz len row v (blk μ [(l, ver)]) := by
  obtain ⟨hle, h⟩ := hx.2.2 sz n row hσ
  have ob := R.objs l
  have hkz := R.kz l (by simp [live, hσ]) (by rw [hσ]; rfl)
  rw [hσ] at ob
  refine ⟨fun i hi => ob.1 i (by omega), ?_⟩
  rcases h with ⟨hm, rfl, ad, rfl⟩ | ⟨b, base, o, cap, cs, e, hm, rfl, hc, ho, hb, hs, hpos⟩
  · exact .inl ⟨rfl, by simp [blk, blkP, hm, hkz], ad, rfl⟩
  · have ho := ho (.inr rfl)
    simp at ho; subst ho
    rcases ob.2 with ⟨h1, _⟩ | ⟨b', base', cs1, e1, hm', hb1, hs0, hcs⟩
    · rw [hm] at h1; simp at h1
    rw [hm] at hm'; simp at hm'; obtain ⟨rfl, rfl⟩ := hm'
    rw [hb] at hb1; simp at hb1; obtain ⟨rfl, rfl⟩ := hb1
    refine .inr ⟨b, o, cap, cs, e, by simp [blk, blkP, hm, hkz], rfl, hpos rfl, hc, hb, hs, fun i j x hi hj => ?_⟩
    obtain ⟨u, hu, hd⟩ := hcs i j x (by omega) hj
    exact ⟨u, hu, hd.mono hN⟩

theorem nest_whole (R : RelM w0 S nt (lookS slots) σ a w μ) {l len ver sz n : Nat} {row : Nat → List DV} {v : Value} (hσ : σ l = (ver, .nest sz n row none))
    (hx : CRep σ μ w (Nof S σ μ w) (.nown l len ver) v) : NestRep w sz len row v (blk μ [(l, ver)]) := by
  obtain ⟨rfl, h⟩ := hx.2.2 sz n row none hσ
  have ob := R.objs l
  rw [hσ] at ob
  rw [blk_one]
  show NestRep w sz len row v (blkP (μ l) (μ.k l))
  rcases h with ⟨hm, h0, ad, rfl⟩ | ⟨b, base, cap, cs, e, hm, rfl, hc, hp, hb, hs⟩
  · rcases ob with ⟨_, _, _, hk⟩ | ⟨b', base', cs1, e1, hm', _⟩
    · refine ⟨by simp [blkP, hm, hk], ?_, fun b base cap e hc => ?_⟩
      · rw [h0]; exact .nil _ _ _ _ fun k => by simp [blkP, hm, hk]
      · simp at e; omega
    · rw [hm] at hm'; cases hm'
  · rcases ob with ⟨h1, _⟩ | ⟨b', base', cs1, e1, hm', hb1, hs0, ⟨k0, G, k1, k2, k3⟩, hkb, hknd, _⟩
    · rw [hm] at h1; cases h1
    rw [hm] at hm'; simp at hm'; obtain ⟨rfl, rfl⟩ := hm'
    rw [hb] at hb1; simp at hb1; obtain ⟨rfl, rfl⟩ := hb1
    have hnf : ∀ k, ¬ isFoc none k := fun k ⟨c, hc⟩ => by cases hc
    have hF : ∀ k, k ∈ blkP (μ l) (μ.k l) ↔ k = b ∨ ∃ i j, i < len ∧ j < sz ∧ G i j k := fun k => by
      have k2k : k ∈ μ.k l ↔ _ := k2 k
      rw [mem_blkP, hm, k2k]
      constructor
      · rintro (⟨base', e⟩ | ⟨i, j, q1, _, q2, q3⟩)
        · simp at e; exact .inl e.1.symm
        · exact .inr ⟨i, j, q1, q2, q3⟩
      · rintro (rfl | ⟨i, j, q1, q2, q3⟩)
        · exact .inl ⟨base, rfl⟩
        · exact .inr ⟨i, j, q1, hnf i, q2, q3⟩
    refine ⟨by simp [blkP, hm, hkb, hknd], .sl sz len row b base cap cs e (fun i j => cs.getD (base + i * sz + j) undef) G _ hb hc hp hs (fun i hi => k0 i hi (hnf i)) (fun i j x hi hj => ?_) (fun i j x hi hj => ?_) hF (fun i j i' j' k q1 q2 q3 q4 q5 q6 => k3 i j i' j' k q1 (hnf i) q2 q3 (hnf i') q4 q5 q6) (fun i j hi hj hg => hkb ((k2 b).2 ⟨i, j, hi, hnf i, hj, hg⟩)), fun b2 base2 cap2 e2 _ => ?_⟩
    · obtain ⟨u, hu, _⟩ := k1 i j x hi (hnf i) hj
      rw [hu, Array.getD_eq_getD_getElem?, hu]; rfl
    · obtain ⟨u, hu, hd⟩ := k1 i j x hi (hnf i) hj
      rw [Array.getD_eq_getD_getElem?, hu]; exact hd
    · simp at e2; obtain ⟨⟨rfl, rfl⟩, _⟩ := e2
      exact ⟨μ.k l, by simp [blkP, hm]⟩

theorem giveCells_spec (R : RelM w0 S nt (lookS slots) σ a w μ) : ∀ {cells : List CV} {vs : List Value} {Q : List XC × List (Nat × Nat) → Prop}, (giveCells real cells).run σ Q → CsRep σ μ w (Nof S σ μ w) cells vs →
    ∃ xs ls, Q (xs, ls) ∧ (∀ p ∈ ls, Valid σ p) ∧ ∀ N : Nat → Prop, (∀ b, Nof S σ μ w b → N b) → XCsRep w N xs vs (blk μ ls)
  | [], [], Q, h, _ => ⟨[], [], h, fun p hp => by simp at hp, fun N _ => rfl⟩
  | [], _ :: _, _, _, h => h.elim
  | _ :: _, [], _, _, h => h.elim
  | x :: r, v :: s, Q, h, hc => by
    unfold giveCells at h
    cases x with
    | d x =>
      simp only [G.run_bind] at h
      obtain ⟨xs, ls, hq, hv, hN⟩ := giveCells_spec R h hc.2
      exact ⟨_, _, hq, hv, fun N hn => ⟨[], _, rfl, ⟨rfl, DRep.mono hn hc.1⟩, hN N hn⟩⟩
    | own l off len ver =>
      simp only [G.run] at h
      split at h
      · rename_i ver' sz n row hσ
        obtain ⟨h1, h2, h⟩ := h
        have h1 : ver = ver' := h1
        have h2 : off = 0 := h2
        subst h1 h2
        rw [G.run_bind] at h
        obtain ⟨xs, ls, hq, hv, hN⟩ := giveCells_spec R h hc.2
        refine ⟨_, _, hq, fun p hp => ?_, fun N hn => ⟨blk μ [(l, ver)], blk μ ls, by rw [← blk_append]; rfl, own_whole R hσ hc.1 hn, hN N hn⟩⟩
        rcases List.mem_cons.1 hp with rfl | hp
        · exact ⟨by simp [live, hσ], by simp [hσ]⟩
        · exact hv p hp
      · exact h.elim
    | _ => exact h.elim

theorem readOwn_spec (R : RelM w0 S nt (lookS slots) σ a w μ) {l off len ver : Nat} {v : Value} {Q : DV → Prop} (h : (readOwn real l off len ver).run σ Q) (hx : CRep σ μ w (Nof S σ μ w) (.own l off len ver) v) :
    ∃ x, Q x ∧ Valid σ (l, ver) ∧ ∀ N : Nat → Prop, (∀ b, Nof S σ μ w b → N b) → (∀ b base, μ l = some (b, base) → N b) → DRep w N x v := by
  unfold readOwn at h
  simp only [G.run] at h
  split at h
  · rename_i ver' sz n row hσ
    obtain ⟨h1, h⟩ := h
    have h1 : ver = ver' := h1
    subst h1
    refine ⟨_, h, ⟨by simp [live, hσ], by simp [hσ]⟩, fun N hn hl => ?_⟩
    obtain ⟨h4, h5⟩ := hx.2.2 sz n row hσ
    have ob := R.objs l
    rw [hσ] at ob
    rcases h5 with ⟨hm, rfl, ad, rfl⟩ | ⟨b, base, o, cap, cs, e, hm, rfl, hc, ho, hb, hs, _⟩
    · -- a slice with no room: read as it is
      cases ad with
      | none => exact DRep.nil _ _
      | some ad => exact DRep.empty _ _ _
    · rcases ob.2 with ⟨h1, _⟩ | ⟨b', base', cs1, e1, hm', hb1, hs0, hcs⟩
      · rw [hm] at h1; simp at h1
      rw [hm] at hm'; simp at hm'; obtain ⟨rfl, rfl⟩ := hm'
      rw [hb] at hb1; simp at hb1; obtain ⟨rfl, rfl⟩ := hb1
      have hget : ∀ i j x, i < len → (row (off + i))[j]? = some x → cs[o + i * sz + j]? = some (cs.getD (o + i * sz + j) undef) ∧ DRep w N x (cs.getD (o + i * sz + j) undef) := fun i j x hi hj => by
        obtain ⟨u, hu, hd⟩ := hcs (off + i) j x (by omega) hj
        have : base + (off + i) * sz + j = o + i * sz + j := by rw [ho (.inl (by omega)), Nat.add_mul]; omega
        rw [this] at hu
        have hg : cs.getD (o + i * sz + j) undef = u := by rw [Array.getD_eq_getD_getElem?, hu]; rfl
        rw [hg]
        exact ⟨hu, hd.mono hn⟩
      exact DRep.sl sz len _ b o cap cs e (0, 0) (fun i j => cs.getD (o + i * sz + j) undef) (hl b base hm) hb hc hs (fun i hi => ob.1 (off + i) (by omega)) (fun i j x hi hj => (hget i j x hi hj).1) (fun i j x hi hj => (hget i j x hi hj).2)
  · exact h.elim

theorem readNest_spec (R : RelM w0 S nt (lookS slots) σ a w μ) {l len ver : Nat} {v : Value} {Q : DV → Prop} (h : (readNest real l len ver).run σ Q) (hx : CRep σ μ w (Nof S σ μ w) (.nown l len ver) v) :
    ∃ x, Q x ∧ Valid σ (l, ver) ∧ ∀ N : Nat → Prop, (∀ b, Has μ l b → N b) → DRep w N x v := by
  unfold readNest at h
  simp only [G.run] at h
  split at h
  · rename_i ver' sz n row hσ
    obtain ⟨h1, h⟩ := h
    have h1 : ver = ver' := h1
    subst h1
    refine ⟨_, h, ⟨by simp [live, hσ], by simp [hσ]⟩, fun N hl => ?_⟩
    obtain ⟨_, hn, _⟩ := nest_whole R hσ hx
    refine hn.data fun b hb => hl b ?_
    rw [blk_one] at hb
    exact mem_blkP.1 hb
  · exact h.elim
theorem readCell_spec (R : RelM w0 S nt (lookS slots) σ a w μ) {x : CV} {v : Value} {Q : DV × List (Nat × Nat) → Prop} (h : (readCell real x).run σ Q) (hx : CRep σ μ w (Nof S σ μ w) x v) :
    ∃ y ls, Q (y, ls) ∧ (∀ p ∈ ls, Valid σ p) ∧ ∀ N : Nat → Prop, (∀ b, Nof S σ μ w b → N b) → (∀ p ∈ ls, ∀ b, Has μ p.1 b → N b) → DRep w N y v := by
  unfold readCell at h
  split at h
  · exact ⟨_, [], h, fun p hp => by simp at hp, fun N hn _ => DRep.mono hn hx⟩
  · rename_i l off len ver
    rw [G.run_bind] at h
    obtain ⟨y, hq, hv, hN⟩ := readOwn_spec R h hx
    exact ⟨_, _, hq, fun p hp => by simp at hp; subst hp; exact hv, fun N hn hl => hN N hn fun b base hm => hl (l, ver) (by simp) b (.inl ⟨base, hm⟩)⟩
  · rename_i l len ver
    rw [G.run_bind] at h
    obtain ⟨y, hq, hv, hN⟩ := readNest_spec R h hx
    exact ⟨_, _, hq, fun p hp => by simp at hp; subst hp; exact hv, fun N hn hl => hN N fun b hm => hl (l, ver) (by simp) b hm⟩
  · exact h.elim
theorem readCells_spec (R : RelM w0 S nt (lookS slots) σ a w μ) : ∀ {xs : List CV} {vs : List Value} {Q : List DV × List (Nat × Nat) → Prop}, (readCells real xs).run σ Q → CsRep σ μ w (Nof S σ μ w) xs vs →
    ∃ ys ls, Q (ys, ls) ∧ (∀ p ∈ ls, Valid σ p) ∧ ∀ N : Nat → Prop, (∀ b, Nof S σ μ w b → N b) → (∀ p ∈ ls, ∀ b, Has μ p.1 b → N b) → ∀ (j : Nat) y, ys[j]? = some y → ∃ v, vs[j]? = some v ∧ DRep w N y v
  | [], [], Q, h, _ => ⟨[], [], h, fun p hp => by simp at hp, fun N _ _ j y hj => by simp at hj⟩
  | [], _ :: _, _, _, h => h.elim
  | _ :: _, [], _, _, h => h.elim
  | x :: r, v :: s, Q, h, hc => by
    simp only [readCells, G.run_bind] at h
    obtain ⟨y, l1, h1, hv1, hN1⟩ := readCell_spec R h hc.1
    obtain ⟨ys, l2, h2, hv2, hN2⟩ := readCells_spec R h1 hc.2
    refine ⟨_, _, h2, fun p hp => ?_, fun N hn hl j z hj => ?_⟩
    · rcases List.mem_append.1 hp with hp | hp
      · exact hv1 p hp
      · exact hv2 p hp
    · cases j with
      | zero => simp at hj; subst hj; exact ⟨v, rfl, hN1 N hn fun p hp => hl p (List.mem_append.2 (.inl hp))⟩
      | succ j => simp at hj; simpa using hN2 N hn (fun p hp => hl p (List.mem_append.2 (.inr hp))) j z hj
theorem boxD_spec (R : RelM w0 S nt (lookS slots) σ a w μ) {l ver : Nat} {Q : DV × List (Nat × Nat) → Prop} (h : (boxD real l ver).run σ Q) :
    ∃ y ls, Q (y, ls) ∧ (∃ cells, σ l = (ver, .box cells)) ∧ (∀ p ∈ ls, Valid σ p) ∧ ∀ N : Nat → Prop, (∀ b, Nof S σ μ w b → N b) → (∀ p ∈ ls, ∀ b, Has μ p.1 b → N b) →
      ∀ b, μ l = some (b, 0) → DRep w N y (.pointer (some ⟨b, 0, none⟩)) := by
  unfold boxD at h
  simp only [G.run] at h
  split at h
  · rename_i ver' cells hσ
    obtain ⟨h1, h⟩ := h
    have h1 : ver = ver' := h1
    subst h1
    rw [G.run_bind] at h
    have ob := R.objs l
    rw [hσ] at ob
    obtain ⟨b, cs, e, hm, hb, hcs⟩ := ob
    obtain ⟨ys, ls, hq, hv, hN⟩ := readCells_spec R h hcs
    refine ⟨_, _, hq, ⟨cells, hσ⟩, fun p hp => ?_, fun N hn hl b' hm' => ?_⟩
    · rcases List.mem_cons.1 hp with rfl | hp
      · exact ⟨by simp [live, hσ], by simp [hσ]⟩
      · exact hv p hp
    · rw [hm] at hm'; simp at hm'; subst hm'
      have hget : ∀ (j : Nat) y, ys[j]? = some y → cs[0 + j]? = some (cs.getD j undef) ∧ DRep w N y (cs.getD j undef) := fun j y hj => by
        obtain ⟨u, hu, hd⟩ := hN N hn (fun p hp => hl p (by simp [hp])) j y hj
        rw [Array.getElem?_toList] at hu
        have hg : cs.getD j undef = u := by rw [Array.getD_eq_getD_getElem?, hu]; rfl
        rw [hg, Nat.zero_add]
        exact ⟨hu, hd⟩
      exact DRep.p _ b 0 cs e (0, 0) (fun j => cs.getD j undef) (hl (l, ver) (by simp) b (.inl ⟨0, hm⟩)) hb (fun j y hj => (hget j y hj).1) (fun j y hj => (hget j y hj).2)
  · exact h.elim
theorem capsD_spec (R : RelM w0 S nt (lookS slots) σ a w μ) : ∀ {caps : List (Nat × Nat)} {Q : List DV × List (Nat × Nat) → Prop}, (capsD real caps).run σ Q →
    ∃ ys ls, Q (ys, ls) ∧ ys.length = caps.length ∧ (∀ p ∈ ls, Valid σ p) ∧ (∀ (j : Nat) l ver, caps[j]? = some (l, ver) → ∃ cells, σ l = (ver, .box cells)) ∧
      ∀ N : Nat → Prop, (∀ b, Nof S σ μ w b → N b) → (∀ p ∈ ls, ∀ b, Has μ p.1 b → N b) →
        ∀ (j : Nat) y l ver b, ys[j]? = some y → caps[j]? = some (l, ver) → μ l = some (b, 0) → DRep w N y (.pointer (some ⟨b, 0, none⟩))
  | [], Q, h => ⟨[], [], h, rfl, fun p hp => by simp at hp, fun j l ver hj => by simp at hj, fun N _ _ j y l ver b hj => by simp at hj⟩
  | (l, ver) :: r, Q, h => by
    simp only [capsD, G.run_bind] at h
    obtain ⟨y, l1, h1, hb1, hv1, hN1⟩ := boxD_spec R h
    obtain ⟨ys, l2, h2, hl2, hv2, hb2, hN2⟩ := capsD_spec R h1
    refine ⟨_, _, h2, by simp [hl2], fun p hp => ?_, fun j l' ver' hj => ?_, fun N hn hl j z l' ver' b hj hc hm => ?_⟩
    · rcases List.mem_append.1 hp with hp | hp
      · exact hv1 p hp
      · exact hv2 p hp
    · cases j with
      | zero => simp at hj; obtain ⟨rfl, rfl⟩ := hj; exact hb1
      | succ j => exact hb2 j l' ver' (by simpa using hj)
    · cases j with
      | zero => simp at hj hc; subst hj; obtain ⟨rfl, rfl⟩ := hc; exact hN1 N hn (fun p hp => hl p (List.mem_append.2 (.inl hp))) b hm
      | succ j => exact hN2 N hn (fun p hp => hl p (List.mem_append.2 (.inr hp))) j z l' ver' b (by simpa using hj) (by simpa using hc) hm

/-- What is said of what is handed over. -/
def GivenOk (S : Sets) (σ : Objs) (μ : Place) (w : World) (le : Lent) (Z : (Nat → Prop) → List Nat → Prop) : Prop :=
  (∀ p ∈ le.ex ++ le.bo, Valid σ p) ∧ ∀ N : Nat → Prop, (∀ b, Nof S σ μ w b → N b) → (∀ p ∈ le.bo, ∀ b, Has μ p.1 b → N b) → Z N (blk μ le.ex)

theorem givenCell_spec (R : RelM w0 S nt (lookS slots) σ a w μ) {ex : Bool} {x : CV} {v : Value} {Q : XV × Lent → Prop} (h : (givenCell real ex x).run σ Q) (hx : CRep σ μ w (Nof S σ μ w) x v) :
    ∃ y le, Q (y, le) ∧ GivenOk S σ μ w le fun N F => XVRep w N y v F := by
  unfold givenCell at h
  split at h
  · exact ⟨_, _, h, fun p hp => by simp [Lent.none] at hp, fun N hn _ => ⟨rfl, DRep.mono hn hx⟩⟩
  · rename_i l off len ver
    split at h
    · simp only [G.run] at h
      split at h
      · rename_i ver' sz n row hσ
        obtain ⟨h1, h2, h⟩ := h
        have h1 : ver = ver' := h1
        have h2 : off = 0 := h2
        subst h1 h2
        exact ⟨_, _, h, fun p hp => by simp at hp; subst hp; exact ⟨by simp [live, hσ], by simp [hσ]⟩, fun N hn _ => own_whole R hσ hx hn⟩
      · exact h.elim
    · rw [G.run_bind] at h
      obtain ⟨y, hq, hv, hN⟩ := readOwn_spec R h hx
      exact ⟨_, _, hq, fun p hp => by simp at hp; subst hp; exact hv, fun N hn hl => ⟨rfl, hN N hn fun b base hm => hl (l, ver) (by simp) b (.inl ⟨base, hm⟩)⟩⟩
  · rename_i l len ver
    split at h
    · simp only [G.run] at h
      split at h
      · rename_i ver' sz n row hσ
        obtain ⟨h1, h⟩ := h
        have h1 : ver = ver' := h1
        subst h1
        exact ⟨_, _, h, fun p hp => by simp at hp; subst hp; exact ⟨by simp [live, hσ], by simp [hσ]⟩, fun N hn _ => nest_whole R hσ hx⟩
      · exact h.elim
    · rw [G.run_bind] at h
      obtain ⟨y, hq, hv, hN⟩ := readNest_spec R h hx
      exact ⟨_, _, hq, fun p hp => by simp at hp; subst hp; exact hv, fun N hn hl => ⟨rfl, hN N fun b hm => hl (l, ver) (by simp) b hm⟩⟩
  · rename_i l ver off
    split at h
    · simp only [G.run] at h
      obtain ⟨h2, h⟩ := h
      have h2 : off = 0 := h2
      subst h2
      rw [G.run_bind] at h
      obtain ⟨y, ls, hq, ⟨cells, hσ⟩, hv, hN⟩ := boxD_spec R h
      obtain ⟨b', hm', rfl⟩ := hx.2.2 cells hσ
      exact ⟨_, _, hq, fun p hp => hv p (by simpa using hp), fun N hn hl => ⟨rfl, hN N hn (fun p hp => hl p hp) b' hm'⟩⟩
    simp only [G.run] at h
    split at h
    · rename_i ver' cells hσ
      obtain ⟨h1, h2, h⟩ := h
      have h1 : ver = ver' := h1
      have h2 : off = 0 := h2
      subst h1 h2
      rw [G.run_bind] at h
      have ob := R.objs l
      rw [hσ] at ob
      obtain ⟨b, cs, e, hm, hb, hcs⟩ := ob
      obtain ⟨xs, ls, hq, hv, hN⟩ := giveCells_spec R h hcs
      obtain ⟨b', hm', rfl⟩ := hx.2.2 cells hσ
      rw [hm] at hm'; simp at hm'; subst hm'
      refine ⟨_, _, hq, fun p hp => ?_, fun N hn _ => ⟨b, cs, e, blk μ ls, by simp [blk, blkP, hm, R.kz l (by simp [live, hσ]) (by rw [hσ]; rfl)], rfl, hb, hN N hn⟩⟩
      simp at hp
      rcases hp with rfl | hp
      · exact ⟨by simp [live, hσ], by simp [hσ]⟩
      · exact hv p hp
    · exact h.elim
  · rename_i f caps
    rw [G.run_bind] at h
    obtain ⟨ys, ls, hq, hlen, hv, hb, hN⟩ := capsD_spec R h
    obtain ⟨cs, rfl, hcl, hcs⟩ := hx
    refine ⟨_, _, hq, fun p hp => hv p (by simpa using hp), fun N hn hl => ⟨rfl, ?_⟩⟩
    have hget : ∀ (j : Nat) y, ys[j]? = some y → cs[j]? = some (cs.getD j undef) ∧ DRep w N y (cs.getD j undef) := fun j y hj => by
      have hjl : j < caps.length := by rw [← hlen]; exact (List.getElem?_eq_some_iff.1 hj).1
      have hcj : caps[j]? = some (caps[j].1, caps[j].2) := by rw [List.getElem?_eq_getElem hjl]
      obtain ⟨cells, hσ⟩ := hb j _ _ hcj
      obtain ⟨b, hm, hu⟩ := (hcs j _ _ hcj).2 cells hσ
      have hg : cs.getD j undef = .pointer (some ⟨b, 0, none⟩) := by rw [Array.getD_eq_getD_getElem?, hu]; rfl
      rw [hg]
      exact ⟨hu, hN N hn hl j y _ _ b hj hcj hm⟩
    exact DRep.fn f _ cs (fun j => cs.getD j undef) (by rw [hcl, hlen]) (fun j y hj => (hget j y hj).1) (fun j y hj => (hget j y hj).2)
  · exact h.elim

theorem GivenOk.both {Z1 Z2 : (Nat → Prop) → List Nat → Prop} {l1 l2 : Lent} (h1 : GivenOk S σ μ w l1 Z1) (h2 : GivenOk S σ μ w l2 Z2) :
    GivenOk S σ μ w (l1.both l2) fun N F => ∃ F1 F2, F = F1 ++ F2 ∧ Z1 N F1 ∧ Z2 N F2 := by
  refine ⟨fun p hp => ?_, fun N hn hl => ⟨blk μ l1.ex, blk μ l2.ex, blk_append μ _ _, h1.2 N hn fun p hp => hl p (by simp [Lent.both, hp]), h2.2 N hn fun p hp => hl p (by simp [Lent.both, hp])⟩⟩
  simp only [Lent.both, List.mem_append] at hp
  rcases hp with (hp | hp) | hp | hp
  · exact h1.1 p (by simp [hp])
  · exact h2.1 p (by simp [hp])
  · exact h1.1 p (by simp [hp])
  · exact h2.1 p (by simp [hp])
theorem GivenOk.none {Z : (Nat → Prop) → List Nat → Prop} (h : ∀ N, Z N []) : GivenOk S σ μ w .none Z := ⟨fun p hp => by simp [Lent.none] at hp, fun N _ _ => h N⟩

theorem givenCells_spec (R : RelM w0 S nt (lookS slots) σ a w μ) {ex : Bool} : ∀ {xs : List CV} {vs : List Value} {Q : List XV × Lent → Prop}, (givenCells real ex xs).run σ Q → CsRep σ μ w (Nof S σ μ w) xs vs →
    ∃ ys le, Q (ys, le) ∧ GivenOk S σ μ w le fun N F => XVsRep w N ys vs F
  | [], [], Q, h, _ => ⟨[], .none, h, .none fun _ => rfl⟩
  | [], _ :: _, _, _, h => h.elim
  | _ :: _, [], _, _, h => h.elim
  | x :: r, v :: s, Q, h, hc => by
    simp only [givenCells, G.run_bind] at h
    obtain ⟨y, l1, h1, g1⟩ := givenCell_spec R h hc.1
    obtain ⟨ys, l2, h2, g2⟩ := givenCells_spec R h1 hc.2
    exact ⟨_, _, h2, g1.both g2⟩
theorem givenArg_spec (R : RelM w0 S nt (lookS slots) σ a w μ) {ex : Bool} {x : AV} {v : Value} {Q : XT × Lent → Prop} (h : (givenArg real true ex x).run σ Q) (hx : ARep σ μ w (Nof S σ μ w) x v) :
    ∃ y le, Q (y, le) ∧ GivenOk S σ μ w le fun N F => XTRep w N y v F := by
  unfold givenArg at h
  rw [G.run_bind] at h
  obtain ⟨z, hz, h1⟩ := opv_run h hx
  clear h
  split at h1
  · rw [G.run_bind] at h1
    obtain ⟨y, le, hq, g⟩ := givenCell_spec R h1 hz
    exact ⟨_, _, hq, g⟩
  · rw [G.run_bind] at h1
    obtain ⟨cs, rfl, hcs⟩ := hz
    obtain ⟨y, le, hq, g⟩ := givenCells_spec R h1 hcs
    exact ⟨_, _, hq, g.1, fun N hn hl => ⟨cs, rfl, g.2 N hn hl⟩⟩
  · exact h1.elim
theorem givenArgs_spec (R : RelM w0 S nt (lookS slots) σ a w μ) {ex : Nat → Bool} : ∀ {xs : List Operand} {i : Nat} {Q : List XT × Lent → Prop}, (givenArgs real true ex (rho slots) i xs).run σ Q →
    ∃ ys le, Q (ys, le) ∧ GivenOk S σ μ w le fun N F => XTsRep w N ys (xs.map a.eval) F
  | [], i, Q, h => ⟨[], .none, h, .none fun _ => rfl⟩
  | x :: r, i, Q, h => by
    simp only [givenArgs, G.run_bind] at h
    obtain ⟨y, l1, h1, g1⟩ := givenArg_spec R h (rho_rep R x)
    obtain ⟨ys, l2, h2, g2⟩ := givenArgs_spec R h1
    exact ⟨_, _, h2, g1.both g2⟩

theorem inLabs_mem {ls : List (Nat × Nat)} {l : Nat} (h : inLabs ls l = false) : ∀ p ∈ ls, p.1 ≠ l := by
  induction ls with
  | nil => intro p hp; simp at hp
  | cons q r ih =>
    intro p hp e
    unfold inLabs at h
    cases hb : nbeq q.1 l with
    | true => simp [hb] at h
    | false =>
      simp only [hb, cond_false] at h
      rcases List.mem_cons.1 hp with rfl | hp
      · rw [e] at hb; simp at hb
      · exact ih h p hp e
theorem exOk_spec : ∀ {ex bo : List (Nat × Nat)}, exOk ex bo = true → (ex.map (·.1)).Nodup ∧ ∀ p ∈ ex, ∀ q ∈ bo, q.1 ≠ p.1
  | [], bo, _ => by simp
  | p :: r, bo, h => by
    unfold exOk at h
    cases h1 : inLabs r p.1 with
    | true => simp [h1] at h
    | false =>
      cases h2 : inLabs bo p.1 with
      | true => simp [h1, h2] at h
      | false =>
        simp only [h1, h2, cond_false] at h
        obtain ⟨h3, h4⟩ := exOk_spec h
        refine ⟨?_, fun q hq => ?_⟩
        · simp only [List.map_cons, List.nodup_cons, List.mem_map, not_exists, not_and]
          exact ⟨fun q hq => inLabs_mem h1 q hq, h3⟩
        · rcases List.mem_cons.1 hq with rfl | hq
          · exact inLabs_mem h2
          · exact h4 q hq
theorem blk_mem {ls : List (Nat × Nat)} {b : Nat} (h : b ∈ blk μ ls) : ∃ p ∈ ls, Has μ p.1 b := by
  simp only [blk, List.mem_flatMap] at h
  obtain ⟨p, hp, h⟩ := h
  exact ⟨p, hp, mem_blkP.1 h⟩
theorem blkP_nodup (R : RelM w0 S nt (lookS slots) σ a w μ) {l : Nat} (hl : live σ l) : (blkP (μ l) (μ.k l)).Nodup := by
  cases hn : isNest (σ l).2 with
  | false =>
    rw [R.kz l hl hn]
    cases hm : μ l <;> simp [blkP]
  | true =>
    have ob := R.objs l
    cases ho : (σ l).2 with
    | nest sz n row foc =>
      rw [ho] at ob
      rcases ob with ⟨h1, _, _, h2⟩ | ⟨b, base, cs, e, h1, _, _, _, h2, h3, _⟩
      · rw [h1, h2]; simp [blkP]
      · rw [h1]; simp [blkP, h2, h3]
    | _ => rw [ho] at hn; cases hn
theorem blk_nodup (R : RelM w0 S nt (lookS slots) σ a w μ) : ∀ {ls : List (Nat × Nat)}, (ls.map (·.1)).Nodup → (∀ p ∈ ls, Valid σ p) → (blk μ ls).Nodup
  | [], _, _ => by simp [blk]
  | p :: r, h, hv => by
    simp only [List.map_cons, List.nodup_cons] at h
    have ih := blk_nodup R h.2 fun q hq => hv q (by simp [hq])
    have e : blk μ (p :: r) = blk μ [p] ++ blk μ r := blk_append μ [p] r
    rw [e, blk_one, List.nodup_append]
    refine ⟨blkP_nodup R (hv p (by simp)).1, ih, fun b hb b' hb' eb => ?_⟩
    subst eb
    obtain ⟨p', hp', hm'⟩ := blk_mem hb'
    have := R.injH p.1 p'.1 b (hv p (by simp)).1 (hv p' (by simp [hp'])).1 (mem_blkP.1 hb) hm'
    exact h.1 (List.mem_map.2 ⟨p', hp', this.symm⟩)
end
end Go.Rk
