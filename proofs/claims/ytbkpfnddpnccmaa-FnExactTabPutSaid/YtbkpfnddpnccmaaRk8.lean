/- Operations, more: arithmetic and tests, slices and their lengths. -/
import Derived.Test.YtbkpfnddpnccmaaRk7
namespace Go.Rk
section
variable {P : Program} {T : TypeId → Option TI} {EX : FuncId → List Nat × Bool} {M : FuncId → List XT → Out → Prop}
variable {w0 : World} {S : Sets} {nt : Nat} {slots : List (Nat × AV)} {σ : Objs} {a : Act} {w : World} {μ : Place}
variable {o : Oper} {K : AV → List (Nat × Nat × HO) → Prop} {next : Act → World → Prop} {Q : Exit → Act → World → Prop}

theorem bin_run {op : BinOp} {k : IntKind} {m n : Int} {v : Value} (h : binSem real op k m n = some v) (t : TypeId) (x y : Operand) (w : World) :
    ((do eqGuard op t x y (.int k m) (.int k n); binOp op t (.int k m) (.int k n)) : Sem Value).run P w = .ok v w ∧ v.oneCell' = true := by
  cases op <;> simp only [binSem] at h <;> first
    | (simp at h; done)
    | (injection h with h; subst h; exact ⟨by simp [eqGuard, binOp, Op.intArith, Op.intCmp, Op.intBits, real], rfl⟩)
theorem div_run {op : BinOp} {k : IntKind} {m n : Int} {v : Value} (hn : n ≠ 0) (h : divSem real op k m n = some v) (t : TypeId) (x y : Operand) (w : World) :
    ((do eqGuard op t x y (.int k m) (.int k n); binOp op t (.int k m) (.int k n)) : Sem Value).run P w = .ok v w ∧ v.oneCell' = true := by
  cases op <;> simp only [divSem] at h <;> first
    | (simp at h; done)
    | (injection h with h; subst h; exact ⟨by simp [eqGuard, binOp, Op.intDiv, real, hn], rfl⟩)

theorem eqCells_data : ∀ {xs ys : List CV} {r : Bool}, eqCells real xs ys = some r → xs.length = ys.length ∧ (∀ (j : Nat) x, xs[j]? = some x → ∃ u, x = .d (.v u)) ∧ ∀ (j : Nat) x, ys[j]? = some x → ∃ u, x = .d (.v u)
  | [], [], _, _ => by simp
  | [], _ :: _, _, h => by simp [eqCells] at h
  | x :: r, ys, q, h => by
    unfold eqCells at h
    split at h
    · simp_all
    · rename_i k m r1 k' n s1 e1
      simp only [List.cons.injEq] at e1
      obtain ⟨rfl, rfl⟩ := e1
      split at h
      · simp only [Option.map_eq_some_iff] at h
        obtain ⟨q', h', _⟩ := h
        obtain ⟨h1, h2, h3⟩ := eqCells_data h'
        refine ⟨by simp [h1], fun j x hj => ?_, fun j x hj => ?_⟩
        · cases j with
          | zero => simp at hj; exact ⟨_, hj.symm⟩
          | succ j => exact h2 j x (by simpa using hj)
        · cases j with
          | zero => simp at hj; exact ⟨_, hj.symm⟩
          | succ j => exact h3 j x (by simpa using hj)
      · simp at h
    · rename_i m r1 n s1 e1
      simp only [List.cons.injEq] at e1
      obtain ⟨rfl, rfl⟩ := e1
      simp only [Option.map_eq_some_iff] at h
      obtain ⟨q', h', _⟩ := h
      obtain ⟨h1, h2, h3⟩ := eqCells_data h'
      refine ⟨by simp [h1], fun j x hj => ?_, fun j x hj => ?_⟩
      · cases j with
        | zero => simp at hj; exact ⟨_, hj.symm⟩
        | succ j => exact h2 j x (by simpa using hj)
      · cases j with
        | zero => simp at hj; exact ⟨_, hj.symm⟩
        | succ j => exact h3 j x (by simpa using hj)
    · simp at h

theorem eq_run (hT : TTok P T) {t : TypeId} {i : TI} (hi : T t = some i) {xs ys : List CV} (hq' : (i.eqk && kindsB xs i.zero) = true) {r : Bool} (h : eqCells real xs ys = some r) {us vs : Array Value} {N : Nat → Prop}
    (hx : CsRep σ μ w N xs us.toList) (hy : CsRep σ μ w N ys vs.toList) (x y : Operand) (w : World) :
    ((do eqGuard .eql t x y (.agg us) (.agg vs); binOp .eql t (.agg us) (.agg vs)) : Sem Value).run P w = .ok (.bool r) w ∧
    ((do eqGuard .neq t x y (.agg us) (.agg vs); binOp .neq t (.agg us) (.agg vs)) : Sem Value).run P w = .ok (.bool (!r)) w := by
  obtain ⟨h1, h2, h3⟩ := eqCells_data h
  have hv : ∀ {w' : World} {zs : List CV} {ws : Array Value}, CsRep σ μ w' N zs ws.toList → ∀ (j : Nat) x, zs[j]? = some (CV.d (.v x)) → ws[j]? = some x := by
    intro w' zs ws hz j x hj
    obtain ⟨u, hu, hc⟩ := hz.get hj
    cases hc
    simpa using hu
  simp only [Bool.and_eq_true] at hq'
  obtain ⟨hq, hsz⟩ := hq'
  obtain ⟨g1, g2, g3⟩ := hT.eq t i hi hq xs ys r hsz h us vs hx.length hy.length (hv hx) (hv hy) w
  have e1 : eqGuard .eql t x y (.agg us) (.agg vs) = eqGuard .eql t (.tmp 0) (.tmp 0) (.agg us) (.agg vs) := rfl
  have e2 : eqGuard .neq t x y (.agg us) (.agg vs) = eqGuard .neq t (.tmp 0) (.tmp 0) (.agg us) (.agg vs) := rfl
  exact ⟨by simp [e1, g1, binOp, g3], by simp [e2, g2, binOp, g3]⟩

theorem equal_bool {t : TypeId} (hu : P.underlying t = some .bool) (m n : Bool) (w : World) : (Op.equal t (.bool m) (.bool n)).run P w = .ok (m == n) w := by
  have h : ∀ d, (Op.equalIn (d + 1) t (.bool m) (.bool n)).run P w = .ok (m == n) w := fun d => by
    unfold Op.equalIn
    simp [underlying, hu]
  exact h 9999
theorem scal {N : Nat → Prop} {x v : Value} (h : ARep σ μ w N (.c (.d (.v x))) v) : v = x := by cases h; rfl
theorem sound_binOp (hT : TTok P T) (R : RelM w0 S nt (lookS slots) σ a w μ) (hd : ∀ d, o.dst = some d → d < nt) {op : BinOp} {t yt : TypeId} {x y : Operand} (ho : o.op = .binOp op t x y yt)
    (h : (semOp real T EX o true (rho slots)).run σ (OpOut.run M σ K)) : Sound P w0 S nt slots σ a w o K := by
  simp only [semOp, ho, G.run_bind] at h
  obtain ⟨p, hp, h1⟩ := opv_run h (rho_rep R x)
  clear h
  obtain ⟨q, hq, h⟩ := opv_run h1 (rho_rep R y)
  clear h1
  have hex : ∀ v, ((do eqGuard op t x y (a.eval x) (a.eval y); binOp op t (a.eval x) (a.eval y)) : Sem Value).run P w = .ok v w → (execOp a.eval o).run P w = .ok (.value v) w := by
    intro v hv
    simp only [execOp, ho]
    simp only [Sem.run_bind] at hv ⊢
    rw [hv]; rfl
  split at h
  · rename_i k m k' n
    have ex := scal hp
    have ey := scal hq
    split at h
    · rename_i hk; subst hk
      split at h
      · rename_i v hv
        obtain ⟨h1, h2⟩ := bin_run (P := P) hv t x y w
        exact sound_val R hd (hex v (by rw [ex, ey]; exact h1)) (x := .c (.d (.v v))) (DRep.v _ h2) h
      · split at h
        · rename_i v hv
          obtain ⟨hn, h⟩ := h
          obtain ⟨h1, h2⟩ := div_run (P := P) (hn rfl) hv t x y w
          exact sound_val R hd (hex v (by rw [ex, ey]; exact h1)) (x := .c (.d (.v v))) (DRep.v _ h2) h
        · exact h.elim
    · exact h.elim
  · rename_i m n
    have ex := scal hp
    have ey := scal hq
    rw [G.run_bind] at h
    obtain ⟨i, hi, h1⟩ := tiv_run h
    clear h
    have hu := hT.desc t i hi
    split at h1
    · rename_i hdsc
      rw [hdsc] at hu
      exact sound_val R hd (hex (.bool (m == n)) (by rw [ex, ey]; simp [eqGuard, binOp, equal_bool hu])) (x := .c (.d (.v (.bool (m == n))))) (DRep.v _ rfl) h1
    · rename_i hdsc
      rw [hdsc] at hu
      exact sound_val R hd (hex (.bool (!(m == n))) (by rw [ex, ey]; simp [eqGuard, binOp, equal_bool hu])) (x := .c (.d (.v (.bool (!(m == n)))))) (DRep.v _ rfl) h1
    · exact h1.elim
  · rename_i xs ys
    rw [G.run_bind] at h
    obtain ⟨i, hi, h1⟩ := tiv_run h
    clear h
    split at h1
    · rename_i hqk
      rw [G.run_bind] at h1
      obtain ⟨r, hr, h⟩ := optv_run h1
      clear h1
      obtain ⟨us, ex, hx⟩ := hp
      obtain ⟨vs, ey, hy⟩ := hq
      obtain ⟨h1, h2⟩ := eq_run (w := w) hT hi hqk hr hx hy x y w
      split at h
      · exact sound_val R hd (hex (.bool r) (by rw [ex, ey]; exact h1)) (x := .c (.d (.v (.bool r)))) (DRep.v _ rfl) h
      · exact sound_val R hd (hex (.bool (!r)) (by rw [ex, ey]; exact h2)) (x := .c (.d (.v (.bool (!r))))) (DRep.v _ rfl) h
      · exact h.elim
    · exact h1.elim
  · exact h.elim

/-! ### Rows to be read -/
/-- A slice's rows as they lie: where, and what. -/
def RowsAt (w : World) (N : Nat → Prop) (sz n : Nat) (row : Nat → List DV) (v : Value) : Prop :=
  (∀ i, i < n → (row i).length = sz) ∧ ((n = 0 ∧ ∃ ad cap, v = .slice ad 0 cap) ∨ ∃ b off cap cs e fr, v = .slice (some ⟨b, off, none⟩) n cap ∧ w.heap[b]? = some (.cells cs e fr) ∧
    ∀ i j x, i < n → (row i)[j]? = some x → ∃ u, cs[off + i * sz + j]? = some u ∧ DRep w N x u)

theorem rowsv_run {e : TI} (R : RelM w0 S nt (lookS slots) σ a w μ) {x : CV} {v : Value} (hx : CRep σ μ w (Nof S σ μ w) x v) {Q : Nat × (Nat → List DV) → Prop} (h : (rowsv real e x).run σ Q) :
    ∃ n row, RowsAt w (Nof S σ μ w) e.size n row v ∧ Q (n, row) := by
  unfold rowsv at h
  split at h
  · rename_i sz n row
    cases hsz : Nat.beq sz e.size with
    | false => rw [hsz] at h; exact h.elim
    | true =>
      rw [hsz] at h
      have hsz := Nat.eq_of_beq_eq_true hsz
      subst hsz
      refine ⟨n, row, ?_, h⟩
      cases hx with
      | nil => exact ⟨fun i hi => by omega, .inl ⟨rfl, none, 0, rfl⟩⟩
      | empty _ _ ad => exact ⟨fun i hi => by omega, .inl ⟨rfl, some ad, 0, rfl⟩⟩
      | sl _ _ _ b off cap cs e' fr u hN hb hc hs hr hu hd =>
        exact ⟨hr, .inr ⟨b, off, cap, cs, e', fr, rfl, hb, fun i j x hi hj => ⟨u i j, hu i j x hi hj, hd i j x hi hj⟩⟩⟩
  · cases hx
    exact ⟨0, _, ⟨fun i hi => by omega, .inl ⟨rfl, none, 0, rfl⟩⟩, h⟩
  · obtain ⟨ad, rfl⟩ := hx
    exact ⟨0, _, ⟨fun i hi => by omega, .inl ⟨rfl, ad, 0, rfl⟩⟩, h⟩
  · rename_i l off len ver
    simp only [G.run] at h
    split at h
    · rename_i ver' sz n row hσ
      cases hsz : Nat.beq sz e.size with
      | false => rw [hsz] at h; exact h.elim
      | true =>
        rw [hsz] at h
        obtain ⟨hv, h⟩ := h
        have hv : ver = ver' := hv
        subst hv
        have hsz := Nat.eq_of_beq_eq_true hsz
        subst hsz
        refine ⟨len, _, ?_, h⟩
        obtain ⟨_, _, h3⟩ := hx
        obtain ⟨h4, h5⟩ := h3 _ n row hσ
        have ob := R.objs l
        rw [hσ] at ob
        obtain ⟨hr, ob⟩ := ob
        refine ⟨fun i hi => hr (off + i) (by omega), ?_⟩
        rcases h5 with ⟨_, rfl, ad, rfl⟩ | ⟨b, base, o', cap, cs, e', hμ, rfl, hcap, ho', hb, _⟩
        · exact .inl ⟨rfl, ad, 0, rfl⟩
        · rcases ob with ⟨h1, _⟩ | ⟨b', base', cs1, e1, hμ', hb1, hsz0, hcs⟩
          · rw [hμ] at h1; simp at h1
          rw [hμ] at hμ'; simp at hμ'; obtain ⟨rfl, rfl⟩ := hμ'
          by_cases hl : len = 0
          · subst hl; exact .inl ⟨rfl, _, cap, rfl⟩
          · refine .inr ⟨b, o', cap, cs1, e1, (0, 0), rfl, hb1, fun i j x hi hj => ?_⟩
            obtain ⟨u, hu, hd⟩ := hcs (off + i) j x (by omega) hj
            exact ⟨u, by rw [ho' (.inl (by omega)), ← hu, Nat.add_mul]; congr 1; omega, hd⟩
    · exact h.elim
  · exact h.elim

theorem lenv_run {x : CV} {v : Value} {N : Nat → Prop} (hx : CRep σ μ w N x v) {Q : Nat → Prop} (h : (lenv real x).run σ Q) : ∃ n ad cap, v = .slice ad n cap ∧ Q n := by
  unfold lenv at h
  split at h
  · rename_i sz n row
    cases hx with
    | nil => exact ⟨0, none, 0, rfl, h⟩
    | empty _ _ ad => exact ⟨0, some ad, 0, rfl, h⟩
    | sl _ _ _ b off cap cs e' fr u => exact ⟨n, _, cap, rfl, h⟩
  · cases hx; exact ⟨0, none, 0, rfl, h⟩
  · obtain ⟨ad, rfl⟩ := hx; exact ⟨0, ad, 0, rfl, h⟩
  · rename_i l off len ver
    simp only [G.run] at h
    split at h
    · rename_i ver' sz n row hσ
      obtain ⟨hv, h⟩ := h
      have hv : ver = ver' := hv
      subst hv
      obtain ⟨_, h5⟩ := hx.2.2 sz n row hσ
      rcases h5 with ⟨_, rfl, ad, rfl⟩ | ⟨b, base, o', cap, cs, e', _, rfl, _⟩
      · exact ⟨0, ad, 0, rfl, h⟩
      · exact ⟨len, _, cap, rfl, h⟩
    · exact h.elim
  · exact h.elim

theorem sound_len (hT : TTok P T) (R : RelM w0 S nt (lookS slots) σ a w μ) (hd : ∀ d, o.dst = some d → d < nt) {args : Array Operand} {ts : Array TypeId} (ho : o.op = .call ⟨.builtin .len, args, ts⟩)
    (h : (semOp real T EX o true (rho slots)).run σ (OpOut.run M σ K)) : Sound P w0 S nt slots σ a w o K := by
  simp only [semOp, ho] at h
  split at h
  · rename_i x t hargs hts
    rw [G.run_bind] at h
    obtain ⟨i, hi, h⟩ := tiv_run h
    split at h
    · rename_i e hdsc
      rw [G.run_bind] at h
      obtain ⟨c, hc, h⟩ := cellv_run h (rho_rep R x)
      rw [G.run_bind] at h
      obtain ⟨n, ad, cap, he, h⟩ := lenv_run hc h
      have hu := hT.desc t i hi
      rw [hdsc] at hu
      refine sound_val R hd (v := .int .i64 n) ?_ (x := .c (.d (.v (.int .i64 n)))) (DRep.v _ rfl) h
      have ha : args = #[x] := by apply Array.ext'; simpa using hargs
      subst ha
      simp [execOp, ho, resolve, invoke, builtin, Builtin.len_, hts, underlying, hu, he, goInt]
    · exact h.elim
  · exact h.elim

theorem sound_min (R : RelM w0 S nt (lookS slots) σ a w μ) (hd : ∀ d, o.dst = some d → d < nt) {args : Array Operand} {ts : Array TypeId} (ho : o.op = .call ⟨.builtin .min, args, ts⟩)
    (h : (semOp real T EX o true (rho slots)).run σ (OpOut.run M σ K)) : Sound P w0 S nt slots σ a w o K := by
  simp only [semOp, ho] at h
  split at h
  · rename_i x y hargs
    rw [G.run_bind] at h
    obtain ⟨k, m, ex, h⟩ := intv_run h (rho_rep R x)
    rw [G.run_bind] at h
    obtain ⟨k', n, ey, h⟩ := intv_run h (rho_rep R y)
    refine sound_val R hd (v := .int k (if n < m then n else m)) ?_ (x := .c (.d (.v (.int k (if n < m then n else m))))) (DRep.v _ rfl) h
    have ha : args = #[x, y] := by apply Array.ext'; simpa using hargs
    subst ha
    simp [execOp, ho, resolve, invoke, builtin, Builtin.min_, Builtin.min2, ex, ey]
  · exact h.elim
theorem sound_max (R : RelM w0 S nt (lookS slots) σ a w μ) (hd : ∀ d, o.dst = some d → d < nt) {args : Array Operand} {ts : Array TypeId} (ho : o.op = .call ⟨.builtin .max, args, ts⟩)
    (h : (semOp real T EX o true (rho slots)).run σ (OpOut.run M σ K)) : Sound P w0 S nt slots σ a w o K := by
  simp only [semOp, ho] at h
  split at h
  · rename_i x y hargs
    rw [G.run_bind] at h
    obtain ⟨k, m, ex, h⟩ := intv_run h (rho_rep R x)
    rw [G.run_bind] at h
    obtain ⟨k', n, ey, h⟩ := intv_run h (rho_rep R y)
    refine sound_val R hd (v := .int k (if n > m then n else m)) ?_ (x := .c (.d (.v (.int k (if n > m then n else m))))) (DRep.v _ rfl) h
    have ha : args = #[x, y] := by apply Array.ext'; simpa using hargs
    subst ha
    simp [execOp, ho, resolve, invoke, builtin, Builtin.max_, Builtin.max2, ex, ey]
  · exact h.elim
end
end Go.Rk
