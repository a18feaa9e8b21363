/- One operation: if its abstract answer is found, the machine's own is what that says. -/
import Derived.Test.YtbkpfnddpnccmaaRk4
namespace Go.Rk

def putO (σ : Objs) : List (Nat × Nat × HO) → Objs
  | [] => σ
  | (j, x) :: r => updO (putO σ r) j x
theorem lookO_put (objs : List (Nat × Nat × HO)) : ∀ us : List (Nat × Nat × HO), lookO (us ++ objs) = putO (lookO objs) us
  | [] => rfl
  | (j, x) :: r => by
    funext l
    show (bif Nat.beq j l then x else lookO (r ++ objs) l) = _
    rw [lookO_put objs r]
    simp only [putO, updO]
    by_cases e : l = j
    · subst e; simp
    · have : Nat.beq j l = false := by cases h' : Nat.beq j l with | false => rfl | true => exact absurd (Nat.eq_of_beq_eq_true h').symm e
      simp [this, e]
theorem lookS_put (slots : List (Nat × AV)) (dst : Option Nat) (x : AV) : lookS (match dst with | some k => (k, x) :: slots | none => slots) = putS (lookS slots) dst x := by
  funext k
  cases dst with
  | none => simp [putS]
  | some d =>
    simp only [putS, Option.some.injEq]
    show (bif Nat.beq d k then x else lookS slots k) = _
    by_cases e : d = k
    · subst e; simp
    · have : Nat.beq d k = false := by cases h' : Nat.beq d k with | false => rfl | true => exact absurd (Nat.eq_of_beq_eq_true h') e
      simp [this, e]

def OpOut.run (M : FuncId → List XT → Out → Prop) (σ : Objs) (K : AV → List (Nat × Nat × HO) → Prop) : OpOut → Prop
  | .val x us => K x us
  | .call f args ret => ∃ out, M f args out ∧ (ret out).run σ fun r => K r.1 r.2

section
variable {P : Program} {T : TypeId → Option TI} {EX : FuncId → List Nat × Bool} {M : FuncId → List XT → Out → Prop}
variable {w0 : World} {S : Sets} {nt : Nat} {slots : List (Nat × AV)} {σ : Objs} {a : Act} {w : World} {μ : Place}
variable {o : Oper} {K : AV → List (Nat × Nat × HO) → Prop} {next : Act → World → Prop} {Q : Exit → Act → World → Prop}

def Cont (w0 : World) (S : Sets) (nt : Nat) (slots : List (Nat × AV)) (σ : Objs) (o : Oper) (K : AV → List (Nat × Nat × HO) → Prop) (a' : Act) (w' : World) : Prop :=
  ∃ x us, K x us ∧ ∃ μ', RelM w0 S nt (putS (lookS slots) o.dst x) (putO σ us) a' w' μ'

/-- What every operation is to show. -/
def Sound (P : Program) (w0 : World) (S : Sets) (nt : Nat) (slots : List (Nat × AV)) (σ : Objs) (a : Act) (w : World) (o : Oper) (K : AV → List (Nat × Nat × HO) → Prop) : Prop :=
  ∀ (next : Act → World → Prop) (Q : Exit → Act → World → Prop), (∀ a' w', Cont w0 S nt slots σ o K a' w' → next a' w') → o.wp P a w next Q

theorem sound_val (R : RelM w0 S nt (lookS slots) σ a w μ) (hd : ∀ d, o.dst = some d → d < nt) {x : AV} {v : Value} (hr : (execOp a.eval o).run P w = .ok (.value v) w)
    (hx : ARep σ μ w (Nof S σ μ w) x v) (hk : K x []) : Sound P w0 S nt slots σ a w o K := by
  intro next Q hn
  unfold Oper.wp
  rw [hr]
  exact hn _ _ ⟨x, [], hk, μ, R.put hd hx⟩
/-- With memory turned. -/
theorem sound_mem {σ' : Objs} {μ' : Place} {w' : World} (R : RelM w0 S nt (lookS slots) σ' a w' μ') (hd : ∀ d, o.dst = some d → d < nt) {x : AV} {v : Value} {us : List (Nat × Nat × HO)}
    (hr : (execOp a.eval o).run P w = .ok (.value v) w' ∨ ((execOp a.eval o).run P w = .ok .skip w' ∧ v = undef)) (hs : putO σ us = σ')
    (hx : ARep σ' μ' w' (Nof S σ' μ' w') x v) (hk : K x us) : Sound P w0 S nt slots σ a w o K := by
  intro next Q hn
  unfold Oper.wp
  rcases hr with hr | ⟨hr, rfl⟩ <;> rw [hr] <;> exact hn _ _ ⟨x, us, hk, μ', by rw [hs]; exact R.put hd hx⟩

theorem cellsv_run {x : AV} {v : Value} {N : Nat → Prop} {Q : List CV → Prop} (h : (cellsv real true x).run σ Q) (hx : ARep σ μ w N x v) : ∃ cs, CsRep σ μ w N cs v.cells.toList ∧ Q cs := by
  unfold cellsv at h
  split at h
  · exact h.elim
  · rename_i t c hc
    have hv : CRep σ μ w N c v := hx.1 (h.1 rfl)
    exact ⟨[c], by rw [noAgg (hv.one hc)]; exact ⟨hv, trivial⟩, h.2⟩
  · obtain ⟨cs, rfl, hcs⟩ := hx.1 (h.1 rfl)
    exact ⟨_, hcs, h.2⟩
  · exact h.elim
  · rename_i c hc
    have hv : CRep σ μ w N c v := hx
    exact ⟨[c], by rw [noAgg (hv.one hc)]; exact ⟨hv, trivial⟩, h⟩
  · obtain ⟨cs, rfl, hcs⟩ := hx
    exact ⟨_, hcs, h⟩
  · exact h.elim

theorem optv_run {α : Type} {x : Option α} {Q : α → Prop} (h : (optv x).run σ Q) : ∃ y, x = some y ∧ Q y := by
  cases x with
  | none => exact h.elim
  | some y => exact ⟨y, rfl, h⟩

theorem sound_move (R : RelM w0 S nt (lookS slots) σ a w μ) (hd : ∀ d, o.dst = some d → d < nt) {x : Operand} (ho : o.op = .move x ∨ o.op = .assign x)
    (h : (semOp real T EX o true (rho slots)).run σ (OpOut.run M σ K)) : Sound P w0 S nt slots σ a w o K := by
  have h' : ((opv real true (rho slots x)).bind fun y => G.ret (OpOut.val y [])).run σ (OpOut.run M σ K) := by rcases ho with ho | ho <;> simpa [semOp, ho] using h
  rw [G.run_bind] at h'
  obtain ⟨y, hy, hk⟩ := opv_run h' (rho_rep R x)
  refine sound_val R hd (v := a.eval x) ?_ hy hk
  rcases ho with ho | ho <;> simp [execOp, ho]

theorem sound_pick (R : RelM w0 S nt (lookS slots) σ a w μ) (hd : ∀ d, o.dst = some d → d < nt) {c x y : Operand} (ho : o.op = .pick c x y)
    (h : (semOp real T EX o true (rho slots)).run σ (OpOut.run M σ K)) : Sound P w0 S nt slots σ a w o K := by
  simp only [semOp, ho, G.run_bind] at h
  obtain ⟨t, ht, h⟩ := boolv_run h (fun _ => rho_rep R c)
  obtain ⟨p, hp, h⟩ := boolv_run h (fun _ => rho_rep R x)
  obtain ⟨q, hq, hk⟩ := boolv_run h (fun _ => rho_rep R y)
  have ht' := ht rfl
  refine sound_val R hd (v := .bool (bif t then p else q)) ?_ (x := .c (.d (.v (.bool (bif t then p else q))))) (DRep.v _ rfl) hk
  cases t with
  | true => have := hp rfl; simp [execOp, ho, ht', asBool, this]
  | false => have := hq rfl; simp [execOp, ho, ht', asBool, this]

theorem zeroValue_run (hT : TTok P T) {t : TypeId} {i : TI} (h : T t = some i) : ∃ z : Value, (∀ w, (zeroValue t).run P w = .ok z w) ∧ z.cells.toList = i.zero := by
  obtain ⟨inf, z, h1, h2, h3, h4, h5, _⟩ := hT.info t i h
  exact ⟨z, fun w => by simp [zeroValue, typeInfo, h1, h4], h5⟩
theorem zero_csRep (hT : TTok P T) {t : TypeId} {i : TI} {N : Nat → Prop} (h : T t = some i) : CsRep σ μ w N (i.zero.map fun x => CV.d (.v x)) i.zero := by
  obtain ⟨inf, z, _, _, _, _, _, _, h6⟩ := hT.info t i h
  exact csRep_consts h6
theorem sizeOf_run (hT : TTok P T) {t : TypeId} {i : TI} (h : T t = some i) (w : World) : (sizeOf t).run P w = .ok i.size w := by
  obtain ⟨inf, z, h1, h2, _⟩ := hT.info t i h
  simp [sizeOf, typeInfo, h1, h2]
theorem isAgg_run (hT : TTok P T) {t : TypeId} {i : TI} (h : T t = some i) (w : World) : (isAgg t).run P w = .ok (isAggT i.desc) w := by
  have := hT.desc t i h
  cases hd : i.desc <;> rw [hd] at this <;> simp [isAgg, underlying, this, isAggT]

theorem sound_alloc (hT : TTok P T) (R : RelM w0 S nt (lookS slots) σ a w μ) (hd : ∀ d, o.dst = some d → d < nt) {t : TypeId} (ho : o.op = .alloc t)
    (h : (semOp real T EX o true (rho slots)).run σ (OpOut.run M σ K)) : Sound P w0 S nt slots σ a w o K := by
  simp only [semOp, ho, G.run_bind] at h
  obtain ⟨i, hi, h⟩ := tiv_run h
  obtain ⟨z, hz, hzc⟩ := zeroValue_run hT hi
  have hk : K (.c (.bp (o.dst.getD 0 * 64) ((σ (o.dst.getD 0 * 64)).1 + 1) 0)) [(o.dst.getD 0 * 64, (σ (o.dst.getD 0 * 64)).1 + 1, .box (i.zero.map fun x => .d (.v x)))] := h
  generalize o.dst.getD 0 * 64 = L at *
  obtain ⟨st, R'⟩ := R.alloc L ((σ L).1 + 1) (by omega) (.box (i.zero.map fun x => .d (.v x))) z.cells t ⟨rfl, by rw [hzc]; exact zero_csRep hT hi⟩
  refine sound_mem R' hd (v := .pointer (some ⟨w.heap.size, 0, none⟩)) (.inl ?_) rfl ?_ hk
  · simp [execOp, ho, Instr.alloc, hz, newVar, newRow]
  · exact ⟨rfl, by simp, fun cells e => ⟨w.heap.size, by simp, rfl⟩⟩

theorem sound_box (R : RelM w0 S nt (lookS slots) σ a w μ) (hd : ∀ d, o.dst = some d → d < nt) {t : TypeId} {x : Operand} (ho : o.op = .box t x)
    (h : (semOp real T EX o true (rho slots)).run σ (OpOut.run M σ K)) : Sound P w0 S nt slots σ a w o K := by
  simp only [semOp, ho, G.run_bind] at h
  obtain ⟨cs, hc, h⟩ := cellsv_run h (rho_rep R x)
  have hk : K (.c (.bp (o.dst.getD 0 * 64) ((σ (o.dst.getD 0 * 64)).1 + 1) 0)) [(o.dst.getD 0 * 64, (σ (o.dst.getD 0 * 64)).1 + 1, .box cs)] := h
  generalize o.dst.getD 0 * 64 = L at *
  obtain ⟨st, R'⟩ := R.alloc L ((σ L).1 + 1) (by omega) (.box cs) (a.eval x).cells t ⟨rfl, hc⟩
  refine sound_mem R' hd (v := .pointer (some ⟨w.heap.size, 0, none⟩)) (.inl ?_) rfl ?_ hk
  · simp [execOp, ho, Instr.box, newVar, newRow]
  · exact ⟨rfl, by simp, fun cells e => ⟨w.heap.size, by simp, rfl⟩⟩
end
end Go.Rk
