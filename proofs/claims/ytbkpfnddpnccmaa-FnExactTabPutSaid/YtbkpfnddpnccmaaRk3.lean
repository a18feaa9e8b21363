/- How the representation goes on: a temporary filled, a new block, a block written. -/
import Derived.Test.YtbkpfnddpnccmaaRk2
import Derived.Laws.CopyRow
import Derived.Laws.Append
namespace Go.Rk

theorem CRep.one {σ : Objs} {μ : Place} {w : World} {N : Nat → Prop} {x : CV} {v : Value} (hj : x ≠ .junk) (hx : CRep σ μ w N x v) : v.oneCell' = true := by
  cases x with
  | junk => exact (hj rfl).elim
  | d x => cases hx <;> first | assumption | rfl
  | zc => obtain ⟨a, rfl⟩ := hx; rfl
  | own l off len ver => exact hx.1
  | bp l ver off => exact hx.1
  | op l ver row off => exact hx.1
  | clo f caps => obtain ⟨cs, rfl, _⟩ := hx; rfl

def updO (σ : Objs) (l : Nat) (x : Nat × HO) : Objs := fun k => if k = l then x else σ k
def updP (μ : Place) (l : Nat) (x : Option (Nat × Nat)) : Place := fun k => if k = l then x else μ k
def putS (sl : Nat → AV) (dst : Option Nat) (x : AV) : Nat → AV := fun k => if dst = some k then x else sl k
@[simp] theorem updO_same (σ : Objs) (l : Nat) (x : Nat × HO) : updO σ l x l = x := by simp [updO]
theorem updO_ne (σ : Objs) {l k : Nat} (x : Nat × HO) (h : k ≠ l) : updO σ l x k = σ k := by simp [updO, h]
@[simp] theorem updP_same (μ : Place) (l : Nat) (x : Option (Nat × Nat)) : updP μ l x l = x := by simp [updP]
theorem updP_ne (μ : Place) {l k : Nat} (x : Option (Nat × Nat)) (h : k ≠ l) : updP μ l x k = μ k := by simp [updP, h]

section
variable {w0 : World} {S : Sets} {nt : Nat} {sl : Nat → AV} {σ : Objs} {a : Act} {w : World} {μ : Place}

theorem getD_put {a : Act} {dst : Option Nat} {v : Value} {k : Nat} (h : ∀ d, dst = some d → d < a.tmps.size) :
    (a.put dst v).tmps.getD k undef = if dst = some k then v else a.tmps.getD k undef := by
  cases dst with
  | none => simp [Act.put]
  | some d =>
    have hd := h d rfl
    simp only [Act.put, Array.getD_eq_getD_getElem?, Array.getElem?_setIfInBounds, Option.some.injEq]
    by_cases e : d = k
    · subst e; simp [hd]
    · simp [e]

theorem RelM.put (R : RelM w0 S nt sl σ a w μ) {dst : Option Nat} (hd : ∀ d, dst = some d → d < nt) {x : AV} {v : Value} (hx : ARep σ μ w (Nof S σ μ w) x v) :
    RelM w0 S nt (putS sl dst x) σ (a.put dst v) w μ := by
  refine ⟨?_, ?_, R.env, R.grow, R.reach, R.frame, R.shape, R.own, R.inj, R.ghost, R.ghl, R.objs, fun k => ?_⟩
  · rw [← R.size]; cases dst <;> simp [Act.put]
  · rw [← R.defs]; cases dst <;> simp [Act.put]
  · rw [getD_put (fun d e => by rw [R.size]; exact hd d e)]
    unfold putS
    split
    · exact hx
    · exact R.slots k

/-- The temporaries aside: what turns in memory is carried. -/
theorem RelM.carry (R : RelM w0 S nt sl σ a w μ) {σ' : Objs} {μ' : Place} {w' : World} (h : Step S σ σ' μ μ' w w')
    (env : w'.os = w.os ∧ w'.output = w.output ∧ w'.tape = w.tape)
    (frame : ∀ b, b < w0.heap.size → ¬ S b → w'.heap[b]? = w.heap[b]?)
    (shape : ∀ (b : Nat) cs e fr, w.heap[b]? = some (Obj.cells cs e fr) → ∃ cs', w'.heap[b]? = some (Obj.cells cs' e fr) ∧ cs'.size = cs.size)
    (own : ∀ l b base, live σ' l → μ' l = some (b, base) → b < w'.heap.size ∧ (w0.heap.size ≤ b ∨ S b))
    (inj : ∀ l l' b base base', live σ' l → live σ' l' → μ' l = some (b, base) → μ' l' = some (b, base') → l = l')
    (objs : ∀ l, (σ' l = σ l ∧ μ' l = μ l ∧ ∀ b base, live σ l → μ l = some (b, base) → w'.heap[b]? = w.heap[b]?) ∨ ObjRep σ' μ' w' (Nof S σ' μ' w') l (σ' l).2) :
    RelM w0 S nt sl σ' a w' μ' := by
  refine ⟨R.size, R.defs, ?_, Nat.le_trans R.grow h.size, R.reach, fun b hb hs => (frame b hb hs).trans (R.frame b hb hs), fun b cs e fr hb => ?_, own, inj, fun p hp => (R.ghost p hp).step h, R.ghl, fun l => ?_, fun k => (R.slots k).step h⟩
  · obtain ⟨e1, e2, e3⟩ := env
    obtain ⟨f1, f2, f3⟩ := R.env
    exact ⟨e1.trans f1, e2.trans f2, e3.trans f3⟩
  · obtain ⟨cs1, h1, h2⟩ := R.shape b cs e fr hb
    obtain ⟨cs2, h3, h4⟩ := shape b cs1 e fr h1
    exact ⟨cs2, h3, h4.trans h2⟩
  · rcases objs l with ⟨h1, h2, h3⟩ | h1
    · rw [h1]
      by_cases hl : live σ l
      · exact (R.objs l).step h h2 (fun b base => h3 b base hl)
      · have : (σ l).2 = .dead := by simpa [live] using hl
        rw [this]; trivial
    · exact h1

theorem heap_alloc_lt (w : World) (o : Obj) {b : Nat} (h : b < w.heap.size) : (w.alloc o).heap[b]? = w.heap[b]? := by
  show (w.heap.push o)[b]? = _
  rw [Array.getElem?_push, if_neg (by omega)]
theorem heap_alloc_new (w : World) (o : Obj) : (w.alloc o).heap[w.heap.size]? = some o := by
  show (w.heap.push o)[w.heap.size]? = _
  simp
theorem size_alloc' (w : World) (o : Obj) : (w.alloc o).heap.size = w.heap.size + 1 := by simp

theorem Nof_alloc {o : Obj} {L : Nat} {x : Nat × HO} {base : Nat} {b : Nat} (h : Nof S σ μ w b) : Nof S (updO σ L x) (updP μ L (some (w.heap.size, base))) (w.alloc o) b := by
  refine ⟨by rw [size_alloc']; have := h.1; omega, h.2.1, fun l base' hl => ?_⟩
  by_cases e : l = L
  · subst e; simp; intro h1; have := h.1; omega
  · rw [updP_ne _ _ e]; exact h.2.2 l base' (by simpa [live, updO_ne _ _ e] using hl)

/-- What an own thing's cells are to be, before it lies. -/
def Content (σ : Objs) (μ : Place) (w : World) (N : Nat → Prop) (base : Nat) (cs : Array Value) : HO → Prop
  | .dead => False
  | .box cells => base = 0 ∧ CsRep σ μ w N cells cs.toList
  | .arr sz n row => (∀ i, i < n → (row i).length = sz) ∧ base + n * sz ≤ cs.size ∧
      ∀ i j x, i < n → (row i)[j]? = some x → ∃ u, cs[base + i * sz + j]? = some u ∧ DRep w N x u

theorem Content.obj {σ' : Objs} {μ' : Place} {w' : World} (h : Step S σ σ' μ μ' w w') {base b L : Nat} {cs : Array Value} {e : TypeId} {o : HO} (hm : μ' L = some (b, base))
    (hb : w'.heap[b]? = some (.cells cs e (0, 0))) (hc : Content σ μ w (Nof S σ μ w) base cs o) : ObjRep σ' μ' w' (Nof S σ' μ' w') L o := by
  cases o with
  | dead => trivial
  | box cells => obtain ⟨rfl, hc⟩ := hc; exact ⟨b, cs, e, hm, hb, hc.step h⟩
  | arr sz n row =>
    obtain ⟨h1, h2, h3⟩ := hc
    refine ⟨h1, .inr ⟨b, base, cs, e, hm, hb, h2, fun i j x hi hj => ?_⟩⟩
    obtain ⟨u, hu, hd⟩ := h3 i j x hi hj
    exact ⟨u, hu, DRep.carry h.old hd⟩

/-- A new block under a label. -/
theorem RelM.alloc (R : RelM w0 S nt sl σ a w μ) (L : Nat) (ver : Nat) (hv : (σ L).1 < ver) (o : HO) (cs : Array Value) (e : TypeId) (hc : Content σ μ w (Nof S σ μ w) 0 cs o) :
    Step S σ (updO σ L (ver, o)) μ (updP μ L (some (w.heap.size, 0))) w (w.alloc (.cells cs e)) ∧
    RelM w0 S nt sl (updO σ L (ver, o)) a (w.alloc (.cells cs e)) (updP μ L (some (w.heap.size, 0))) := by
  have hst : Step S σ (updO σ L (ver, o)) μ (updP μ L (some (w.heap.size, 0))) w (w.alloc (.cells cs e)) := by
    refine ⟨by rw [size_alloc']; omega, fun b hb => ⟨heap_alloc_lt _ _ hb.1, Nof_alloc hb⟩, fun l => ?_⟩
    by_cases el : l = L
    · subst el; left; simpa using hv
    · right
      rw [updO_ne _ _ el, updP_ne _ _ el]
      refine ⟨rfl, rfl, fun c hc => ⟨c, hc⟩, fun sz n row hr => ⟨n, row, hr, Nat.le_refl _⟩, fun b base cs' e' hm _ hb => ⟨cs', ?_, rfl⟩⟩
      rw [heap_alloc_lt _ _ (Array.getElem?_eq_some_iff.1 hb).1]; exact hb
  refine ⟨hst, R.carry hst ⟨rfl, rfl, rfl⟩ (fun b hb _ => heap_alloc_lt _ _ (Nat.lt_of_lt_of_le hb R.grow)) (fun b cs e fr hb => ⟨cs, by rw [heap_alloc_lt _ _ (Array.getElem?_eq_some_iff.1 hb).1]; exact hb, rfl⟩) (fun l b base hl hm => ?_) (fun l l' b base base' hl hl' hm hm' => ?_) (fun l => ?_)⟩
  · by_cases el : l = L
    · subst el; simp at hm; obtain ⟨rfl, rfl⟩ := hm
      exact ⟨by rw [size_alloc']; omega, .inl R.grow⟩
    · rw [updP_ne _ _ el] at hm
      have := R.own l b base (by simpa [live, updO_ne _ _ el] using hl) hm
      exact ⟨by rw [size_alloc']; omega, this.2⟩
  · by_cases el : l = L <;> by_cases el' : l' = L
    · rw [el, el']
    · subst el; simp at hm; rw [updP_ne _ _ el'] at hm'
      have := R.own l' b base' (by simpa [live, updO_ne _ _ el'] using hl') hm'
      omega
    · subst el'; simp at hm'; rw [updP_ne _ _ el] at hm
      have := R.own l b base (by simpa [live, updO_ne _ _ el] using hl) hm
      omega
    · rw [updP_ne _ _ el] at hm; rw [updP_ne _ _ el'] at hm'
      exact R.inj l l' b base base' (by simpa [live, updO_ne _ _ el] using hl) (by simpa [live, updO_ne _ _ el'] using hl') hm hm'
  · by_cases el : l = L
    · subst el; right
      simp only [updO_same]
      exact hc.obj hst (by simp) (heap_alloc_new _ _)
    · left
      refine ⟨updO_ne _ _ el, updP_ne _ _ el, fun b base hl hm => heap_alloc_lt _ _ (R.own l b base hl hm).1⟩

/-- A new block that nobody names. -/
theorem RelM.garb (R : RelM w0 S nt sl σ a w μ) (o : Obj) : RelM w0 S nt sl σ a (w.alloc o) μ := by
  have hst : Step S σ σ μ μ w (w.alloc o) := by
    refine ⟨by rw [size_alloc']; omega, fun b hb => ⟨heap_alloc_lt _ _ hb.1, by rw [size_alloc']; have := hb.1; omega, hb.2⟩, fun l => .inr ⟨rfl, rfl, fun c hc => ⟨c, hc⟩, fun sz n row hr => ⟨n, row, hr, Nat.le_refl _⟩, fun b base cs e _ _ hb => ⟨cs, ?_, rfl⟩⟩⟩
    rw [heap_alloc_lt _ _ (Array.getElem?_eq_some_iff.1 hb).1]; exact hb
  exact R.carry hst ⟨rfl, rfl, rfl⟩ (fun b hb _ => heap_alloc_lt _ _ (Nat.lt_of_lt_of_le hb R.grow)) (fun b cs e fr hb => ⟨cs, by rw [heap_alloc_lt _ _ (Array.getElem?_eq_some_iff.1 hb).1]; exact hb, rfl⟩)
    (fun l b base hl hm => by have := R.own l b base hl hm; exact ⟨by rw [size_alloc']; omega, this.2⟩) R.inj (fun l => .inl ⟨rfl, rfl, fun b base hl hm => heap_alloc_lt _ _ (R.own l b base hl hm).1⟩)

/-- A label that bears an empty row without a block, or nothing any more. -/
theorem RelM.bare (R : RelM w0 S nt sl σ a w μ) (L : Nat) (ver : Nat) (hv : (σ L).1 < ver) (o : HO) (ho : o = .dead ∨ ∃ sz row, o = .arr sz 0 row) :
    Step S σ (updO σ L (ver, o)) μ (updP μ L none) w w ∧ RelM w0 S nt sl (updO σ L (ver, o)) a w (updP μ L none) := by
  have hst : Step S σ (updO σ L (ver, o)) μ (updP μ L none) w w := by
    refine ⟨Nat.le_refl _, fun b hb => ⟨rfl, hb.1, hb.2.1, fun l base hl => ?_⟩, fun l => ?_⟩
    · by_cases el : l = L
      · subst el; simp
      · rw [updP_ne _ _ el]; exact hb.2.2 l base (by simpa [live, updO_ne _ _ el] using hl)
    · by_cases el : l = L
      · subst el; left; simpa using hv
      · right
        rw [updO_ne _ _ el, updP_ne _ _ el]
        exact ⟨rfl, rfl, fun c hc => ⟨c, hc⟩, fun sz n row hr => ⟨n, row, hr, Nat.le_refl _⟩, fun b base cs' e' hm _ hb => ⟨cs', hb, rfl⟩⟩
  refine ⟨hst, R.carry hst ⟨rfl, rfl, rfl⟩ (fun _ _ _ => rfl) (fun b cs e fr hb => ⟨cs, hb, rfl⟩) (fun l b base hl hm => ?_) (fun l l' b base base' hl hl' hm hm' => ?_) (fun l => ?_)⟩
  · by_cases el : l = L
    · subst el; simp at hm
    · rw [updP_ne _ _ el] at hm
      exact R.own l b base (by simpa [live, updO_ne _ _ el] using hl) hm
  · by_cases el : l = L
    · subst el; simp at hm
    · by_cases el' : l' = L
      · subst el'; simp at hm'
      · rw [updP_ne _ _ el] at hm; rw [updP_ne _ _ el'] at hm'
        exact R.inj l l' b base base' (by simpa [live, updO_ne _ _ el] using hl) (by simpa [live, updO_ne _ _ el'] using hl') hm hm'
  · by_cases el : l = L
    · subst el; right
      simp only [updO_same]
      rcases ho with rfl | ⟨sz, row, rfl⟩
      · trivial
      · exact ⟨fun i hi => by omega, .inl ⟨by simp, rfl⟩⟩
    · left
      exact ⟨updO_ne _ _ el, updP_ne _ _ el, fun b base hl hm => rfl⟩

/-- An own block written: its label says what it holds now. -/
theorem RelM.write (R : RelM w0 S nt sl σ a w μ) (L ver : Nat) (o : HO) (hl : live σ L) (ho : o ≠ .dead)
    (hv : (σ L).1 < ver ∨ ((σ L).1 = ver ∧ (∀ cells, o = .box cells → ∃ cells', (σ L).2 = .box cells') ∧ ∀ sz n row, o = .arr sz n row → ∃ n' row', (σ L).2 = .arr sz n' row' ∧ n' ≤ n))
    {b base : Nat} (hm : μ L = some (b, base)) {cs cs' : Array Value} {e : TypeId} (hb : w.heap[b]? = some (.cells cs e (0, 0))) (hsz : cs'.size = cs.size)
    (hc : Content σ μ w (Nof S σ μ w) base cs' o) :
    Step S σ (updO σ L (ver, o)) μ μ w (w.setRow b cs') ∧ RelM w0 S nt sl (updO σ L (ver, o)) a (w.setRow b cs') μ := by
  have hlive : ∀ l, live (updO σ L (ver, o)) l ↔ live σ l := fun l => by
    by_cases el : l = L
    · subst el; simp [live, ho]; exact hl
    · simp [live, updO_ne _ _ el]
  have hst : Step S σ (updO σ L (ver, o)) μ μ w (w.setRow b cs') := by
    refine ⟨by simp, fun k hk => ⟨setRow_other _ _ _ _ fun ek => hk.2.2 L base hl (ek ▸ hm), by simpa using hk.1, hk.2.1, fun l base' h => hk.2.2 l base' ((hlive l).1 h)⟩, fun l => ?_⟩
    by_cases el : l = L
    · subst el
      rcases hv with hv | ⟨hv, h1, h2⟩
      · left; simpa using hv
      · right
        simp only [updO_same]
        refine ⟨hv, trivial, h1, h2, fun b' base' cs1 e1 hm1 _ hb1 => ?_⟩
        rw [hm] at hm1; obtain ⟨rfl, rfl⟩ := Prod.mk.inj (Option.some.inj hm1)
        rw [hb] at hb1; simp at hb1; obtain ⟨rfl, rfl⟩ := hb1
        exact ⟨cs', setRow_heap _ _ _ _ _ _ hb, hsz⟩
    · right
      rw [updO_ne _ _ el]
      refine ⟨rfl, rfl, fun c hc => ⟨c, hc⟩, fun sz n row hr => ⟨n, row, hr, Nat.le_refl _⟩, fun b' base' cs1 e1 hm1 hlv hb1 => ⟨cs1, ?_, rfl⟩⟩
      obtain ⟨sz, n, row, hlv⟩ := hlv
      rw [setRow_other _ _ _ _ fun ek => el (R.inj l L b' base' base (by simp [live, hlv]) hl hm1 (by rw [ek]; exact hm))]
      exact hb1
  refine ⟨hst, R.carry hst ⟨rfl, rfl, rfl⟩ (fun k hk hs => setRow_other _ _ _ _ fun ek => ?_) (fun k cs1 e1 fr hk => ?_) (fun l b' base' h hm' => ?_) (fun l l' b' b1 b2 h h' h1 h2 => R.inj l l' b' b1 b2 ((hlive l).1 h) ((hlive l').1 h') h1 h2) (fun l => ?_)⟩
  · rcases (R.own L b base hl hm).2 with h | h
    · omega
    · exact hs (ek ▸ h)
  · by_cases ek : k = b
    · subst ek
      rw [hb] at hk; simp at hk; obtain ⟨rfl, rfl, rfl⟩ := hk
      exact ⟨cs', setRow_heap _ _ _ _ _ _ hb, hsz⟩
    · exact ⟨cs1, by rw [setRow_other _ _ _ _ ek]; exact hk, rfl⟩
  · have := R.own l b' base' ((hlive l).1 h) hm'
    exact ⟨by simpa using this.1, this.2⟩
  · by_cases el : l = L
    · subst el; right
      simp only [updO_same]
      exact hc.obj hst hm (setRow_heap _ _ _ _ _ _ hb)
    · left
      refine ⟨updO_ne _ _ el, rfl, fun b' base' h hm' => setRow_other _ _ _ _ fun ek => el (R.inj l L b' base' base h hl hm' (by rw [ek]; exact hm))⟩

/-- A draw turns nothing. -/
theorem DRep.same_heap {w w' : World} (h : w'.heap = w.heap) {N : Nat → Prop} {x : DV} {v : Value} (hx : DRep w N x v) : DRep w' N x v := hx.carry fun b hb => ⟨by rw [h], hb⟩
theorem RelM.drew (R : RelM w0 S nt sl σ a w μ) : RelM w0 S nt sl σ a w.drew μ := by
  have hst : Step S σ σ μ μ w w.drew := ⟨Nat.le_refl _, fun b hb => ⟨rfl, hb⟩, fun l => .inr ⟨rfl, rfl, fun c hc => ⟨c, hc⟩, fun sz n row hr => ⟨n, row, hr, Nat.le_refl _⟩, fun b base cs e _ _ hb => ⟨cs, hb, rfl⟩⟩⟩
  exact R.carry hst ⟨rfl, rfl, rfl⟩ (fun _ _ _ => rfl) (fun b cs e fr hb => ⟨cs, hb, rfl⟩) R.own R.inj (fun l => .inl ⟨rfl, rfl, fun _ _ _ _ => rfl⟩)
end
end Go.Rk
