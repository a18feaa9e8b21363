/- What an abstract state says of the machine's: representation, and how it is carried from one world to the next. -/
import Derived.Test.YtbkpfnddpnccmaaRk0
import Derived.Laws.World
namespace Go.Rk

/-- A data value as it is read in a world, in blocks of which N holds. -/
inductive DRep (w : World) (N : Nat → Prop) : DV → Value → Prop
  | v (x : Value) (h : x.oneCell' = true) : DRep w N (.v x) x
  | nil (sz : Nat) (row : Nat → List DV) : DRep w N (.sl sz 0 row) (.slice none 0 0)
  | empty (sz : Nat) (row : Nat → List DV) (ad : Addr) : DRep w N (.sl sz 0 row) (.slice (some ad) 0 0)
  | sl (sz n : Nat) (row : Nat → List DV) (b off cap : Nat) (cs : Array Value) (e : TypeId) (fr : Nat × Nat) (u : Nat → Nat → Value)
      (hN : N b) (hb : w.heap[b]? = some (.cells cs e fr)) (hc : n ≤ cap) (hs : off + cap * sz ≤ cs.size)
      (hr : ∀ i, i < n → (row i).length = sz)
      (hu : ∀ i j x, i < n → (row i)[j]? = some x → cs[off + i * sz + j]? = some (u i j))
      (hd : ∀ i j x, i < n → (row i)[j]? = some x → DRep w N x (u i j)) :
      DRep w N (.sl sz n row) (.slice (some ⟨b, off, none⟩) n cap)
  | p (cells : List DV) (b off : Nat) (cs : Array Value) (e : TypeId) (fr : Nat × Nat) (u : Nat → Value)
      (hN : N b) (hb : w.heap[b]? = some (.cells cs e fr))
      (hu : ∀ j x, cells[j]? = some x → cs[off + j]? = some (u j))
      (hd : ∀ j x, cells[j]? = some x → DRep w N x (u j)) :
      DRep w N (.p cells) (.pointer (some ⟨b, off, none⟩))
  | fn (f : FuncId) (caps : List DV) (cs : Array Value) (u : Nat → Value) (hn : cs.size = caps.length)
      (hu : ∀ j x, caps[j]? = some x → cs[j]? = some (u j))
      (hd : ∀ j x, caps[j]? = some x → DRep w N x (u j)) :
      DRep w N (.fn f caps) (.func (.func f) #[] cs)

theorem DRep.carry {w w' : World} {N N' : Nat → Prop} (h : ∀ b, N b → w'.heap[b]? = w.heap[b]? ∧ N' b) {x : DV} {v : Value} (hx : DRep w N x v) : DRep w' N' x v := by
  induction hx with
  | v x h' => exact .v x h'
  | nil sz row => exact .nil sz row
  | empty sz row ad => exact .empty sz row ad
  | sl sz n row b off cap cs e fr u hN hb hc hs hr hu hd ih => exact .sl sz n row b off cap cs e fr u (h b hN).2 (by rw [(h b hN).1]; exact hb) hc hs hr hu ih
  | p cells b off cs e fr u hN hb hu hd ih => exact .p cells b off cs e fr u (h b hN).2 (by rw [(h b hN).1]; exact hb) hu ih
  | fn f caps cs u hn hu hd ih => exact .fn f caps cs u hn hu ih

abbrev Objs := Nat → Nat × HO
abbrev Place := Nat → Option (Nat × Nat)
def live (σ : Objs) (l : Nat) : Prop := (σ l).2 ≠ .dead
/-- Blocks that were handed over to be written; blocks that may be read, or written anew. -/
structure Sets where
  own : Nat → Prop
  lent : Nat → Prop
  gh : List (AV × Value)
instance : CoeFun Sets (fun _ => Nat → Prop) := ⟨Sets.own⟩
/-- The blocks that nobody here writes. -/
def Nof (S : Sets) (σ : Objs) (μ : Place) (w : World) (b : Nat) : Prop := b < w.heap.size ∧ S.lent b ∧ ∀ l base, live σ l → μ l ≠ some (b, base)

def CRep (σ : Objs) (μ : Place) (w : World) (N : Nat → Prop) : CV → Value → Prop
  | .junk, _ => True
  | .d x, v => DRep w N x v
  | .zc, v => ∃ a, v = .slice a 0 0
  | .own l off len ver, v => v.oneCell' = true ∧ ver ≤ (σ l).1 ∧ ∀ sz n row, σ l = (ver, .arr sz n row) → off + len ≤ n ∧
      ((μ l = none ∧ len = 0 ∧ ∃ a, v = .slice a 0 0) ∨
        ∃ b base o cap cs e, μ l = some (b, base) ∧ v = .slice (some ⟨b, o, none⟩) len cap ∧ len ≤ cap ∧ (0 < len ∨ off = 0 → o = base + off * sz) ∧
          w.heap[b]? = some (.cells cs e (0, 0)) ∧ o + cap * sz ≤ cs.size ∧ (off = 0 → 0 < cap))
  | .bp l ver off, v => v.oneCell' = true ∧ ver ≤ (σ l).1 ∧ ∀ cells, σ l = (ver, .box cells) → ∃ b, μ l = some (b, 0) ∧ v = .pointer (some ⟨b, off, none⟩)
  | .op l ver row off, v => v.oneCell' = true ∧ ver ≤ (σ l).1 ∧ ∀ sz n rw, σ l = (ver, .arr sz n rw) → row < n ∧ ∃ b base, μ l = some (b, base) ∧ v = .pointer (some ⟨b, base + row * sz + off, none⟩)
  | .clo f caps, v => ∃ cs : Array Value, v = .func (.func f) #[] cs ∧ cs.size = caps.length ∧
      ∀ (j l ver : Nat), caps[j]? = some (l, ver) → ver ≤ (σ l).1 ∧ ∀ cells, σ l = (ver, .box cells) → ∃ b, μ l = some (b, 0) ∧ cs[j]? = some (Value.pointer (some ⟨b, 0, none⟩))

def CsRep (σ : Objs) (μ : Place) (w : World) (N : Nat → Prop) : List CV → List Value → Prop
  | [], [] => True
  | x :: r, v :: s => CRep σ μ w N x v ∧ CsRep σ μ w N r s
  | _, _ => False
def TRep (σ : Objs) (μ : Place) (w : World) (N : Nat → Prop) : TV → Value → Prop
  | .c x, v => CRep σ μ w N x v
  | .agg xs, v => ∃ cs : Array Value, v = .agg cs ∧ CsRep σ μ w N xs cs.toList
def TsRep (σ : Objs) (μ : Place) (w : World) (N : Nat → Prop) : List TV → List Value → Prop
  | [], [] => True
  | x :: r, v :: s => TRep σ μ w N x v ∧ TsRep σ μ w N r s
  | _, _ => False
def ARep (σ : Objs) (μ : Place) (w : World) (N : Nat → Prop) : AV → Value → Prop
  | .c x, v => CRep σ μ w N x v
  | .agg xs, v => ∃ cs : Array Value, v = .agg cs ∧ CsRep σ μ w N xs cs.toList
  | .tup xs, v => ∃ cs : Array Value, v = .tuple cs ∧ TsRep σ μ w N xs cs.toList
  | .gd t x, v => (t = true → ARep σ μ w N x v) ∧ (t = false → v = undef)

/-- An own thing as it lies. -/
def ObjRep (σ : Objs) (μ : Place) (w : World) (N : Nat → Prop) (l : Nat) : HO → Prop
  | .dead => True
  | .box cells => ∃ b cs e, μ l = some (b, 0) ∧ w.heap[b]? = some (.cells cs e (0, 0)) ∧ CsRep σ μ w N cells cs.toList
  | .arr sz n row => (∀ i, i < n → (row i).length = sz) ∧ ((μ l = none ∧ n = 0) ∨
      ∃ b base cs e, μ l = some (b, base) ∧ w.heap[b]? = some (.cells cs e (0, 0)) ∧ base + n * sz ≤ cs.size ∧
        ∀ i j x, i < n → (row i)[j]? = some x → ∃ u, cs[base + i * sz + j]? = some u ∧ DRep w N x u)

/-- What may turn of a label, so that what speaks of it stays true. -/
def Keeps (σ σ' : Objs) (μ μ' : Place) (w w' : World) (l : Nat) : Prop :=
  (σ l).1 < (σ' l).1 ∨ ((σ l).1 = (σ' l).1 ∧ μ' l = μ l ∧
    (∀ cells, (σ' l).2 = .box cells → ∃ cells', (σ l).2 = .box cells') ∧
    (∀ sz n row, (σ' l).2 = .arr sz n row → ∃ n' row', (σ l).2 = .arr sz n' row' ∧ n' ≤ n) ∧
    (∀ b base cs e, μ l = some (b, base) → (∃ sz n row, (σ' l).2 = .arr sz n row) → w.heap[b]? = some (.cells cs e (0, 0)) → ∃ cs', w'.heap[b]? = some (.cells cs' e (0, 0)) ∧ cs'.size = cs.size))

structure Step (S : Sets) (σ σ' : Objs) (μ μ' : Place) (w w' : World) : Prop where
  size : w.heap.size ≤ w'.heap.size
  old : ∀ b, Nof S σ μ w b → w'.heap[b]? = w.heap[b]? ∧ Nof S σ' μ' w' b
  lab : ∀ l, Keeps σ σ' μ μ' w w' l

section
variable {S : Sets} {σ σ' : Objs} {μ μ' : Place} {w w' : World}
theorem CRep.step (h : Step S σ σ' μ μ' w w') {x : CV} {v : Value} (hx : CRep σ μ w (Nof S σ μ w) x v) : CRep σ' μ' w' (Nof S σ' μ' w') x v := by
  cases x with
  | junk => trivial
  | d x => exact DRep.carry h.old hx
  | zc => exact hx
  | own l off len ver =>
    obtain ⟨h1c, hv, hx⟩ := hx
    rcases h.lab l with hl | ⟨hl, hm, _, ha, hk⟩
    · exact ⟨h1c, by omega, fun sz n row e => by rw [e] at hl; simp at hl; omega⟩
    · refine ⟨h1c, by omega, fun sz n row e => ?_⟩
      obtain ⟨n', row', e', hn⟩ := ha sz n row (by rw [e])
      have es : σ l = (ver, .arr sz n' row') := by
        have : (σ l).1 = ver := by rw [hl, e]
        rw [← this, ← e']
      obtain ⟨h1, h2⟩ := hx sz n' row' es
      refine ⟨by omega, ?_⟩
      rcases h2 with ⟨h2, h3⟩ | ⟨b, base, o, cap, cs, e1, h2, h3, h4, h5, h6, h7, h7'⟩
      · exact .inl ⟨by rw [hm]; exact h2, h3⟩
      · obtain ⟨cs', h8, h9⟩ := hk b base cs e1 h2 ⟨sz, n, row, by rw [e]⟩ h6
        exact .inr ⟨b, base, o, cap, cs', e1, by rw [hm]; exact h2, h3, h4, h5, h8, by omega, h7'⟩
  | bp l ver off =>
    obtain ⟨h1c, hv, hx⟩ := hx
    rcases h.lab l with hl | ⟨hl, hm, hb, _, _⟩
    · exact ⟨h1c, by omega, fun cells e => by rw [e] at hl; simp at hl; omega⟩
    · refine ⟨h1c, by omega, fun cells e => ?_⟩
      obtain ⟨cells', e'⟩ := hb cells (by rw [e])
      have es : σ l = (ver, .box cells') := by
        have : (σ l).1 = ver := by rw [hl, e]
        rw [← this, ← e']
      obtain ⟨b, h1, h2⟩ := hx cells' es
      exact ⟨b, by rw [hm]; exact h1, h2⟩
  | op l ver row off =>
    obtain ⟨h1c, hv, hx⟩ := hx
    rcases h.lab l with hl | ⟨hl, hm, _, ha, _⟩
    · exact ⟨h1c, by omega, fun sz n rw' e => by rw [e] at hl; simp at hl; omega⟩
    · refine ⟨h1c, by omega, fun sz n rw' e => ?_⟩
      obtain ⟨n', row', e', hn⟩ := ha sz n rw' (by rw [e])
      have es : σ l = (ver, .arr sz n' row') := by
        have : (σ l).1 = ver := by rw [hl, e]
        rw [← this, ← e']
      obtain ⟨h1, b, base, h2, h3⟩ := hx sz n' row' es
      exact ⟨by omega, b, base, by rw [hm]; exact h2, h3⟩
  | clo f caps =>
    obtain ⟨cs, h1, h2, h3⟩ := hx
    refine ⟨cs, h1, h2, fun j l ver hj => ?_⟩
    obtain ⟨hv, hx⟩ := h3 j l ver hj
    rcases h.lab l with hl | ⟨hl, hm, hb, _, _⟩
    · exact ⟨by omega, fun cells e => by rw [e] at hl; simp at hl; omega⟩
    · refine ⟨by omega, fun cells e => ?_⟩
      obtain ⟨cells', e'⟩ := hb cells (by rw [e])
      have es : σ l = (ver, .box cells') := by
        have : (σ l).1 = ver := by rw [hl, e]
        rw [← this, ← e']
      obtain ⟨b, h1, h2⟩ := hx cells' es
      exact ⟨b, by rw [hm]; exact h1, h2⟩
theorem CsRep.step (h : Step S σ σ' μ μ' w w') : ∀ {xs : List CV} {vs : List Value}, CsRep σ μ w (Nof S σ μ w) xs vs → CsRep σ' μ' w' (Nof S σ' μ' w') xs vs
  | [], [], _ => trivial
  | _ :: _, _ :: _, hx => ⟨hx.1.step h, CsRep.step h hx.2⟩
  | [], _ :: _, hx => hx.elim
  | _ :: _, [], hx => hx.elim
theorem TRep.step (h : Step S σ σ' μ μ' w w') {x : TV} {v : Value} (hx : TRep σ μ w (Nof S σ μ w) x v) : TRep σ' μ' w' (Nof S σ' μ' w') x v := by
  cases x with
  | c x => exact CRep.step h hx
  | agg xs => obtain ⟨cs, h1, h2⟩ := hx; exact ⟨cs, h1, h2.step h⟩
theorem TsRep.step (h : Step S σ σ' μ μ' w w') : ∀ {xs : List TV} {vs : List Value}, TsRep σ μ w (Nof S σ μ w) xs vs → TsRep σ' μ' w' (Nof S σ' μ' w') xs vs
  | [], [], _ => trivial
  | _ :: _, _ :: _, hx => ⟨hx.1.step h, TsRep.step h hx.2⟩
  | [], _ :: _, hx => hx.elim
  | _ :: _, [], hx => hx.elim
theorem ARep.step (h : Step S σ σ' μ μ' w w') : ∀ {x : AV} {v : Value}, ARep σ μ w (Nof S σ μ w) x v → ARep σ' μ' w' (Nof S σ' μ' w') x v
  | .c _, _, hx => CRep.step h hx
  | .agg _, _, ⟨cs, h1, h2⟩ => ⟨cs, h1, h2.step h⟩
  | .tup _, _, ⟨cs, h1, h2⟩ => ⟨cs, h1, h2.step h⟩
  | .gd _ x, _, hx => ⟨fun ht => ARep.step h (x := x) (hx.1 ht), hx.2⟩
/-- An own thing that has not turned. -/
theorem ObjRep.step (h : Step S σ σ' μ μ' w w') {l : Nat} {o : HO} (hm : μ' l = μ l) (hb : ∀ b base, μ l = some (b, base) → w'.heap[b]? = w.heap[b]?)
    (ho : ObjRep σ μ w (Nof S σ μ w) l o) : ObjRep σ' μ' w' (Nof S σ' μ' w') l o := by
  cases o with
  | dead => trivial
  | box cells =>
    obtain ⟨b, cs, e, h1, h2, h3⟩ := ho
    exact ⟨b, cs, e, by rw [hm]; exact h1, by rw [hb b 0 h1]; exact h2, h3.step h⟩
  | arr sz n row =>
    refine ⟨ho.1, ?_⟩
    rcases ho.2 with ⟨h1, h2⟩ | ⟨b, base, cs, e, h1, h2, h3, h4⟩
    · exact .inl ⟨by rw [hm]; exact h1, h2⟩
    · refine .inr ⟨b, base, cs, e, by rw [hm]; exact h1, by rw [hb b base h1]; exact h2, h3, fun i j x hi hj => ?_⟩
      obtain ⟨u, hu, hd⟩ := h4 i j x hi hj
      exact ⟨u, hu, DRep.carry h.old hd⟩
end

def labC : CV → Bool
  | .own l _ _ _ => Nat.blt l 64
  | .bp l _ _ => Nat.blt l 64
  | .junk | .d _ | .zc => true
  | _ => false
def labA : AV → Bool
  | .c x => labC x
  | .agg xs => xs.all labC
  | _ => false
/-- The whole: 'w0' the world at the call's begin, 'S' the blocks that were handed over to be written, 'nt' how many temporaries. -/
structure RelM (w0 : World) (S : Sets) (nt : Nat) (sl : Nat → AV) (σ : Objs) (a : Act) (w : World) (μ : Place) : Prop where
  size : a.tmps.size = nt
  defs : a.defers = []
  env : w.os = w0.os ∧ w.output = w0.output ∧ w.tape = w0.tape
  grow : w0.heap.size ≤ w.heap.size
  reach : ∀ b, w0.heap.size ≤ b ∨ S b → S.lent b
  frame : ∀ b, b < w0.heap.size → ¬ S b → w.heap[b]? = w0.heap[b]?
  shape : ∀ (b : Nat) cs e fr, w0.heap[b]? = some (Obj.cells cs e fr) → ∃ cs', w.heap[b]? = some (Obj.cells cs' e fr) ∧ cs'.size = cs.size
  own : ∀ l b base, live σ l → μ l = some (b, base) → b < w.heap.size ∧ (w0.heap.size ≤ b ∨ S b)
  inj : ∀ l l' b base base', live σ l → live σ l' → μ l = some (b, base) → μ l' = some (b, base') → l = l'
  ghost : ∀ p, p ∈ S.gh → ARep σ μ w (Nof S σ μ w) p.1 p.2
  ghl : ∀ p, p ∈ S.gh → labA p.1 = true
  objs : ∀ l, ObjRep σ μ w (Nof S σ μ w) l (σ l).2
  slots : ∀ k, ARep σ μ w (Nof S σ μ w) (sl k) (a.tmps.getD k undef)
def Rel (w0 : World) (S : Sets) (nt : Nat) (sl : Nat → AV) (σ : Objs) (a : Act) (w : World) : Prop := ∃ μ, RelM w0 S nt sl σ a w μ
end Go.Rk
