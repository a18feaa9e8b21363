/- Calls, one: what is handed over. -/
import Derived.Test.YtbkpfnddpnccmaaRk11
namespace Go.Rk

def OwnRep (w : World) (N : Nat → Prop) (sz n : Nat) (row : Nat → List DV) (v : Value) (F : List Nat) : Prop :=
  (∀ i, i < n → (row i).length = sz) ∧ ((n = 0 ∧ F = [] ∧ ∃ ad, v = .slice ad 0 0) ∨
    ∃ b base cap cs e, F = [b] ∧ v = .slice (some ⟨b, base, none⟩) n cap ∧ 0 < cap ∧ n ≤ cap ∧ w.heap[b]? = some (.cells cs e (0, 0)) ∧ base + cap * sz ≤ cs.size ∧
      ∀ i j x, i < n → (row i)[j]? = some x → ∃ u, cs[base + i * sz + j]? = some u ∧ DRep w N x u)
def XCRep (w : World) (N : Nat → Prop) : XC → Value → List Nat → Prop
  | .d x, v, F => F = [] ∧ DRep w N x v
  | .own sz n row, v, F => OwnRep w N sz n row v F
def XCsRep (w : World) (N : Nat → Prop) : List XC → List Value → List Nat → Prop
  | [], [], F => F = []
  | x :: r, v :: s, F => ∃ F1 F2, F = F1 ++ F2 ∧ XCRep w N x v F1 ∧ XCsRep w N r s F2
  | _, _, _ => False
def XVRep (w : World) (N : Nat → Prop) : XV → Value → List Nat → Prop
  | .d x, v, F => F = [] ∧ DRep w N x v
  | .own sz n row, v, F => OwnRep w N sz n row v F
  | .box cells, v, F => ∃ b cs e F', F = b :: F' ∧ v = .pointer (some ⟨b, 0, none⟩) ∧ w.heap[b]? = some (.cells cs e (0, 0)) ∧ XCsRep w N cells cs.toList F'
def XVsRep (w : World) (N : Nat → Prop) : List XV → List Value → List Nat → Prop
  | [], [], F => F = []
  | x :: r, v :: s, F => ∃ F1 F2, F = F1 ++ F2 ∧ XVRep w N x v F1 ∧ XVsRep w N r s F2
  | _, _, _ => False
def XTRep (w : World) (N : Nat → Prop) : XT → Value → List Nat → Prop
  | .c x, v, F => XVRep w N x v F
  | .agg xs, v, F => ∃ cs, v = .agg cs ∧ XVsRep w N xs cs.toList F
def XTsRep (w : World) (N : Nat → Prop) : List XT → List Value → List Nat → Prop
  | [], [], F => F = []
  | x :: r, v :: s, F => ∃ F1 F2, F = F1 ++ F2 ∧ XTRep w N x v F1 ∧ XTsRep w N r s F2
  | _, _, _ => False
def XARep (w : World) (N : Nat → Prop) : XA → Value → List Nat → Prop
  | .one x, v, F => XTRep w N x v F
  | .tup xs, v, F => ∃ cs, v = .tuple cs ∧ XTsRep w N xs cs.toList F
def BackRep (w : World) (N : Nat → Prop) : List (Option XV) → List Value → List Nat → Prop
  | [], [], F => F = []
  | none :: r, _ :: s, F => BackRep w N r s F
  | some x :: r, v :: s, F => ∃ F1 F2, F = F1 ++ F2 ∧ XVRep w N x v F1 ∧ BackRep w N r s F2
  | _, _, _ => False

/-- The blocks of labels, in order. -/
def blk (μ : Place) (ls : List (Nat × Nat)) : List Nat := ls.filterMap fun p => (μ p.1).map (·.1)
theorem blk_append (μ : Place) (a b : List (Nat × Nat)) : blk μ (a ++ b) = blk μ a ++ blk μ b := by simp [blk]
def Valid (σ : Objs) (p : Nat × Nat) : Prop := live σ p.1 ∧ (σ p.1).1 = p.2

section
variable {P : Program} {T : TypeId → Option TI}
variable {w0 : World} {S : Sets} {nt : Nat} {slots : List (Nat × AV)} {σ : Objs} {a : Act} {w : World} {μ : Place}

theorem DRep.mono {N N' : Nat → Prop} (h : ∀ b, N b → N' b) {x : DV} {v : Value} (hx : DRep w N x v) : DRep w N' x v := hx.carry fun b hb => ⟨rfl, h b hb⟩

/-- An own thing that is named whole. -/
theorem own_whole (R : RelM w0 S nt (lookS slots) σ a w μ) {l len ver sz n : Nat} {row : Nat → List DV} {v : Value} (hσ : σ l = (ver, .arr sz n row)) (hl : len = n)
    (hx : CRep σ μ w (Nof S σ μ w) (.own l 0 len ver) v) {N : Nat → Prop} (hN : ∀ b, Nof S σ μ w b → N b) : OwnRep w N sz n row v (blk μ [(l, ver)]) := by
  subst hl
  obtain ⟨_, h⟩ := hx.2.2 sz len row hσ
  have ob := R.objs l
  rw [hσ] at ob
  refine ⟨ob.1, ?_⟩
  rcases h with ⟨hm, rfl, ad, rfl⟩ | ⟨b, base, o, cap, cs, e, hm, rfl, hc, ho, hb, hs, hpos⟩
  · exact .inl ⟨rfl, by simp [blk, hm], ad, rfl⟩
  · have ho := ho (.inr rfl)
    simp at ho; subst ho
    rcases ob.2 with ⟨h1, _⟩ | ⟨b', base', cs1, e1, hm', hb1, hs0, hcs⟩
    · rw [hm] at h1; simp at h1
    rw [hm] at hm'; simp at hm'; obtain ⟨rfl, rfl⟩ := hm'
    rw [hb] at hb1; simp at hb1; obtain ⟨rfl, rfl⟩ := hb1
    refine .inr ⟨b, o, cap, cs, e, by simp [blk, hm], rfl, hpos rfl, hc, hb, hs, fun i j x hi hj => ?_⟩
    obtain ⟨u, hu, hd⟩ := hcs i j x hi hj
    exact ⟨u, hu, hd.mono hN⟩

theorem giveCells_spec (R : RelM w0 S nt (lookS slots) σ a w μ) : ∀ {cells : List CV} {vs : List Value} {Q : List XC × List (Nat × Nat) → Prop}, (giveCells real cells).run σ Q → CsRep σ μ w (Nof S σ μ w) cells vs →
    ∃ xs ls, Q (xs, ls) ∧ (∀ p ∈ ls, Valid σ p) ∧ ∀ N : Nat → Prop, (∀ b, Nof S σ μ w b → N b) → XCsRep w N xs vs (blk μ ls)
  | [], [], Q, h, _ => ⟨[], [], h, fun p hp => by simp at hp, fun N _ => rfl⟩
  | [], _ :: _, _, _, h => h.elim
  | _ :: _, [], _, _, h => h.elim
  | x :: r, v :: s, Q, h, hc => by
    unfold giveCells at h
    cases x with
    | d x =>
      simp only [G.run_bind] at h
      obtain ⟨xs, ls, hq, hv, hN⟩ := giveCells_spec R h hc.2
      exact ⟨_, _, hq, hv, fun N hn => ⟨[], _, rfl, ⟨rfl, DRep.mono hn hc.1⟩, hN N hn⟩⟩
    | own l off len ver =>
      simp only [G.run] at h
      split at h
      · rename_i ver' sz n row hσ
        obtain ⟨h1, h2, h3, h⟩ := h
        have h1 : ver = ver' := h1
        have h2 : off = 0 := h2
        have h3 : len = n := h3
        subst h1 h2
        rw [G.run_bind] at h
        obtain ⟨xs, ls, hq, hv, hN⟩ := giveCells_spec R h hc.2
        refine ⟨_, _, hq, fun p hp => ?_, fun N hn => ⟨blk μ [(l, ver)], blk μ ls, by rw [← blk_append]; rfl, own_whole R hσ h3 hc.1 hn, hN N hn⟩⟩
        rcases List.mem_cons.1 hp with rfl | hp
        · exact ⟨by simp [live, hσ], by simp [hσ]⟩
        · exact hv p hp
      · exact h.elim
    | _ => exact h.elim

theorem readOwn_spec (R : RelM w0 S nt (lookS slots) σ a w μ) {l off len ver : Nat} {v : Value} {Q : DV → Prop} (h : (readOwn real l off len ver).run σ Q) (hx : CRep σ μ w (Nof S σ μ w) (.own l off len ver) v) :
    ∃ x, Q x ∧ Valid σ (l, ver) ∧ ∀ N : Nat → Prop, (∀ b, Nof S σ μ w b → N b) → (∀ b base, μ l = some (b, base) → N b) → DRep w N x v := by
  unfold readOwn at h
  simp only [G.run] at h
  split at h
  · rename_i ver' sz n row hσ
    obtain ⟨h1, h⟩ := h
    have h1 : ver = ver' := h1
    subst h1
    refine ⟨_, h, ⟨by simp [live, hσ], by simp [hσ]⟩, fun N hn hl => ?_⟩
    obtain ⟨h4, h5⟩ := hx.2.2 sz n row hσ
    have ob := R.objs l
    rw [hσ] at ob
    rcases h5 with ⟨hm, rfl, ad, rfl⟩ | ⟨b, base, o, cap, cs, e, hm, rfl, hc, ho, hb, hs, _⟩
    · -- a slice with no room: read as it is
      cases ad with
      | none => exact DRep.nil _ _
      | some ad => exact DRep.empty _ _ _
    · rcases ob.2 with ⟨h1, _⟩ | ⟨b', base', cs1, e1, hm', hb1, hs0, hcs⟩
      · rw [hm] at h1; simp at h1
      rw [hm] at hm'; simp at hm'; obtain ⟨rfl, rfl⟩ := hm'
      rw [hb] at hb1; simp at hb1; obtain ⟨rfl, rfl⟩ := hb1
      have hget : ∀ i j x, i < len → (row (off + i))[j]? = some x → cs[o + i * sz + j]? = some (cs.getD (o + i * sz + j) undef) ∧ DRep w N x (cs.getD (o + i * sz + j) undef) := fun i j x hi hj => by
        obtain ⟨u, hu, hd⟩ := hcs (off + i) j x (by omega) hj
        have : base + (off + i) * sz + j = o + i * sz + j := by rw [ho (.inl (by omega)), Nat.add_mul]; omega
        rw [this] at hu
        have hg : cs.getD (o + i * sz + j) undef = u := by rw [Array.getD_eq_getD_getElem?, hu]; rfl
        rw [hg]
        exact ⟨hu, hd.mono hn⟩
      exact DRep.sl sz len _ b o cap cs e (0, 0) (fun i j => cs.getD (o + i * sz + j) undef) (hl b base hm) hb hc hs (fun i hi => ob.1 (off + i) (by omega)) (fun i j x hi hj => (hget i j x hi hj).1) (fun i j x hi hj => (hget i j x hi hj).2)
  · exact h.elim

theorem readCell_spec (R : RelM w0 S nt (lookS slots) σ a w μ) {x : CV} {v : Value} {Q : DV × List (Nat × Nat) → Prop} (h : (readCell real x).run σ Q) (hx : CRep σ μ w (Nof S σ μ w) x v) :
    ∃ y ls, Q (y, ls) ∧ (∀ p ∈ ls, Valid σ p) ∧ ∀ N : Nat → Prop, (∀ b, Nof S σ μ w b → N b) → (∀ p ∈ ls, ∀ b base, μ p.1 = some (b, base) → N b) → DRep w N y v := by
  unfold readCell at h
  split at h
  · exact ⟨_, [], h, fun p hp => by simp at hp, fun N hn _ => DRep.mono hn hx⟩
  · rename_i l off len ver
    rw [G.run_bind] at h
    obtain ⟨y, hq, hv, hN⟩ := readOwn_spec R h hx
    exact ⟨_, _, hq, fun p hp => by simp at hp; subst hp; exact hv, fun N hn hl => hN N hn fun b base hm => hl (l, ver) (by simp) b base hm⟩
  · exact h.elim
theorem readCells_spec (R : RelM w0 S nt (lookS slots) σ a w μ) : ∀ {xs : List CV} {vs : List Value} {Q : List DV × List (Nat × Nat) → Prop}, (readCells real xs).run σ Q → CsRep σ μ w (Nof S σ μ w) xs vs →
    ∃ ys ls, Q (ys, ls) ∧ (∀ p ∈ ls, Valid σ p) ∧ ∀ N : Nat → Prop, (∀ b, Nof S σ μ w b → N b) → (∀ p ∈ ls, ∀ b base, μ p.1 = some (b, base) → N b) → ∀ (j : Nat) y, ys[j]? = some y → ∃ v, vs[j]? = some v ∧ DRep w N y v
  | [], [], Q, h, _ => ⟨[], [], h, fun p hp => by simp at hp, fun N _ _ j y hj => by simp at hj⟩
  | [], _ :: _, _, _, h => h.elim
  | _ :: _, [], _, _, h => h.elim
  | x :: r, v :: s, Q, h, hc => by
    simp only [readCells, G.run_bind] at h
    obtain ⟨y, l1, h1, hv1, hN1⟩ := readCell_spec R h hc.1
    obtain ⟨ys, l2, h2, hv2, hN2⟩ := readCells_spec R h1 hc.2
    refine ⟨_, _, h2, fun p hp => ?_, fun N hn hl j z hj => ?_⟩
    · rcases List.mem_append.1 hp with hp | hp
      · exact hv1 p hp
      · exact hv2 p hp
    · cases j with
      | zero => simp at hj; subst hj; exact ⟨v, rfl, hN1 N hn fun p hp => hl p (List.mem_append.2 (.inl hp))⟩
      | succ j => simp at hj; simpa using hN2 N hn (fun p hp => hl p (List.mem_append.2 (.inr hp))) j z hj
theorem boxD_spec (R : RelM w0 S nt (lookS slots) σ a w μ) {l ver : Nat} {Q : DV × List (Nat × Nat) → Prop} (h : (boxD real l ver).run σ Q) :
    ∃ y ls, Q (y, ls) ∧ (∃ cells, σ l = (ver, .box cells)) ∧ (∀ p ∈ ls, Valid σ p) ∧ ∀ N : Nat → Prop, (∀ b, Nof S σ μ w b → N b) → (∀ p ∈ ls, ∀ b base, μ p.1 = some (b, base) → N b) →
      ∀ b, μ l = some (b, 0) → DRep w N y (.pointer (some ⟨b, 0, none⟩)) := by
  unfold boxD at h
  simp only [G.run] at h
  split at h
  · rename_i ver' cells hσ
    obtain ⟨h1, h⟩ := h
    have h1 : ver = ver' := h1
    subst h1
    rw [G.run_bind] at h
    have ob := R.objs l
    rw [hσ] at ob
    obtain ⟨b, cs, e, hm, hb, hcs⟩ := ob
    obtain ⟨ys, ls, hq, hv, hN⟩ := readCells_spec R h hcs
    refine ⟨_, _, hq, ⟨cells, hσ⟩, fun p hp => ?_, fun N hn hl b' hm' => ?_⟩
    · rcases List.mem_cons.1 hp with rfl | hp
      · exact ⟨by simp [live, hσ], by simp [hσ]⟩
      · exact hv p hp
    · rw [hm] at hm'; simp at hm'; subst hm'
      have hget : ∀ (j : Nat) y, ys[j]? = some y → cs[0 + j]? = some (cs.getD j undef) ∧ DRep w N y (cs.getD j undef) := fun j y hj => by
        obtain ⟨u, hu, hd⟩ := hN N hn (fun p hp => hl p (by simp [hp])) j y hj
        rw [Array.getElem?_toList] at hu
        have hg : cs.getD j undef = u := by rw [Array.getD_eq_getD_getElem?, hu]; rfl
        rw [hg, Nat.zero_add]
        exact ⟨hu, hd⟩
      exact DRep.p _ b 0 cs e (0, 0) (fun j => cs.getD j undef) (hl (l, ver) (by simp) b 0 hm) hb (fun j y hj => (hget j y hj).1) (fun j y hj => (hget j y hj).2)
  · exact h.elim
theorem capsD_spec (R : RelM w0 S nt (lookS slots) σ a w μ) : ∀ {caps : List (Nat × Nat)} {Q : List DV × List (Nat × Nat) → Prop}, (capsD real caps).run σ Q →
    ∃ ys ls, Q (ys, ls) ∧ ys.length = caps.length ∧ (∀ p ∈ ls, Valid σ p) ∧ (∀ (j : Nat) l ver, caps[j]? = some (l, ver) → ∃ cells, σ l = (ver, .box cells)) ∧
      ∀ N : Nat → Prop, (∀ b, Nof S σ μ w b → N b) → (∀ p ∈ ls, ∀ b base, μ p.1 = some (b, base) → N b) →
        ∀ (j : Nat) y l ver b, ys[j]? = some y → caps[j]? = some (l, ver) → μ l = some (b, 0) → DRep w N y (.pointer (some ⟨b, 0, none⟩))
  | [], Q, h => ⟨[], [], h, rfl, fun p hp => by simp at hp, fun j l ver hj => by simp at hj, fun N _ _ j y l ver b hj => by simp at hj⟩
  | (l, ver) :: r, Q, h => by
    simp only [capsD, G.run_bind] at h
    obtain ⟨y, l1, h1, hb1, hv1, hN1⟩ := boxD_spec R h
    obtain ⟨ys, l2, h2, hl2, hv2, hb2, hN2⟩ := capsD_spec R h1
    refine ⟨_, _, h2, by simp [hl2], fun p hp => ?_, fun j l' ver' hj => ?_, fun N hn hl j z l' ver' b hj hc hm => ?_⟩
    · rcases List.mem_append.1 hp with hp | hp
      · exact hv1 p hp
      · exact hv2 p hp
    · cases j with
      | zero => simp at hj; obtain ⟨rfl, rfl⟩ := hj; exact hb1
      | succ j => exact hb2 j l' ver' (by simpa using hj)
    · cases j with
      | zero => simp at hj hc; subst hj; obtain ⟨rfl, rfl⟩ := hc; exact hN1 N hn (fun p hp => hl p (List.mem_append.2 (.inl hp))) b hm
      | succ j => exact hN2 N hn (fun p hp => hl p (List.mem_append.2 (.inr hp))) j z l' ver' b (by simpa using hj) (by simpa using hc) hm

/-- What is said of what is handed over. -/
def GivenOk (S : Sets) (σ : Objs) (μ : Place) (w : World) (le : Lent) (Z : (Nat → Prop) → List Nat → Prop) : Prop :=
  (∀ p ∈ le.ex ++ le.bo, Valid σ p) ∧ ∀ N : Nat → Prop, (∀ b, Nof S σ μ w b → N b) → (∀ p ∈ le.bo, ∀ b base, μ p.1 = some (b, base) → N b) → Z N (blk μ le.ex)

theorem givenCell_spec (R : RelM w0 S nt (lookS slots) σ a w μ) {ex : Bool} {x : CV} {v : Value} {Q : XV × Lent → Prop} (h : (givenCell real ex x).run σ Q) (hx : CRep σ μ w (Nof S σ μ w) x v) :
    ∃ y le, Q (y, le) ∧ GivenOk S σ μ w le fun N F => XVRep w N y v F := by
  unfold givenCell at h
  split at h
  · exact ⟨_, _, h, fun p hp => by simp [Lent.none] at hp, fun N hn _ => ⟨rfl, DRep.mono hn hx⟩⟩
  · rename_i l off len ver
    split at h
    · simp only [G.run] at h
      split at h
      · rename_i ver' sz n row hσ
        obtain ⟨h1, h2, h3, h⟩ := h
        have h1 : ver = ver' := h1
        have h2 : off = 0 := h2
        have h3 : len = n := h3
        subst h1 h2
        exact ⟨_, _, h, fun p hp => by simp at hp; subst hp; exact ⟨by simp [live, hσ], by simp [hσ]⟩, fun N hn _ => own_whole R hσ h3 hx hn⟩
      · exact h.elim
    · rw [G.run_bind] at h
      obtain ⟨y, hq, hv, hN⟩ := readOwn_spec R h hx
      exact ⟨_, _, hq, fun p hp => by simp at hp; subst hp; exact hv, fun N hn hl => ⟨rfl, hN N hn fun b base hm => hl (l, ver) (by simp) b base hm⟩⟩
  · rename_i l ver off
    split at h
    · simp only [G.run] at h
      obtain ⟨h2, h⟩ := h
      have h2 : off = 0 := h2
      subst h2
      rw [G.run_bind] at h
      obtain ⟨y, ls, hq, ⟨cells, hσ⟩, hv, hN⟩ := boxD_spec R h
      obtain ⟨b', hm', rfl⟩ := hx.2.2 cells hσ
      exact ⟨_, _, hq, fun p hp => hv p (by simpa using hp), fun N hn hl => ⟨rfl, hN N hn (fun p hp => hl p hp) b' hm'⟩⟩
    simp only [G.run] at h
    split at h
    · rename_i ver' cells hσ
      obtain ⟨h1, h2, h⟩ := h
      have h1 : ver = ver' := h1
      have h2 : off = 0 := h2
      subst h1 h2
      rw [G.run_bind] at h
      have ob := R.objs l
      rw [hσ] at ob
      obtain ⟨b, cs, e, hm, hb, hcs⟩ := ob
      obtain ⟨xs, ls, hq, hv, hN⟩ := giveCells_spec R h hcs
      obtain ⟨b', hm', rfl⟩ := hx.2.2 cells hσ
      rw [hm] at hm'; simp at hm'; subst hm'
      refine ⟨_, _, hq, fun p hp => ?_, fun N hn _ => ⟨b, cs, e, blk μ ls, by simp [blk, hm], rfl, hb, hN N hn⟩⟩
      simp at hp
      rcases hp with rfl | hp
      · exact ⟨by simp [live, hσ], by simp [hσ]⟩
      · exact hv p hp
    · exact h.elim
  · rename_i f caps
    rw [G.run_bind] at h
    obtain ⟨ys, ls, hq, hlen, hv, hb, hN⟩ := capsD_spec R h
    obtain ⟨cs, rfl, hcl, hcs⟩ := hx
    refine ⟨_, _, hq, fun p hp => hv p (by simpa using hp), fun N hn hl => ⟨rfl, ?_⟩⟩
    have hget : ∀ (j : Nat) y, ys[j]? = some y → cs[j]? = some (cs.getD j undef) ∧ DRep w N y (cs.getD j undef) := fun j y hj => by
      have hjl : j < caps.length := by rw [← hlen]; exact (List.getElem?_eq_some_iff.1 hj).1
      have hcj : caps[j]? = some (caps[j].1, caps[j].2) := by rw [List.getElem?_eq_getElem hjl]
      obtain ⟨cells, hσ⟩ := hb j _ _ hcj
      obtain ⟨b, hm, hu⟩ := (hcs j _ _ hcj).2 cells hσ
      have hg : cs.getD j undef = .pointer (some ⟨b, 0, none⟩) := by rw [Array.getD_eq_getD_getElem?, hu]; rfl
      rw [hg]
      exact ⟨hu, hN N hn hl j y _ _ b hj hcj hm⟩
    exact DRep.fn f _ cs (fun j => cs.getD j undef) (by rw [hcl, hlen]) (fun j y hj => (hget j y hj).1) (fun j y hj => (hget j y hj).2)
  · exact h.elim

theorem GivenOk.both {Z1 Z2 : (Nat → Prop) → List Nat → Prop} {l1 l2 : Lent} (h1 : GivenOk S σ μ w l1 Z1) (h2 : GivenOk S σ μ w l2 Z2) :
    GivenOk S σ μ w (l1.both l2) fun N F => ∃ F1 F2, F = F1 ++ F2 ∧ Z1 N F1 ∧ Z2 N F2 := by
  refine ⟨fun p hp => ?_, fun N hn hl => ⟨blk μ l1.ex, blk μ l2.ex, blk_append μ _ _, h1.2 N hn fun p hp => hl p (by simp [Lent.both, hp]), h2.2 N hn fun p hp => hl p (by simp [Lent.both, hp])⟩⟩
  simp only [Lent.both, List.mem_append] at hp
  rcases hp with (hp | hp) | hp | hp
  · exact h1.1 p (by simp [hp])
  · exact h2.1 p (by simp [hp])
  · exact h1.1 p (by simp [hp])
  · exact h2.1 p (by simp [hp])
theorem GivenOk.none {Z : (Nat → Prop) → List Nat → Prop} (h : ∀ N, Z N []) : GivenOk S σ μ w .none Z := ⟨fun p hp => by simp [Lent.none] at hp, fun N _ _ => h N⟩

theorem givenCells_spec (R : RelM w0 S nt (lookS slots) σ a w μ) {ex : Bool} : ∀ {xs : List CV} {vs : List Value} {Q : List XV × Lent → Prop}, (givenCells real ex xs).run σ Q → CsRep σ μ w (Nof S σ μ w) xs vs →
    ∃ ys le, Q (ys, le) ∧ GivenOk S σ μ w le fun N F => XVsRep w N ys vs F
  | [], [], Q, h, _ => ⟨[], .none, h, .none fun _ => rfl⟩
  | [], _ :: _, _, _, h => h.elim
  | _ :: _, [], _, _, h => h.elim
  | x :: r, v :: s, Q, h, hc => by
    simp only [givenCells, G.run_bind] at h
    obtain ⟨y, l1, h1, g1⟩ := givenCell_spec R h hc.1
    obtain ⟨ys, l2, h2, g2⟩ := givenCells_spec R h1 hc.2
    exact ⟨_, _, h2, g1.both g2⟩
theorem givenArg_spec (R : RelM w0 S nt (lookS slots) σ a w μ) {ex : Bool} {x : AV} {v : Value} {Q : XT × Lent → Prop} (h : (givenArg real true ex x).run σ Q) (hx : ARep σ μ w (Nof S σ μ w) x v) :
    ∃ y le, Q (y, le) ∧ GivenOk S σ μ w le fun N F => XTRep w N y v F := by
  unfold givenArg at h
  rw [G.run_bind] at h
  obtain ⟨z, hz, h1⟩ := opv_run h hx
  clear h
  split at h1
  · rw [G.run_bind] at h1
    obtain ⟨y, le, hq, g⟩ := givenCell_spec R h1 hz
    exact ⟨_, _, hq, g⟩
  · rw [G.run_bind] at h1
    obtain ⟨cs, rfl, hcs⟩ := hz
    obtain ⟨y, le, hq, g⟩ := givenCells_spec R h1 hcs
    exact ⟨_, _, hq, g.1, fun N hn hl => ⟨cs, rfl, g.2 N hn hl⟩⟩
  · exact h1.elim
theorem givenArgs_spec (R : RelM w0 S nt (lookS slots) σ a w μ) {ex : Nat → Bool} : ∀ {xs : List Operand} {i : Nat} {Q : List XT × Lent → Prop}, (givenArgs real true ex (rho slots) i xs).run σ Q →
    ∃ ys le, Q (ys, le) ∧ GivenOk S σ μ w le fun N F => XTsRep w N ys (xs.map a.eval) F
  | [], i, Q, h => ⟨[], .none, h, .none fun _ => rfl⟩
  | x :: r, i, Q, h => by
    simp only [givenArgs, G.run_bind] at h
    obtain ⟨y, l1, h1, g1⟩ := givenArg_spec R h (rho_rep R x)
    obtain ⟨ys, l2, h2, g2⟩ := givenArgs_spec R h1
    exact ⟨_, _, h2, g1.both g2⟩

theorem inLabs_mem {ls : List (Nat × Nat)} {l : Nat} (h : inLabs ls l = false) : ∀ p ∈ ls, p.1 ≠ l := by
  induction ls with
  | nil => intro p hp; simp at hp
  | cons q r ih =>
    intro p hp e
    unfold inLabs at h
    cases hb : Nat.beq q.1 l with
    | true => simp [hb] at h
    | false =>
      simp only [hb, cond_false] at h
      rcases List.mem_cons.1 hp with rfl | hp
      · rw [e] at hb; simp at hb
      · exact ih h p hp e
theorem exOk_spec : ∀ {ex bo : List (Nat × Nat)}, exOk ex bo = true → (ex.map (·.1)).Nodup ∧ ∀ p ∈ ex, ∀ q ∈ bo, q.1 ≠ p.1
  | [], bo, _ => by simp
  | p :: r, bo, h => by
    unfold exOk at h
    cases h1 : inLabs r p.1 with
    | true => simp [h1] at h
    | false =>
      cases h2 : inLabs bo p.1 with
      | true => simp [h1, h2] at h
      | false =>
        simp only [h1, h2, cond_false] at h
        obtain ⟨h3, h4⟩ := exOk_spec h
        refine ⟨?_, fun q hq => ?_⟩
        · simp only [List.map_cons, List.nodup_cons, List.mem_map, not_exists, not_and]
          exact ⟨fun q hq => inLabs_mem h1 q hq, h3⟩
        · rcases List.mem_cons.1 hq with rfl | hq
          · exact inLabs_mem h2
          · exact h4 q hq
theorem blk_mem {ls : List (Nat × Nat)} {b : Nat} (h : b ∈ blk μ ls) : ∃ p ∈ ls, ∃ base, μ p.1 = some (b, base) := by
  simp only [blk, List.mem_filterMap, Option.map_eq_some_iff] at h
  obtain ⟨p, hp, ⟨b', base⟩, hm, rfl⟩ := h
  exact ⟨p, hp, base, hm⟩
theorem blk_nodup (R : RelM w0 S nt (lookS slots) σ a w μ) : ∀ {ls : List (Nat × Nat)}, (ls.map (·.1)).Nodup → (∀ p ∈ ls, Valid σ p) → (blk μ ls).Nodup
  | [], _, _ => by simp [blk]
  | p :: r, h, hv => by
    simp only [List.map_cons, List.nodup_cons] at h
    have ih := blk_nodup R h.2 fun q hq => hv q (by simp [hq])
    have e : blk μ (p :: r) = blk μ [p] ++ blk μ r := blk_append μ [p] r
    rw [e]
    cases hm : μ p.1 with
    | none => simp only [blk, hm, List.filterMap_cons, Option.map_none, List.filterMap_nil, List.nil_append]; exact ih
    | some q =>
      have : blk μ [p] = [q.1] := by simp [blk, hm]
      rw [this, List.singleton_append, List.nodup_cons]
      refine ⟨fun hmem => ?_, ih⟩
      obtain ⟨p', hp', base, hm'⟩ := blk_mem hmem
      have := R.inj p.1 p'.1 q.1 q.2 base (hv p (by simp)).1 (hv p' (by simp [hp'])).1 hm hm'
      exact h.1 (List.mem_map.2 ⟨p', hp', this.symm⟩)
end
end Go.Rk
