/- What comes in is data: a reading of an argument, by its type. -/
import Derived.Test.YtbkpfnddpnccmaaRk21
import Derived.Deep.Slices
namespace Go.Rk
section
variable (T : TypeId → Option TI)
def fieldsOk : List Field → Nat → Nat → Bool
  | [], o, s => Nat.beq o s
  | f :: r, o, s => Nat.beq f.offset o && match T f.type with | some i => fieldsOk r (o + i.size) s | none => false
def shOk : Nat → TypeId → Bool
  | 0, _ => false
  | n + 1, t => match T t with
    | some ⟨.int _, s, _, _, _⟩ => Nat.beq s 1
    | some ⟨.bool, s, _, _, _⟩ => Nat.beq s 1
    | some ⟨.slice e, s, _, _, _⟩ => Nat.beq s 1 && ((match T e with | some i => Nat.blt 0 i.size | none => false) && shOk n e)
    | some ⟨.struct fs, s, _, _, _⟩ => fieldsOk T fs.toList 0 s && fs.toList.all fun f => shOk n f.type
    | _ => false
def ShowsAll (F : TypeId → List DV → Prop) : List Field → List DV → Prop
  | [], l => l = []
  | f :: r, l => ∃ a b, l = a ++ b ∧ F f.type a ∧ ShowsAll F r b
def Shows : Nat → TypeId → List DV → Prop
  | 0, _, _ => False
  | n + 1, t, l => match T t with
    | some ⟨.int k, _, _, _, _⟩ => ∃ x, l = [.v (.int k x)] ∧ (Lit.int k x).wf = true
    | some ⟨.bool, _, _, _, _⟩ => ∃ b, l = [.v (.bool b)]
    | some ⟨.slice e, _, _, _, _⟩ => ∃ sz m row, l = [.sl sz m row] ∧ (T e).map (·.size) = some sz ∧ m ≤ maxLen ∧ ∀ i, Shows n e (row i)
    | some ⟨.struct fs, _, _, _, _⟩ => ShowsAll (Shows n) fs.toList l
    | _ => False
end
def Cells (w : World) (N : Nat → Prop) (l : List DV) (cs : List Value) : Prop := l.length = cs.length ∧ ∀ (j : Nat) y, l[j]? = some y → ∃ v, cs[j]? = some v ∧ DRep w N y v

section
variable {P : Program} {T : TypeId → Option TI} {w : World} {N : Nat → Prop}
theorem Cells.app {l l' : List DV} {cs cs' : List Value} (h : Cells w N l cs) (h' : Cells w N l' cs') : Cells w N (l ++ l') (cs ++ cs') := by
  refine ⟨by simp [h.1, h'.1], fun j y hj => ?_⟩
  by_cases hlt : j < l.length
  · rw [List.getElem?_append_left hlt] at hj
    obtain ⟨v, hv, hd⟩ := h.2 j y hj
    exact ⟨v, by rw [List.getElem?_append_left (by rw [← h.1]; exact hlt)]; exact hv, hd⟩
  · rw [List.getElem?_append_right (by omega)] at hj
    obtain ⟨v, hv, hd⟩ := h'.2 _ y hj
    exact ⟨v, by rw [List.getElem?_append_right (by rw [← h.1]; omega), ← h.1]; exact hv, hd⟩
theorem Cells.one {x : DV} {v : Value} (h : DRep w N x v) : Cells w N [x] [v] := by
  refine ⟨rfl, fun j y hj => ?_⟩
  cases j with
  | zero => simp at hj; subst hj; exact ⟨v, rfl, h⟩
  | succ j => simp at hj

theorem fits_len : ∀ {n : Nat} {t : TypeId} {i : TI} {l : List DV}, shOk T n t = true → T t = some i → Shows T n t l → l.length = i.size := by
  intro n
  induction n with
  | zero => intro t i l h _ _; cases h
  | succ n ih =>
    intro t i l h ht hf
    unfold shOk at h
    unfold Shows at hf
    rw [ht] at h hf
    obtain ⟨desc, s, b, z, q⟩ := i
    cases desc with
    | int k => obtain ⟨x, rfl, _⟩ := hf; have := Nat.eq_of_beq_eq_true h; simp [this]
    | bool => obtain ⟨x, rfl⟩ := hf; have := Nat.eq_of_beq_eq_true h; simp [this]
    | slice e =>
      obtain ⟨sz, m, row, rfl, _⟩ := hf
      simp only [Bool.and_eq_true] at h
      have := Nat.eq_of_beq_eq_true h.1; simp [this]
    | struct fs =>
      simp only [Bool.and_eq_true, List.all_eq_true] at h
      obtain ⟨h1, h2⟩ := h
      have gen : ∀ (fs : List Field) (o : Nat) (l : List DV), fieldsOk T fs o s = true → (∀ f ∈ fs, shOk T n f.type = true) → ShowsAll (Shows T n) fs l → o + l.length = s := by
        intro fs
        induction fs with
        | nil => intro o l h _ hl; have hl : l = [] := hl; subst hl; simpa using Nat.eq_of_beq_eq_true h
        | cons f r ihf =>
          intro o l h hs hl
          obtain ⟨a, b, rfl, ha, hb⟩ := hl
          simp only [fieldsOk, Bool.and_eq_true] at h
          cases hT : T f.type with
          | none => rw [hT] at h; simp at h
          | some i' =>
            rw [hT] at h
            have e1 := ih (hs f (by simp)) hT ha
            have e2 := ihf _ b h.2 (fun g hg => hs g (by simp [hg])) hb
            simp [e1]; omega
      have := gen fs.toList 0 l h1 h2 hf
      simpa using this
    | _ => exact hf.elim

theorem fits_inh : ∀ {n : Nat} {t : TypeId}, shOk T n t = true → ∃ l, Shows T n t l := by
  intro n
  induction n with
  | zero => intro t h; cases h
  | succ n ih =>
    intro t h
    unfold shOk at h
    unfold Shows
    cases ht : T t with
    | none => rw [ht] at h; cases h
    | some i =>
      rw [ht] at h
      obtain ⟨desc, s, b, z, q⟩ := i
      cases desc with
      | int k => exact ⟨_, 0, rfl, by cases k <;> decide⟩
      | bool => exact ⟨_, false, rfl⟩
      | slice e =>
        simp only [Bool.and_eq_true] at h
        obtain ⟨h0, h1, h2⟩ := h
        obtain ⟨l, hl⟩ := ih h2
        cases he : T e with
        | none => rw [he] at h1; cases h1
        | some i => exact ⟨_, i.size, 0, fun _ => l, rfl, by simp [he], Nat.zero_le _, fun _ => hl⟩
      | struct fs =>
        simp only [Bool.and_eq_true, List.all_eq_true] at h
        have gen : ∀ (fs : List Field), (∀ f ∈ fs, shOk T n f.type = true) → ∃ l, ShowsAll (Shows T n) fs l := by
          intro fs
          induction fs with
          | nil => intro _; exact ⟨[], rfl⟩
          | cons f r ihf =>
            intro hs
            obtain ⟨a, ha⟩ := ih (hs f (by simp))
            obtain ⟨b, hb⟩ := ihf fun g hg => hs g (by simp [hg])
            exact ⟨a ++ b, a, b, rfl, ha, hb⟩
        exact gen _ h.2
      | _ => cases h

theorem trod_fits {H : Type} {enc : TypeId × Value → H} (hT : TTok P T) : ∀ (n : Nat) (t : TypeId) (fuel : Nat) (cs : List Value) (x : DataW H × List MemPlace), shOk T n t = true →
    DataW.trod enc P w 0 (fun _ => true) true fuel t cs = some x → ∃ l, Shows T n t l ∧ Cells w (fun b => b < w.heap.size) l cs := by
  intro n
  induction n with
  | zero => intro t _ _ _ h; cases h
  | succ n ih =>
    intro t fuel cs x h hx
    have h' := h
    unfold shOk at h
    cases ht : T t with
    | none => rw [ht] at h; cases h
    | some i =>
      rw [ht] at h
      have hd := hT.desc t i ht
      have hcells : P.cellsOf t = i.size := by
        obtain ⟨inf, z, h1, h2, _⟩ := hT.info t i ht
        simp [Program.cellsOf, h1, h2]
      unfold Shows
      rw [ht]
      obtain ⟨desc, s, b, z, q⟩ := i
      cases desc with
      | int k =>
        cases fuel with
        | zero => simp [DataW.trod] at hx
        | succ fuel =>
          have e : ∃ m, cs = [.int k m] ∧ (Lit.int k m).wf = true := by
            unfold DataW.trod at hx
            rw [hd] at hx
            split at hx <;> simp_all
          obtain ⟨m, rfl, hm⟩ := e
          exact ⟨_, ⟨m, rfl, hm⟩, Cells.one (.v _ rfl)⟩
      | bool =>
        cases fuel with
        | zero => simp [DataW.trod] at hx
        | succ fuel =>
          have e : ∃ m, cs = [.bool m] := by
            unfold DataW.trod at hx
            rw [hd] at hx
            split at hx <;> first | exact ⟨_, rfl⟩ | simp_all
          obtain ⟨m, rfl⟩ := e
          exact ⟨_, ⟨m, rfl⟩, Cells.one (.v _ rfl)⟩
      | slice e =>
        simp only [Bool.and_eq_true] at h
        obtain ⟨h0, h1, h2⟩ := h
        cases he : T e with
        | none => rw [he] at h1; cases h1
        | some ie =>
          rw [he] at h1
          have hpos : 0 < ie.size := by simpa [Nat.blt_eq] using h1
          have hce : P.cellsOf e = ie.size := by
            obtain ⟨inf, z, h1, h2, _⟩ := hT.info e ie he
            simp [Program.cellsOf, h1, h2]
          obtain ⟨l0, hl0⟩ := fits_inh h2
          rcases Go.Deep.open_slice hd hx with ⟨rfl, _⟩ | ⟨a, len, cap, m, k, D, Pl, rfl, _, hle, hmax, hm, _, hel⟩
          · exact ⟨_, ⟨ie.size, 0, fun _ => l0, rfl, by simp [he], Nat.zero_le _, fun _ => hl0⟩, Cells.one (.nil _ _)⟩
          · simp only [if_true] at hm
            subst hm
            have hrow : ∀ i, ∃ l, Shows T n e l ∧ (i < m → ∃ cs', w.cells? 0 (a.add (i * ie.size)) ie.size = some cs' ∧ Cells w (fun b => b < w.heap.size) l cs') := fun i => by
              by_cases hi : i < m
              · obtain ⟨cs', e1, e2⟩ := hel i hi
                obtain ⟨l, f1, f2⟩ := ih e k cs' _ h2 e2
                rw [hce] at e1
                exact ⟨l, f1, fun _ => ⟨cs', e1, f2⟩⟩
              · exact ⟨l0, hl0, fun h => (hi h).elim⟩
            let row : Nat → List DV := fun i => Classical.choose (hrow i)
            have hr1 : ∀ i, Shows T n e (row i) := fun i => (Classical.choose_spec (hrow i)).1
            have hr2 : ∀ i, i < m → ∃ cs', w.cells? 0 (a.add (i * ie.size)) ie.size = some cs' ∧ Cells w (fun b => b < w.heap.size) (row i) cs' := fun i => (Classical.choose_spec (hrow i)).2
            refine ⟨_, ⟨ie.size, len, row, rfl, by simp [he], Nat.le_trans hle hmax, hr1⟩, Cells.one ?_⟩
            by_cases hc0 : m = 0
            · subst hc0
              obtain rfl : len = 0 := by omega
              exact .empty _ _ _
            · have hcell : ∀ i j, i < m → j < ie.size → ∃ v, w.cell? ((a.add (i * ie.size)).add j) = some v ∧ ∀ y, (row i)[j]? = some y → DRep w (fun b => b < w.heap.size) y v := fun i j hi hj => by
                obtain ⟨cs', c1, c2⟩ := hr2 i hi
                obtain ⟨_, c3, c4⟩ := World.cells?_some c1
                have hjl : j < (row i).length := by rw [c2.1, c3]; exact hj
                obtain ⟨v, hv, hdv⟩ := c2.2 j _ (List.getElem?_eq_getElem hjl)
                refine ⟨v, by rw [c4 j hj]; exact hv, fun y hy => ?_⟩
                rw [List.getElem?_eq_getElem hjl] at hy
                cases hy
                exact hdv
              obtain ⟨ab, ao, asp⟩ := a
              obtain ⟨v0, hv0, _⟩ := hcell 0 0 (by omega) hpos
              simp only [Nat.zero_mul, Addr.add, if_true] at hv0
              obtain ⟨c, ce, cf, hb, hsp⟩ : ∃ c ce cf, w.heap[ab]? = some (.cells c ce cf) ∧ asp = none := by
                unfold World.cell? at hv0
                split at hv0
                · rename_i c ce cf hb
                  cases asp with
                  | none => exact ⟨c, ce, cf, hb, rfl⟩
                  | some _ => simp at hv0
                · cases hv0
              subst hsp
              have hcell' : ∀ i j, i < m → j < ie.size → ∃ v, c[ao + i * ie.size + j]? = some v ∧ ∀ y, (row i)[j]? = some y → DRep w (fun b => b < w.heap.size) y v := fun i j hi hj => by
                obtain ⟨v, h1, h2⟩ := hcell i j hi hj
                refine ⟨v, ?_, h2⟩
                have e1 : ((⟨ab, ao, none⟩ : Addr).add (i * ie.size)).add j = ⟨ab, ao + i * ie.size + j, none⟩ := by
                  unfold Addr.add
                  split <;> split <;> simp_all
                rw [e1] at h1
                simpa [World.cell?, hb] using h1
              have hlen : ∀ i, (row i).length = ie.size := fun i => fits_len h2 he (hr1 i)
              have hu : ∀ i j, ∃ v, i < m → j < ie.size → c[ao + i * ie.size + j]? = some v ∧ ∀ y, (row i)[j]? = some y → DRep w (fun b => b < w.heap.size) y v := fun i j => by
                by_cases hi : i < m
                · by_cases hj : j < ie.size
                  · obtain ⟨v, hv⟩ := hcell' i j hi hj
                    exact ⟨v, fun _ _ => hv⟩
                  · exact ⟨undef, fun _ h => (hj h).elim⟩
                · exact ⟨undef, fun h => (hi h).elim⟩
              have hjlt : ∀ i j y, (row i)[j]? = some y → j < ie.size := fun i j y hy => by rw [← hlen i]; exact (List.getElem?_eq_some_iff.1 hy).1
              refine .sl ie.size len row ab ao m c ce cf (fun i j => Classical.choose (hu i j)) (Array.getElem?_eq_some_iff.1 hb).1 hb hle ?_ (fun i _ => hlen i) (fun i j y hi hy => ?_) (fun i j y hi hy => ?_)
              · obtain ⟨v, hv, _⟩ := hcell' (m - 1) (ie.size - 1) (by omega) (by omega)
                have := (Array.getElem?_eq_some_iff.1 hv).1
                have e : m * ie.size = (m - 1) * ie.size + ie.size := by
                  have : m = (m - 1) + 1 := by omega
                  rw [this, Nat.add_mul]; simp
                omega
              · exact ((Classical.choose_spec (hu i j)) (by omega) (hjlt i j y hy)).1
              · exact ((Classical.choose_spec (hu i j)) (by omega) (hjlt i j y hy)).2 y hy
      | struct fs =>
        simp only [Bool.and_eq_true, List.all_eq_true] at h
        obtain ⟨h1, h2⟩ := h
        obtain ⟨xs, k, _, _, hcl, hxl, hfx⟩ := DataW.trod_struct hd hx
        rw [hcells] at hcl
        have hcl : cs.length = s := hcl
        have gen : ∀ (fs : List Field) (o : Nat), fieldsOk T fs o s = true → (∀ f ∈ fs, shOk T n f.type = true) →
            (∀ f ∈ fs, ∃ y, DataW.trod enc P w 0 (fun _ => true) true k f.type ((cs.drop f.offset).take (P.cellsOf f.type)) = some y) →
            ∃ l, ShowsAll (Shows T n) fs l ∧ Cells w (fun b => b < w.heap.size) l (cs.drop o) := by
          intro fs
          induction fs with
          | nil =>
            intro o h _ _
            have : o = s := Nat.eq_of_beq_eq_true h
            refine ⟨[], rfl, ?_⟩
            rw [List.drop_of_length_le (by omega)]
            exact ⟨rfl, fun j y hj => by simp at hj⟩
          | cons f r ihf =>
            intro o h hs hy
            simp only [fieldsOk, Bool.and_eq_true] at h
            cases hTf : T f.type with
            | none => rw [hTf] at h; simp at h
            | some i' =>
              rw [hTf] at h
              obtain ⟨h3, h4⟩ := h
              have ho : f.offset = o := Nat.eq_of_beq_eq_true h3
              have hcf : P.cellsOf f.type = i'.size := by
                obtain ⟨inf, z, h1, h2, _⟩ := hT.info f.type i' hTf
                simp [Program.cellsOf, h1, h2]
              obtain ⟨y, hy1⟩ := hy f (by simp)
              obtain ⟨l1, f1, c1⟩ := ih f.type k _ y (hs f (by simp)) hy1
              obtain ⟨l2, f2, c2⟩ := ihf (o + i'.size) h4 (fun g hg => hs g (by simp [hg])) (fun g hg => hy g (by simp [hg]))
              refine ⟨l1 ++ l2, ⟨l1, l2, rfl, f1, f2⟩, ?_⟩
              have := c1.app c2
              rw [ho, hcf] at this
              have e : List.take i'.size (List.drop o cs) ++ List.drop (o + i'.size) cs = List.drop o cs := by
                rw [← List.drop_drop]; exact List.take_append_drop _ _
              rw [e] at this
              exact this
        obtain ⟨l, hl1, hl2⟩ := gen fs.toList 0 h1 h2 fun f hf => by
          obtain ⟨i, hi⟩ := List.mem_iff_getElem?.1 hf
          have hi' : fs[i]? = some f := by simpa using hi
          have hil : i < xs.length := by rw [hxl]; exact (Array.getElem?_eq_some_iff.1 hi').1
          exact ⟨xs[i], by rw [hfx i f hi']; exact List.getElem?_eq_getElem hil⟩
        exact ⟨l, hl1, by simpa using hl2⟩
      | _ => cases h
end
end Go.Rk
