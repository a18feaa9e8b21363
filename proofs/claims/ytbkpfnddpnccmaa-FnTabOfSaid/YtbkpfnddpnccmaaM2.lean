/- The walk over this seat's functions, part 2: what each of them answers, at all data. -/
import Derived.Test.YtbkpfnddpnccmaaM1
import Derived.Laws.MakeOwn
/- Operations, more: slices made, cut and grown. -/
namespace Go.Rk
set_option linter.unusedSimpArgs false
set_option linter.unusedVariables false
section
variable {P : Program} {T : TypeId → Option TI} {EX : FuncId → List Nat × Bool} {M : FuncId → List XT → Out → Prop}
variable {w0 : World} {S : Sets} {nt : Nat} {slots : List (Nat × AV)} {σ : Objs} {a : Act} {w : World} {μ : Place}
variable {o : Oper} {K : AV → List (Nat × Nat × HO) → Prop} {next : Act → World → Prop} {Q : Exit → Act → World → Prop}

theorem sound_makeSlice (hT : TTok P T) (R : RelM w0 S nt (lookS slots) σ a w μ) (hd : ∀ d, o.dst = some d → d < nt) {t : TypeId} {x y : Operand} (ho : o.op = .makeSlice t x y)
    (h : (semOp real T EX o true (rho slots)).run σ (OpOut.run M σ K)) : Sound P w0 S nt slots σ a w o K := by
  simp only [semOp, ho, G.run_bind] at h
  obtain ⟨it, e, i, hit, hdesc, hi, h1⟩ := elemv_run h
  clear h
  have hu : P.underlying t = some (.slice e) := by rw [hT.desc t it hit, hdesc]
  obtain ⟨k, n, ex, h⟩ := intv_run h1 (rho_rep R x)
  clear h1
  obtain ⟨k', c, ey, h1⟩ := intv_run h (rho_rep R y)
  clear h
  obtain ⟨⟨h0, hnc, hb, hm⟩, hk⟩ := h1
  simp only at h0 hnc hb hm
  subst hnc
  have hk : K (.c (.own (o.dst.getD 0 * 64) 0 n.toNat ((σ (o.dst.getD 0 * 64)).1 + 1))) [(o.dst.getD 0 * 64, (σ (o.dst.getD 0 * 64)).1 + 1, .arr i.size n.toNat (real.rep (i.zero.map .v)))] := hk
  generalize o.dst.getD 0 * 64 = L at *
  obtain ⟨inf, z, e1, e2, e3, e4, e5, e6, e7⟩ := hT.info e i hi
  have hmk := run_make (P := P) w t e inf z hu e1 e4 k k' n n h0 (Int.le_refl _) (by rw [e3, Int.mul_comm]; omega) (by omega)
  have hzs : z.cells.size = i.size := by rw [← e6, ← e5]; simp
  rw [e2] at hmk
  have hexec : (execOp a.eval o).run P w = .ok (.value (.slice (some ⟨w.heap.size, 0, none⟩) n.toNat n.toNat)) (w.alloc (.cells (madeCells z.cells (n.toNat * i.size)) e)) := by
    simp only [execOp, ho, ex, ey, Sem.run_bind, hmk, Result.andThen_ok]; rfl
  by_cases hn0 : n.toNat = 0
  · rw [hn0] at hk hexec
    obtain ⟨st, R'⟩ := (R.garb (.cells (madeCells z.cells (0 * i.size)) e)).bare L ((σ L).1 + 1) (by omega) (.arr i.size 0 (real.rep (i.zero.map .v))) (.inr ⟨_, _, rfl⟩)
    refine sound_mem R' hd (v := .slice (some ⟨w.heap.size, 0, none⟩) 0 0) (.inl hexec) rfl ?_ hk
    exact ⟨rfl, by simp, fun sz' n' row' hσ' => ⟨by omega, .inl ⟨by simp, rfl, _, rfl⟩⟩⟩
  obtain ⟨st, R'⟩ := R.alloc L ((σ L).1 + 1) (by omega) (.arr i.size n.toNat (real.rep (i.zero.map .v))) (madeCells z.cells (n.toNat * i.size)) e
    ⟨fun j _ => by show (i.zero.map DV.v).length = _; simp [e6], by rw [size_madeCells]; omega, fun r j u hr hj => by
      have hj : (i.zero.map DV.v)[j]? = some u := hj
      simp only [List.getElem?_map, Option.map_eq_some_iff] at hj
      obtain ⟨v, hv, rfl⟩ := hj
      have hjl : j < i.size := by rw [← e6]; exact (List.getElem?_eq_some_iff.1 hv).1
      refine ⟨v, ?_, DRep.v v (e7 v (List.mem_of_getElem? hv))⟩
      have hlt : r * i.size + j < n.toNat * i.size := by
        have := Nat.mul_le_mul_right i.size (show r + 1 ≤ n.toNat from hr)
        rw [Nat.succ_mul] at this; omega
      have hmod : (r * i.size + j) % i.size = j := by rw [Nat.mul_add_mod_self_right, Nat.mod_eq_of_lt hjl]
      have hzj : z.cells[j]? = some v := by rw [← Array.getElem?_toList, e5]; exact hv
      have hzj' : z.cells[j]! = v := by rw [getElem!_def, hzj]
      simp [madeCells, hlt, hzs, hmod, hzj']⟩
  refine sound_mem R' hd (v := .slice (some ⟨w.heap.size, 0, none⟩) n.toNat n.toNat) (.inl hexec) rfl ?_ hk
  · refine ⟨rfl, by simp, fun sz' n' row' hσ' => ?_⟩
    simp at hσ'; obtain ⟨rfl, rfl, rfl⟩ := hσ'
    exact ⟨by omega, .inr ⟨w.heap.size, 0, 0, n.toNat, _, e, by simp, rfl, Nat.le_refl _, fun _ => by simp, heap_alloc_new _ _, by rw [size_madeCells]; omega, fun _ => by omega⟩⟩

def loOk (a : Act) : Option Operand → Int → Prop
  | none, A => A = 0
  | some x, A => ∃ k, a.eval x = .int k A
def hiOk (a : Act) : Option Operand → Int → Nat → Prop
  | none, B, n => B = n
  | some x, B, _ => ∃ k, a.eval x = .int k B

theorem slice_run {t e : TypeId} (hu : P.underlying t = some (.slice e)) {i : TI} (hT : TTok P T) (hi : T e = some i) {x : Operand} {lo hi' : Option Operand} {ad : Option Addr} {len cap : Nat} {A B : Int}
    (ho : o.op = .slice t x lo hi' none) (ex : a.eval x = .slice ad len cap) (hlo : loOk a lo A) (hhi : hiOk a hi' B len) (h0 : 0 ≤ A) (h1 : A ≤ B) (h2 : B ≤ len) (h3 : len ≤ cap) :
    (execOp a.eval o).run P w = .ok (.value (.slice (if cap = A.toNat then ad else ad.map (·.add (A.toNat * i.size))) (B.toNat - A.toNat) (cap - A.toNat))) w := by
  have hs := sizeOf_run hT hi w
  have hB : 0 ≤ B := by omega
  have hBc : B ≤ cap := by omega
  have hmx : max B 0 = B := by omega
  cases lo with
  | none =>
    have hlo : A = 0 := hlo
    subst hlo
    cases hi' with
    | none =>
      have hhi : B = len := hhi
      subst hhi
      simp [execOp, ho, ex, Instr.sliceAt, underlying, hu, Instr.slice, Instr.sliceBounds, hs]
    | some y =>
      obtain ⟨k, ey⟩ := hhi
      simp [execOp, ho, ex, Instr.sliceAt, underlying, hu, Instr.slice, Instr.sliceBounds, Instr.sliceBound, asIntOf, ey, hs, hB, hBc]
  | some z =>
    obtain ⟨k, ez⟩ := hlo
    cases hi' with
    | none =>
      have hhi : B = len := hhi
      subst hhi
      simp [execOp, ho, ex, Instr.sliceAt, underlying, hu, Instr.slice, Instr.sliceBounds, Instr.sliceBound, asIntOf, ez, hs, h0, h1]
    | some y =>
      obtain ⟨k', ey⟩ := hhi
      simp [execOp, ho, ex, Instr.sliceAt, underlying, hu, Instr.slice, Instr.sliceBounds, Instr.sliceBound, asIntOf, ey, ez, hs, hB, hBc, h0, h1, hmx]

theorem sliceSem_run {e : TI} {x : CV} {v : Value} {A B : Int} {Q : CV → Prop} (hx : CRep σ μ w (Nof S σ μ w) x v) (h : (sliceSem real e x A B).run σ Q) :
    ∃ ad len cap, v = .slice ad len cap ∧ 0 ≤ A ∧ A ≤ B ∧ B ≤ len ∧ len ≤ cap ∧
      ∃ y, CRep σ μ w (Nof S σ μ w) y (.slice (if cap = A.toNat then ad else ad.map (·.add (A.toNat * e.size))) (B.toNat - A.toNat) (cap - A.toNat)) ∧ Q y := by
  unfold sliceSem at h
  split at h
  · rename_i sz n row
    cases hsz : Nat.beq sz e.size with
    | false => rw [hsz] at h; exact h.elim
    | true =>
      rw [hsz] at h
      obtain ⟨⟨h0, h1, h2⟩, h⟩ := h
      have hsz := Nat.eq_of_beq_eq_true hsz
      subst hsz
      have hl : (real.dif B A) = B.toNat - A.toNat := by show (B - A).toNat = _; omega
      cases hx with
      | nil =>
        refine ⟨none, 0, 0, rfl, h0, h1, h2, Nat.le_refl _, _, ?_, h⟩
        have : A.toNat = 0 := by omega
        have hb : B.toNat = 0 := by omega
        rw [hl, this, hb]
        exact DRep.nil _ _
      | empty _ _ ad =>
        refine ⟨some ad, 0, 0, rfl, h0, h1, h2, Nat.le_refl _, _, ?_, h⟩
        have : A.toNat = 0 := by omega
        have hb : B.toNat = 0 := by omega
        rw [hl, this, hb]
        exact DRep.empty _ _ ad
      | sl _ _ _ b off cap cs e' fr u hN hb hc hs hr hu hd =>
        refine ⟨_, n, cap, rfl, h0, h1, h2, hc, _, ?_, h⟩
        rw [hl]
        have hAn : A.toNat ≤ B.toNat ∧ B.toNat ≤ n := by omega
        have hmul : (cap - A.toNat) * e.size + A.toNat * e.size = cap * e.size := by rw [← Nat.add_mul]; congr 1; omega
        by_cases hcA : cap = A.toNat
        · rw [if_pos hcA]
          refine DRep.sl _ _ _ b off _ cs e' fr (fun i j => u (A.toNat + i) j) hN hb (by omega) (by omega) (fun i hi => by omega) (fun i j x hi hj => by omega) (fun i j x hi hj => by omega)
        · rw [if_neg hcA]
          simp only [Option.map_some, add_off]
          refine DRep.sl _ _ _ b _ _ cs e' fr (fun i j => u (A.toNat + i) j) hN hb (by omega) (by omega) (fun i hi => hr (A.toNat + i) (by omega)) (fun i j x hi hj => ?_) (fun i j x hi hj => hd (A.toNat + i) j x (by omega) hj)
          have := hu (A.toNat + i) j x (by omega) hj
          rw [← this]; congr 1; rw [Nat.add_mul]; omega
  · cases hx
    obtain ⟨⟨h0, h1, h2⟩, h⟩ := h
    refine ⟨none, 0, 0, rfl, h0, h1, h2, Nat.le_refl _, _, ?_, h⟩
    have : A.toNat = 0 := by omega
    have hb : B.toNat = 0 := by omega
    rw [this, hb]
    exact DRep.v _ rfl
  · rename_i l off len ver
    simp only [G.run] at h
    split at h
    · rename_i ver' sz n row hσ
      cases hsz : Nat.beq sz e.size with
      | false => rw [hsz] at h; exact h.elim
      | true =>
        rw [hsz] at h
        obtain ⟨hv, ⟨h0, h1, h2⟩, h⟩ := h
        have hv : ver = ver' := hv
        subst hv
        have hsz := Nat.eq_of_beq_eq_true hsz
        subst hsz
        have hl : (real.dif B A) = B.toNat - A.toNat := by show (B - A).toNat = _; omega
        have ha : real.add off (real.nat A) = off + A.toNat := rfl
        rw [hl, ha] at h
        obtain ⟨_, hle, h3⟩ := hx
        obtain ⟨h4, h5⟩ := h3 _ n row hσ
        rcases h5 with ⟨hm, hl0, ad, rfl⟩ | ⟨b, base, o', cap, cs, e', hμ, rfl, hcap, ho', hb, hfit, hpos⟩
        · refine ⟨ad, 0, 0, rfl, h0, h1, by omega, Nat.le_refl _, .own l (off + A.toNat) (B.toNat - A.toNat) ver, ⟨rfl, hle, fun sz' n' row' hσ' => ?_⟩, h⟩
          rw [hσ] at hσ'; simp at hσ'; obtain ⟨rfl, rfl, rfl⟩ := hσ'
          have : A.toNat = 0 := by omega
          have hb0 : B.toNat = 0 := by omega
          refine ⟨by omega, .inl ⟨hm, by omega, ad, by rw [this, hb0]; rfl⟩⟩
        · refine ⟨_, len, cap, rfl, h0, h1, h2, hcap, .own l (off + A.toNat) (B.toNat - A.toNat) ver, ⟨rfl, hle, fun sz' n' row' hσ' => ?_⟩, h⟩
          rw [hσ] at hσ'; simp at hσ'; obtain ⟨rfl, rfl, rfl⟩ := hσ'
          have hmul : (cap - A.toNat) * e.size + A.toNat * e.size = cap * e.size := by rw [← Nat.add_mul]; congr 1; omega
          refine ⟨by omega, .inr ?_⟩
          by_cases hcA : cap = A.toNat
          · rw [if_pos hcA]
            refine ⟨b, base, o', cap - A.toNat, cs, e', hμ, rfl, by omega, fun hh => ?_, hb, by omega, fun hh => by have := hpos (by omega); omega⟩
            have hh' : 0 < B.toNat - A.toNat ∨ off + A.toNat = 0 := hh
            have hA0 : A.toNat = 0 := by omega
            have ho0 : off = 0 := by omega
            rw [ho' (.inr ho0), hA0]; simp
          · rw [if_neg hcA]
            simp only [Option.map_some, add_off]
            refine ⟨b, base, o' + A.toNat * e.size, cap - A.toNat, cs, e', hμ, rfl, by omega, fun hh => ?_, hb, by omega, fun hh => by have := hpos (by omega); omega⟩
            have hh' : 0 < B.toNat - A.toNat ∨ off + A.toNat = 0 := hh
            have : 0 < len ∨ off = 0 := by omega
            rw [ho' this, Nat.add_mul]; omega
    · exact h.elim
  · exact h.elim

theorem loSem_run (R : RelM w0 S nt (lookS slots) σ a w μ) {lo : Option Operand} {Q : Int → Prop} (h : (loSem real true (rho slots) lo).run σ Q) : ∃ A, loOk a lo A ∧ Q A := by
  cases lo with
  | none => exact ⟨0, rfl, h⟩
  | some z =>
    simp only [loSem, G.run_bind] at h
    obtain ⟨k, A, ez, h⟩ := intv_run h (rho_rep R z)
    exact ⟨A, ⟨k, ez⟩, h⟩
theorem hiSem_run (R : RelM w0 S nt (lookS slots) σ a w μ) {x : Operand} {c : CV} (hc : CRep σ μ w (Nof S σ μ w) c (a.eval x)) {hi' : Option Operand} {Q : Int → Prop} (h : (hiSem real true (rho slots) c hi').run σ Q) :
    ∃ B, (∀ n ad cap, a.eval x = .slice ad n cap → hiOk a hi' B n) ∧ Q B := by
  cases hi' with
  | none =>
    simp only [hiSem, G.run_bind] at h
    obtain ⟨n, ad, cap, ex, h⟩ := lenv_run hc h
    exact ⟨n, fun n' ad' cap' ex' => by rw [ex] at ex'; simp at ex'; show (n : Int) = n'; omega, h⟩
  | some y =>
    simp only [hiSem, G.run_bind] at h
    obtain ⟨k, n, ey, h⟩ := intv_run h (rho_rep R y)
    exact ⟨n, fun _ _ _ _ => ⟨k, ey⟩, h⟩
theorem sound_slice (hT : TTok P T) (R : RelM w0 S nt (lookS slots) σ a w μ) (hd : ∀ d, o.dst = some d → d < nt) {t : TypeId} {x : Operand} {lo hi' mx : Option Operand} (ho : o.op = .slice t x lo hi' mx)
    (h : (semOp real T EX o true (rho slots)).run σ (OpOut.run M σ K)) : Sound P w0 S nt slots σ a w o K := by
  simp only [semOp, ho, G.run_bind] at h
  obtain ⟨it, e, i, hit, hdesc, hi, h1⟩ := elemv_run h
  clear h
  have hu : P.underlying t = some (.slice e) := by rw [hT.desc t it hit, hdesc]
  cases mx with
  | some m => exact h1.elim
  | none =>
  simp only [G.run_bind] at h1
  obtain ⟨c, hc, h⟩ := cellv_run h1 (rho_rep R x)
  clear h1
  have key : ∀ A B, loOk a lo A → (∀ n ad cap, a.eval x = .slice ad n cap → hiOk a hi' B n) → (sliceSem real i c A B).run σ (fun y => K (.c y) []) → Sound P w0 S nt slots σ a w o K := by
    intro A B hA hB hs
    obtain ⟨ad, len, cap, ex, g0, g1, g2, g3, y, hy, hk⟩ := sliceSem_run hc hs
    exact sound_val R hd (slice_run hu hT hi ho ex hA (hB _ _ _ ex) g0 g1 g2 g3) (x := .c y) hy hk
  obtain ⟨A, hA, h1⟩ := loSem_run R h
  clear h
  obtain ⟨B, hB, h⟩ := hiSem_run R hc h1
  exact key A B hA hB h
end
end Go.Rk
/- Operations, the last: a slice grown. -/
namespace Go.Rk
set_option linter.unusedSimpArgs false
set_option linter.unusedVariables false
section
variable {P : Program} {T : TypeId → Option TI} {EX : FuncId → List Nat × Bool} {M : FuncId → List XT → Out → Prop}
variable {w0 : World} {S : Sets} {nt : Nat} {slots : List (Nat × AV)} {σ : Objs} {a : Act} {w : World} {μ : Place}
variable {o : Oper} {K : AV → List (Nat × Nat × HO) → Prop} {next : Act → World → Prop} {Q : Exit → Act → World → Prop}

theorem DRep.one {N : Nat → Prop} {x : DV} {v : Value} (h : DRep w N x v) : v.oneCell' = true := by cases h <;> first | assumption | rfl

/-- The cells of rows, one behind the other. -/
theorem rows_flat {N : Nat → Prop} {sz n off : Nat} {row : Nat → List DV} {cs : Array Value} (hr : ∀ i, i < n → (row i).length = sz)
    (hc : ∀ i j x, i < n → (row i)[j]? = some x → ∃ u, cs[off + i * sz + j]? = some u ∧ DRep w N x u) :
    ∃ news : List Value, news.length = n * sz ∧ (∀ (k : Nat) v, news[k]? = some v → cs[off + k]? = some v) ∧ (∀ v ∈ news, v.oneCell' = true) ∧
      ∀ i j x, i < n → (row i)[j]? = some x → ∃ u, news[i * sz + j]? = some u ∧ DRep w N x u := by
  have hk : ∀ k, k < n * sz → ∃ u, cs[off + k]? = some u ∧ u.oneCell' = true := fun k hk => by
    have hsz : 0 < sz := Nat.pos_of_ne_zero fun h => by simp [h] at hk
    have hi : k / sz < n := Nat.div_lt_of_lt_mul (by rw [Nat.mul_comm]; exact hk)
    have hj : k % sz < (row (k / sz)).length := by rw [hr _ hi]; exact Nat.mod_lt _ hsz
    obtain ⟨u, hu, hd⟩ := hc _ _ _ hi (List.getElem?_eq_getElem hj)
    refine ⟨u, ?_, hd.one⟩
    rw [← hu]; congr 1
    have := Nat.div_add_mod k sz
    rw [Nat.mul_comm] at this; omega
  refine ⟨(List.range (n * sz)).map fun k => cs.getD (off + k) undef, by simp, fun k v hv => ?_, fun v hv => ?_, fun i j x hi hj => ?_⟩
  · simp only [List.getElem?_map, Option.map_eq_some_iff] at hv
    obtain ⟨k', hk', rfl⟩ := hv
    obtain ⟨hlt, rfl⟩ := List.getElem?_eq_some_iff.1 hk'
    simp at hlt ⊢
    obtain ⟨u, hu, _⟩ := hk k hlt
    rw [hu]; rfl
  · simp only [List.mem_map, List.mem_range] at hv
    obtain ⟨k, hlt, rfl⟩ := hv
    obtain ⟨u, hu, h1⟩ := hk k hlt
    simp [hu, h1]
  · obtain ⟨u, hu, hd⟩ := hc i j x hi hj
    have hj' : j < sz := by rw [← hr i hi]; exact (List.getElem?_eq_some_iff.1 hj).1
    have hlt : i * sz + j < n * sz := by
      have := Nat.mul_le_mul_right sz (show i + 1 ≤ n from hi)
      rw [Nat.succ_mul] at this; omega
    refine ⟨u, ?_, hd⟩
    rw [show off + i * sz + j = off + (i * sz + j) by omega] at hu
    simp [hlt, hu]

/-- What is appended, as it is read. -/
theorem src_cells {N : Nat → Prop} {sz m : Nat} {row : Nat → List DV} {v : Value} (h : RowsAt w N sz m row v) :
    ∃ news : List Value, news.length = m * sz ∧ (∀ w' : World, w'.heap = w.heap → (Builtin.firstCells sz m v).run P w' = .ok news.toArray w') ∧ (Builtin.lenOf v = pure m) ∧ (∀ u ∈ news, u.oneCell' = true) ∧
      ∀ i j x, i < m → (row i)[j]? = some x → ∃ u, news[i * sz + j]? = some u ∧ DRep w N x u := by
  obtain ⟨hr, h⟩ := h
  rcases h with ⟨rfl, ad, cap, rfl⟩ | ⟨b, off, cap, cs, e, fr, rfl, hb, hc⟩
  · refine ⟨[], by simp, fun w' _ => ?_, rfl, fun u hu => by simp at hu, fun i j x hi => by omega⟩
    cases ad with
    | none => simp [Builtin.firstCells]
    | some ad => simp [Builtin.firstCells, loadCells, loadCellsFrom]
  · obtain ⟨news, h1, h2, h3, h4⟩ := rows_flat hr hc
    refine ⟨news, h1, fun w' hw' => ?_, rfl, h3, h4⟩
    refine run_firstCells_some w' sz m _ m cap news h1 fun j u hj => ?_
    rw [add_off, cell_at (by rw [hw']; exact hb)]
    exact h2 j u hj

theorem append_none {t u e : TypeId} {ty : TypeId} {i : TI} (hT : TTok P T) (hu : P.underlying t = some (.slice e)) {ui : TypeId} (hu2 : P.underlying u = some (.slice ui)) (hi : T e = some i)
    {N : Nat → Prop} {m : Nat} {row : Nat → List DV} {v : Value} (hs : RowsAt w N i.size m row v) (hroom : m * i.bytes ≤ 140737488355328 ∧ m ≤ 140737488355328) (ad : Option Addr) :
    ∃ w' v', (Builtin.append_ #[t, u] ty #[.slice ad 0 0, v]).run P w = .ok v' w' ∧
      ((m = 0 ∧ w' = w ∧ v' = .slice ad 0 0) ∨ ∃ cap cs, (0 < m ∧ m ≤ cap) ∧ v' = .slice (some ⟨w.heap.size, 0, none⟩) m cap ∧ w' = w.drew.alloc (.cells cs e) ∧ cap * i.size ≤ cs.size ∧
        ∀ r j x, r < m → (row r)[j]? = some x → ∃ q, cs[r * i.size + j]? = some q ∧ DRep w N x q) := by
  obtain ⟨inf, z, e1, e2, e3, e4, e5, e6, e7⟩ := hT.info e i hi
  obtain ⟨news, n1, n2, n3, n4, n5⟩ := src_cells (P := P) hs
  by_cases hm : m = 0
  · subst hm
    refine ⟨w, .slice ad 0 0, ?_, .inl ⟨rfl, rfl, rfl⟩⟩
    have hnil : news = [] := by simpa using n1
    subst hnil
    have := n2 w rfl
    cases ad with
    | none => simp [Builtin.append_, underlying, hu, hu2, sizeOf_run hT hi, n3, this]
    | some ad => simp [Builtin.append_, underlying, hu, hu2, sizeOf_run hT hi, n3, this, storeCells]
  · have hfit := growslice_fits (need := m) (old := 0) (bytes := i.bytes) (by omega) hroom.1
    have h63 : ¬ (9223372036854775807 < (m : Int)) := by omega
    have h48 : ¬ (281474976710656 < Builtin.nextslicecap m 0 * i.bytes) := by omega
    have hzs : z.cells.size = i.size := by rw [← e6, ← e5]; simp
    have hcap : m ≤ grownCap w m 0 e := by simp [grownCap, Question.cut]
    refine ⟨w.drew.alloc (.cells (news.toArray ++ Builtin.zeroCells z.cells (grownCap w m 0 e - m)) e), .slice (some ⟨w.heap.size, 0, none⟩) m (grownCap w m 0 e), ?_,
      .inr ⟨grownCap w m 0 e, _, ⟨by omega, hcap⟩, rfl, rfl, ?_, fun r j x hr hj => ?_⟩⟩
    · have hf := n2 w.drew rfl
      have h0 : (Builtin.firstCells i.size 0 (.slice ad 0 0)).run P w.drew = .ok #[] w.drew := by
        cases ad <;> simp [Builtin.firstCells, loadCells, loadCellsFrom]
      simp [Builtin.append_, underlying, hu, hu2, sizeOf_run hT hi, n3, hm, h63, typeInfo, e1, e3, h48, Question.forced, h0, hf, zeroValue, e4, newRow, grownCap]
    · rw [Array.size_append, size_zeroCells, hzs]
      simp only [List.size_toArray, n1]
      rw [← Nat.add_mul]
      exact Nat.mul_le_mul_right _ (by omega)
    · obtain ⟨q, hq, hd⟩ := n5 r j x hr hj
      refine ⟨q, ?_, hd⟩
      rw [Array.getElem?_append_left (by simpa using (List.getElem?_eq_some_iff.1 hq).1)]
      simpa using hq

theorem append_own {t u e : TypeId} {ty : TypeId} {i : TI} (hT : TTok P T) (hu : P.underlying t = some (.slice e)) {ui : TypeId} (hu2 : P.underlying u = some (.slice ui)) (hi : T e = some i)
    {N : Nat → Prop} {m : Nat} {row : Nat → List DV} {v : Value} (hs : RowsAt w N i.size m row v)
    {b base n cap : Nat} {cs : Array Value} {el : TypeId} (hb : w.heap[b]? = some (.cells cs el (0, 0))) (_hcap : n ≤ cap) (hfitc : base + cap * i.size ≤ cs.size)
    {row' : Nat → List DV} (hr' : ∀ r, r < n → (row' r).length = i.size) (hc' : ∀ r j x, r < n → (row' r)[j]? = some x → ∃ q, cs[base + r * i.size + j]? = some q ∧ DRep w N x q)
    (hroom : (n + m) * i.bytes ≤ 140737488355328 ∧ n + m ≤ 140737488355328) :
    ∃ w' v', (Builtin.append_ #[t, u] ty #[.slice (some ⟨b, base, none⟩) n cap, v]).run P w = .ok v' w' ∧
      ((n + m ≤ cap ∧ v' = .slice (some ⟨b, base, none⟩) (n + m) cap ∧ ∃ cs', cs'.size = cs.size ∧ w' = w.setRow b cs' ∧
          (∀ r j x, r < n → (row' r)[j]? = some x → ∃ q, cs'[base + r * i.size + j]? = some q ∧ DRep w N x q) ∧
          ∀ r j x, r < m → (row r)[j]? = some x → ∃ q, cs'[base + (n + r) * i.size + j]? = some q ∧ DRep w N x q) ∨
        ∃ cap' cs', (0 < n + m ∧ n + m ≤ cap') ∧ v' = .slice (some ⟨w.heap.size, 0, none⟩) (n + m) cap' ∧ w' = w.drew.alloc (.cells cs' e) ∧ cap' * i.size ≤ cs'.size ∧
          (∀ r j x, r < n → (row' r)[j]? = some x → ∃ q, cs'[r * i.size + j]? = some q ∧ DRep w N x q) ∧
          ∀ r j x, r < m → (row r)[j]? = some x → ∃ q, cs'[(n + r) * i.size + j]? = some q ∧ DRep w N x q) := by
  obtain ⟨inf, z, e1, e2, e3, e4, e5, e6, e7⟩ := hT.info e i hi
  obtain ⟨news, n1, n2, n3, n4, n5⟩ := src_cells (P := P) hs
  by_cases hroom' : n + m ≤ cap
  · have hmul : (n + m) * i.size ≤ cap * i.size := Nat.mul_le_mul_right _ hroom'
    rw [Nat.add_mul] at hmul
    have hfit : base + n * i.size + news.length ≤ cs.size := by rw [n1]; omega
    have hst := run_storeCells_at P b (base + n * i.size) el news 0 cs w hb (by simpa using hfit) n4
    simp only [Nat.add_zero] at hst
    refine ⟨_, .slice (some ⟨b, base, none⟩) (n + m) cap, ?_, .inl ⟨hroom', rfl, _, spliced_size _ _ _ hfit, rfl, fun r j x hr hj => ?_, fun r j x hr hj => ?_⟩⟩
    · have hf := n2 w rfl
      simp [Builtin.append_, underlying, hu, hu2, sizeOf_run hT hi, n3, hroom', hf, add_off, hst]
    · obtain ⟨q, hq, hd⟩ := hc' r j x hr hj
      refine ⟨q, ?_, hd⟩
      have hj' : j < i.size := by rw [← hr' r hr]; exact (List.getElem?_eq_some_iff.1 hj).1
      have : (r + 1) * i.size ≤ n * i.size := Nat.mul_le_mul_right _ hr
      rw [Nat.succ_mul] at this
      rw [spliced_get _ _ _ _ hfit, if_pos (by omega)]; exact hq
    · obtain ⟨q, hq, hd⟩ := n5 r j x hr hj
      refine ⟨q, ?_, hd⟩
      have hlt := (List.getElem?_eq_some_iff.1 hq).1
      rw [spliced_get _ _ _ _ hfit, Nat.add_mul, if_neg (by omega), if_pos (by omega), ← hq]
      congr 1; omega
  · have hg : cap < n + m := by omega
    have hfit := growslice_fits (need := n + m) (old := cap) (bytes := i.bytes) hg hroom.1
    have h63 : ¬ (9223372036854775807 < ((n : Int) + (m : Int))) := by omega
    have h48 : ¬ (281474976710656 < Builtin.nextslicecap (n + m) cap * i.bytes) := by omega
    have hzs : z.cells.size = i.size := by rw [← e6, ← e5]; simp
    have hcap' : n + m ≤ grownCap w (n + m) cap e := by simp [grownCap, Question.cut]
    obtain ⟨olds, o1, o2, o3, o4⟩ := rows_flat hr' hc'
    have ho := run_firstCells_some (P := P) w.drew i.size n ⟨b, base, none⟩ n cap olds o1 (fun j q hj => by rw [add_off, cell_at (w := w.drew) hb]; exact o2 j q hj)
    refine ⟨w.drew.alloc (.cells (olds.toArray ++ news.toArray ++ Builtin.zeroCells z.cells (grownCap w (n + m) cap e - (n + m))) e), .slice (some ⟨w.heap.size, 0, none⟩) (n + m) (grownCap w (n + m) cap e), ?_,
      .inr ⟨grownCap w (n + m) cap e, _, ⟨by omega, hcap'⟩, rfl, rfl, ?_, fun r j x hr hj => ?_, fun r j x hr hj => ?_⟩⟩
    · have hf := n2 w.drew rfl
      simp [Builtin.append_, underlying, hu, hu2, sizeOf_run hT hi, n3, hroom', h63, typeInfo, e1, e3, h48, Question.forced, ho, hf, zeroValue, e4, newRow, grownCap]
      congr 2
      apply Array.ext'
      simp [List.append_assoc]
    · rw [Array.size_append, Array.size_append, size_zeroCells, hzs]
      simp only [List.size_toArray, n1, o1]
      rw [← Nat.add_mul, ← Nat.add_mul]
      exact Nat.mul_le_mul_right _ (by omega)
    · obtain ⟨q, hq, hd⟩ := o4 r j x hr hj
      refine ⟨q, ?_, hd⟩
      have hlt := (List.getElem?_eq_some_iff.1 hq).1
      rw [Array.getElem?_append_left (by simp; omega), Array.getElem?_append_left (by simpa using hlt)]
      simpa using hq
    · obtain ⟨q, hq, hd⟩ := n5 r j x hr hj
      refine ⟨q, ?_, hd⟩
      have hlt := (List.getElem?_eq_some_iff.1 hq).1
      rw [Nat.add_mul, Array.getElem?_append_left (by simp; omega), Array.getElem?_append_right (by simp; omega)]
      simp only [List.size_toArray, o1]
      rw [show n * i.size + r * i.size + j - n * i.size = r * i.size + j by omega]
      simpa using hq

theorem Nof_drew {b : Nat} : Nof S σ μ w.drew b ↔ Nof S σ μ w b := Iff.rfl

theorem sound_append (hT : TTok P T) (R : RelM w0 S nt (lookS slots) σ a w μ) (hd : ∀ d, o.dst = some d → d < nt) {args : Array Operand} {ts : Array TypeId} (ho : o.op = .call ⟨.builtin .append, args, ts⟩)
    (h : (semOp real T EX o true (rho slots)).run σ (OpOut.run M σ K)) : Sound P w0 S nt slots σ a w o K := by
  simp only [semOp, ho] at h
  split at h
  · rename_i x y t u hargs ht hu'
    rw [G.run_bind] at h
    obtain ⟨iu, hiu, h1⟩ := tiv_run h
    clear h
    split at h1
    · rename_i ui hdu
      rw [G.run_bind] at h1
      obtain ⟨it, e, i, hit, hdesc, hi, h⟩ := elemv_run h1
      clear h1
      have hut : P.underlying t = some (.slice e) := by rw [hT.desc t it hit, hdesc]
      have huu : P.underlying u = some (.slice ui) := by rw [hT.desc u iu hiu, hdu]
      rw [G.run_bind] at h
      obtain ⟨c, hc, h1⟩ := cellv_run h (rho_rep R x)
      clear h
      rw [G.run_bind] at h1
      obtain ⟨d, hdd, h⟩ := cellv_run h1 (rho_rep R y)
      clear h1
      rw [G.run_bind] at h
      obtain ⟨m, row, hrows, h1⟩ := rowsv_run R hdd h
      clear h
      have ha : args = #[x, y] := by apply Array.ext'; simpa using hargs
      subst ha
      have hex : ∀ v' w', (Builtin.append_ ts o.type #[a.eval x, a.eval y]).run P w = .ok v' w' → (execOp a.eval o).run P w = .ok (.value v') w' := by
        intro v' w' hv
        simp [execOp, ho, resolve, invoke, builtin, hv]
      have hts : ∀ v' w', (Builtin.append_ #[t, u] o.type #[a.eval x, a.eval y]).run P w = .ok v' w' → (Builtin.append_ ts o.type #[a.eval x, a.eval y]).run P w = .ok v' w' := by
        intro v' w' hv
        rw [← hv]
        unfold Builtin.append_
        simp [ht, hu']
      generalize hL : o.dst.getD 0 * 64 = L at h1
      have hnew : ∀ ad, a.eval x = .slice ad 0 0 → real.room m i.bytes → K (.c (.own L 0 m ((σ L).1 + 1))) [(L, (σ L).1 + 1, .arr i.size m row)] → Sound P w0 S nt slots σ a w o K := by
        intro ad ex hroom hk
        obtain ⟨w', v', hr, hcase⟩ := append_none (ty := o.type) hT hut huu hi hrows hroom ad
        rw [← ex] at hr
        have hr := hex _ _ (hts _ _ hr)
        rcases hcase with ⟨rfl, rfl, rfl⟩ | ⟨cap, cs, ⟨hm0', hcap⟩, rfl, rfl, hfit, hcont⟩
        · obtain ⟨st, R'⟩ := R.bare L ((σ L).1 + 1) (by omega) (.arr i.size 0 row) (.inr ⟨_, _, rfl⟩)
          refine sound_mem R' hd (v := .slice ad 0 0) (.inl hr) rfl ?_ hk
          exact ⟨rfl, by simp, fun sz' n' row' hσ' => ⟨by omega, .inl ⟨by simp, rfl, ad, rfl⟩⟩⟩
        · obtain ⟨st, R'⟩ := R.drew.alloc L ((σ L).1 + 1) (by omega) (.arr i.size m row) cs e ⟨hrows.1, by
            have := Nat.mul_le_mul_right i.size hcap; omega, fun r j x' hr' hj => by
            obtain ⟨q, hq, hdq⟩ := hcont r j x' hr' hj
            exact ⟨q, by rw [Nat.zero_add]; exact hq, (show DRep w.drew (Nof S σ μ w) x' q from DRep.same_heap (w := w) (w' := w.drew) rfl hdq)⟩⟩
          refine sound_mem R' hd (v := .slice (some ⟨w.heap.size, 0, none⟩) m cap) (.inl hr) rfl ?_ hk
          refine ⟨rfl, by simp, fun sz' n' row' hσ' => ?_⟩
          simp at hσ'; obtain ⟨rfl, rfl, rfl⟩ := hσ'
          exact ⟨by omega, .inr ⟨w.heap.size, 0, 0, cap, cs, e, by simp, rfl, hcap, fun _ => by simp, heap_alloc_new w.drew _, by omega, fun _ => by omega⟩⟩
      unfold appendSem at h1
      split at h1
      · obtain ⟨hroom, hk⟩ := h1
        exact hnew none (by generalize he : a.eval x = q at hc; cases hc; rfl) hroom hk
      · obtain ⟨hroom, hk⟩ := h1
        obtain ⟨ad, ex⟩ := hc
        exact hnew ad ex hroom hk
      · rename_i l off len ver
        simp only [G.run] at h1
        split at h1
        · rename_i ver' sz n row' hσ
          cases hsz : Nat.beq sz i.size with
          | false => rw [hsz] at h1; exact h1.elim
          | true =>
            rw [hsz] at h1
            obtain ⟨hv, h0, hl, hroom, hk⟩ := h1
            have hv : ver = ver' := hv
            have h0 : off = 0 := h0
            have hl : len = n := hl
            have hk : K (.c (.own l 0 (n + m) (ver + 1))) [(l, ver + 1, .arr sz (n + m) (real.app n row' row))] := hk
            subst hv h0 hl
            have hsz := Nat.eq_of_beq_eq_true hsz
            subst hsz
            obtain ⟨_, hle, h3⟩ := hc
            obtain ⟨h4, h5⟩ := h3 _ len row' hσ
            have hσ1 : (σ l).1 = ver := by rw [hσ]
            have ob := R.objs l
            rw [hσ] at ob
            obtain ⟨hr, ob⟩ := ob
            have hrl : ∀ r, r < len + m → (real.app len row' row r).length = i.size := fun r hr1 => by
              show (if r < len then row' r else row (r - len)).length = _
              split
              · exact hr r ‹_›
              · exact hrows.1 _ (by omega)
            rcases h5 with ⟨hm0, rfl, ad, ex⟩ | ⟨b, base, o', cap, cs, e', hμ, ex, hcap, ho', hb, hfitc, hpos⟩
            · -- nothing lay there yet
              have hroom0 : m * i.bytes ≤ 140737488355328 ∧ m ≤ 140737488355328 := by
                have h1 : (0 + m) * i.bytes ≤ 140737488355328 ∧ 0 + m ≤ 140737488355328 := hroom
                rwa [Nat.zero_add] at h1
              obtain ⟨w', v', hr', hcase⟩ := append_none (t := t) (u := u) (e := e) (ty := o.type) (ui := ui) hT hut huu hi hrows hroom0 ad
              rw [← ex] at hr'
              have hr' := hex _ _ (hts _ _ hr')
              have happ : real.app 0 row' row = row := by funext r; show (if r < 0 then row' r else row (r - 0)) = row r; simp
              rw [Nat.zero_add, happ] at hk
              rcases hcase with ⟨rfl, rfl, rfl⟩ | ⟨cap, cs, ⟨hm0', hcap⟩, rfl, rfl, hfit, hcont⟩
              · obtain ⟨st, R'⟩ := R.bare l (ver + 1) (by omega) (.arr i.size 0 row) (.inr ⟨_, _, rfl⟩)
                refine sound_mem R' hd (v := .slice ad 0 0) (.inl hr') rfl ?_ hk
                exact ⟨rfl, by simp, fun sz' n' row' hσ' => ⟨by omega, .inl ⟨by simp, rfl, ad, rfl⟩⟩⟩
              · obtain ⟨st, R'⟩ := R.drew.alloc l (ver + 1) (by omega) (.arr i.size m row) cs e ⟨hrows.1, by
                  have := Nat.mul_le_mul_right i.size hcap; omega, fun r j x' hr' hj => by
                  obtain ⟨q, hq, hdq⟩ := hcont r j x' hr' hj
                  exact ⟨q, by rw [Nat.zero_add]; exact hq, (show DRep w.drew (Nof S σ μ w) x' q from DRep.same_heap (w := w) (w' := w.drew) rfl hdq)⟩⟩
                refine sound_mem R' hd (v := .slice (some ⟨w.heap.size, 0, none⟩) m cap) (.inl hr') rfl ?_ hk
                refine ⟨rfl, by simp, fun sz' n' row' hσ' => ?_⟩
                simp at hσ'; obtain ⟨rfl, rfl, rfl⟩ := hσ'
                exact ⟨by omega, .inr ⟨w.heap.size, 0, 0, cap, cs, e, by simp, rfl, hcap, fun _ => by simp, heap_alloc_new w.drew _, by omega, fun _ => by omega⟩⟩
            · have hob : o' = base := by rw [ho' (.inr rfl)]; simp
              subst hob
              rcases ob with ⟨h1, _⟩ | ⟨b', base', cs1, e1, hμ', hb1, hsz0, hcs⟩
              · rw [hμ] at h1; simp at h1
              rw [hμ] at hμ'; simp at hμ'; obtain ⟨rfl, rfl⟩ := hμ'
              rw [hb] at hb1; simp at hb1; obtain ⟨rfl, rfl⟩ := hb1
              obtain ⟨w', v', hr', hcase⟩ := append_own (ty := o.type) hT hut huu hi hrows hb hcap hfitc hr hcs hroom
              rw [← ex] at hr'
              have hr' := hex _ _ (hts _ _ hr')
              rcases hcase with ⟨hc1, rfl, cs', hs', rfl, c1, c2⟩ | ⟨cap', cs', ⟨hnm, hc1⟩, rfl, rfl, hfit', c1, c2⟩
              · have hmul := Nat.mul_le_mul_right i.size hc1
                obtain ⟨st, R'⟩ := R.write l (ver + 1) (.arr i.size (len + m) (real.app len row' row)) (by simp [live, hσ]) (by simp) (.inl (by omega)) hμ hb hs'
                  ⟨hrl, by omega, fun r j x' hr1 hj => by
                    have hj : (if r < len then row' r else row (r - len))[j]? = some x' := hj
                    by_cases c : r < len
                    · rw [if_pos c] at hj; exact c1 r j x' c hj
                    · rw [if_neg c] at hj
                      have := c2 (r - len) j x' (by omega) hj
                      rwa [show len + (r - len) = r by omega] at this⟩
                refine sound_mem R' hd (v := .slice (some ⟨b, o', none⟩) (len + m) cap) (.inl hr') rfl ?_ hk
                refine ⟨rfl, by simp, fun sz' n' row'' hσ' => ?_⟩
                simp at hσ'; obtain ⟨rfl, rfl, rfl⟩ := hσ'
                exact ⟨by omega, .inr ⟨b, o', o', cap, cs', e', hμ, rfl, hc1, fun _ => by simp, setRow_heap _ _ _ _ _ _ hb, by omega, fun _ => hpos rfl⟩⟩
              · have hmul := Nat.mul_le_mul_right i.size hc1
                obtain ⟨st, R'⟩ := R.drew.alloc l (ver + 1) (by omega) (.arr i.size (len + m) (real.app len row' row)) cs' e
                  ⟨hrl, by omega, fun r j x' hr1 hj => by
                    have hj : (if r < len then row' r else row (r - len))[j]? = some x' := hj
                    by_cases c : r < len
                    · rw [if_pos c] at hj
                      obtain ⟨q, hq, hdq⟩ := c1 r j x' c hj
                      exact ⟨q, by rw [Nat.zero_add]; exact hq, (show DRep w.drew (Nof S σ μ w) x' q from DRep.same_heap (w := w) (w' := w.drew) rfl hdq)⟩
                    · rw [if_neg c] at hj
                      have := c2 (r - len) j x' (by omega) hj
                      rw [show len + (r - len) = r by omega] at this
                      obtain ⟨q, hq, hdq⟩ := this
                      exact ⟨q, by rw [Nat.zero_add]; exact hq, (show DRep w.drew (Nof S σ μ w) x' q from DRep.same_heap (w := w) (w' := w.drew) rfl hdq)⟩⟩
                refine sound_mem R' hd (v := .slice (some ⟨w.heap.size, 0, none⟩) (len + m) cap') (.inl hr') rfl ?_ hk
                refine ⟨rfl, by simp, fun sz' n' row'' hσ' => ?_⟩
                simp at hσ'; obtain ⟨rfl, rfl, rfl⟩ := hσ'
                exact ⟨by omega, .inr ⟨w.heap.size, 0, 0, cap', cs', e, by simp, rfl, hc1, fun _ => by simp, heap_alloc_new w.drew _, by omega, fun _ => by omega⟩⟩
        · exact h1.elim
      · exact h1.elim
    · exact h1.elim
  · exact h.elim
end
end Go.Rk
/- Calls, one: what is handed over. -/
namespace Go.Rk
set_option linter.unusedSimpArgs false
set_option linter.unusedVariables false

def OwnRep (w : World) (N : Nat → Prop) (sz n : Nat) (row : Nat → List DV) (v : Value) (F : List Nat) : Prop :=
  (∀ i, i < n → (row i).length = sz) ∧ ((n = 0 ∧ F = [] ∧ ∃ ad, v = .slice ad 0 0) ∨
    ∃ b base cap cs e, F = [b] ∧ v = .slice (some ⟨b, base, none⟩) n cap ∧ 0 < cap ∧ n ≤ cap ∧ w.heap[b]? = some (.cells cs e (0, 0)) ∧ base + cap * sz ≤ cs.size ∧
      ∀ i j x, i < n → (row i)[j]? = some x → ∃ u, cs[base + i * sz + j]? = some u ∧ DRep w N x u)
def XCRep (w : World) (N : Nat → Prop) : XC → Value → List Nat → Prop
  | .d x, v, F => F = [] ∧ DRep w N x v
  | .own sz n row, v, F => OwnRep w N sz n row v F
def XCsRep (w : World) (N : Nat → Prop) : List XC → List Value → List Nat → Prop
  | [], [], F => F = []
  | x :: r, v :: s, F => ∃ F1 F2, F = F1 ++ F2 ∧ XCRep w N x v F1 ∧ XCsRep w N r s F2
  | _, _, _ => False
def XVRep (w : World) (N : Nat → Prop) : XV → Value → List Nat → Prop
  | .d x, v, F => F = [] ∧ DRep w N x v
  | .own sz n row, v, F => OwnRep w N sz n row v F
  | .box cells, v, F => ∃ b cs e F', F = b :: F' ∧ v = .pointer (some ⟨b, 0, none⟩) ∧ w.heap[b]? = some (.cells cs e (0, 0)) ∧ XCsRep w N cells cs.toList F'
def XVsRep (w : World) (N : Nat → Prop) : List XV → List Value → List Nat → Prop
  | [], [], F => F = []
  | x :: r, v :: s, F => ∃ F1 F2, F = F1 ++ F2 ∧ XVRep w N x v F1 ∧ XVsRep w N r s F2
  | _, _, _ => False
def XTRep (w : World) (N : Nat → Prop) : XT → Value → List Nat → Prop
  | .c x, v, F => XVRep w N x v F
  | .agg xs, v, F => ∃ cs, v = .agg cs ∧ XVsRep w N xs cs.toList F
def XTsRep (w : World) (N : Nat → Prop) : List XT → List Value → List Nat → Prop
  | [], [], F => F = []
  | x :: r, v :: s, F => ∃ F1 F2, F = F1 ++ F2 ∧ XTRep w N x v F1 ∧ XTsRep w N r s F2
  | _, _, _ => False
def XARep (w : World) (N : Nat → Prop) : XA → Value → List Nat → Prop
  | .one x, v, F => XTRep w N x v F
  | .tup xs, v, F => ∃ cs, v = .tuple cs ∧ XTsRep w N xs cs.toList F
def BackRep (w : World) (N : Nat → Prop) : List (Option XV) → List Value → List Nat → Prop
  | [], [], F => F = []
  | none :: r, _ :: s, F => BackRep w N r s F
  | some x :: r, v :: s, F => ∃ F1 F2, F = F1 ++ F2 ∧ XVRep w N x v F1 ∧ BackRep w N r s F2
  | _, _, _ => False

/-- The blocks of labels, in order. -/
def blk (μ : Place) (ls : List (Nat × Nat)) : List Nat := ls.filterMap fun p => (μ p.1).map (·.1)
theorem blk_append (μ : Place) (a b : List (Nat × Nat)) : blk μ (a ++ b) = blk μ a ++ blk μ b := by simp [blk]
def Valid (σ : Objs) (p : Nat × Nat) : Prop := live σ p.1 ∧ (σ p.1).1 = p.2

section
variable {P : Program} {T : TypeId → Option TI}
variable {w0 : World} {S : Sets} {nt : Nat} {slots : List (Nat × AV)} {σ : Objs} {a : Act} {w : World} {μ : Place}

theorem DRep.mono {N N' : Nat → Prop} (h : ∀ b, N b → N' b) {x : DV} {v : Value} (hx : DRep w N x v) : DRep w N' x v := hx.carry fun b hb => ⟨rfl, h b hb⟩

/-- An own thing that is named whole. -/
theorem own_whole (R : RelM w0 S nt (lookS slots) σ a w μ) {l len ver sz n : Nat} {row : Nat → List DV} {v : Value} (hσ : σ l = (ver, .arr sz n row)) (hl : len = n)
    (hx : CRep σ μ w (Nof S σ μ w) (.own l 0 len ver) v) {N : Nat → Prop} (hN : ∀ b, Nof S σ μ w b → N b) : OwnRep w N sz n row v (blk μ [(l, ver)]) := by
  subst hl
  obtain ⟨_, h⟩ := hx.2.2 sz len row hσ
  have ob := R.objs l
  rw [hσ] at ob
  refine ⟨ob.1, ?_⟩
  rcases h with ⟨hm, rfl, ad, rfl⟩ | ⟨b, base, o, cap, cs, e, hm, rfl, hc, ho, hb, hs, hpos⟩
  · exact .inl ⟨rfl, by simp [blk, hm], ad, rfl⟩
  · have ho := ho (.inr rfl)
    simp at ho; subst ho
    rcases ob.2 with ⟨h1, _⟩ | ⟨b', base', cs1, e1, hm', hb1, hs0, hcs⟩
    · rw [hm] at h1; simp at h1
    rw [hm] at hm'; simp at hm'; obtain ⟨rfl, rfl⟩ := hm'
    rw [hb] at hb1; simp at hb1; obtain ⟨rfl, rfl⟩ := hb1
    refine .inr ⟨b, o, cap, cs, e, by simp [blk, hm], rfl, hpos rfl, hc, hb, hs, fun i j x hi hj => ?_⟩
    obtain ⟨u, hu, hd⟩ := hcs i j x hi hj
    exact ⟨u, hu, hd.mono hN⟩

theorem giveCells_spec (R : RelM w0 S nt (lookS slots) σ a w μ) : ∀ {cells : List CV} {vs : List Value} {Q : List XC × List (Nat × Nat) → Prop}, (giveCells real cells).run σ Q → CsRep σ μ w (Nof S σ μ w) cells vs →
    ∃ xs ls, Q (xs, ls) ∧ (∀ p ∈ ls, Valid σ p) ∧ ∀ N : Nat → Prop, (∀ b, Nof S σ μ w b → N b) → XCsRep w N xs vs (blk μ ls)
  | [], [], Q, h, _ => ⟨[], [], h, fun p hp => by simp at hp, fun N _ => rfl⟩
  | [], _ :: _, _, _, h => h.elim
  | _ :: _, [], _, _, h => h.elim
  | x :: r, v :: s, Q, h, hc => by
    unfold giveCells at h
    cases x with
    | d x =>
      simp only [G.run_bind] at h
      obtain ⟨xs, ls, hq, hv, hN⟩ := giveCells_spec R h hc.2
      exact ⟨_, _, hq, hv, fun N hn => ⟨[], _, rfl, ⟨rfl, DRep.mono hn hc.1⟩, hN N hn⟩⟩
    | own l off len ver =>
      simp only [G.run] at h
      split at h
      · rename_i ver' sz n row hσ
        obtain ⟨h1, h2, h3, h⟩ := h
        have h1 : ver = ver' := h1
        have h2 : off = 0 := h2
        have h3 : len = n := h3
        subst h1 h2
        rw [G.run_bind] at h
        obtain ⟨xs, ls, hq, hv, hN⟩ := giveCells_spec R h hc.2
        refine ⟨_, _, hq, fun p hp => ?_, fun N hn => ⟨blk μ [(l, ver)], blk μ ls, by rw [← blk_append]; rfl, own_whole R hσ h3 hc.1 hn, hN N hn⟩⟩
        rcases List.mem_cons.1 hp with rfl | hp
        · exact ⟨by simp [live, hσ], by simp [hσ]⟩
        · exact hv p hp
      · exact h.elim
    | _ => exact h.elim

theorem readOwn_spec (R : RelM w0 S nt (lookS slots) σ a w μ) {l off len ver : Nat} {v : Value} {Q : DV → Prop} (h : (readOwn real l off len ver).run σ Q) (hx : CRep σ μ w (Nof S σ μ w) (.own l off len ver) v) :
    ∃ x, Q x ∧ Valid σ (l, ver) ∧ ∀ N : Nat → Prop, (∀ b, Nof S σ μ w b → N b) → (∀ b base, μ l = some (b, base) → N b) → DRep w N x v := by
  unfold readOwn at h
  simp only [G.run] at h
  split at h
  · rename_i ver' sz n row hσ
    obtain ⟨h1, h⟩ := h
    have h1 : ver = ver' := h1
    subst h1
    refine ⟨_, h, ⟨by simp [live, hσ], by simp [hσ]⟩, fun N hn hl => ?_⟩
    obtain ⟨h4, h5⟩ := hx.2.2 sz n row hσ
    have ob := R.objs l
    rw [hσ] at ob
    rcases h5 with ⟨hm, rfl, ad, rfl⟩ | ⟨b, base, o, cap, cs, e, hm, rfl, hc, ho, hb, hs, _⟩
    · -- a slice with no room: read as it is
      cases ad with
      | none => exact DRep.nil _ _
      | some ad => exact DRep.empty _ _ _
    · rcases ob.2 with ⟨h1, _⟩ | ⟨b', base', cs1, e1, hm', hb1, hs0, hcs⟩
      · rw [hm] at h1; simp at h1
      rw [hm] at hm'; simp at hm'; obtain ⟨rfl, rfl⟩ := hm'
      rw [hb] at hb1; simp at hb1; obtain ⟨rfl, rfl⟩ := hb1
      have hget : ∀ i j x, i < len → (row (off + i))[j]? = some x → cs[o + i * sz + j]? = some (cs.getD (o + i * sz + j) undef) ∧ DRep w N x (cs.getD (o + i * sz + j) undef) := fun i j x hi hj => by
        obtain ⟨u, hu, hd⟩ := hcs (off + i) j x (by omega) hj
        have : base + (off + i) * sz + j = o + i * sz + j := by rw [ho (.inl (by omega)), Nat.add_mul]; omega
        rw [this] at hu
        have hg : cs.getD (o + i * sz + j) undef = u := by rw [Array.getD_eq_getD_getElem?, hu]; rfl
        rw [hg]
        exact ⟨hu, hd.mono hn⟩
      exact DRep.sl sz len _ b o cap cs e (0, 0) (fun i j => cs.getD (o + i * sz + j) undef) (hl b base hm) hb hc hs (fun i hi => ob.1 (off + i) (by omega)) (fun i j x hi hj => (hget i j x hi hj).1) (fun i j x hi hj => (hget i j x hi hj).2)
  · exact h.elim

theorem readCell_spec (R : RelM w0 S nt (lookS slots) σ a w μ) {x : CV} {v : Value} {Q : DV × List (Nat × Nat) → Prop} (h : (readCell real x).run σ Q) (hx : CRep σ μ w (Nof S σ μ w) x v) :
    ∃ y ls, Q (y, ls) ∧ (∀ p ∈ ls, Valid σ p) ∧ ∀ N : Nat → Prop, (∀ b, Nof S σ μ w b → N b) → (∀ p ∈ ls, ∀ b base, μ p.1 = some (b, base) → N b) → DRep w N y v := by
  unfold readCell at h
  split at h
  · exact ⟨_, [], h, fun p hp => by simp at hp, fun N hn _ => DRep.mono hn hx⟩
  · rename_i l off len ver
    rw [G.run_bind] at h
    obtain ⟨y, hq, hv, hN⟩ := readOwn_spec R h hx
    exact ⟨_, _, hq, fun p hp => by simp at hp; subst hp; exact hv, fun N hn hl => hN N hn fun b base hm => hl (l, ver) (by simp) b base hm⟩
  · exact h.elim
theorem readCells_spec (R : RelM w0 S nt (lookS slots) σ a w μ) : ∀ {xs : List CV} {vs : List Value} {Q : List DV × List (Nat × Nat) → Prop}, (readCells real xs).run σ Q → CsRep σ μ w (Nof S σ μ w) xs vs →
    ∃ ys ls, Q (ys, ls) ∧ (∀ p ∈ ls, Valid σ p) ∧ ∀ N : Nat → Prop, (∀ b, Nof S σ μ w b → N b) → (∀ p ∈ ls, ∀ b base, μ p.1 = some (b, base) → N b) → ∀ (j : Nat) y, ys[j]? = some y → ∃ v, vs[j]? = some v ∧ DRep w N y v
  | [], [], Q, h, _ => ⟨[], [], h, fun p hp => by simp at hp, fun N _ _ j y hj => by simp at hj⟩
  | [], _ :: _, _, _, h => h.elim
  | _ :: _, [], _, _, h => h.elim
  | x :: r, v :: s, Q, h, hc => by
    simp only [readCells, G.run_bind] at h
    obtain ⟨y, l1, h1, hv1, hN1⟩ := readCell_spec R h hc.1
    obtain ⟨ys, l2, h2, hv2, hN2⟩ := readCells_spec R h1 hc.2
    refine ⟨_, _, h2, fun p hp => ?_, fun N hn hl j z hj => ?_⟩
    · rcases List.mem_append.1 hp with hp | hp
      · exact hv1 p hp
      · exact hv2 p hp
    · cases j with
      | zero => simp at hj; subst hj; exact ⟨v, rfl, hN1 N hn fun p hp => hl p (List.mem_append.2 (.inl hp))⟩
      | succ j => simp at hj; simpa using hN2 N hn (fun p hp => hl p (List.mem_append.2 (.inr hp))) j z hj
theorem boxD_spec (R : RelM w0 S nt (lookS slots) σ a w μ) {l ver : Nat} {Q : DV × List (Nat × Nat) → Prop} (h : (boxD real l ver).run σ Q) :
    ∃ y ls, Q (y, ls) ∧ (∃ cells, σ l = (ver, .box cells)) ∧ (∀ p ∈ ls, Valid σ p) ∧ ∀ N : Nat → Prop, (∀ b, Nof S σ μ w b → N b) → (∀ p ∈ ls, ∀ b base, μ p.1 = some (b, base) → N b) →
      ∀ b, μ l = some (b, 0) → DRep w N y (.pointer (some ⟨b, 0, none⟩)) := by
  unfold boxD at h
  simp only [G.run] at h
  split at h
  · rename_i ver' cells hσ
    obtain ⟨h1, h⟩ := h
    have h1 : ver = ver' := h1
    subst h1
    rw [G.run_bind] at h
    have ob := R.objs l
    rw [hσ] at ob
    obtain ⟨b, cs, e, hm, hb, hcs⟩ := ob
    obtain ⟨ys, ls, hq, hv, hN⟩ := readCells_spec R h hcs
    refine ⟨_, _, hq, ⟨cells, hσ⟩, fun p hp => ?_, fun N hn hl b' hm' => ?_⟩
    · rcases List.mem_cons.1 hp with rfl | hp
      · exact ⟨by simp [live, hσ], by simp [hσ]⟩
      · exact hv p hp
    · rw [hm] at hm'; simp at hm'; subst hm'
      have hget : ∀ (j : Nat) y, ys[j]? = some y → cs[0 + j]? = some (cs.getD j undef) ∧ DRep w N y (cs.getD j undef) := fun j y hj => by
        obtain ⟨u, hu, hd⟩ := hN N hn (fun p hp => hl p (by simp [hp])) j y hj
        rw [Array.getElem?_toList] at hu
        have hg : cs.getD j undef = u := by rw [Array.getD_eq_getD_getElem?, hu]; rfl
        rw [hg, Nat.zero_add]
        exact ⟨hu, hd⟩
      exact DRep.p _ b 0 cs e (0, 0) (fun j => cs.getD j undef) (hl (l, ver) (by simp) b 0 hm) hb (fun j y hj => (hget j y hj).1) (fun j y hj => (hget j y hj).2)
  · exact h.elim
theorem capsD_spec (R : RelM w0 S nt (lookS slots) σ a w μ) : ∀ {caps : List (Nat × Nat)} {Q : List DV × List (Nat × Nat) → Prop}, (capsD real caps).run σ Q →
    ∃ ys ls, Q (ys, ls) ∧ ys.length = caps.length ∧ (∀ p ∈ ls, Valid σ p) ∧ (∀ (j : Nat) l ver, caps[j]? = some (l, ver) → ∃ cells, σ l = (ver, .box cells)) ∧
      ∀ N : Nat → Prop, (∀ b, Nof S σ μ w b → N b) → (∀ p ∈ ls, ∀ b base, μ p.1 = some (b, base) → N b) →
        ∀ (j : Nat) y l ver b, ys[j]? = some y → caps[j]? = some (l, ver) → μ l = some (b, 0) → DRep w N y (.pointer (some ⟨b, 0, none⟩))
  | [], Q, h => ⟨[], [], h, rfl, fun p hp => by simp at hp, fun j l ver hj => by simp at hj, fun N _ _ j y l ver b hj => by simp at hj⟩
  | (l, ver) :: r, Q, h => by
    simp only [capsD, G.run_bind] at h
    obtain ⟨y, l1, h1, hb1, hv1, hN1⟩ := boxD_spec R h
    obtain ⟨ys, l2, h2, hl2, hv2, hb2, hN2⟩ := capsD_spec R h1
    refine ⟨_, _, h2, by simp [hl2], fun p hp => ?_, fun j l' ver' hj => ?_, fun N hn hl j z l' ver' b hj hc hm => ?_⟩
    · rcases List.mem_append.1 hp with hp | hp
      · exact hv1 p hp
      · exact hv2 p hp
    · cases j with
      | zero => simp at hj; obtain ⟨rfl, rfl⟩ := hj; exact hb1
      | succ j => exact hb2 j l' ver' (by simpa using hj)
    · cases j with
      | zero => simp at hj hc; subst hj; obtain ⟨rfl, rfl⟩ := hc; exact hN1 N hn (fun p hp => hl p (List.mem_append.2 (.inl hp))) b hm
      | succ j => exact hN2 N hn (fun p hp => hl p (List.mem_append.2 (.inr hp))) j z l' ver' b (by simpa using hj) (by simpa using hc) hm

/-- What is said of what is handed over. -/
def GivenOk (S : Sets) (σ : Objs) (μ : Place) (w : World) (le : Lent) (Z : (Nat → Prop) → List Nat → Prop) : Prop :=
  (∀ p ∈ le.ex ++ le.bo, Valid σ p) ∧ ∀ N : Nat → Prop, (∀ b, Nof S σ μ w b → N b) → (∀ p ∈ le.bo, ∀ b base, μ p.1 = some (b, base) → N b) → Z N (blk μ le.ex)

theorem givenCell_spec (R : RelM w0 S nt (lookS slots) σ a w μ) {ex : Bool} {x : CV} {v : Value} {Q : XV × Lent → Prop} (h : (givenCell real ex x).run σ Q) (hx : CRep σ μ w (Nof S σ μ w) x v) :
    ∃ y le, Q (y, le) ∧ GivenOk S σ μ w le fun N F => XVRep w N y v F := by
  unfold givenCell at h
  split at h
  · exact ⟨_, _, h, fun p hp => by simp [Lent.none] at hp, fun N hn _ => ⟨rfl, DRep.mono hn hx⟩⟩
  · rename_i l off len ver
    split at h
    · simp only [G.run] at h
      split at h
      · rename_i ver' sz n row hσ
        obtain ⟨h1, h2, h3, h⟩ := h
        have h1 : ver = ver' := h1
        have h2 : off = 0 := h2
        have h3 : len = n := h3
        subst h1 h2
        exact ⟨_, _, h, fun p hp => by simp at hp; subst hp; exact ⟨by simp [live, hσ], by simp [hσ]⟩, fun N hn _ => own_whole R hσ h3 hx hn⟩
      · exact h.elim
    · rw [G.run_bind] at h
      obtain ⟨y, hq, hv, hN⟩ := readOwn_spec R h hx
      exact ⟨_, _, hq, fun p hp => by simp at hp; subst hp; exact hv, fun N hn hl => ⟨rfl, hN N hn fun b base hm => hl (l, ver) (by simp) b base hm⟩⟩
  · rename_i l ver off
    split at h
    · simp only [G.run] at h
      obtain ⟨h2, h⟩ := h
      have h2 : off = 0 := h2
      subst h2
      rw [G.run_bind] at h
      obtain ⟨y, ls, hq, ⟨cells, hσ⟩, hv, hN⟩ := boxD_spec R h
      obtain ⟨b', hm', rfl⟩ := hx.2.2 cells hσ
      exact ⟨_, _, hq, fun p hp => hv p (by simpa using hp), fun N hn hl => ⟨rfl, hN N hn (fun p hp => hl p hp) b' hm'⟩⟩
    simp only [G.run] at h
    split at h
    · rename_i ver' cells hσ
      obtain ⟨h1, h2, h⟩ := h
      have h1 : ver = ver' := h1
      have h2 : off = 0 := h2
      subst h1 h2
      rw [G.run_bind] at h
      have ob := R.objs l
      rw [hσ] at ob
      obtain ⟨b, cs, e, hm, hb, hcs⟩ := ob
      obtain ⟨xs, ls, hq, hv, hN⟩ := giveCells_spec R h hcs
      obtain ⟨b', hm', rfl⟩ := hx.2.2 cells hσ
      rw [hm] at hm'; simp at hm'; subst hm'
      refine ⟨_, _, hq, fun p hp => ?_, fun N hn _ => ⟨b, cs, e, blk μ ls, by simp [blk, hm], rfl, hb, hN N hn⟩⟩
      simp at hp
      rcases hp with rfl | hp
      · exact ⟨by simp [live, hσ], by simp [hσ]⟩
      · exact hv p hp
    · exact h.elim
  · rename_i f caps
    rw [G.run_bind] at h
    obtain ⟨ys, ls, hq, hlen, hv, hb, hN⟩ := capsD_spec R h
    obtain ⟨cs, rfl, hcl, hcs⟩ := hx
    refine ⟨_, _, hq, fun p hp => hv p (by simpa using hp), fun N hn hl => ⟨rfl, ?_⟩⟩
    have hget : ∀ (j : Nat) y, ys[j]? = some y → cs[j]? = some (cs.getD j undef) ∧ DRep w N y (cs.getD j undef) := fun j y hj => by
      have hjl : j < caps.length := by rw [← hlen]; exact (List.getElem?_eq_some_iff.1 hj).1
      have hcj : caps[j]? = some (caps[j].1, caps[j].2) := by rw [List.getElem?_eq_getElem hjl]
      obtain ⟨cells, hσ⟩ := hb j _ _ hcj
      obtain ⟨b, hm, hu⟩ := (hcs j _ _ hcj).2 cells hσ
      have hg : cs.getD j undef = .pointer (some ⟨b, 0, none⟩) := by rw [Array.getD_eq_getD_getElem?, hu]; rfl
      rw [hg]
      exact ⟨hu, hN N hn hl j y _ _ b hj hcj hm⟩
    exact DRep.fn f _ cs (fun j => cs.getD j undef) (by rw [hcl, hlen]) (fun j y hj => (hget j y hj).1) (fun j y hj => (hget j y hj).2)
  · exact h.elim

theorem GivenOk.both {Z1 Z2 : (Nat → Prop) → List Nat → Prop} {l1 l2 : Lent} (h1 : GivenOk S σ μ w l1 Z1) (h2 : GivenOk S σ μ w l2 Z2) :
    GivenOk S σ μ w (l1.both l2) fun N F => ∃ F1 F2, F = F1 ++ F2 ∧ Z1 N F1 ∧ Z2 N F2 := by
  refine ⟨fun p hp => ?_, fun N hn hl => ⟨blk μ l1.ex, blk μ l2.ex, blk_append μ _ _, h1.2 N hn fun p hp => hl p (by simp [Lent.both, hp]), h2.2 N hn fun p hp => hl p (by simp [Lent.both, hp])⟩⟩
  simp only [Lent.both, List.mem_append] at hp
  rcases hp with (hp | hp) | hp | hp
  · exact h1.1 p (by simp [hp])
  · exact h2.1 p (by simp [hp])
  · exact h1.1 p (by simp [hp])
  · exact h2.1 p (by simp [hp])
theorem GivenOk.none {Z : (Nat → Prop) → List Nat → Prop} (h : ∀ N, Z N []) : GivenOk S σ μ w .none Z := ⟨fun p hp => by simp [Lent.none] at hp, fun N _ _ => h N⟩

theorem givenCells_spec (R : RelM w0 S nt (lookS slots) σ a w μ) {ex : Bool} : ∀ {xs : List CV} {vs : List Value} {Q : List XV × Lent → Prop}, (givenCells real ex xs).run σ Q → CsRep σ μ w (Nof S σ μ w) xs vs →
    ∃ ys le, Q (ys, le) ∧ GivenOk S σ μ w le fun N F => XVsRep w N ys vs F
  | [], [], Q, h, _ => ⟨[], .none, h, .none fun _ => rfl⟩
  | [], _ :: _, _, _, h => h.elim
  | _ :: _, [], _, _, h => h.elim
  | x :: r, v :: s, Q, h, hc => by
    simp only [givenCells, G.run_bind] at h
    obtain ⟨y, l1, h1, g1⟩ := givenCell_spec R h hc.1
    obtain ⟨ys, l2, h2, g2⟩ := givenCells_spec R h1 hc.2
    exact ⟨_, _, h2, g1.both g2⟩
theorem givenArg_spec (R : RelM w0 S nt (lookS slots) σ a w μ) {ex : Bool} {x : AV} {v : Value} {Q : XT × Lent → Prop} (h : (givenArg real true ex x).run σ Q) (hx : ARep σ μ w (Nof S σ μ w) x v) :
    ∃ y le, Q (y, le) ∧ GivenOk S σ μ w le fun N F => XTRep w N y v F := by
  unfold givenArg at h
  rw [G.run_bind] at h
  obtain ⟨z, hz, h1⟩ := opv_run h hx
  clear h
  split at h1
  · rw [G.run_bind] at h1
    obtain ⟨y, le, hq, g⟩ := givenCell_spec R h1 hz
    exact ⟨_, _, hq, g⟩
  · rw [G.run_bind] at h1
    obtain ⟨cs, rfl, hcs⟩ := hz
    obtain ⟨y, le, hq, g⟩ := givenCells_spec R h1 hcs
    exact ⟨_, _, hq, g.1, fun N hn hl => ⟨cs, rfl, g.2 N hn hl⟩⟩
  · exact h1.elim
theorem givenArgs_spec (R : RelM w0 S nt (lookS slots) σ a w μ) {ex : Nat → Bool} : ∀ {xs : List Operand} {i : Nat} {Q : List XT × Lent → Prop}, (givenArgs real true ex (rho slots) i xs).run σ Q →
    ∃ ys le, Q (ys, le) ∧ GivenOk S σ μ w le fun N F => XTsRep w N ys (xs.map a.eval) F
  | [], i, Q, h => ⟨[], .none, h, .none fun _ => rfl⟩
  | x :: r, i, Q, h => by
    simp only [givenArgs, G.run_bind] at h
    obtain ⟨y, l1, h1, g1⟩ := givenArg_spec R h (rho_rep R x)
    obtain ⟨ys, l2, h2, g2⟩ := givenArgs_spec R h1
    exact ⟨_, _, h2, g1.both g2⟩

theorem inLabs_mem {ls : List (Nat × Nat)} {l : Nat} (h : inLabs ls l = false) : ∀ p ∈ ls, p.1 ≠ l := by
  induction ls with
  | nil => intro p hp; simp at hp
  | cons q r ih =>
    intro p hp e
    unfold inLabs at h
    cases hb : Nat.beq q.1 l with
    | true => simp [hb] at h
    | false =>
      simp only [hb, cond_false] at h
      rcases List.mem_cons.1 hp with rfl | hp
      · rw [e] at hb; simp at hb
      · exact ih h p hp e
theorem exOk_spec : ∀ {ex bo : List (Nat × Nat)}, exOk ex bo = true → (ex.map (·.1)).Nodup ∧ ∀ p ∈ ex, ∀ q ∈ bo, q.1 ≠ p.1
  | [], bo, _ => by simp
  | p :: r, bo, h => by
    unfold exOk at h
    cases h1 : inLabs r p.1 with
    | true => simp [h1] at h
    | false =>
      cases h2 : inLabs bo p.1 with
      | true => simp [h1, h2] at h
      | false =>
        simp only [h1, h2, cond_false] at h
        obtain ⟨h3, h4⟩ := exOk_spec h
        refine ⟨?_, fun q hq => ?_⟩
        · simp only [List.map_cons, List.nodup_cons, List.mem_map, not_exists, not_and]
          exact ⟨fun q hq => inLabs_mem h1 q hq, h3⟩
        · rcases List.mem_cons.1 hq with rfl | hq
          · exact inLabs_mem h2
          · exact h4 q hq
theorem blk_mem {ls : List (Nat × Nat)} {b : Nat} (h : b ∈ blk μ ls) : ∃ p ∈ ls, ∃ base, μ p.1 = some (b, base) := by
  simp only [blk, List.mem_filterMap, Option.map_eq_some_iff] at h
  obtain ⟨p, hp, ⟨b', base⟩, hm, rfl⟩ := h
  exact ⟨p, hp, base, hm⟩
theorem blk_nodup (R : RelM w0 S nt (lookS slots) σ a w μ) : ∀ {ls : List (Nat × Nat)}, (ls.map (·.1)).Nodup → (∀ p ∈ ls, Valid σ p) → (blk μ ls).Nodup
  | [], _, _ => by simp [blk]
  | p :: r, h, hv => by
    simp only [List.map_cons, List.nodup_cons] at h
    have ih := blk_nodup R h.2 fun q hq => hv q (by simp [hq])
    have e : blk μ (p :: r) = blk μ [p] ++ blk μ r := blk_append μ [p] r
    rw [e]
    cases hm : μ p.1 with
    | none => simp only [blk, hm, List.filterMap_cons, Option.map_none, List.filterMap_nil, List.nil_append]; exact ih
    | some q =>
      have : blk μ [p] = [q.1] := by simp [blk, hm]
      rw [this, List.singleton_append, List.nodup_cons]
      refine ⟨fun hmem => ?_, ih⟩
      obtain ⟨p', hp', base, hm'⟩ := blk_mem hmem
      have := R.inj p.1 p'.1 q.1 q.2 base (hv p (by simp)).1 (hv p' (by simp [hp'])).1 hm hm'
      exact h.1 (List.mem_map.2 ⟨p', hp', this.symm⟩)
end
end Go.Rk
/- Calls, two: what comes back, and the call. -/
namespace Go.Rk
set_option linter.unusedSimpArgs false
set_option linter.unusedVariables false

/-- Labels with what they bear from now on, and where it lies. -/
abbrev Turns := List (Nat × (Nat × HO) × Option (Nat × Nat))
def usOf (τ : Turns) : List (Nat × Nat × HO) := τ.map fun t => (t.1, t.2.1)
def blkT (τ : Turns) : List Nat := τ.filterMap fun t => t.2.2.map (·.1)
def Fits (τ : Turns) (σ' : Objs) (μ' : Place) : Prop := ∀ t ∈ τ, σ' t.1 = t.2.1 ∧ μ' t.1 = t.2.2
def Turn (σ : Objs) (μ : Place) (t : Nat × (Nat × HO) × Option (Nat × Nat)) : Prop :=
  (σ t.1).1 < t.2.1.1 ∨ ((σ t.1).1 = t.2.1.1 ∧ t.2.2 = μ t.1 ∧ (∀ cells, t.2.1.2 = .box cells → ∃ c', (σ t.1).2 = .box c') ∧
    ∀ sz n row, t.2.1.2 = .arr sz n row → ∃ row', (σ t.1).2 = .arr sz n row')
theorem usOf_append (a b : Turns) : usOf (a ++ b) = usOf a ++ usOf b := by simp [usOf]
theorem blkT_append (a b : Turns) : blkT (a ++ b) = blkT a ++ blkT b := by simp [blkT]
theorem Fits.left {a b : Turns} {σ' : Objs} {μ' : Place} (h : Fits (a ++ b) σ' μ') : Fits a σ' μ' := fun t ht => h t (by simp [ht])
theorem Fits.right {a b : Turns} {σ' : Objs} {μ' : Place} (h : Fits (a ++ b) σ' μ') : Fits b σ' μ' := fun t ht => h t (by simp [ht])

section
variable {σ : Objs} {μ : Place} {w : World} {N : Nat → Prop}

/-- What is shown of what is taken: abstract things 'Z' of the labels' turns. -/
def TakenOk (σ : Objs) (μ : Place) (w : World) (N : Nat → Prop) (τ : Turns) (F : List Nat) (Z : Objs → Place → (Nat → Prop) → Prop) : Prop :=
  blkT τ = F ∧ (∀ t ∈ τ, Turn σ μ t) ∧ ∀ σ' μ' N', (∀ b, N b → N' b) → Fits τ σ' μ' → Z σ' μ' N' ∧ ∀ t ∈ τ, ObjRep σ' μ' w N' t.1 t.2.1.2

theorem TakenOk.both {τ1 τ2 : Turns} {F1 F2 : List Nat} {Z1 Z2 : Objs → Place → (Nat → Prop) → Prop} (h1 : TakenOk σ μ w N τ1 F1 Z1) (h2 : TakenOk σ μ w N τ2 F2 Z2) :
    TakenOk σ μ w N (τ1 ++ τ2) (F1 ++ F2) fun σ' μ' N' => Z1 σ' μ' N' ∧ Z2 σ' μ' N' := by
  refine ⟨by rw [blkT_append, h1.1, h2.1], fun t ht => ?_, fun σ' μ' N' hn hf => ⟨⟨(h1.2.2 σ' μ' N' hn hf.left).1, (h2.2.2 σ' μ' N' hn hf.right).1⟩, fun t ht => ?_⟩⟩
  · rcases List.mem_append.1 ht with ht | ht
    · exact h1.2.1 t ht
    · exact h2.2.1 t ht
  · rcases List.mem_append.1 ht with ht | ht
    · exact (h1.2.2 σ' μ' N' hn hf.left).2 t ht
    · exact (h2.2.2 σ' μ' N' hn hf.right).2 t ht
theorem TakenOk.nothing {Z : Objs → Place → (Nat → Prop) → Prop} (h : ∀ σ' μ' N', (∀ b, N b → N' b) → Z σ' μ' N') : TakenOk σ μ w N [] [] Z :=
  ⟨rfl, fun t ht => by simp at ht, fun σ' μ' N' hn _ => ⟨h σ' μ' N' hn, fun t ht => by simp at ht⟩⟩
theorem TakenOk.imp {τ : Turns} {F : List Nat} {Z Z' : Objs → Place → (Nat → Prop) → Prop} (h : TakenOk σ μ w N τ F Z) (hz : ∀ σ' μ' N', Fits τ σ' μ' → Z σ' μ' N' → Z' σ' μ' N') : TakenOk σ μ w N τ F Z' :=
  ⟨h.1, h.2.1, fun σ' μ' N' hn hf => ⟨hz σ' μ' N' hf (h.2.2 σ' μ' N' hn hf).1, (h.2.2 σ' μ' N' hn hf).2⟩⟩

/-- An own row under a label, of a version that is new or that it had. -/
theorem own_taken {L ver sz n : Nat} {row : Nat → List DV} {v : Value} {F : List Nat} (hx : OwnRep w N sz n row v F)
    (hv : (σ L).1 < ver ∨ ((σ L).1 = ver ∧ (∃ row', (σ L).2 = .arr sz n row') ∧ ((∃ ad, v = .slice ad 0 0) → μ L = none) ∧ ∀ b base m cap, v = .slice (some ⟨b, base, none⟩) m cap → 0 < cap → μ L = some (b, base))) :
    ∃ p, TakenOk σ μ w N [(L, (ver, .arr sz n row), p)] F fun σ' μ' N' => CRep σ' μ' w N' (.own L 0 n ver) v := by
  obtain ⟨hr, hx⟩ := hx
  have turn : ∀ p, (p = μ L ∨ (σ L).1 < ver) → Turn σ μ (L, (ver, .arr sz n row), p) := fun p hp => by
    rcases hv with hv | ⟨hv, ⟨row', hrow⟩, _⟩
    · exact .inl hv
    · rcases hp with rfl | hp
      · exact .inr ⟨hv, rfl, fun c h => by simp at h, fun sz' n' r h => by simp at h; obtain ⟨rfl, rfl, _⟩ := h; exact ⟨row', hrow⟩⟩
      · exact .inl hp
  rcases hx with ⟨rfl, rfl, ad, rfl⟩ | ⟨b, base, cap, cs, e, rfl, rfl, hpos, hc, hb, hs, hcs⟩
  · refine ⟨none, rfl, fun t ht => ?_, fun σ' μ' N' hn hf => ?_⟩
    · simp at ht; subst ht
      refine turn _ ?_
      rcases hv with hv | ⟨_, _, h0, _⟩
      · exact .inr hv
      · exact .inl (h0 ⟨ad, rfl⟩).symm
    · obtain ⟨hσ, hμ⟩ := hf _ (List.mem_cons_self ..)
      simp only at hσ hμ
      refine ⟨⟨rfl, by rw [hσ]; exact Nat.le_refl _, fun sz' n' row' h => ⟨by omega, .inl ⟨hμ, rfl, ad, rfl⟩⟩⟩, fun t ht => ?_⟩
      simp at ht; subst ht
      exact ⟨fun i hi => by omega, .inl ⟨hμ, rfl⟩⟩
  · refine ⟨some (b, base), rfl, fun t ht => ?_, fun σ' μ' N' hn hf => ?_⟩
    · simp at ht; subst ht
      refine turn _ ?_
      rcases hv with hv | ⟨_, _, _, h1⟩
      · exact .inr hv
      · exact .inl (h1 b base n cap rfl hpos).symm
    · obtain ⟨hσ, hμ⟩ := hf _ (List.mem_cons_self ..)
      simp only at hσ hμ
      refine ⟨⟨rfl, by rw [hσ]; exact Nat.le_refl _, fun sz' n' row' h => ?_⟩, fun t ht => ?_⟩
      · rw [hσ] at h; simp at h; obtain ⟨rfl, rfl, rfl⟩ := h
        exact ⟨by omega, .inr ⟨b, base, base, cap, cs, e, hμ, rfl, hc, fun _ => by simp, hb, hs, fun _ => hpos⟩⟩
      · simp at ht; subst ht
        have := Nat.mul_le_mul_right sz hc
        refine ⟨hr, .inr ⟨b, base, cs, e, hμ, hb, by omega, fun i j x hi hj => ?_⟩⟩
        obtain ⟨u, hu, hd⟩ := hcs i j x hi hj
        exact ⟨u, hu, hd.mono hn⟩

theorem takenCells_spec {l : Nat} : ∀ {cells : List XC} {j : Nat} {vs : List Value} {F : List Nat} {Q : List CV × List (Nat × Nat × HO) → Prop}, (takenCells l j cells).run σ Q → XCsRep w N cells vs F →
    ∃ cvs τ, Q (cvs, usOf τ) ∧ TakenOk σ μ w N τ F fun σ' μ' N' => CsRep σ' μ' w N' cvs vs
  | [], j, [], F, Q, h, hx => by
    have hx : F = [] := hx
    subst hx
    exact ⟨[], [], h, .nothing fun _ _ _ _ => trivial⟩
  | [], _, _ :: _, _, _, _, h => h.elim
  | _ :: _, _, [], _, _, _, h => h.elim
  | x :: r, j, v :: s, F, Q, h, hx => by
    obtain ⟨F1, F2, rfl, h1, h2⟩ := hx
    unfold takenCells at h
    cases x with
    | d x =>
      simp only [G.run_bind] at h
      obtain ⟨rfl, h1⟩ := h1
      obtain ⟨cvs, τ, hq, ht⟩ := takenCells_spec h h2
      refine ⟨_, τ, hq, ?_⟩
      have := (TakenOk.nothing (σ := σ) (μ := μ) (w := w) (Z := fun σ' μ' N' => CRep σ' μ' w N' (.d x) v) fun σ' μ' N' hn => DRep.mono hn h1).both ht
      exact this
    | own sz n row =>
      simp only [G.run, G.run_bind] at h
      obtain ⟨cvs, τ, hq, ht⟩ := takenCells_spec h h2
      obtain ⟨p, ho⟩ := own_taken (σ := σ) (μ := μ) (L := cellLab l j) (ver := (σ (cellLab l j)).1 + 1) h1 (.inl (by omega))
      exact ⟨_, [(cellLab l j, ((σ (cellLab l j)).1 + 1, .arr sz n row), p)] ++ τ, hq, ho.both ht⟩

theorem takenCell_spec {L : Nat} {x : XV} {v : Value} {F : List Nat} {Q : CV × List (Nat × Nat × HO) → Prop} (h : (takenCell L x).run σ Q) (hx : XVRep w N x v F) :
    ∃ c τ, Q (c, usOf τ) ∧ TakenOk σ μ w N τ F fun σ' μ' N' => CRep σ' μ' w N' c v := by
  unfold takenCell at h
  cases x with
  | d x =>
    obtain ⟨rfl, hx⟩ := hx
    exact ⟨_, [], h, .nothing fun σ' μ' N' hn => DRep.mono hn hx⟩
  | own sz n row =>
    obtain ⟨p, ho⟩ := own_taken (σ := σ) (μ := μ) (L := L) (ver := (σ L).1 + 1) hx (.inl (by omega))
    exact ⟨_, [(L, ((σ L).1 + 1, .arr sz n row), p)], h, ho⟩
  | box cells =>
    simp only [G.run, G.run_bind] at h
    obtain ⟨b, cs, e, F', rfl, rfl, hb, hcs⟩ := hx
    obtain ⟨cvs, τ, hq, ht⟩ := takenCells_spec (μ := μ) h hcs
    refine ⟨_, (L, ((σ L).1 + 1, .box cvs), some (b, 0)) :: τ, hq, by simp [blkT]; exact ht.1, fun t h' => ?_, fun σ' μ' N' hn hf => ?_⟩
    · rcases List.mem_cons.1 h' with rfl | h'
      · exact .inl (by simp)
      · exact ht.2.1 t h'
    · obtain ⟨hσ, hμ⟩ := hf _ (List.mem_cons_self ..)
      simp only at hσ hμ
      have hr := ht.2.2 σ' μ' N' hn fun t h' => hf t (by simp [h'])
      refine ⟨⟨rfl, by rw [hσ]; exact Nat.le_refl _, fun cells' _ => ⟨b, hμ, rfl⟩⟩, fun t h' => ?_⟩
      rcases List.mem_cons.1 h' with rfl | h'
      · exact ⟨b, cs, e, hμ, hb, hr.1⟩
      · exact hr.2 t h'

theorem takenList_spec {L : Nat} : ∀ {xs : List XV} {k : Nat} {vs : List Value} {F : List Nat} {Q : List CV × List (Nat × Nat × HO) → Prop}, (takenList L k xs).run σ Q → XVsRep w N xs vs F →
    ∃ cvs τ, Q (cvs, usOf τ) ∧ TakenOk σ μ w N τ F fun σ' μ' N' => CsRep σ' μ' w N' cvs vs
  | [], k, [], F, Q, h, hx => by
    have hx : F = [] := hx
    subst hx
    exact ⟨[], [], h, .nothing fun _ _ _ _ => trivial⟩
  | [], _, _ :: _, _, _, _, h => h.elim
  | _ :: _, _, [], _, _, _, h => h.elim
  | x :: r, k, v :: s, F, Q, h, hx => by
    obtain ⟨F1, F2, rfl, h1, h2⟩ := hx
    simp only [takenList, G.run_bind] at h
    obtain ⟨c, τ1, hq, t1⟩ := takenCell_spec (μ := μ) h h1
    obtain ⟨cvs, τ2, hq, t2⟩ := takenList_spec hq h2
    exact ⟨c :: cvs, τ1 ++ τ2, by rw [usOf_append]; exact hq, t1.both t2⟩
theorem taken1_spec {L k : Nat} {x : XT} {v : Value} {F : List Nat} {Q : TV × Nat × List (Nat × Nat × HO) → Prop} (h : (taken1 L k x).run σ Q) (hx : XTRep w N x v F) :
    ∃ c m τ, Q (c, m, usOf τ) ∧ TakenOk σ μ w N τ F fun σ' μ' N' => TRep σ' μ' w N' c v := by
  unfold taken1 at h
  cases x with
  | c x =>
    simp only [G.run_bind] at h
    obtain ⟨c, τ, hq, ht⟩ := takenCell_spec (μ := μ) h hx
    exact ⟨_, _, τ, hq, ht⟩
  | agg xs =>
    simp only [G.run_bind] at h
    obtain ⟨cs, rfl, hx⟩ := hx
    obtain ⟨c, τ, hq, ht⟩ := takenList_spec (μ := μ) h hx
    exact ⟨_, _, τ, hq, ht.imp fun σ' μ' N' _ hz => ⟨cs, rfl, hz⟩⟩
theorem takenTup_spec {L : Nat} : ∀ {xs : List XT} {k : Nat} {vs : List Value} {F : List Nat} {Q : List TV × List (Nat × Nat × HO) → Prop}, (takenTup L k xs).run σ Q → XTsRep w N xs vs F →
    ∃ cvs τ, Q (cvs, usOf τ) ∧ TakenOk σ μ w N τ F fun σ' μ' N' => TsRep σ' μ' w N' cvs vs
  | [], k, [], F, Q, h, hx => by
    have hx : F = [] := hx
    subst hx
    exact ⟨[], [], h, .nothing fun _ _ _ _ => trivial⟩
  | [], _, _ :: _, _, _, _, h => h.elim
  | _ :: _, _, [], _, _, _, h => h.elim
  | x :: r, k, v :: s, F, Q, h, hx => by
    obtain ⟨F1, F2, rfl, h1, h2⟩ := hx
    simp only [takenTup, G.run_bind] at h
    obtain ⟨c, m, τ1, hq, t1⟩ := taken1_spec (μ := μ) h h1
    obtain ⟨cvs, τ2, hq, t2⟩ := takenTup_spec hq h2
    exact ⟨c :: cvs, τ1 ++ τ2, by rw [usOf_append]; exact hq, t1.both t2⟩
theorem taken_spec {L : Nat} {x : XA} {v : Value} {F : List Nat} {Q : AV × List (Nat × Nat × HO) → Prop} (h : (taken L x).run σ Q) (hx : XARep w N x v F) :
    ∃ c τ, Q (c, usOf τ) ∧ TakenOk σ μ w N τ F fun σ' μ' N' => ARep σ' μ' w N' c v := by
  unfold taken at h
  cases x with
  | one x =>
    simp only [G.run_bind] at h
    obtain ⟨c, m, τ, hq, ht⟩ := taken1_spec (μ := μ) h hx
    exact ⟨_, τ, hq, ht.imp fun σ' μ' N' _ hz => by cases c <;> exact hz⟩
  | tup xs =>
    simp only [G.run_bind] at h
    obtain ⟨cs, rfl, hx⟩ := hx
    obtain ⟨c, τ, hq, ht⟩ := takenTup_spec (μ := μ) h hx
    exact ⟨_, τ, hq, ht.imp fun σ' μ' N' _ hz => ⟨cs, rfl, hz⟩⟩
end

section
variable {w0 : World} {S : Sets} {nt : Nat} {slots : List (Nat × AV)} {σ : Objs} {a : Act} {w w' : World} {μ : Place} {N : Nat → Prop}

theorem backArg_spec {x : AV} {b : Option XV} {v : Value} {F : List Nat} {Q : List (Nat × Nat × HO) → Prop} (h : (backArg real x b).run σ Q) (hv : ARep σ μ w (Nof S σ μ w) x v)
    (hb : ∀ y, b = some y → XVRep w' N y v F) (hn : b = none → F = []) : ∃ τ, Q (usOf τ) ∧ TakenOk σ μ w' N τ F fun _ _ _ => True := by
  unfold backArg at h
  split at h
  · rename_i l ver off cells
    simp only [G.run] at h
    split at h
    · rename_i ver' old hσ
      obtain ⟨h1, h2, h⟩ := h
      have h1 : ver = ver' := h1
      have h2 : off = 0 := h2
      subst h1 h2
      rw [G.run_bind] at h
      obtain ⟨bk, cs, e, F', rfl, rfl, hbk, hcs⟩ := hb _ rfl
      obtain ⟨b0, hm, he⟩ := hv.2.2 old hσ
      simp at he; subst he
      obtain ⟨cvs, τ, hq, ht⟩ := takenCells_spec (μ := μ) h hcs
      refine ⟨(l, (ver, .box cvs), some (bk, 0)) :: τ, hq, by simp [blkT]; exact ht.1, fun t h' => ?_, fun σ' μ' N' hn' hf => ⟨trivial, fun t h' => ?_⟩⟩
      · rcases List.mem_cons.1 h' with rfl | h'
        · exact .inr ⟨by rw [hσ], hm.symm, fun _ _ => ⟨old, by rw [hσ]⟩, fun _ _ _ h => by simp at h⟩
        · exact ht.2.1 t h'
      · obtain ⟨hσ', hμ'⟩ := hf _ (List.mem_cons_self ..)
        have hr := ht.2.2 σ' μ' N' hn' fun t h' => hf t (by simp [h'])
        rcases List.mem_cons.1 h' with rfl | h'
        · exact ⟨bk, cs, e, hμ', hbk, hr.1⟩
        · exact hr.2 t h'
    · exact h.elim
  · rename_i l off len ver sz n row
    simp only [G.run] at h
    split at h
    · rename_i ver' sz' n' row' hσ
      cases hsz : Nat.beq sz sz' with
      | false => rw [hsz] at h; exact h.elim
      | true =>
        rw [hsz] at h
        obtain ⟨h1, h2, h3, h⟩ := h
        have h1 : ver = ver' := h1
        have h2 : off = 0 := h2
        have h3 : n = n' := h3
        subst h1 h2 h3
        have hsz := Nat.eq_of_beq_eq_true hsz
        subst hsz
        have hx := hb _ rfl
        obtain ⟨_, h5⟩ := hv.2.2 sz n row' hσ
        obtain ⟨p, ho⟩ := own_taken (σ := σ) (μ := μ) (L := l) (ver := ver) hx (.inr ⟨by rw [hσ], ⟨row', by rw [hσ]⟩, fun ⟨ad, e⟩ => by
            rcases h5 with ⟨hm, _⟩ | ⟨b, base, o', cap, cs, e', hm, e1, hcap, ho', hbb, hfit, hpos⟩
            · exact hm
            · rw [e] at e1; simp at e1; have := hpos rfl; omega, fun bb base m cap e hc => by
            rcases h5 with ⟨hm, _, ad, e1⟩ | ⟨b, base', o', cap', cs, e', hm, e1, hcap, ho', hbb, hfit, hpos⟩
            · rw [e] at e1; simp at e1; omega
            · rw [e] at e1; simp at e1
              obtain ⟨⟨rfl, rfl⟩, _, _⟩ := e1
              rw [ho' (.inr rfl)]; simpa using hm⟩)
        exact ⟨[(l, (ver, .arr sz n row), p)], h, ho.imp fun _ _ _ _ _ => trivial⟩
    · exact h.elim
  · rw [hn rfl]
    exact ⟨[], h, .nothing fun _ _ _ _ => trivial⟩
  · exact h.elim
theorem backArgs_spec (R : RelM w0 S nt (lookS slots) σ a w μ) : ∀ {xs : List Operand} {bs : List (Option XV)} {F : List Nat} {Q : List (Nat × Nat × HO) → Prop}, (backArgs real (rho slots) xs bs).run σ Q →
    BackRep w' N bs (xs.map a.eval) F → ∃ τ, Q (usOf τ) ∧ TakenOk σ μ w' N τ F fun _ _ _ => True
  | [], [], F, Q, h, hx => by
    have hx : F = [] := hx
    subst hx
    exact ⟨[], h, .nothing fun _ _ _ _ => trivial⟩
  | [], _ :: _, _, _, h, _ => h.elim
  | _ :: _, [], _, _, h, _ => h.elim
  | x :: r, b :: s, F, Q, h, hx => by
    simp only [backArgs, G.run_bind] at h
    cases b with
    | none =>
      obtain ⟨τ1, hq, t1⟩ := backArg_spec (w' := w') (N := N) (F := []) h (rho_rep R x) (fun y hy => by simp at hy) (fun _ => rfl)
      obtain ⟨τ2, hq, t2⟩ := backArgs_spec R hq hx
      exact ⟨τ1 ++ τ2, by rw [usOf_append]; exact hq, (t1.both t2).imp fun _ _ _ _ _ => trivial⟩
    | some y =>
      obtain ⟨F1, F2, rfl, h1, h2⟩ := hx
      obtain ⟨τ1, hq, t1⟩ := backArg_spec (w' := w') (N := N) (F := F1) h (rho_rep R x) (fun z hz => by simp at hz; subst hz; exact h1) (fun hz => by simp at hz)
      obtain ⟨τ2, hq, t2⟩ := backArgs_spec R hq h2
      exact ⟨τ1 ++ τ2, by rw [usOf_append]; exact hq, (t1.both t2).imp fun _ _ _ _ _ => trivial⟩
end
end Go.Rk
/- Calls, three: what a function is said to do, and what a call of it does. -/
namespace Go.Rk
set_option linter.unusedSimpArgs false
set_option linter.unusedVariables false

def Env (w w' : World) : Prop := w'.os = w.os ∧ w'.output = w.output ∧ w'.tape = w.tape
def Nout (w w' : World) (N : Nat → Prop) (I F : List Nat) (b : Nat) : Prop := b < w'.heap.size ∧ b ∉ F ∧ (N b ∨ b ∈ I ∨ w.heap.size ≤ b)
def callable (P : Program) (f : FuncId) : Bool := match P.funcs[f]? with | some fn => !(fn.name == "runtime.NumGoroutine") && fn.body.isSome | none => false

def Post (w : World) (N : Nat → Prop) (F : List Nat) (vals : List Value) (out : Out) (e : Ending) (w' : World) : Prop :=
  ∃ v F1 F2, e = .returned v ∧ Env w w' ∧ w.heap.size ≤ w'.heap.size ∧ (∀ b, b < w.heap.size → b ∉ F → w'.heap[b]? = w.heap[b]?) ∧
    (∀ (b : Nat) cs e fr, w.heap[b]? = some (Obj.cells cs e fr) → ∃ cs', w'.heap[b]? = some (Obj.cells cs' e fr) ∧ cs'.size = cs.size) ∧
    (∀ b, b ∈ F1 ++ F2 → b < w'.heap.size ∧ (b ∈ F ∨ w.heap.size ≤ b)) ∧ (F1 ++ F2).Nodup ∧
    XARep w' (Nout w w' N F (F1 ++ F2)) out.res v F1 ∧ BackRep w' (Nout w w' N F (F1 ++ F2)) out.back vals F2

/-- Called with these, the function answers that: in every world where they can be read, in every order, with any room. -/
def Meets (P : Program) (f : FuncId) (args : List XT) (out : Out) : Prop :=
  callable P f = true ∧ ∀ (w : World) (vals : List Value) (F : List Nat) (N : Nat → Prop), XTsRep w N args vals F → F.Nodup → (∀ b, b ∈ F → b < w.heap.size ∧ ¬ N b) → (∀ b, N b → b < w.heap.size) →
    Calls P f vals.toArray w (Post w N F vals out)

section
variable {w : World} {N N' : Nat → Prop} {σ : Objs}

theorem OwnRep.tr {sz n : Nat} {row : Nat → List DV} {v : Value} {F : List Nat} (h : (∀ b, N b → N' b) ∨ real.flat n row) (hx : OwnRep w N sz n row v F) : OwnRep w N' sz n row v F := by
  refine ⟨hx.1, hx.2.imp id fun ⟨b, base, cap, cs, e, h1, h2, h3, h4, h5, h6, h7⟩ => ⟨b, base, cap, cs, e, h1, h2, h3, h4, h5, h6, fun i j x hi hj => ?_⟩⟩
  obtain ⟨u, hu, hd⟩ := h7 i j x hi hj
  refine ⟨u, hu, ?_⟩
  rcases h with h | h
  · exact hd.mono h
  · obtain ⟨q, rfl⟩ := h i hi x (List.mem_of_getElem? hj)
    cases hd with
    | v _ h1 => exact DRep.v _ h1
theorem DRep.plain {u v : Value} (hx : DRep w N (.v u) v) : DRep w N' (.v u) v := by
  cases hx with
  | v _ h1 => exact DRep.v _ h1

/-- Either N grows, or it does not matter. -/
def TrC (N N' : Nat → Prop) (x : XC) : Prop := (∀ b, N b → N' b) ∨ (match x with | .d x => ∃ u, x = .v u | .own _ n row => real.flat n row)
def TrV (N N' : Nat → Prop) (x : XV) : Prop := (∀ b, N b → N' b) ∨ (match x with | .d x => ∃ u, x = .v u | .own _ n row => real.flat n row | .box cells => ∀ c ∈ cells, TrC N N' c)
theorem XCRep.tr {x : XC} {v : Value} {F : List Nat} (h : TrC N N' x) (hx : XCRep w N x v F) : XCRep w N' x v F := by
  cases x with
  | d x =>
    rcases h with h | ⟨u, rfl⟩
    · exact ⟨hx.1, hx.2.mono h⟩
    · exact ⟨hx.1, hx.2.plain⟩
  | own sz n row => exact OwnRep.tr h hx
theorem XCsRep.tr : ∀ {xs : List XC} {vs : List Value} {F : List Nat}, (∀ c ∈ xs, TrC N N' c) → XCsRep w N xs vs F → XCsRep w N' xs vs F
  | [], [], _, _, hx => hx
  | [], _ :: _, _, _, hx => hx.elim
  | _ :: _, [], _, _, hx => hx.elim
  | x :: r, v :: s, F, h, ⟨F1, F2, e, h1, h2⟩ => ⟨F1, F2, e, h1.tr (h x (by simp)), XCsRep.tr (fun c hc => h c (by simp [hc])) h2⟩
theorem XVRep.tr {x : XV} {v : Value} {F : List Nat} (h : TrV N N' x) (hx : XVRep w N x v F) : XVRep w N' x v F := by
  cases x with
  | d x =>
    rcases h with h | ⟨u, rfl⟩
    · exact ⟨hx.1, hx.2.mono h⟩
    · exact ⟨hx.1, hx.2.plain⟩
  | own sz n row => exact OwnRep.tr h hx
  | box cells =>
    obtain ⟨b, cs, e, F', h1, h2, h3, h4⟩ := hx
    exact ⟨b, cs, e, F', h1, h2, h3, h4.tr fun c hc => by
      rcases h with h | h
      · exact .inl h
      · exact h c hc⟩
theorem XVsRep.tr : ∀ {xs : List XV} {vs : List Value} {F : List Nat}, (∀ c ∈ xs, TrV N N' c) → XVsRep w N xs vs F → XVsRep w N' xs vs F
  | [], [], _, _, hx => hx
  | [], _ :: _, _, _, hx => hx.elim
  | _ :: _, [], _, _, hx => hx.elim
  | x :: r, v :: s, F, h, ⟨F1, F2, e, h1, h2⟩ => ⟨F1, F2, e, h1.tr (h x (by simp)), XVsRep.tr (fun c hc => h c (by simp [hc])) h2⟩
def XT.parts : XT → List XV
  | .c x => [x]
  | .agg xs => xs
theorem XTRep.tr {x : XT} {v : Value} {F : List Nat} (h : ∀ c ∈ x.parts, TrV N N' c) (hx : XTRep w N x v F) : XTRep w N' x v F := by
  cases x with
  | c x => exact XVRep.tr (h x (by simp [XT.parts])) hx
  | agg xs => obtain ⟨cs, h1, h2⟩ := hx; exact ⟨cs, h1, h2.tr h⟩
theorem XTsRep.tr : ∀ {xs : List XT} {vs : List Value} {F : List Nat}, (∀ x ∈ xs, ∀ c ∈ x.parts, TrV N N' c) → XTsRep w N xs vs F → XTsRep w N' xs vs F
  | [], [], _, _, hx => hx
  | [], _ :: _, _, _, hx => hx.elim
  | _ :: _, [], _, _, hx => hx.elim
  | x :: r, v :: s, F, h, ⟨F1, F2, e, h1, h2⟩ => ⟨F1, F2, e, h1.tr (h x (by simp)), XTsRep.tr (fun c hc => h c (by simp [hc])) h2⟩
def XA.parts : XA → List XV
  | .one x => x.parts
  | .tup xs => xs.flatMap XT.parts
theorem XARep.tr {x : XA} {v : Value} {F : List Nat} (h : ∀ c ∈ x.parts, TrV N N' c) (hx : XARep w N x v F) : XARep w N' x v F := by
  cases x with
  | one x => exact XTRep.tr h hx
  | tup xs => obtain ⟨cs, h1, h2⟩ := hx; exact ⟨cs, h1, h2.tr fun x hx c hc => h c (by simp only [XA.parts, List.mem_flatMap]; exact ⟨x, hx, hc⟩)⟩
theorem BackRep.tr : ∀ {xs : List (Option XV)} {vs : List Value} {F : List Nat}, (∀ c, some c ∈ xs → TrV N N' c) → BackRep w N xs vs F → BackRep w N' xs vs F
  | [], [], _, _, hx => hx
  | [], _ :: _, _, _, hx => hx.elim
  | none :: _, [], _, _, hx => hx.elim
  | some _ :: _, [], _, _, hx => hx.elim
  | none :: r, v :: s, F, h, hx => BackRep.tr (xs := r) (fun c hc => h c (by simp [hc])) hx
  | some x :: r, v :: s, F, h, ⟨F1, F2, e, h1, h2⟩ => ⟨F1, F2, e, h1.tr (h x (by simp)), BackRep.tr (fun c hc => h c (by simp [hc])) h2⟩

theorem plainC_spec {x : XC} {Q : Bool → Prop} (h : (plainC real x).run σ Q) : TrC N N' x ∧ ∃ b, Q b := by
  unfold plainC at h
  split at h
  · exact ⟨.inr ⟨_, rfl⟩, _, h⟩
  · exact ⟨.inr h.1, _, h.2⟩
  · exact h.elim
theorem plainCs_spec : ∀ {xs : List XC} {Q : Bool → Prop}, (plainCs real xs).run σ Q → (∀ c ∈ xs, TrC N N' c) ∧ ∃ b, Q b
  | [], Q, h => ⟨fun c hc => by simp at hc, _, h⟩
  | x :: r, Q, h => by
    simp only [plainCs, G.run_bind] at h
    obtain ⟨h1, b, h⟩ := plainC_spec (N := N) (N' := N') h
    obtain ⟨h2, h3⟩ := plainCs_spec h
    exact ⟨fun c hc => by rcases List.mem_cons.1 hc with rfl | hc; exact h1; exact h2 c hc, h3⟩
theorem plainV_spec {x : XV} {Q : Bool → Prop} (h : (plainV real x).run σ Q) : TrV N N' x ∧ ∃ b, Q b := by
  unfold plainV at h
  split at h
  · exact ⟨.inr ⟨_, rfl⟩, _, h⟩
  · exact ⟨.inr h.1, _, h.2⟩
  · obtain ⟨h1, h2⟩ := plainCs_spec (N := N) (N' := N') h
    exact ⟨.inr h1, h2⟩
  · exact h.elim
theorem plainVs_spec : ∀ {xs : List XV} {Q : Bool → Prop}, (plainVs real xs).run σ Q → (∀ c ∈ xs, TrV N N' c) ∧ ∃ b, Q b
  | [], Q, h => ⟨fun c hc => by simp at hc, _, h⟩
  | x :: r, Q, h => by
    simp only [plainVs, G.run_bind] at h
    obtain ⟨h1, b, h⟩ := plainV_spec (N := N) (N' := N') h
    obtain ⟨h2, h3⟩ := plainVs_spec h
    exact ⟨fun c hc => by rcases List.mem_cons.1 hc with rfl | hc; exact h1; exact h2 c hc, h3⟩
theorem plainT_spec {x : XT} {Q : Bool → Prop} (h : (plainT real x).run σ Q) : (∀ c ∈ x.parts, TrV N N' c) ∧ ∃ b, Q b := by
  cases x with
  | c x =>
    obtain ⟨h1, h2⟩ := plainV_spec (N := N) (N' := N') (x := x) h
    exact ⟨fun c hc => by simp [XT.parts] at hc; subst hc; exact h1, h2⟩
  | agg xs => exact plainVs_spec h
theorem plainTs_spec : ∀ {xs : List XT} {Q : Bool → Prop}, (plainTs real xs).run σ Q → (∀ x ∈ xs, ∀ c ∈ x.parts, TrV N N' c) ∧ ∃ b, Q b
  | [], Q, h => ⟨fun c hc => by simp at hc, _, h⟩
  | x :: r, Q, h => by
    simp only [plainTs, G.run_bind] at h
    obtain ⟨h1, b, h⟩ := plainT_spec (N := N) (N' := N') h
    obtain ⟨h2, h3⟩ := plainTs_spec h
    exact ⟨fun c hc => by rcases List.mem_cons.1 hc with rfl | hc; exact h1; exact h2 c hc, h3⟩
theorem plainA_spec {x : XA} {Q : Bool → Prop} (h : (plainA real x).run σ Q) : (∀ c ∈ x.parts, TrV N N' c) ∧ ∃ b, Q b := by
  cases x with
  | one x => exact plainT_spec h
  | tup xs =>
    obtain ⟨h1, h2⟩ := plainTs_spec (N := N) (N' := N') (xs := xs) h
    exact ⟨fun c hc => by simp only [XA.parts, List.mem_flatMap] at hc; obtain ⟨x, hx, hc⟩ := hc; exact h1 x hx c hc, h2⟩
theorem plainB_spec : ∀ {xs : List (Option XV)} {Q : Bool → Prop}, (plainB real xs).run σ Q → (∀ c, some c ∈ xs → TrV N N' c) ∧ ∃ b, Q b
  | [], Q, h => ⟨fun c hc => by simp at hc, _, h⟩
  | none :: r, Q, h => by
    obtain ⟨h2, h3⟩ := plainB_spec (xs := r) h
    exact ⟨fun c hc => h2 c (by simpa using hc), h3⟩
  | some x :: r, Q, h => by
    simp only [plainB, G.run_bind] at h
    obtain ⟨h1, b, h⟩ := plainV_spec (N := N) (N' := N') h
    obtain ⟨h2, h3⟩ := plainB_spec h
    exact ⟨fun c hc => by rcases List.mem_cons.1 hc with e | hc; exact (by injection e with e; subst e; exact h1); exact h2 c hc, h3⟩

theorem allNone_spec : ∀ {bs : List (Option XV)} {vs : List Value} {F : List Nat}, allNone bs = true → BackRep w N bs vs F → F = []
  | [], [], _, _, h => h
  | [], _ :: _, _, _, h => h.elim
  | none :: r, [], _, _, h => h.elim
  | none :: r, v :: s, _, h1, h => allNone_spec (bs := r) h1 h
  | some _ :: _, _, _, h1, _ => by simp [allNone] at h1
theorem splitB_spec : ∀ {n : Nat} {bs bs' : List (Option XV)} {v1 v2 : List Value} {F : List Nat}, splitB n bs = some bs' → v1.length = n → BackRep w N bs (v1 ++ v2) F → BackRep w N bs' v1 F ∧ ∀ c, some c ∈ bs' → some c ∈ bs
  | 0, bs, bs', [], v2, F, h, _, hx => by
    unfold splitB at h
    split at h
    · rename_i h0
      simp at h; subst h
      exact ⟨allNone_spec h0 hx, fun c hc => by simp at hc⟩
    · simp at h
  | n + 1, [], bs', v1, v2, F, h, _, hx => by simp [splitB] at h
  | n + 1, x :: r, bs', v :: s, v2, F, h, hl, hx => by
    simp only [splitB, Option.map_eq_some_iff] at h
    obtain ⟨r', h', rfl⟩ := h
    cases x with
    | none =>
      obtain ⟨h1, h2⟩ := splitB_spec (v1 := s) h' (by simpa using hl) hx
      exact ⟨h1, fun c hc => by simp at hc ⊢; exact h2 c hc⟩
    | some x =>
      obtain ⟨F1, F2, e, h1, h2⟩ := hx
      obtain ⟨h3, h4⟩ := splitB_spec (v1 := s) h' (by simpa using hl) h2
      exact ⟨⟨F1, F2, e, h1, h3⟩, fun c hc => by simp at hc ⊢; exact hc.imp id (h4 c)⟩
  | 0, _, _, _ :: _, _, _, _, h, _ => by simp at h
  | n + 1, _ :: _, _, [], _, _, _, h, _ => by simp at h
end

/-! ### All turns together -/
theorem hasLab_iff : ∀ {us : List (Nat × Nat × HO)} {l : Nat}, hasLab us l = true ↔ ∃ p ∈ us, p.1 = l
  | [], l => by simp [hasLab]
  | p :: r, l => by
    unfold hasLab
    cases hb : Nat.beq p.1 l with
    | true => have := Nat.eq_of_beq_eq_true hb; simp [this]
    | false =>
      have : p.1 ≠ l := fun e => by rw [e] at hb; simp at hb
      simp only [cond_false, hasLab_iff, List.mem_cons]
      exact ⟨fun ⟨q, hq, e⟩ => ⟨q, .inr hq, e⟩, fun ⟨q, hq, e⟩ => by rcases hq with rfl | hq; exact (this e).elim; exact ⟨q, hq, e⟩⟩
theorem putO_spec {σ : Objs} : ∀ {us : List (Nat × Nat × HO)}, nodupL us = true → (∀ p ∈ us, putO σ us p.1 = p.2) ∧ ∀ l, (∀ p ∈ us, p.1 ≠ l) → putO σ us l = σ l
  | [], _ => ⟨fun p hp => by simp at hp, fun l _ => rfl⟩
  | p :: r, h => by
    unfold nodupL at h
    cases hb : hasLab r p.1 with
    | true => simp [hb] at h
    | false =>
      simp only [hb, cond_false] at h
      obtain ⟨h1, h2⟩ := putO_spec (σ := σ) h
      have hn : ∀ q ∈ r, q.1 ≠ p.1 := fun q hq e => by
        have : hasLab r p.1 = true := hasLab_iff.2 ⟨q, hq, e⟩
        rw [hb] at this; simp at this
      refine ⟨fun q hq => ?_, fun l hl => ?_⟩
      · rcases List.mem_cons.1 hq with rfl | hq
        · simp [putO]
        · simp only [putO, updO_ne _ _ (hn q hq)]; exact h1 q hq
      · have : l ≠ p.1 := fun e => hl p (by simp) e.symm
        simp only [putO, updO_ne _ _ this]
        exact h2 l fun q hq => hl q (by simp [hq])
def findT : Turns → Nat → Option (Option (Nat × Nat))
  | [], _ => none
  | t :: r, l => if t.1 = l then some t.2.2 else findT r l
def placeT (μ : Place) (τ : Turns) : Place := fun l => (findT τ l).getD (μ l)
theorem findT_spec : ∀ {τ : Turns}, nodupL (usOf τ) = true → (∀ t ∈ τ, findT τ t.1 = some t.2.2) ∧ ∀ l, (∀ t ∈ τ, t.1 ≠ l) → findT τ l = none
  | [], _ => ⟨fun t ht => by simp at ht, fun l _ => rfl⟩
  | t :: r, h => by
    have h : nodupL ((t.1, t.2.1) :: usOf r) = true := h
    unfold nodupL at h
    cases hb : hasLab (usOf r) t.1 with
    | true => simp [hb] at h
    | false =>
      simp only [hb, cond_false] at h
      obtain ⟨h1, h2⟩ := findT_spec h
      have hn : ∀ q ∈ r, q.1 ≠ t.1 := fun q hq e => by
        have : hasLab (usOf r) t.1 = true := hasLab_iff.2 ⟨(q.1, q.2.1), List.mem_map.2 ⟨q, hq, rfl⟩, e⟩
        rw [hb] at this; simp at this
      refine ⟨fun q hq => ?_, fun l hl => ?_⟩
      · rcases List.mem_cons.1 hq with rfl | hq
        · simp [findT]
        · simp only [findT, if_neg (hn q hq).symm]; exact h1 q hq
      · simp only [findT, if_neg (hl t (by simp))]
        exact h2 l fun q hq => hl q (by simp [hq])
theorem blkT_inj : ∀ {τ : Turns}, (blkT τ).Nodup → ∀ {t t'}, t ∈ τ → t' ∈ τ → ∀ {b base base'}, t.2.2 = some (b, base) → t'.2.2 = some (b, base') → t = t'
  | [], _, t, t', h0, _, _, _, _, _, _ => by simp at h0
  | x :: r, hn, t, t', h0, h0', b, base, base', e, e' => by
    have hmem : ∀ t ∈ r, ∀ b base, t.2.2 = some (b, base) → b ∈ blkT r := fun t ht b base e => List.mem_filterMap.2 ⟨t, ht, by rw [e]; rfl⟩
    have hcons : blkT (x :: r) = blkT [x] ++ blkT r := blkT_append [x] r
    rw [hcons, List.nodup_append] at hn
    have hx : ∀ b base, x.2.2 = some (b, base) → b ∈ blkT [x] := fun b base e => by simp [blkT, e]
    rcases List.mem_cons.1 h0 with rfl | h <;> rcases List.mem_cons.1 h0' with rfl | h'
    · rfl
    · exact (hn.2.2 b (hx b base e) b (hmem t' h' b base' e') rfl).elim
    · exact (hn.2.2 b (hx b base' e') b (hmem t h b base e) rfl).elim
    · exact blkT_inj hn.2.1 h h' e e'

/-- What was handed over and has not come back, as turns. -/
def killT (new : List (Nat × Nat × HO)) : List (Nat × Nat) → Turns
  | [] => []
  | p :: r => bif hasLab new p.1 then killT new r else (p.1, (p.2 + 1, .dead), none) :: killT new r
theorem killT_us (new : List (Nat × Nat × HO)) : ∀ ls, usOf (killT new ls) = killed new ls
  | [] => rfl
  | p :: r => by
    unfold killT killed
    cases hasLab new p.1 with
    | true => exact killT_us new r
    | false => simp only [cond_false]; rw [← killT_us new r]; rfl
theorem killT_blk (new : List (Nat × Nat × HO)) : ∀ ls, blkT (killT new ls) = []
  | [] => rfl
  | p :: r => by
    unfold killT
    cases hasLab new p.1 with
    | true => exact killT_blk new r
    | false => simpa [blkT] using killT_blk new r
theorem killT_mem (new : List (Nat × Nat × HO)) : ∀ {ls t}, t ∈ killT new ls → (t.1, t.2.1.1 - 1) ∈ ls ∧ t.2.1.2 = .dead ∧ 0 < t.2.1.1
  | p :: r, t, h => by
    unfold killT at h
    cases hb : hasLab new p.1 with
    | true =>
      simp only [hb, cond_true] at h
      obtain ⟨h1, h2⟩ := killT_mem new h
      exact ⟨List.mem_cons_of_mem _ h1, h2⟩
    | false =>
      simp only [hb, cond_false] at h
      rcases List.mem_cons.1 h with rfl | h
      · exact ⟨by simp, rfl, by simp⟩
      · obtain ⟨h1, h2⟩ := killT_mem new h
        exact ⟨List.mem_cons_of_mem _ h1, h2⟩
theorem killT_all (new : List (Nat × Nat × HO)) : ∀ {ls p}, p ∈ ls → (∃ q ∈ new, q.1 = p.1) ∨ ∃ t ∈ killT new ls, t.1 = p.1
  | q :: r, p, h => by
    unfold killT
    cases hb : hasLab new q.1 with
    | true =>
      simp only [cond_true]
      rcases List.mem_cons.1 h with rfl | h
      · exact .inl (hasLab_iff.1 hb)
      · exact killT_all new h
    | false =>
      simp only [cond_false]
      rcases List.mem_cons.1 h with rfl | h
      · exact .inr ⟨_, List.mem_cons_self .., rfl⟩
      · exact (killT_all new h).imp id fun ⟨t, ht, e⟩ => ⟨t, List.mem_cons_of_mem _ ht, e⟩
end Go.Rk
/- Calls, four: a call is sound; and with it every operation. -/
namespace Go.Rk
set_option linter.unusedSimpArgs false
set_option linter.unusedVariables false
section
variable {P : Program} {T : TypeId → Option TI} {EX : FuncId → List Nat × Bool}
variable {w0 : World} {S : Sets} {nt : Nat} {slots : List (Nat × AV)} {σ : Objs} {a : Act} {w : World} {μ : Place}
variable {o : Oper} {K : AV → List (Nat × Nat × HO) → Prop}

/-- Memory behind a call, all turns at once. -/
theorem RelM.turned (R : RelM w0 S nt (lookS slots) σ a w μ) {w' : World} {τ : Turns} {ex gone : List (Nat × Nat)} {F' : List Nat}
    (hnd : nodupL (usOf τ) = true) (hex : ∀ p ∈ ex, Valid σ p)
    (hturn : ∀ t ∈ τ, Turn σ μ t) (hall : ∀ p ∈ ex ++ gone, ∃ t ∈ τ, t.1 = p.1)
    (env : Env w w') (hsize : w.heap.size ≤ w'.heap.size) (hsame : ∀ b, b < w.heap.size → b ∉ blk μ ex → w'.heap[b]? = w.heap[b]?)
    (shape : ∀ (b : Nat) cs e fr, w.heap[b]? = some (Obj.cells cs e fr) → ∃ cs', w'.heap[b]? = some (Obj.cells cs' e fr) ∧ cs'.size = cs.size)
    (hF : ∀ b, b ∈ F' → b < w'.heap.size ∧ (b ∈ blk μ ex ∨ w.heap.size ≤ b)) (hFn : F'.Nodup) (hblk : blkT τ = F')
    (hobj : ∀ N' : Nat → Prop, (∀ b, (b < w'.heap.size ∧ b ∉ F' ∧ S.lent b ∧ ∀ l base, live σ l → (∀ p ∈ ex ++ gone, p.1 ≠ l) → μ l ≠ some (b, base)) → N' b) → Fits τ (putO σ (usOf τ)) (placeT μ τ) →
      ∀ t ∈ τ, ObjRep (putO σ (usOf τ)) (placeT μ τ) w' N' t.1 t.2.1.2) :
    (∀ b, (b < w'.heap.size ∧ b ∉ F' ∧ S.lent b ∧ ∀ l base, live σ l → (∀ p ∈ ex ++ gone, p.1 ≠ l) → μ l ≠ some (b, base)) → Nof S (putO σ (usOf τ)) (placeT μ τ) w' b) ∧
    Fits τ (putO σ (usOf τ)) (placeT μ τ) ∧ RelM w0 S nt (lookS slots) (putO σ (usOf τ)) a w' (placeT μ τ) := by
  obtain ⟨p1, p2⟩ := putO_spec (σ := σ) hnd
  obtain ⟨f1, f2⟩ := findT_spec hnd
  have hfits : Fits τ (putO σ (usOf τ)) (placeT μ τ) := fun t ht => ⟨p1 (t.1, t.2.1) (List.mem_map.2 ⟨t, ht, rfl⟩), by simp [placeT, f1 t ht]⟩
  have hrest : ∀ l, (∀ t ∈ τ, t.1 ≠ l) → putO σ (usOf τ) l = σ l ∧ placeT μ τ l = μ l := fun l hl =>
    ⟨p2 l fun p hp => by obtain ⟨t, ht, rfl⟩ := List.mem_map.1 hp; exact hl t ht, by simp [placeT, f2 l hl]⟩
  have hcase : ∀ l, (∃ t ∈ τ, t.1 = l) ∨ ∀ t ∈ τ, t.1 ≠ l := fun l => by
    by_cases h : ∃ t ∈ τ, t.1 = l
    · exact .inl h
    · exact .inr fun t ht e => h ⟨t, ht, e⟩
  have hbmem : ∀ t ∈ τ, ∀ b base, t.2.2 = some (b, base) → b ∈ F' := fun t ht b base e => by rw [← hblk]; exact List.mem_filterMap.2 ⟨t, ht, by rw [e]; rfl⟩
  have hnotin : ∀ l, (∀ t ∈ τ, t.1 ≠ l) → ∀ p ∈ ex ++ gone, p.1 ≠ l := fun l hl p hp e => by
    obtain ⟨t, ht, e'⟩ := hall p hp
    exact hl t ht (e'.trans e)
  -- a block of what is handed over is nobody else's
  have hother : ∀ l b base, live σ l → (∀ t ∈ τ, t.1 ≠ l) → μ l = some (b, base) → b ∉ F' ∧ b ∉ blk μ ex := fun l b base hl hn hm => by
    have h1 : b ∉ blk μ ex := fun hb => by
      obtain ⟨p, hp, base', hm'⟩ := blk_mem hb
      exact hnotin l hn p (by simp [hp]) (R.inj p.1 l b base' base (hex p hp).1 hl hm' hm)
    refine ⟨fun hb => ?_, h1⟩
    rcases (hF b hb).2 with h | h
    · exact h1 h
    · have := (R.own l b base hl hm).1; omega
  have hN : ∀ b, (b < w'.heap.size ∧ b ∉ F' ∧ S.lent b ∧ ∀ l base, live σ l → (∀ p ∈ ex ++ gone, p.1 ≠ l) → μ l ≠ some (b, base)) → Nof S (putO σ (usOf τ)) (placeT μ τ) w' b := fun b ⟨h1, h2, hz, h3⟩ => by
    refine ⟨h1, hz, fun l base hl hm => ?_⟩
    rcases hcase l with ⟨t, ht, rfl⟩ | hn
    · rw [(hfits t ht).2] at hm
      exact h2 (hbmem t ht b base hm)
    · obtain ⟨e1, e2⟩ := hrest l hn
      rw [e2] at hm
      exact h3 l base (by simpa [live, e1] using hl) (hnotin l hn) hm
  have hblk_live : ∀ b, b ∈ blk μ ex → ∃ l base, live σ l ∧ μ l = some (b, base) := fun b hb => by
    obtain ⟨p, hp, base, hm⟩ := blk_mem hb
    exact ⟨p.1, base, (hex p hp).1, hm⟩
  have hold : ∀ b, Nof S σ μ w b → b ∉ blk μ ex := fun b hb hin => by
    obtain ⟨l, base, hl, hm⟩ := hblk_live b hin
    exact hb.2.2 l base hl hm
  have hst : Step S σ (putO σ (usOf τ)) μ (placeT μ τ) w w' := by
    refine ⟨hsize, fun b hb => ⟨hsame b hb.1 (hold b hb), hN b ⟨by have := hb.1; omega, fun h => ?_, hb.2.1, fun l base hl _ => hb.2.2 l base hl⟩⟩, fun l => ?_⟩
    · rcases (hF b h).2 with h | h
      · exact hold b hb h
      · have := hb.1; omega
    · rcases hcase l with ⟨t, ht, rfl⟩ | hn
      · obtain ⟨e1, e2⟩ := hfits t ht
        rcases hturn t ht with h | ⟨h1, h2, h3, h4⟩
        · left; rw [e1]; exact h
        · right
          rw [e1, e2]
          refine ⟨h1, h2, h3, fun sz n row h => ?_, fun b base cs e hm _ hb => shape b cs e (0, 0) hb⟩
          obtain ⟨row', hr⟩ := h4 sz n row h
          exact ⟨n, row', hr, Nat.le_refl _⟩
      · right
        obtain ⟨e1, e2⟩ := hrest l hn
        rw [e1, e2]
        exact ⟨rfl, rfl, fun c hc => ⟨c, hc⟩, fun sz n row hr => ⟨n, row, hr, Nat.le_refl _⟩, fun b base cs e hm _ hb => shape b cs e (0, 0) hb⟩
  refine ⟨hN, hfits, R.carry hst env (fun b hb hs => hsame b (Nat.lt_of_lt_of_le hb R.grow) fun hin => ?_) shape (fun l b base hl hm => ?_) (fun l l' b base base' hl hl' hm hm' => ?_) (fun l => ?_)⟩
  · obtain ⟨l, base, hl, hm⟩ := hblk_live b hin
    rcases (R.own l b base hl hm).2 with h | h
    · omega
    · exact hs h
  · rcases hcase l with ⟨t, ht, rfl⟩ | hn
    · rw [(hfits t ht).2] at hm
      obtain ⟨h1, h2⟩ := hF b (hbmem t ht b base hm)
      refine ⟨h1, ?_⟩
      rcases h2 with h2 | h2
      · obtain ⟨l', base', hl', hm'⟩ := hblk_live b h2
        exact (R.own l' b base' hl' hm').2
      · exact .inl (by have := R.grow; omega)
    · obtain ⟨e1, e2⟩ := hrest l hn
      rw [e2] at hm
      have := R.own l b base (by simpa [live, e1] using hl) hm
      exact ⟨by omega, this.2⟩
  · rcases hcase l with ⟨t, ht, rfl⟩ | hn <;> rcases hcase l' with ⟨t', ht', rfl⟩ | hn'
    · rw [(hfits t ht).2] at hm
      rw [(hfits t' ht').2] at hm'
      rw [blkT_inj (by rw [hblk]; exact hFn) ht ht' hm hm']
    · rw [(hfits t ht).2] at hm
      obtain ⟨e1, e2⟩ := hrest l' hn'
      rw [e2] at hm'
      exact ((hother l' b base' (by simpa [live, e1] using hl') hn' hm').1 (hbmem t ht b base hm)).elim
    · rw [(hfits t' ht').2] at hm'
      obtain ⟨e1, e2⟩ := hrest l hn
      rw [e2] at hm
      exact ((hother l b base (by simpa [live, e1] using hl) hn hm).1 (hbmem t' ht' b base' hm')).elim
    · obtain ⟨e1, e2⟩ := hrest l hn
      obtain ⟨e1', e2'⟩ := hrest l' hn'
      rw [e2] at hm
      rw [e2'] at hm'
      exact R.inj l l' b base base' (by simpa [live, e1] using hl) (by simpa [live, e1'] using hl') hm hm'
  · rcases hcase l with ⟨t, ht, rfl⟩ | hn
    · right
      rw [(hfits t ht).1]
      exact hobj _ hN hfits t ht
    · left
      obtain ⟨e1, e2⟩ := hrest l hn
      exact ⟨e1, e2, fun b base hl hm => hsame b (R.own l b base hl hm).1 (hother l b base hl hn hm).2⟩

theorem usOf_killT (new : List (Nat × Nat × HO)) (ls : List (Nat × Nat)) : usOf (killT new ls) = killed new ls := killT_us new ls

theorem XTsRep.snoc {N : Nat → Prop} : ∀ {xs : List XT} {vs : List Value} {F : List Nat} {ys : List DV} {us : List Value}, XTsRep w N xs vs F → us.length = ys.length →
    (∀ (j : Nat) y, ys[j]? = some y → ∃ u, us[j]? = some u ∧ DRep w N y u) → XTsRep w N (xs ++ ys.map fun x => .c (.d x)) (vs ++ us) F
  | [], [], F, [], [], h, _, _ => h
  | [], [], F, y :: r, u :: s, h, hl, hy => by
    have h : F = [] := h
    subst h
    obtain ⟨u', hu, hd⟩ := hy 0 y rfl
    simp at hu; subst hu
    exact ⟨[], [], rfl, ⟨rfl, hd⟩, XTsRep.snoc (xs := []) (vs := []) rfl (by simpa using hl) fun j z hj => by
      obtain ⟨u', hu, hd⟩ := hy (j + 1) z (by simpa using hj)
      exact ⟨u', by simpa using hu, hd⟩⟩
  | [], [], _, [], _ :: _, _, hl, _ => by simp at hl
  | [], [], _, _ :: _, [], _, hl, _ => by simp at hl
  | [], _ :: _, _, _, _, h, _, _ => h.elim
  | _ :: _, [], _, _, _, h, _, _ => h.elim
  | x :: r, v :: s, F, ys, us, ⟨F1, F2, e, h1, h2⟩, hl, hy => ⟨F1, F2, e, h1, h2.snoc hl hy⟩

theorem sound_callSem (R : RelM w0 S nt (lookS slots) σ a w μ) (hd : ∀ d, o.dst = some d → d < nt) {f : FuncId} {args : Array Operand} {cs : Array Value} {caps : List DV} {bo : List (Nat × Nat)} {L : Nat}
    (hexec : callable P f = true → (execOp a.eval o).run P w = .ok (.enter f (args.map a.eval ++ cs)) w)
    (hcl : cs.toList.length = caps.length) (hbo : ∀ p ∈ bo, Valid σ p)
    (hcaps : ∀ N : Nat → Prop, (∀ b, Nof S σ μ w b → N b) → (∀ p ∈ bo, ∀ b base, μ p.1 = some (b, base) → N b) → ∀ (j : Nat) y, caps[j]? = some y → ∃ u, cs.toList[j]? = some u ∧ DRep w N y u)
    (hK : ∀ x us, K x us → nodupL us = true)
    (h : (callSem real EX true (rho slots) L f args.toList caps bo).run σ (OpOut.run (Meets P) σ K)) : Sound P w0 S nt slots σ a w o K := by
  unfold callSem at h
  rw [G.run_bind] at h
  obtain ⟨as, le, h1, hv, hgiven⟩ := givenArgs_spec R h
  clear h
  cases hok : exOk le.ex (le.bo ++ bo) with
  | false => rw [hok] at h1; exact h1.elim
  | true =>
  rw [hok] at h1
  obtain ⟨hnd, hsep⟩ := exOk_spec hok
  have h1 : ∃ out, Meets P f (as ++ caps.map fun x => .c (.d x)) out ∧ (callRet real (rho slots) L (EX f).2 args.toList ⟨le.ex, le.bo ++ bo⟩ out).run σ fun r => K r.1 r.2 := h1
  obtain ⟨out, ⟨hcall, hm⟩, hret⟩ := h1
  have hvex : ∀ p ∈ le.ex, Valid σ p := fun p hp => hv p (by simp [hp])
  have hvbo : ∀ p ∈ le.bo ++ bo, Valid σ p := fun p hp => by
    rcases List.mem_append.1 hp with hp | hp
    · exact hv p (by simp [hp])
    · exact hbo p hp
  generalize hB : le.bo ++ bo = B at hsep hret hvbo
  let N : Nat → Prop := fun b => Nof S σ μ w b ∨ ∃ p ∈ B, ∃ base, μ p.1 = some (b, base)
  have hNof : ∀ b, Nof S σ μ w b → N b := fun b hb => .inl hb
  have hNB : ∀ p ∈ B, ∀ b base, μ p.1 = some (b, base) → N b := fun p hp b base hm => .inr ⟨p, hp, base, hm⟩
  have hargs : XTsRep w N (as ++ caps.map fun x => .c (.d x)) (args.toList.map a.eval ++ cs.toList) (blk μ le.ex) :=
    (hgiven N hNof fun p hp => hNB p (by rw [← hB]; simp [hp])).snoc hcl (hcaps N hNof fun p hp => hNB p (by rw [← hB]; simp [hp]))
  have hFlt : ∀ b, b ∈ blk μ le.ex → b < w.heap.size ∧ ¬ N b := fun b hb => by
    obtain ⟨p, hp, base, hmp⟩ := blk_mem hb
    refine ⟨(R.own p.1 b base (hvex p hp).1 hmp).1, fun hn => ?_⟩
    rcases hn with hn | ⟨q, hq, base', hmq⟩
    · exact hn.2.2 p.1 base (hvex p hp).1 hmp
    · exact hsep p hp q hq (R.inj q.1 p.1 b base' base (hvbo q hq).1 (hvex p hp).1 hmq hmp)
  have hNlt : ∀ b, N b → b < w.heap.size := fun b hn => by
    rcases hn with hn | ⟨q, hq, base', hmq⟩
    · exact hn.1
    · exact (R.own q.1 b base' (hvbo q hq).1 hmq).1
  have hcalls := hm w _ _ N hargs (blk_nodup R hnd hvex) hFlt hNlt
  intro next Q hn
  unfold Oper.wp
  rw [hexec hcall, Oper.upon_enter]
  have hvals : (args.toList.map a.eval ++ cs.toList).toArray = args.map a.eval ++ cs := by apply Array.ext'; simp
  rw [hvals] at hcalls
  refine hcalls.mono fun e w' hp => ?_
  obtain ⟨v, F1, F2, rfl, env, hsize, hsame, shape, hFs, hFn, hres, hback⟩ := hp
  refine hn _ _ ?_
  -- what the answer's parts may lie in
  have hfin : ∀ (gone : List (Nat × Nat)) (N' : Nat → Prop), (gone = [] → B = [] ) → (B ≠ [] → gone = B) →
      (∀ b, (b < w'.heap.size ∧ b ∉ F1 ++ F2 ∧ S.lent b ∧ ∀ l base, live σ l → (∀ p ∈ le.ex ++ gone, p.1 ≠ l) → μ l ≠ some (b, base)) → N' b) → ∀ b, Nout w w' N (blk μ le.ex) (F1 ++ F2) b → N' b := by
    intro gone N' _ hg hN' b ⟨h1, h2, h3⟩
    refine hN' b ⟨h1, h2, ?_, fun l base hl hnl hml => ?_⟩
    · rcases h3 with (h3 | ⟨q, hq, base', hmq⟩) | h3 | h3
      · exact h3.2.1
      · exact R.reach b (R.own q.1 b base' (hvbo q hq).1 hmq).2
      · obtain ⟨p, hp, base, hmp⟩ := blk_mem h3
        exact R.reach b (R.own p.1 b base (hvex p hp).1 hmp).2
      · exact R.reach b (.inl (Nat.le_trans R.grow h3))
    rcases h3 with (h3 | ⟨q, hq, base', hmq⟩) | h3 | h3
    · exact h3.2.2 l base hl hml
    · have hBne : B ≠ [] := fun e => by rw [e] at hq; simp at hq
      have := R.inj q.1 l b base' base (hvbo q hq).1 hl hmq hml
      exact hnl q (by rw [hg hBne]; simp [hq]) this
    · obtain ⟨p, hp, base', hmp⟩ := blk_mem h3
      have := R.inj p.1 l b base' base (hvex p hp).1 hl hmp hml
      exact hnl p (by simp [hp]) this
    · have := (R.own l b base hl hml).1; omega
  unfold callRet at hret
  rw [G.run_bind] at hret
  -- the turns and the rest, once the parts may be read in what is left
  have core : ∀ (gone : List (Nat × Nat)) (Nf : Nat → Prop), (∀ p ∈ gone, p ∈ B) →
      (∀ N' : Nat → Prop, (∀ b, (b < w'.heap.size ∧ b ∉ F1 ++ F2 ∧ S.lent b ∧ ∀ l base, live σ l → (∀ p ∈ le.ex ++ gone, p.1 ≠ l) → μ l ≠ some (b, base)) → N' b) → ∀ b, Nf b → N' b) →
      XARep w' Nf out.res v F1 → (∀ bs, splitB args.toList.length out.back = some bs → BackRep w' Nf bs (args.toList.map a.eval) F2) →
      ((taken L out.res).run σ fun r => ((optv (splitB args.toList.length out.back)).bind fun bs => (backArgs real (rho slots) args.toList bs).bind fun us => G.ret (r.1, r.2 ++ us ++ killed (r.2 ++ us) (le.ex ++ gone))).run σ fun r => K r.1 r.2) →
      Cont w0 S nt slots σ o K (a.put o.dst v) w' := by
    intro gone Nf hgone hNf hres hback hrun
    obtain ⟨x, τ1, h2, t1⟩ := taken_spec (μ := μ) hrun hres
    rw [G.run_bind] at h2
    obtain ⟨bs, hbs, h3⟩ := optv_run h2
    rw [G.run_bind] at h3
    obtain ⟨τ2, hk, t2⟩ := backArgs_spec R h3 (hback bs hbs)
    let τ : Turns := τ1 ++ τ2 ++ killT (usOf τ1 ++ usOf τ2) (le.ex ++ gone)
    have hus : usOf τ = usOf τ1 ++ usOf τ2 ++ killed (usOf τ1 ++ usOf τ2) (le.ex ++ gone) := by simp only [τ, usOf_append, usOf_killT]
    have hk : K x (usOf τ) := by rw [hus]; exact hk
    have hblk : blkT τ = F1 ++ F2 := by simp only [τ, blkT_append, killT_blk, t1.1, t2.1, List.append_nil]
    have hvgone : ∀ p ∈ le.ex ++ gone, Valid σ p := fun p hp => by
      rcases List.mem_append.1 hp with hp | hp
      · exact hvex p hp
      · exact hvbo p (hgone p hp)
    have hturn : ∀ t ∈ τ, Turn σ μ t := fun t ht => by
      rcases List.mem_append.1 ht with ht | ht
      · rcases List.mem_append.1 ht with ht | ht
        · exact t1.2.1 t ht
        · exact t2.2.1 t ht
      · obtain ⟨h1, h2, h3⟩ := killT_mem _ ht
        have := (hvgone _ h1).2
        left
        simp only at this
        omega
    have hall : ∀ p ∈ le.ex ++ gone, ∃ t ∈ τ, t.1 = p.1 := fun p hp => by
      rcases killT_all (usOf τ1 ++ usOf τ2) hp with ⟨q, hq, e⟩ | ⟨t, ht, e⟩
      · rw [← usOf_append] at hq
        obtain ⟨t, ht, rfl⟩ := List.mem_map.1 hq
        exact ⟨t, List.mem_append.2 (.inl ht), e⟩
      · exact ⟨t, List.mem_append.2 (.inr ht), e⟩
    have hobj : ∀ N' : Nat → Prop, (∀ b, (b < w'.heap.size ∧ b ∉ F1 ++ F2 ∧ S.lent b ∧ ∀ l base, live σ l → (∀ p ∈ le.ex ++ gone, p.1 ≠ l) → μ l ≠ some (b, base)) → N' b) → ∀ σ' μ', Fits τ σ' μ' →
        ARep σ' μ' w' N' x v ∧ ∀ t ∈ τ, ObjRep σ' μ' w' N' t.1 t.2.1.2 := by
      intro N' hN' σ' μ' hf
      have r1 := t1.2.2 σ' μ' N' (hNf N' hN') (Fits.left (Fits.left hf))
      have r2 := t2.2.2 σ' μ' N' (hNf N' hN') (Fits.right (Fits.left hf))
      refine ⟨r1.1, fun t ht => ?_⟩
      rcases List.mem_append.1 ht with ht | ht
      · rcases List.mem_append.1 ht with ht | ht
        · exact r1.2 t ht
        · exact r2.2 t ht
      · obtain ⟨_, h2, _⟩ := killT_mem _ ht
        rw [h2]; trivial
    obtain ⟨hN', hf, R'⟩ := R.turned (gone := gone) (hK x _ hk) hvex hturn hall env hsize hsame shape hFs hFn hblk fun N' hN' hf => (hobj N' hN' _ _ hf).2
    exact ⟨x, usOf τ, hk, placeT μ τ, R'.put hd (hobj _ hN' _ _ hf).1⟩
  have hsplit : ∀ bs, splitB args.toList.length out.back = some bs → BackRep w' (Nout w w' N (blk μ le.ex) (F1 ++ F2)) bs (args.toList.map a.eval) F2 ∧ ∀ c, some c ∈ bs → some c ∈ out.back :=
    fun bs hbs => splitB_spec hbs (by simp) hback
  cases B with
  | nil =>
    refine core [] (Nout w w' N (blk μ le.ex) (F1 ++ F2)) (fun p hp => by simp at hp) (fun N' hN' => hfin [] N' (fun _ => rfl) (fun h => (h rfl).elim) hN') hres (fun bs hbs => (hsplit bs hbs).1) ?_
    simpa using hret
  | cons q B' =>
    cases hkeep : (EX f).2 with
    | true =>
      rw [hkeep] at hret
      refine core (q :: B') (Nout w w' N (blk μ le.ex) (F1 ++ F2)) (fun p hp => hp) (fun N' hN' => hfin (q :: B') N' (fun h => by simp at h) (fun _ => rfl) hN') hres (fun bs hbs => (hsplit bs hbs).1) hret
    | false =>
      rw [hkeep] at hret
      -- no part leads to what was lent
      have hpl : (∀ N N' : Nat → Prop, ∀ c ∈ out.res.parts, TrV N N' c) ∧ (∀ N N' : Nat → Prop, ∀ c, some c ∈ out.back → TrV N N' c) ∧
          ((taken L out.res).run σ fun r => ((optv (splitB args.toList.length out.back)).bind fun bs => (backArgs real (rho slots) args.toList bs).bind fun us => G.ret (r.1, r.2 ++ us ++ killed (r.2 ++ us) (le.ex ++ []))).run σ fun r => K r.1 r.2) := by
        have aux : ∀ {α : Type} {m : G α} {Q Q' : α → Prop} {p : Prop}, m.run σ Q → (∀ x, Q x → p ∧ Q' x) → p ∧ m.run σ Q' := by
          intro α m Q Q' p hm hq
          induction m with
          | ret x => exact hq x hm
          | get l k ih => exact ih _ hm
          | vc q k ih => obtain ⟨h1, h2⟩ := ih hm.2; exact ⟨h1, hm.1, h2⟩
          | fail => exact hm.elim
        have h5 := aux (p := (∀ N N' : Nat → Prop, ∀ c ∈ out.res.parts, TrV N N' c) ∧ ∀ N N' : Nat → Prop, ∀ c, some c ∈ out.back → TrV N N' c) hret (Q' := fun r => ((optv (splitB args.toList.length out.back)).bind fun bs => (backArgs real (rho slots) args.toList bs).bind fun us => G.ret (r.1, r.2 ++ us ++ killed (r.2 ++ us) (le.ex ++ []))).run σ fun r => K r.1 r.2) ?_
        · exact ⟨h5.1.1, h5.1.2, h5.2⟩
        intro r hr
        simp only [G.run_bind] at hr ⊢
        refine aux hr fun bs hbs => aux hbs fun us hus => ?_
        obtain ⟨q1, b1, h6⟩ := plainA_spec (N := fun _ => True) (N' := fun _ => True) hus
        obtain ⟨q2, b2, h7⟩ := plainB_spec (N := fun _ => True) (N' := fun _ => True) h6
        refine ⟨⟨fun N N' c hc => ?_, fun N N' c hc => ?_⟩, by simpa using h7⟩
        · obtain ⟨q1, _⟩ := plainA_spec (N := N) (N' := N') hus
          exact q1 c hc
        · obtain ⟨q2, _⟩ := plainB_spec (N := N) (N' := N') h6
          exact q2 c hc
      obtain ⟨g1, g2, g3⟩ := hpl
      refine core [] (fun _ => False) (fun p hp => by simp at hp) (fun N' _ b hb => hb.elim) (hres.tr (g1 _ _)) (fun bs hbs => ?_) g3
      obtain ⟨s1, s2⟩ := hsplit bs hbs
      exact s1.tr fun c hc => g2 _ _ c (s2 c hc)
end
end Go.Rk
/- Every operation, and a row of them in the order of the text. -/
namespace Go.Rk
set_option linter.unusedSimpArgs false
set_option linter.unusedVariables false
section
variable {P : Program} {T : TypeId → Option TI} {EX : FuncId → List Nat × Bool}
variable {w0 : World} {S : Sets} {nt : Nat} {slots : List (Nat × AV)} {σ : Objs} {a : Act} {w : World} {μ : Place}
variable {o : Oper} {K : AV → List (Nat × Nat × HO) → Prop}

theorem callFunc_run {f : FuncId} (h : callable P f = true) (args : Array Value) (w : World) : (callFunc f args).run P w = .ok (.enter f args) w := by
  unfold callable at h
  cases hf : P.funcs[f]? with
  | none => simp [hf] at h
  | some fn =>
    simp only [hf, Bool.and_eq_true, Bool.not_eq_true'] at h
    obtain ⟨h1, h2⟩ := h
    have h1' : ¬ fn.name = "runtime.NumGoroutine" := by simpa using h1
    have h3 : ¬ fn.body = none := fun e => by simp [e] at h2
    simp [callFunc, hf, h1', h3]

theorem sound_callV (R : RelM w0 S nt (lookS slots) σ a w μ) (hd : ∀ d, o.dst = some d → d < nt) {g : Operand} {args : Array Operand} {ts : Array TypeId} (ho : o.op = .call ⟨.value g, args, ts⟩)
    (hK : ∀ x us, K x us → nodupL us = true)
    (h : (semOp real T EX o true (rho slots)).run σ (OpOut.run (Meets P) σ K)) : Sound P w0 S nt slots σ a w o K := by
  simp only [semOp, ho, G.run_bind] at h
  obtain ⟨c, hc, h1⟩ := cellv_run h (rho_rep R g)
  clear h
  have hexec : ∀ (f : FuncId) (cs : Array Value), a.eval g = .func (.func f) #[] cs → callable P f = true → (execOp a.eval o).run P w = .ok (.enter f (args.map a.eval ++ cs)) w := by
    intro f cs he hcall
    simp [execOp, ho, resolve, he, Deferred.ofValue, invoke, callFunc_run hcall]
  split at h1
  · rename_i f caps
    generalize he : a.eval g = pv at hc
    cases hc with
    | fn _ _ cs u hn hu hdd =>
      refine sound_callSem R hd (hexec f cs he) (by simpa using hn) (fun p hp => by simp at hp) (fun N hN _ j y hj => ⟨u j, by simpa using hu j y hj, (hdd j y hj).mono hN⟩) hK h1
  · rename_i f caps
    rw [G.run_bind] at h1
    obtain ⟨ys, ls, h2, hlen, hv, hb, hN⟩ := capsD_spec R h1
    obtain ⟨cs, he, hcl, hcs⟩ := hc
    refine sound_callSem R hd (hexec f cs he) (by rw [Array.length_toList, hcl, hlen]) hv (fun N hn hl j y hj => ?_) hK h2
    have hjl : j < caps.length := by rw [← hlen]; exact (List.getElem?_eq_some_iff.1 hj).1
    have hcj : caps[j]? = some (caps[j].1, caps[j].2) := by rw [List.getElem?_eq_getElem hjl]
    obtain ⟨cells, hσ⟩ := hb j _ _ hcj
    obtain ⟨b, hm, hu⟩ := (hcs j _ _ hcj).2 cells hσ
    exact ⟨_, by simpa using hu, hN N hn hl j y _ _ b hj hcj hm⟩
  · exact h1.elim

theorem op_sound (hT : TTok P T) (R : RelM w0 S nt (lookS slots) σ a w μ) (hd : ∀ d, o.dst = some d → d < nt) (hK : ∀ x us, K x us → nodupL us = true)
    (h : (semOp real T EX o true (rho slots)).run σ (OpOut.run (Meets P) σ K)) : Sound P w0 S nt slots σ a w o K := by
  cases ho : o.op with
  | move x => exact sound_move R hd (.inl ho) h
  | assign x => exact sound_move R hd (.inr ho) h
  | pick c x y => exact sound_pick R hd ho h
  | alloc t => exact sound_alloc hT R hd ho h
  | box t x => exact sound_box R hd ho h
  | build t parts => exact sound_build hT R hd ho h
  | buildSlice t len parts => exact sound_buildSlice hT R hd ho h
  | load t p => exact sound_load hT R hd ho h
  | store t p x => exact sound_store hT R hd ho h
  | nilCheck x => exact sound_nilCheck R hd ho h
  | binOp op t x y yt => exact sound_binOp hT R hd ho h
  | unOp u t x => exact sound_unOp R hd ho h
  | convert s t x => exact sound_convert hT R hd ho h
  | makeFunc fn first caps => exact sound_makeFunc R hd ho h
  | makeSlice t l c => exact sound_makeSlice hT R hd ho h
  | slice t x lo hi mx => exact sound_slice hT R hd ho h
  | fieldAddr t p f => exact sound_fieldAddr hT R hd ho h
  | field t x f => exact sound_field hT R hd ho h
  | indexAddr t x i => exact sound_indexAddr hT R hd ho h
  | extract x i => exact sound_extract R hd ho h
  | call c =>
    obtain ⟨callee, args, ts⟩ := c
    cases callee with
    | value g => exact sound_callV R hd ho hK h
    | builtin b =>
      cases b with
      | len => exact sound_len hT R hd ho h
      | append => exact sound_append hT R hd ho h
      | min => exact sound_min R hd ho h
      | max => exact sound_max R hd ho h
      | _ => simp only [semOp, ho] at h; exact h.elim
    | invoke r m => simp only [semOp, ho] at h; exact h.elim
  | _ => simp only [semOp, ho] at h; exact h.elim
end
end Go.Rk
/- What an operation's answer hangs on: its operands alone. -/
namespace Go.Rk
set_option linter.unusedSimpArgs false
set_option linter.unusedVariables false
section
variable {A : Ar} {T : TypeId → Option TI} {EX : FuncId → List Nat × Bool} {ρ ρ' : Operand → AV} {g : Bool}

theorem partsv_congr : ∀ ps : List (Nat × Operand), (∀ p, p ∈ ps → ρ p.2 = ρ' p.2) → partsv A g ρ ps = partsv A g ρ' ps
  | [], _ => rfl
  | (i, x) :: r, h => by
    have h1 : ρ x = ρ' x := h (i, x) (by simp)
    have h2 := partsv_congr r fun p hp => h p (by simp [hp])
    simp only [partsv, h1, h2]
theorem capvs_congr : ∀ ps : List Operand, (∀ p, p ∈ ps → ρ p = ρ' p) → capvs A g ρ ps = capvs A g ρ' ps
  | [], _ => rfl
  | x :: r, h => by
    have h1 : ρ x = ρ' x := h x (by simp)
    have h2 := capvs_congr r fun p hp => h p (by simp [hp])
    simp only [capvs, h1, h2]
theorem givenArgs_congr {ex : Nat → Bool} : ∀ (i : Nat) (ps : List Operand), (∀ p, p ∈ ps → ρ p = ρ' p) → givenArgs A g ex ρ i ps = givenArgs A g ex ρ' i ps
  | _, [], _ => rfl
  | i, x :: r, h => by
    have h1 : ρ x = ρ' x := h x (by simp)
    have h2 := givenArgs_congr (ex := ex) (i + 1) r fun p hp => h p (by simp [hp])
    simp only [givenArgs, h1, h2]
theorem backArgs_congr : ∀ (ps : List Operand) (bs : List (Option XV)), (∀ p, p ∈ ps → ρ p = ρ' p) → backArgs A ρ ps bs = backArgs A ρ' ps bs
  | [], bs, _ => by cases bs <;> rfl
  | x :: r, [], _ => rfl
  | x :: r, b :: s, h => by
    have h1 : ρ x = ρ' x := h x (by simp)
    have h2 := backArgs_congr r s fun p hp => h p (by simp [hp])
    simp only [backArgs, h1, h2]
theorem callRet_congr {L : Nat} {keeps : Bool} {args : List Operand} {le : Lent} (h : ∀ p, p ∈ args → ρ p = ρ' p) : callRet A ρ L keeps args le = callRet A ρ' L keeps args le := by
  funext out
  simp only [callRet, backArgs_congr args _ h]
theorem callSem_congr {L : Nat} {f : FuncId} {args : List Operand} {caps : List DV} {bo : List (Nat × Nat)} (h : ∀ p, p ∈ args → ρ p = ρ' p) :
    callSem A EX g ρ L f args caps bo = callSem A EX g ρ' L f args caps bo := by
  simp only [callSem, givenArgs_congr 0 args h, callRet_congr h]
theorem loSem_congr : ∀ lo : Option Operand, (∀ p, lo = some p → ρ p = ρ' p) → loSem A g ρ lo = loSem A g ρ' lo
  | none, _ => rfl
  | some p, h => by simp only [loSem, h p rfl]
theorem hiSem_congr {s : CV} : ∀ hi : Option Operand, (∀ p, hi = some p → ρ p = ρ' p) → hiSem A g ρ s hi = hiSem A g ρ' s hi
  | none, _ => rfl
  | some p, h => by simp only [hiSem, h p rfl]

theorem semOp_congr (o : Oper) (h : ∀ x, x ∈ o.op.operands → ρ x = ρ' x) : semOp A T EX o g ρ = semOp A T EX o g ρ' := by
  unfold semOp
  generalize o.dst.getD 0 * 64 = L
  cases ho : o.op with
  | build t ps =>
    simp only [ho, Op.operands] at h ⊢
    have := partsv_congr (A := A) (g := g) ps.toList fun p hp => h p.2 (by simp; exact ⟨p.1, by simpa using hp⟩)
    rw [this]
  | buildSlice t n ps =>
    simp only [ho, Op.operands] at h ⊢
    have := partsv_congr (A := A) (g := g) ps.toList fun p hp => h p.2 (by simp; exact ⟨p.1, by simpa using hp⟩)
    rw [this]
  | makeFunc f first caps =>
    simp only [ho, Op.operands] at h ⊢
    cases f <;> try rfl
    have := capvs_congr (A := A) (g := g) caps.toList fun p hp => h p (by simp; exact .inr (by simpa using hp))
    simp only [this]
  | slice t x lo hi mx =>
    simp only [ho, Op.operands] at h ⊢
    have hx := h x (by simp)
    have hl := loSem_congr (A := A) (g := g) lo fun p hp => h p (by simp [hp])
    have hh := fun s => hiSem_congr (A := A) (g := g) (s := s) hi fun p hp => h p (by simp [hp])
    simp only [hx, hl, hh]
  | call c =>
    obtain ⟨callee, args, ts⟩ := c
    simp only [ho, Op.operands, Call.operands] at h ⊢
    cases callee with
    | value f =>
      have hf := h f (by simp)
      have ha := fun (caps : List DV) (bo : List (Nat × Nat)) (f : FuncId) => callSem_congr (A := A) (EX := EX) (g := g) (L := L) (f := f) (args := args.toList) (caps := caps) (bo := bo) fun p hp => h p (by simp; exact .inr (by simpa using hp))
      simp only [hf, ha]
    | builtin b =>
      obtain ⟨l⟩ := args
      have ha : ∀ x, x ∈ l → ρ x = ρ' x := fun p hp => h p (by simpa using hp)
      clear h ho
      cases b with
      | len => rcases l with _ | ⟨x, _ | ⟨y, l⟩⟩ <;> first | rfl | skip
               have hx := ha x (by simp)
               split
               all_goals rename_i e
               all_goals first | (cases e; generalize ts[0]? = q; cases q <;> first | rfl | (simp only [hx]; done)) | (exfalso; simp_all; done) | simp_all
      | append => rcases l with _ | ⟨x, _ | ⟨y, _ | ⟨z, l⟩⟩⟩ <;> first | rfl | skip
                  have hx := ha x (by simp)
                  have hy := ha y (by simp)
                  split
                  all_goals rename_i e
                  all_goals first | (cases e; generalize ts[0]? = q; generalize ts[1]? = q'; cases q <;> cases q' <;> first | rfl | (simp only [hx, hy]; done)) | (exfalso; simp_all; done) | simp_all
      | min => rcases l with _ | ⟨x, _ | ⟨y, _ | ⟨z, l⟩⟩⟩ <;> first | rfl | skip
               have hx := ha x (by simp)
               have hy := ha y (by simp)
               simp only [hx, hy]
      | max => rcases l with _ | ⟨x, _ | ⟨y, _ | ⟨z, l⟩⟩⟩ <;> first | rfl | skip
               have hx := ha x (by simp)
               have hy := ha y (by simp)
               simp only [hx, hy]
      | _ => rfl
    | invoke r m => rfl
  | pick c x y =>
    simp only [ho, Op.operands] at h ⊢
    have h1 := h c (by simp)
    have h2 := h x (by simp)
    have h3 := h y (by simp)
    simp only [h1, h2, h3]
  | unOp u t x =>
    simp only [ho, Op.operands] at h ⊢
    have h1 := h x (by simp)
    cases u <;> simp only [h1]
  | move x | assign x | box t x | load t x | nilCheck x | convert s t x | fieldAddr t x f | field t x f | extract x i =>
    simp only [ho, Op.operands] at h ⊢
    have h1 := h x (by simp)
    simp only [h1]
  | store t x y | binOp b t x y u | makeSlice t x y | indexAddr t x y =>
    simp only [ho, Op.operands] at h ⊢
    have h1 := h x (by simp)
    have h2 := h y (by simp)
    simp only [h1, h2]
  | _ => rfl
end
end Go.Rk
namespace Go.Rk
set_option linter.unusedSimpArgs false
set_option linter.unusedVariables false
section
variable (A : Ar) (T : TypeId → Option TI) (EX : FuncId → List Nat × Bool) (M : FuncId → List XT → Out → Prop)

/-- What is to be shown of one operation's answer. -/
def OpOut.wp (o : OpOut) (g : Bool) (σ : Nat → Nat × HO) (K : AV → List (Nat × Nat × HO) → List Nat → Prop) : Prop :=
  match o with
  | .val x us => K x us []
  | .call f args ret => A.hold fun _ => ∃ out, (g = true → M f args out) ∧ (ret out).wp σ fun r lk => K r.1 r.2 lk

/-- The guard of an operation: whether it runs. -/
def guardv (ops : Array Oper) (sl : List (Nat × AV)) (o : Oper) : G Bool :=
  match o.guard with
  | none => .ret true
  | some (j, want) => match (ops[j]?).bind (·.dst) with
    | some d => match lookS sl d with
      | .gd t (.c (.d (.v (.bool b)))) => .ret (A.band t (bif want then b else A.bnot b))
      | .c (.d (.v (.bool b))) => .ret (bif want then b else A.bnot b)
      | _ => .fail
    | none => .fail
def wrapG (o : Oper) (g : Bool) (x : AV) : AV := match o.guard with | none => x | some _ => .gd g x
def usOk (o : Oper) (us : List (Nat × Nat × HO)) : Bool := match o.guard with | none => true | some _ => us.isEmpty
def Oper.pre (o : Oper) : List Nat := (o.after.toList.filter fun e => Region.binds .any e).map (·.on)
def dstOk (nt : Nat) (d : Option Nat) : Bool := match d with | some k => Nat.blt k nt | none => true

def awpOps (nt : Nat) (draw : Bool) (ops : Array Oper) (Q : St → Prop) : List Oper → List Rec → St → Prop
  | [], rs, σ => bif draw then A.ind rs.reverse ∧ Q σ else Q σ
  | o :: rest, rs, σ => (guardv A ops σ.slots o).wp σ.o fun g _ =>
      (semOp A T EX o g (rho σ.slots)).wp σ.o fun out lk =>
        out.wp A M g σ.o fun x us lk' => dstOk nt o.dst = true ∧ usOk o us = true ∧ nodupL us = true ∧
          awpOps nt draw ops Q rest (⟨o.dst, Oper.pre o, o.looksAt ops, lk ++ lk', us.map (·.1)⟩ :: rs) (σ.put o.dst (wrapG o g x) us)

/-! ## Code -/
inductive AE where
  | normal
  | exit (id : Nat)
  | ret

/-- Whatever is there by the one is there by the other. -/
def Cov (nt : Nat) (σ τ : St) : Prop := ∀ (w0 : World) (S : Sets) (a : Act) (w : World), Rel w0 S nt (lookS σ.slots) σ.o a w → Rel w0 S nt (lookS τ.slots) τ.o a w
/-- A loop: states of a kind, one for each 'x', of which each round leads to a lesser one. -/
def LoopA (nt : Nat) (body : (AE → St → Prop) → St → Prop) (Q : AE → St → Prop) (σ : St) : Prop :=
  ∃ (α : Type) (st : α → St) (m : α → Nat), (∃ x, Cov nt σ (st x)) ∧ ∀ x, body (fun e τ => match e with
    | .normal => ∃ y, m y < m x ∧ Cov nt τ (st y)
    | e => Q e τ) (st x)

def awp (nt : Nat) (H : List Nat) : Code → (AE → St → Prop) → St → Prop
  | .skip, Q, σ => Q .normal σ
  | .region id ops draw, Q, σ => bif memN H id then A.hold fun _ => ∃ τ, Cov nt σ τ ∧ awpOps A T EX M nt draw ops (Q .normal) ops.toList [] τ
      else awpOps A T EX M nt draw ops (Q .normal) ops.toList [] σ
  | .seq a b, Q, σ => awp nt H a (fun e τ => match e with | .normal => awp nt H b Q τ | e => Q e τ) σ
  | .cond c t f, Q, σ => (boolv A true (rho σ.slots c)).wp σ.o fun b _ => A.br b (awp nt H t Q σ) (awp nt H f Q σ)
  | .block id c, Q, σ => awp nt H c (fun e τ => match e with | .exit j => bif Nat.beq j id then Q .normal τ else Q (.exit j) τ | e => Q e τ) σ
  | .loop c, Q, σ => A.hold fun _ => LoopA nt (fun Q' τ => awp nt H c Q' τ) Q σ
  | .exit id, Q, σ => Q (.exit id) σ
  | .ret, Q, σ => Q .ret σ
  | _, _, _ => False
end
end Go.Rk
/- A row of operations, in the order of the text or in any. -/
namespace Go.Rk
set_option linter.unusedSimpArgs false
set_option linter.unusedVariables false
structure Ev where
  o : Oper
  g : Bool
  x : AV
  us : List (Nat × Nat × HO)
  lk : List Nat
def Ev.rc (ops : Array Oper) (e : Ev) : Rec := ⟨e.o.dst, Oper.pre e.o, e.o.looksAt ops, e.lk, e.us.map (·.1)⟩
def Ev.put (e : Ev) (σ : St) : St := σ.put e.o.dst (wrapG e.o e.g e.x) e.us

section
variable (P : Program) (T : TypeId → Option TI) (EX : FuncId → List Nat × Bool) (nt : Nat) (ops : Array Oper)
def Good (e : Ev) (σ : St) : Prop :=
  dstOk nt e.o.dst = true ∧ usOk e.o e.us = true ∧ nodupL e.us = true ∧ guardv real ops σ.slots e.o = .ret e.g ∧
  (e.g = true → ∀ σ' : Objs, (∀ l, l ∈ e.lk → σ' l = σ.o l) → (semOp real T EX e.o true (rho σ.slots)).run σ' (OpOut.run (Meets P) σ' fun x us => x = e.x ∧ us = e.us))
def chain : List Ev → St → Prop
  | [], _ => True
  | e :: r, σ => Good P T EX nt ops e σ ∧ chain r (e.put σ)
end
def puts : List Ev → St → St
  | [], σ => σ
  | e :: r, σ => puts r (e.put σ)

section
variable {P : Program} {T : TypeId → Option TI} {EX : FuncId → List Nat × Bool} {nt : Nat} {ops : Array Oper}

theorem guardv_ret {sl : List (Nat × AV)} {o : Oper} {σ : Objs} {Q : Bool → List Nat → Prop} (h : (guardv real ops sl o).wp σ Q) : ∃ g, guardv real ops sl o = .ret g ∧ Q g [] := by
  unfold guardv at *
  split at h
  · exact ⟨_, rfl, h⟩
  · split at h
    · split at h
      · exact ⟨_, rfl, h⟩
      · exact ⟨_, rfl, h⟩
      · exact h.elim
    · exact h.elim

theorem awp_chain {draw : Bool} {Q : St → Prop} : ∀ (l : List Oper) (rs : List Rec) (σ : St), awpOps real T EX (Meets P) nt draw ops Q l rs σ →
    ∃ evs : List Ev, evs.map (·.o) = l ∧ chain P T EX nt ops evs σ ∧ (draw = true → indep (rs.reverse ++ evs.map (Ev.rc ops)) = true) ∧ Q (puts evs σ) := by
  intro l
  induction l with
  | nil =>
    intro rs σ h
    refine ⟨[], rfl, trivial, ?_⟩
    cases draw with
    | false => exact ⟨fun h => (by cases h), h⟩
    | true => exact ⟨fun _ => by rw [List.map_nil, List.append_nil]; exact h.1, h.2⟩
  | cons o r ih =>
    intro rs σ h
    obtain ⟨g, hg, h⟩ := guardv_ret h
    obtain ⟨out, lk, h, hrun⟩ := G.wp_det h
    have key : ∃ x us lk', (dstOk nt o.dst = true ∧ usOk o us = true ∧ nodupL us = true ∧
          awpOps real T EX (Meets P) nt draw ops Q r (⟨o.dst, Oper.pre o, o.looksAt ops, lk ++ lk', us.map (·.1)⟩ :: rs) (σ.put o.dst (wrapG o g x) us)) ∧
        (g = true → ∀ σ' : Objs, (∀ l, l ∈ lk ++ lk' → σ' l = σ.o l) → OpOut.run (Meets P) σ' (fun x' us' => x' = x ∧ us' = us) out) := by
      cases out with
      | val x us => exact ⟨x, us, [], h, fun _ _ _ => ⟨rfl, rfl⟩⟩
      | call f args ret =>
        obtain ⟨out, hM, h⟩ : ∃ out, (g = true → Meets P f args out) ∧ _ := h
        obtain ⟨q, lk', h, hrun'⟩ := G.wp_det h
        exact ⟨q.1, q.2, lk', h, fun hg σ' hl => ⟨out, hM hg, hrun' σ' (fun l hm => hl l (by simp [hm])) _ ⟨rfl, rfl⟩⟩⟩
    obtain ⟨x, us, lk', ⟨h1, h2, h3, h4⟩, h5⟩ := key
    obtain ⟨evs, e1, e2, e3, e4⟩ := ih _ _ h4
    refine ⟨⟨o, g, x, us, lk ++ lk'⟩ :: evs, by simp [e1], ⟨⟨h1, h2, h3, hg, fun hgt σ' hl => ?_⟩, e2⟩, fun hd => ?_, e4⟩
    · have hgt' : g = true := hgt
      subst hgt'
      exact hrun σ' (fun l hm => hl l (by simp [hm])) _ (h5 rfl σ' hl)
    · have := e3 hd
      simpa [Ev.rc] using this

theorem Region.wanted_of {σ : Objs} {sl : List (Nat × AV)} {w0 : World} {S : Sets} {a : Act} {w : World} {μ : Place} {o : Oper} {g : Bool}
    (R : RelM w0 S nt (lookS sl) σ a w μ) (h : guardv real ops sl o = .ret g) (hb : ∀ j want d, o.guard = some (j, want) → (ops[j]?).bind (·.dst) = some d → d < nt) :
    Region.wanted o (yielded ops a.tmps) = g := by
  unfold guardv at h
  unfold Region.wanted
  cases ho : o.guard with
  | none => simp only [ho] at h; cases h; rfl
  | some q =>
    obtain ⟨j, want⟩ := q
    simp only [ho] at h ⊢
    unfold yielded
    cases hd : (ops[j]?).bind (·.dst) with
    | none => simp only [hd] at h; cases h
    | some d =>
      simp only [hd] at h ⊢
      have hs := R.slots d
      have hlt : d < a.tmps.size := by rw [R.size]; exact hb j want d ho hd
      have he : a.tmps[d]? = some (a.tmps.getD d undef) := by simp [hlt]
      simp only [Option.bind_some, he]
      generalize a.tmps.getD d undef = v at hs
      split at h
      · rename_i t b hq
        rw [hq] at hs
        cases h
        cases t with
        | true =>
          have := hs.1 rfl
          cases this
          cases b <;> cases want <;> rfl
        | false =>
          have := hs.2 rfl
          subst this
          rfl
      · rename_i b hq
        rw [hq] at hs
        cases h
        cases hs
        cases b <;> cases want <;> rfl
      · cases h

theorem ev_step (hT : TTok P T) {Q : Exit → Act → World → Prop} {K : Act → World → Prop} {w0 : World} {S : Sets} {a : Act} {w : World} {μ : Place} {σ τ : St} {e : Ev} {j : Nat}
    (hj : ops[j]? = some e.o) (hb : ∀ j want d, e.o.guard = some (j, want) → (ops[j]?).bind (·.dst) = some d → d < nt)
    (hg : Good P T EX nt ops e σ) (R : RelM w0 S nt (lookS τ.slots) τ.o a w μ) (hs : ∀ k, k ∈ e.o.looksAt ops → lookS τ.slots k = lookS σ.slots k) (ho : ∀ l, l ∈ e.lk → τ.o l = σ.o l)
    (hn : ∀ a' w', Rel w0 S nt (putS (lookS τ.slots) e.o.dst (wrapG e.o e.g e.x)) (putO τ.o e.us) a' w' → K a' w') : wpOp P ops Q j K a w := by
  obtain ⟨h1, h2, h3, h4, h5⟩ := hg
  have hd : ∀ d, e.o.dst = some d → d < nt := fun d hd => by
    unfold dstOk at h1
    rw [hd] at h1
    exact of_decide_eq_true (by simpa using h1)
  have h4' : guardv real ops τ.slots e.o = .ret e.g := by
    rw [← h4]
    unfold guardv
    cases hgu : e.o.guard with
    | none => rfl
    | some q =>
      obtain ⟨i, want⟩ := q
      simp only
      cases hd : (ops[i]?).bind (·.dst) with
      | none => rfl
      | some d =>
        have := hs d (by unfold Oper.looksAt; simp only [hgu, hd]; simp)
        simp only [this]
  unfold wpOp
  simp only [hj]
  rw [Region.wanted_of R h4' hb]
  cases hgt : e.g with
  | false =>
    simp only [Bool.false_eq_true, if_false]
    rw [hgt] at h4 hn
    cases hgu : e.o.guard with
    | none => unfold guardv at h4; simp only [hgu] at h4; cases h4
    | some q =>
      have hu : e.us = [] := by unfold usOk at h2; rw [hgu] at h2; simpa using h2
      apply hn
      rw [hu]
      unfold wrapG
      rw [hgu]
      have hx : ARep τ.o μ w (Nof S τ.o μ w) (.gd false e.x) undef := ⟨fun h => Bool.noConfusion h, fun _ => rfl⟩
      exact ⟨μ, R.put hd hx⟩
  | true =>
    simp only [if_true]
    left
    have hc : semOp real T EX e.o true (rho τ.slots) = semOp real T EX e.o true (rho σ.slots) := semOp_congr _ fun x hx => by
      cases x with
      | tmp t => exact hs t (by unfold Oper.looksAt; exact List.mem_append_left _ (List.mem_filterMap.2 ⟨.tmp t, by simpa using hx, rfl⟩))
      | _ => rfl
    have := h5 hgt τ.o ho
    rw [← hc] at this
    refine op_sound hT R hd ?_ this K Q ?_
    · rintro x us ⟨-, rfl⟩; exact h3
    · rintro a' w' ⟨x, us, ⟨rfl, rfl⟩, μ', R'⟩
      apply hn
      rw [hgt]
      unfold wrapG
      cases hgu : e.o.guard with
      | none => exact ⟨μ', R'⟩
      | some q =>
        refine ⟨μ', R'.size, R'.defs, R'.env, R'.grow, R'.reach, R'.frame, R'.shape, R'.own, R'.inj, R'.ghost, R'.ghl, R'.objs, fun k => ?_⟩
        have := R'.slots k
        unfold putS at this ⊢
        split
        · rename_i hk; simp only [hk, if_true] at this; exact ⟨fun _ => this, fun h => by cases h⟩
        · rename_i hk; simpa only [hk, if_false] using this

/-! ## Those that were taken, in the order of the text -/
def some' (E : Nat → Bool) : Nat → List Ev → St → St
  | _, [], σ => σ
  | i, e :: r, σ => some' E (i + 1) r (bif E i then e.put σ else σ)

theorem puts_some : ∀ (evs : List Ev) (i : Nat) (σ : St) (E : Nat → Bool), (∀ m, m < evs.length → E (i + m) = true) → some' E i evs σ = puts evs σ
  | [], _, _, _, _ => rfl
  | e :: r, i, σ, E, h => by
    have h0 : E i = true := h 0 (by simp)
    simp only [some', puts, h0, cond_true]
    exact puts_some r (i + 1) _ E fun m hm => by rw [Nat.add_assoc, Nat.add_comm 1 m]; exact h (m + 1) (by simpa using hm)

theorem Ev.put_s (e : Ev) (σ : St) : lookS (e.put σ).slots = putS (lookS σ.slots) e.o.dst (wrapG e.o e.g e.x) := by
  unfold Ev.put St.put
  exact lookS_put _ _ _
theorem Ev.put_o (e : Ev) (σ : St) : (e.put σ).o = putO σ.o e.us := by
  funext l
  unfold Ev.put St.put St.o
  rw [lookO_put]

theorem putO_in {σ τ : Objs} {l : Nat} : ∀ {us : List (Nat × Nat × HO)}, (l ∉ us.map (·.1) → σ l = τ l) → putO σ us l = putO τ us l
  | [], h => h (by simp)
  | (j, x) :: r, h => by
    simp only [putO, updO]
    split
    · rfl
    · rename_i hl
      exact putO_in fun hr => h (by simpa using ⟨hl, by simpa using hr⟩)
theorem putO_off {σ : Objs} {l : Nat} : ∀ {us : List (Nat × Nat × HO)}, l ∉ us.map (·.1) → putO σ us l = σ l
  | [], _ => rfl
  | (j, x) :: r, h => by
    have h1 : l ≠ j := fun e => h (by simp [e])
    simp only [putO, updO, h1, if_false]
    exact putO_off fun hr => h (by simp only [List.map_cons, List.mem_cons]; exact .inr hr)

theorem some_s {k : Nat} : ∀ (evs : List Ev) (i : Nat) (σ τ : St) (E F : Nat → Bool), lookS σ.slots k = lookS τ.slots k →
    (∀ m e, evs[m]? = some e → e.o.dst = some k → E (i + m) = F (i + m)) → lookS (some' E i evs σ).slots k = lookS (some' F i evs τ).slots k
  | [], _, _, _, _, _, h, _ => h
  | e :: r, i, σ, τ, E, F, h, hm => by
    simp only [some']
    refine some_s r (i + 1) _ _ E F ?_ fun m e' he hd => by rw [Nat.add_assoc, Nat.add_comm 1 m]; exact hm (m + 1) e' (by simpa using he) hd
    by_cases hd : e.o.dst = some k
    · have h0 : E i = F i := hm 0 e (by simp) hd
      rw [h0]
      cases F i with
      | false => exact h
      | true => simp only [cond_true, Ev.put_s, putS, hd, if_true]
    · have hp : ∀ σ : St, lookS (e.put σ).slots k = lookS σ.slots k := fun σ => by rw [Ev.put_s]; simp only [putS, hd, if_false]
      cases E i <;> cases F i <;> simp only [cond_true, cond_false, hp, h]

theorem some_o {l : Nat} : ∀ (evs : List Ev) (i : Nat) (σ τ : St) (E F : Nat → Bool), σ.o l = τ.o l →
    (∀ m e, evs[m]? = some e → l ∈ e.us.map (·.1) → E (i + m) = F (i + m)) → (some' E i evs σ).o l = (some' F i evs τ).o l
  | [], _, _, _, _, _, h, _ => h
  | e :: r, i, σ, τ, E, F, h, hm => by
    simp only [some']
    refine some_o r (i + 1) _ _ E F ?_ fun m e' he hd => by rw [Nat.add_assoc, Nat.add_comm 1 m]; exact hm (m + 1) e' (by simpa using he) hd
    by_cases hd : l ∈ e.us.map (·.1)
    · have h0 : E i = F i := hm 0 e (by simp) hd
      rw [h0]
      cases F i with
      | false => exact h
      | true => simp only [cond_true, Ev.put_o]; exact putO_in fun hn => absurd hd hn
    · have hp : ∀ σ : St, (e.put σ).o l = σ.o l := fun σ => by rw [Ev.put_o]; exact putO_off hd
      cases E i <;> cases F i <;> simp only [cond_true, cond_false, hp, h]

theorem push_s {d : Option Nat} {x : AV} : ∀ (evs : List Ev) (i : Nat) (σ τ : St) (E : Nat → Bool), lookS τ.slots = putS (lookS σ.slots) d x →
    (∀ m e k, evs[m]? = some e → E (i + m) = true → d = some k → e.o.dst ≠ some k) → lookS (some' E i evs τ).slots = putS (lookS (some' E i evs σ).slots) d x
  | [], _, _, _, _, h, _ => h
  | e :: r, i, σ, τ, E, h, hm => by
    simp only [some']
    refine push_s r (i + 1) _ _ E ?_ fun m e' k he hE hd => hm (m + 1) e' k (by simpa using he) (by rw [← hE, Nat.add_assoc, Nat.add_comm 1 m]) hd
    cases hE : E i with
    | false => exact h
    | true =>
      have h0 := hm 0 e
      simp only [cond_true, Ev.put_s, h]
      funext k
      unfold putS
      by_cases h1 : e.o.dst = some k
      · have : d ≠ some k := fun hd => h0 k (by simp) hE hd h1
        simp [h1, this]
      · simp [h1]

theorem push_o {us : List (Nat × Nat × HO)} : ∀ (evs : List Ev) (i : Nat) (σ τ : St) (E : Nat → Bool), τ.o = putO σ.o us →
    (∀ m e l, evs[m]? = some e → E (i + m) = true → l ∈ us.map (·.1) → l ∉ e.us.map (·.1)) → (some' E i evs τ).o = putO (some' E i evs σ).o us
  | [], _, _, _, _, h, _ => h
  | e :: r, i, σ, τ, E, h, hm => by
    simp only [some']
    refine push_o r (i + 1) _ _ E ?_ fun m e' k he hE hd => hm (m + 1) e' k (by simpa using he) (by rw [← hE, Nat.add_assoc, Nat.add_comm 1 m]) hd
    cases hE : E i with
    | false => exact h
    | true =>
      have h0 := hm 0 e
      simp only [cond_true, Ev.put_o, h]
      funext l
      by_cases h1 : l ∈ us.map (·.1)
      · have h2 := h0 l (by simp) hE h1
        rw [putO_off h2]
        exact putO_in fun hn => absurd h1 hn
      · rw [putO_off (σ := putO σ.o e.us) h1]
        exact putO_in fun _ => putO_off h1

/-- One more is taken. -/
theorem more_s {e : Ev} : ∀ (evs : List Ev) (i j : Nat) (σ : St) (E : Nat → Bool), evs[j]? = some e → E (i + j) = false →
    (∀ m e' k, evs[m]? = some e' → E (i + m) = true → j < m → e.o.dst = some k → e'.o.dst ≠ some k) →
    lookS (some' (fun n => n == i + j || E n) i evs σ).slots = putS (lookS (some' E i evs σ).slots) e.o.dst (wrapG e.o e.g e.x)
  | [], _, _, _, _, h, _, _ => by simp at h
  | e0 :: r, i, 0, σ, E, h, hE, hm => by
    simp only [List.getElem?_cons_zero, Option.some.injEq] at h
    subst h
    have hE' : E i = false := hE
    have hr : ∀ (σ : St), some' (fun n => n == i + 0 || E n) (i + 1) r σ = some' E (i + 1) r σ := fun σ => by
      have : ∀ (r : List Ev) (k : Nat) (σ : St), i < k → some' (fun n => n == i + 0 || E n) k r σ = some' E k r σ := by
        intro r
        induction r with
        | nil => intro k σ _; rfl
        | cons e r ih => intro k σ hk; simp only [some']; rw [ih _ _ (by omega)]; have : (k == i + 0) = false := by simp; omega
                         rw [this]; rfl
      exact this r _ σ (by omega)
    simp only [some', hE', cond_false]
    rw [hr]
    simp only [Nat.add_zero, BEq.rfl, Bool.true_or, cond_true]
    exact push_s r (i + 1) _ _ E (Ev.put_s _ _) fun m e' k he hEm hd => hm (m + 1) e' k (by simpa using he) (by rw [← hEm, Nat.add_assoc, Nat.add_comm 1 m]) (by omega) hd
  | e0 :: r, i, j + 1, σ, E, h, hE, hm => by
    have h' : r[j]? = some e := by simpa using h
    simp only [some']
    have e1 : (i == i + (j + 1)) = false := by simp
    rw [e1, Bool.false_or]
    have e2 : i + (j + 1) = i + 1 + j := by omega
    rw [e2]
    exact more_s r (i + 1) j _ E h' (by rw [← e2]; exact hE) fun m e' k he hEm hj hd => hm (m + 1) e' k (by simpa using he) (by rw [← hEm, Nat.add_assoc, Nat.add_comm 1 m]) (by omega) hd

theorem more_o {e : Ev} : ∀ (evs : List Ev) (i j : Nat) (σ : St) (E : Nat → Bool), evs[j]? = some e → E (i + j) = false →
    (∀ m e' l, evs[m]? = some e' → E (i + m) = true → j < m → l ∈ e.us.map (·.1) → l ∉ e'.us.map (·.1)) →
    (some' (fun n => n == i + j || E n) i evs σ).o = putO (some' E i evs σ).o e.us
  | [], _, _, _, _, h, _, _ => by simp at h
  | e0 :: r, i, 0, σ, E, h, hE, hm => by
    simp only [List.getElem?_cons_zero, Option.some.injEq] at h
    subst h
    have hE' : E i = false := hE
    have hr : ∀ (σ : St), some' (fun n => n == i + 0 || E n) (i + 1) r σ = some' E (i + 1) r σ := fun σ => by
      have : ∀ (r : List Ev) (k : Nat) (σ : St), i < k → some' (fun n => n == i + 0 || E n) k r σ = some' E k r σ := by
        intro r
        induction r with
        | nil => intro k σ _; rfl
        | cons e r ih => intro k σ hk; simp only [some']; rw [ih _ _ (by omega)]; have : (k == i + 0) = false := by simp; omega
                         rw [this]; rfl
      exact this r _ σ (by omega)
    simp only [some', hE', cond_false]
    rw [hr]
    simp only [Nat.add_zero, BEq.rfl, Bool.true_or, cond_true]
    exact push_o r (i + 1) _ _ E (Ev.put_o _ _) fun m e' k he hEm hd => hm (m + 1) e' k (by simpa using he) (by rw [← hEm, Nat.add_assoc, Nat.add_comm 1 m]) (by omega) hd
  | e0 :: r, i, j + 1, σ, E, h, hE, hm => by
    have h' : r[j]? = some e := by simpa using h
    simp only [some']
    have e1 : (i == i + (j + 1)) = false := by simp
    rw [e1, Bool.false_or]
    have e2 : i + (j + 1) = i + 1 + j := by omega
    rw [e2]
    exact more_o r (i + 1) j _ E h' (by rw [← e2]; exact hE) fun m e' k he hEm hj hd => hm (m + 1) e' k (by simpa using he) (by rw [← hEm, Nat.add_assoc, Nat.add_comm 1 m]) (by omega) hd
end
end Go.Rk
