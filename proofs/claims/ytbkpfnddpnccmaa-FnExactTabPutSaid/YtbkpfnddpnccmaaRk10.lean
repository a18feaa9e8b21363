/- Operations, more: slices made, cut and grown. -/
import Derived.Test.YtbkpfnddpnccmaaRk9
import Derived.Laws.MakeOwn
namespace Go.Rk
section
variable {P : Program} {T : TypeId → Option TI} {EX : FuncId → List Nat × Bool} {M : FuncId → List XT → Out → Prop}
variable {w0 : World} {S : Sets} {nt : Nat} {slots : List (Nat × AV)} {σ : Objs} {a : Act} {w : World} {μ : Place}
variable {o : Oper} {K : AV → List (Nat × Nat × HO) → Prop} {next : Act → World → Prop} {Q : Exit → Act → World → Prop}

theorem sound_makeSlice (hT : TTok P T) (R : RelM w0 S nt (lookS slots) σ a w μ) (hd : ∀ d, o.dst = some d → d < nt) {t : TypeId} {x y : Operand} (ho : o.op = .makeSlice t x y)
    (h : (semOp real T EX o true (rho slots)).run σ (OpOut.run M σ K)) : Sound P w0 S nt slots σ a w o K := by
  simp only [semOp, ho, G.run_bind] at h
  obtain ⟨it, e, i, hit, hdesc, hi, h1⟩ := elemv_run h
  clear h
  have hu : P.underlying t = some (.slice e) := by rw [hT.desc t it hit, hdesc]
  obtain ⟨k, n, ex, h⟩ := intv_run h1 (rho_rep R x)
  clear h1
  obtain ⟨k', c, ey, h1⟩ := intv_run h (rho_rep R y)
  clear h
  obtain ⟨⟨h0, hnc, hb, hm⟩, hk⟩ := h1
  simp only at h0 hnc hb hm
  subst hnc
  have hk : K (.c (.own (o.dst.getD 0 * 64) 0 n.toNat ((σ (o.dst.getD 0 * 64)).1 + 1))) [(o.dst.getD 0 * 64, (σ (o.dst.getD 0 * 64)).1 + 1, .arr i.size n.toNat (real.rep (i.zero.map .v)))] := hk
  generalize o.dst.getD 0 * 64 = L at *
  obtain ⟨inf, z, e1, e2, e3, e4, e5, e6, e7⟩ := hT.info e i hi
  have hmk := run_make (P := P) w t e inf z hu e1 e4 k k' n n h0 (Int.le_refl _) (by rw [e3, Int.mul_comm]; omega) (by omega)
  have hzs : z.cells.size = i.size := by rw [← e6, ← e5]; simp
  rw [e2] at hmk
  have hexec : (execOp a.eval o).run P w = .ok (.value (.slice (some ⟨w.heap.size, 0, none⟩) n.toNat n.toNat)) (w.alloc (.cells (madeCells z.cells (n.toNat * i.size)) e)) := by
    simp only [execOp, ho, ex, ey, Sem.run_bind, hmk, Result.andThen_ok]; rfl
  by_cases hn0 : n.toNat = 0
  · rw [hn0] at hk hexec
    obtain ⟨st, R'⟩ := (R.garb (.cells (madeCells z.cells (0 * i.size)) e)).bare L ((σ L).1 + 1) (by omega) (.arr i.size 0 (real.rep (i.zero.map .v))) (.inr ⟨_, _, rfl⟩)
    refine sound_mem R' hd (v := .slice (some ⟨w.heap.size, 0, none⟩) 0 0) (.inl hexec) rfl ?_ hk
    exact ⟨rfl, by simp, fun sz' n' row' hσ' => ⟨by omega, .inl ⟨by simp, rfl, _, rfl⟩⟩⟩
  obtain ⟨st, R'⟩ := R.alloc L ((σ L).1 + 1) (by omega) (.arr i.size n.toNat (real.rep (i.zero.map .v))) (madeCells z.cells (n.toNat * i.size)) e
    ⟨fun j _ => by show (i.zero.map DV.v).length = _; simp [e6], by rw [size_madeCells]; omega, fun r j u hr hj => by
      have hj : (i.zero.map DV.v)[j]? = some u := hj
      simp only [List.getElem?_map, Option.map_eq_some_iff] at hj
      obtain ⟨v, hv, rfl⟩ := hj
      have hjl : j < i.size := by rw [← e6]; exact (List.getElem?_eq_some_iff.1 hv).1
      refine ⟨v, ?_, DRep.v v (e7 v (List.mem_of_getElem? hv))⟩
      have hlt : r * i.size + j < n.toNat * i.size := by
        have := Nat.mul_le_mul_right i.size (show r + 1 ≤ n.toNat from hr)
        rw [Nat.succ_mul] at this; omega
      have hmod : (r * i.size + j) % i.size = j := by rw [Nat.mul_add_mod_self_right, Nat.mod_eq_of_lt hjl]
      have hzj : z.cells[j]? = some v := by rw [← Array.getElem?_toList, e5]; exact hv
      have hzj' : z.cells[j]! = v := by rw [getElem!_def, hzj]
      simp [madeCells, hlt, hzs, hmod, hzj']⟩
  refine sound_mem R' hd (v := .slice (some ⟨w.heap.size, 0, none⟩) n.toNat n.toNat) (.inl hexec) rfl ?_ hk
  · refine ⟨rfl, by simp, fun sz' n' row' hσ' => ?_⟩
    simp at hσ'; obtain ⟨rfl, rfl, rfl⟩ := hσ'
    exact ⟨by omega, .inr ⟨w.heap.size, 0, 0, n.toNat, _, e, by simp, rfl, Nat.le_refl _, fun _ => by simp, heap_alloc_new _ _, by rw [size_madeCells]; omega, fun _ => by omega⟩⟩

def loOk (a : Act) : Option Operand → Int → Prop
  | none, A => A = 0
  | some x, A => ∃ k, a.eval x = .int k A
def hiOk (a : Act) : Option Operand → Int → Nat → Prop
  | none, B, n => B = n
  | some x, B, _ => ∃ k, a.eval x = .int k B

theorem slice_run {t e : TypeId} (hu : P.underlying t = some (.slice e)) {i : TI} (hT : TTok P T) (hi : T e = some i) {x : Operand} {lo hi' : Option Operand} {ad : Option Addr} {len cap : Nat} {A B : Int}
    (ho : o.op = .slice t x lo hi' none) (ex : a.eval x = .slice ad len cap) (hlo : loOk a lo A) (hhi : hiOk a hi' B len) (h0 : 0 ≤ A) (h1 : A ≤ B) (h2 : B ≤ len) (h3 : len ≤ cap) :
    (execOp a.eval o).run P w = .ok (.value (.slice (if cap = A.toNat then ad else ad.map (·.add (A.toNat * i.size))) (B.toNat - A.toNat) (cap - A.toNat))) w := by
  have hs := sizeOf_run hT hi w
  have hB : 0 ≤ B := by omega
  have hBc : B ≤ cap := by omega
  have hmx : max B 0 = B := by omega
  cases lo with
  | none =>
    have hlo : A = 0 := hlo
    subst hlo
    cases hi' with
    | none =>
      have hhi : B = len := hhi
      subst hhi
      simp [execOp, ho, ex, Instr.sliceAt, underlying, hu, Instr.slice, Instr.sliceBounds, hs]
    | some y =>
      obtain ⟨k, ey⟩ := hhi
      simp [execOp, ho, ex, Instr.sliceAt, underlying, hu, Instr.slice, Instr.sliceBounds, Instr.sliceBound, asIntOf, ey, hs, hB, hBc]
  | some z =>
    obtain ⟨k, ez⟩ := hlo
    cases hi' with
    | none =>
      have hhi : B = len := hhi
      subst hhi
      simp [execOp, ho, ex, Instr.sliceAt, underlying, hu, Instr.slice, Instr.sliceBounds, Instr.sliceBound, asIntOf, ez, hs, h0, h1]
    | some y =>
      obtain ⟨k', ey⟩ := hhi
      simp [execOp, ho, ex, Instr.sliceAt, underlying, hu, Instr.slice, Instr.sliceBounds, Instr.sliceBound, asIntOf, ey, ez, hs, hB, hBc, h0, h1, hmx]

theorem sliceSem_run {e : TI} {x : CV} {v : Value} {A B : Int} {Q : CV → Prop} (hx : CRep σ μ w (Nof S σ μ w) x v) (h : (sliceSem real e x A B).run σ Q) :
    ∃ ad len cap, v = .slice ad len cap ∧ 0 ≤ A ∧ A ≤ B ∧ B ≤ len ∧ len ≤ cap ∧
      ∃ y, CRep σ μ w (Nof S σ μ w) y (.slice (if cap = A.toNat then ad else ad.map (·.add (A.toNat * e.size))) (B.toNat - A.toNat) (cap - A.toNat)) ∧ Q y := by
  unfold sliceSem at h
  split at h
  · rename_i sz n row
    cases hsz : Nat.beq sz e.size with
    | false => rw [hsz] at h; exact h.elim
    | true =>
      rw [hsz] at h
      obtain ⟨⟨h0, h1, h2⟩, h⟩ := h
      have hsz := Nat.eq_of_beq_eq_true hsz
      subst hsz
      have hl : (real.dif B A) = B.toNat - A.toNat := by show (B - A).toNat = _; omega
      cases hx with
      | nil =>
        refine ⟨none, 0, 0, rfl, h0, h1, h2, Nat.le_refl _, _, ?_, h⟩
        have : A.toNat = 0 := by omega
        have hb : B.toNat = 0 := by omega
        rw [hl, this, hb]
        exact DRep.nil _ _
      | empty _ _ ad =>
        refine ⟨some ad, 0, 0, rfl, h0, h1, h2, Nat.le_refl _, _, ?_, h⟩
        have : A.toNat = 0 := by omega
        have hb : B.toNat = 0 := by omega
        rw [hl, this, hb]
        exact DRep.empty _ _ ad
      | sl _ _ _ b off cap cs e' fr u hN hb hc hs hr hu hd =>
        refine ⟨_, n, cap, rfl, h0, h1, h2, hc, _, ?_, h⟩
        rw [hl]
        have hAn : A.toNat ≤ B.toNat ∧ B.toNat ≤ n := by omega
        have hmul : (cap - A.toNat) * e.size + A.toNat * e.size = cap * e.size := by rw [← Nat.add_mul]; congr 1; omega
        by_cases hcA : cap = A.toNat
        · rw [if_pos hcA]
          refine DRep.sl _ _ _ b off _ cs e' fr (fun i j => u (A.toNat + i) j) hN hb (by omega) (by omega) (fun i hi => by omega) (fun i j x hi hj => by omega) (fun i j x hi hj => by omega)
        · rw [if_neg hcA]
          simp only [Option.map_some, add_off]
          refine DRep.sl _ _ _ b _ _ cs e' fr (fun i j => u (A.toNat + i) j) hN hb (by omega) (by omega) (fun i hi => hr (A.toNat + i) (by omega)) (fun i j x hi hj => ?_) (fun i j x hi hj => hd (A.toNat + i) j x (by omega) hj)
          have := hu (A.toNat + i) j x (by omega) hj
          rw [← this]; congr 1; rw [Nat.add_mul]; omega
  · cases hx
    obtain ⟨⟨h0, h1, h2⟩, h⟩ := h
    refine ⟨none, 0, 0, rfl, h0, h1, h2, Nat.le_refl _, _, ?_, h⟩
    have : A.toNat = 0 := by omega
    have hb : B.toNat = 0 := by omega
    rw [this, hb]
    exact DRep.v _ rfl
  · rename_i l off len ver
    simp only [G.run] at h
    split at h
    · rename_i ver' sz n row hσ
      cases hsz : Nat.beq sz e.size with
      | false => rw [hsz] at h; exact h.elim
      | true =>
        rw [hsz] at h
        obtain ⟨hv, ⟨h0, h1, h2⟩, h⟩ := h
        have hv : ver = ver' := hv
        subst hv
        have hsz := Nat.eq_of_beq_eq_true hsz
        subst hsz
        have hl : (real.dif B A) = B.toNat - A.toNat := by show (B - A).toNat = _; omega
        have ha : real.add off (real.nat A) = off + A.toNat := rfl
        rw [hl, ha] at h
        obtain ⟨_, hle, h3⟩ := hx
        obtain ⟨h4, h5⟩ := h3 _ n row hσ
        rcases h5 with ⟨hm, hl0, ad, rfl⟩ | ⟨b, base, o', cap, cs, e', hμ, rfl, hcap, ho', hb, hfit, hpos⟩
        · refine ⟨ad, 0, 0, rfl, h0, h1, by omega, Nat.le_refl _, .own l (off + A.toNat) (B.toNat - A.toNat) ver, ⟨rfl, hle, fun sz' n' row' hσ' => ?_⟩, h⟩
          rw [hσ] at hσ'; simp at hσ'; obtain ⟨rfl, rfl, rfl⟩ := hσ'
          have : A.toNat = 0 := by omega
          have hb0 : B.toNat = 0 := by omega
          refine ⟨by omega, .inl ⟨hm, by omega, ad, by rw [this, hb0]; rfl⟩⟩
        · refine ⟨_, len, cap, rfl, h0, h1, h2, hcap, .own l (off + A.toNat) (B.toNat - A.toNat) ver, ⟨rfl, hle, fun sz' n' row' hσ' => ?_⟩, h⟩
          rw [hσ] at hσ'; simp at hσ'; obtain ⟨rfl, rfl, rfl⟩ := hσ'
          have hmul : (cap - A.toNat) * e.size + A.toNat * e.size = cap * e.size := by rw [← Nat.add_mul]; congr 1; omega
          refine ⟨by omega, .inr ?_⟩
          by_cases hcA : cap = A.toNat
          · rw [if_pos hcA]
            refine ⟨b, base, o', cap - A.toNat, cs, e', hμ, rfl, by omega, fun hh => ?_, hb, by omega, fun hh => by have := hpos (by omega); omega⟩
            have hh' : 0 < B.toNat - A.toNat ∨ off + A.toNat = 0 := hh
            have hA0 : A.toNat = 0 := by omega
            have ho0 : off = 0 := by omega
            rw [ho' (.inr ho0), hA0]; simp
          · rw [if_neg hcA]
            simp only [Option.map_some, add_off]
            refine ⟨b, base, o' + A.toNat * e.size, cap - A.toNat, cs, e', hμ, rfl, by omega, fun hh => ?_, hb, by omega, fun hh => by have := hpos (by omega); omega⟩
            have hh' : 0 < B.toNat - A.toNat ∨ off + A.toNat = 0 := hh
            have : 0 < len ∨ off = 0 := by omega
            rw [ho' this, Nat.add_mul]; omega
    · exact h.elim
  · exact h.elim

theorem loSem_run (R : RelM w0 S nt (lookS slots) σ a w μ) {lo : Option Operand} {Q : Int → Prop} (h : (loSem real true (rho slots) lo).run σ Q) : ∃ A, loOk a lo A ∧ Q A := by
  cases lo with
  | none => exact ⟨0, rfl, h⟩
  | some z =>
    simp only [loSem, G.run_bind] at h
    obtain ⟨k, A, ez, h⟩ := intv_run h (rho_rep R z)
    exact ⟨A, ⟨k, ez⟩, h⟩
theorem hiSem_run (R : RelM w0 S nt (lookS slots) σ a w μ) {x : Operand} {c : CV} (hc : CRep σ μ w (Nof S σ μ w) c (a.eval x)) {hi' : Option Operand} {Q : Int → Prop} (h : (hiSem real true (rho slots) c hi').run σ Q) :
    ∃ B, (∀ n ad cap, a.eval x = .slice ad n cap → hiOk a hi' B n) ∧ Q B := by
  cases hi' with
  | none =>
    simp only [hiSem, G.run_bind] at h
    obtain ⟨n, ad, cap, ex, h⟩ := lenv_run hc h
    exact ⟨n, fun n' ad' cap' ex' => by rw [ex] at ex'; simp at ex'; show (n : Int) = n'; omega, h⟩
  | some y =>
    simp only [hiSem, G.run_bind] at h
    obtain ⟨k, n, ey, h⟩ := intv_run h (rho_rep R y)
    exact ⟨n, fun _ _ _ _ => ⟨k, ey⟩, h⟩
theorem sound_slice (hT : TTok P T) (R : RelM w0 S nt (lookS slots) σ a w μ) (hd : ∀ d, o.dst = some d → d < nt) {t : TypeId} {x : Operand} {lo hi' mx : Option Operand} (ho : o.op = .slice t x lo hi' mx)
    (h : (semOp real T EX o true (rho slots)).run σ (OpOut.run M σ K)) : Sound P w0 S nt slots σ a w o K := by
  simp only [semOp, ho, G.run_bind] at h
  obtain ⟨it, e, i, hit, hdesc, hi, h1⟩ := elemv_run h
  clear h
  have hu : P.underlying t = some (.slice e) := by rw [hT.desc t it hit, hdesc]
  cases mx with
  | some m => exact h1.elim
  | none =>
  simp only [G.run_bind] at h1
  obtain ⟨c, hc, h⟩ := cellv_run h1 (rho_rep R x)
  clear h1
  have key : ∀ A B, loOk a lo A → (∀ n ad cap, a.eval x = .slice ad n cap → hiOk a hi' B n) → (sliceSem real i c A B).run σ (fun y => K (.c y) []) → Sound P w0 S nt slots σ a w o K := by
    intro A B hA hB hs
    obtain ⟨ad, len, cap, ex, g0, g1, g2, g3, y, hy, hk⟩ := sliceSem_run hc hs
    exact sound_val R hd (slice_run hu hT hi ho ex hA (hB _ _ _ ex) g0 g1 g2 g3) (x := .c y) hy hk
  obtain ⟨A, hA, h1⟩ := loSem_run R h
  clear h
  obtain ⟨B, hB, h⟩ := hiSem_run R hc h1
  exact key A B hA hB h
end
end Go.Rk
