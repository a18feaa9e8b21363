/- Operations, more: aggregates built, slices made, cut and grown. -/
import Derived.Test.YtbkpfnddpnccmaaRk8
import Derived.Laws.AppendOwn
namespace Go.Rk
section
variable {P : Program} {T : TypeId → Option TI} {EX : FuncId → List Nat × Bool} {M : FuncId → List XT → Out → Prop}
variable {w0 : World} {S : Sets} {nt : Nat} {slots : List (Nat × AV)} {σ : Objs} {a : Act} {w : World} {μ : Place}
variable {o : Oper} {K : AV → List (Nat × Nat × HO) → Prop} {next : Act → World → Prop} {Q : Exit → Act → World → Prop}

/-- Cells laid over others, one by one. -/
theorem lay_spec (off : Nat) : ∀ (vs : List Value) (k : Nat) (cs : Array Value), off + k + vs.length ≤ cs.size →
    ((vs.zipIdx k).foldl (fun cs (c, j) => cs.setIfInBounds (off + j) c) cs).size = cs.size ∧
    ∀ j, ((vs.zipIdx k).foldl (fun cs (c, j) => cs.setIfInBounds (off + j) c) cs)[j]? = if off + k ≤ j ∧ j < off + k + vs.length then vs[j - (off + k)]? else cs[j]?
  | [], k, cs, _ => by
    simp only [List.zipIdx_nil, List.foldl_nil, true_and]
    intro j
    rw [if_neg (by simp only [List.length_nil]; omega)]
  | v :: r, k, cs, h => by
    simp only [List.zipIdx_cons, List.foldl_cons]
    simp only [List.length_cons] at h
    obtain ⟨h1, h2⟩ := lay_spec off r (k + 1) (cs.setIfInBounds (off + k) v) (by simp; omega)
    refine ⟨by rw [h1]; simp, fun j => ?_⟩
    rw [h2 j]
    by_cases c1 : off + (k + 1) ≤ j ∧ j < off + (k + 1) + r.length
    · rw [if_pos c1, if_pos (by simp; omega), show j - (off + k) = (j - (off + (k + 1))) + 1 by omega]
      simp
    · rw [if_neg c1]
      by_cases c2 : j = off + k
      · subst c2
        rw [if_pos (by simp), Array.getElem?_setIfInBounds]
        simp; omega
      · rw [if_neg (by simp; omega), Array.getElem?_setIfInBounds, if_neg (by omega)]

theorem fill_rep {N : Nat → Prop} {place : Nat → Option (Nat × Nat)} : ∀ {parts : List (Nat × List CV)} {vals : List (Nat × Value)} {cells cs : List CV} {zs : Array Value},
    fillC place cells parts = some cs → CsRep σ μ w N cells zs.toList →
    (parts.length = vals.length ∧ ∀ (j : Nat) i xs, parts[j]? = some (i, xs) → ∃ v, vals[j]? = some (i, v) ∧ CsRep σ μ w N xs v.cells.toList) →
    ∃ ws, Instr.fill place zs vals = some ws ∧ CsRep σ μ w N cs ws.toList
  | [], [], cells, cs, zs, h, hz, _ => by simp [fillC] at h; subst h; exact ⟨zs, rfl, hz⟩
  | [], _ :: _, _, _, _, _, _, hp => by simp at hp
  | _ :: _, [], _, _, _, _, _, hp => by simp at hp
  | (i, xs) :: r, (i', v) :: s, cells, cs, zs, h, hz, hp => by
    obtain ⟨v', hv', hxs⟩ := hp.2 0 i xs rfl
    simp at hv'; obtain ⟨rfl, rfl⟩ := hv'
    unfold fillC at h
    split at h
    · simp at h
    · rename_i off size hpl
      split at h
      · rename_i hsz
        split at h
        · rename_i cs1 hpa
          obtain ⟨p1, p2, p3⟩ := patch_spec hpa
          have hl := hxs.length
          have hzl := hz.length
          rw [Array.length_toList] at hl hzl
          have hfit : off + 0 + v.cells.toList.length ≤ zs.size := by rw [Array.length_toList]; omega
          obtain ⟨q1, q2⟩ := lay_spec off v.cells.toList 0 zs hfit
          have hz1 : CsRep σ μ w N cs1 ((v.cells.toList.zipIdx 0).foldl (fun cs (c, j) => cs.setIfInBounds (off + j) c) zs).toList := by
            refine CsRep.of_get (by rw [Array.length_toList, q1, p1, hzl]) fun j x hj => ?_
            rw [Array.getElem?_toList, q2 j]
            have hp3 := p3 j x hj
            by_cases c1 : j < off
            · rw [if_pos c1] at hp3
              rw [if_neg (by omega)]
              obtain ⟨u, hu, hc⟩ := hz.get hp3
              exact ⟨u, by simpa using hu, hc⟩
            · by_cases c2 : j < off + xs.length
              · rw [if_neg c1, if_pos c2] at hp3
                rw [if_pos (by rw [Array.length_toList]; omega)]
                obtain ⟨u, hu, hc⟩ := hxs.get hp3
                exact ⟨u, by simpa using hu, hc⟩
              · rw [if_neg c1, if_neg c2] at hp3
                rw [if_neg (by rw [Array.length_toList]; omega)]
                obtain ⟨u, hu, hc⟩ := hz.get hp3
                exact ⟨u, by simpa using hu, hc⟩
          obtain ⟨ws, hws, hcs⟩ := fill_rep (parts := r) (vals := s) h hz1 ⟨by simpa using hp.1, fun j i' xs' hj => by
            have := hp.2 (j + 1) i' xs' (by simpa using hj)
            simpa using this⟩
          refine ⟨ws, ?_, hcs⟩
          unfold Instr.fill
          simp only [hpl]
          rw [if_neg (by simp; omega)]
          have hzi : v.cells.zipIdx.foldl (fun cs (c, j) => cs.setIfInBounds (off + j) c) zs = (v.cells.toList.zipIdx 0).foldl (fun cs (c, j) => cs.setIfInBounds (off + j) c) zs := by
            rw [← Array.foldl_toList]; simp
          rw [hzi]
          exact hws
        · simp at h
      · simp at h

theorem partsv_run (R : RelM w0 S nt (lookS slots) σ a w μ) : ∀ {l : List (Nat × Operand)} {Q : List (Nat × List CV) → Prop}, (partsv real true (rho slots) l).run σ Q →
    ∃ ps, Q ps ∧ ps.length = (l.map fun q => (q.1, a.eval q.2)).length ∧ ∀ (j : Nat) i xs, ps[j]? = some (i, xs) → ∃ v, (l.map fun q => (q.1, a.eval q.2))[j]? = some (i, v) ∧ CsRep σ μ w (Nof S σ μ w) xs v.cells.toList
  | [], Q, h => ⟨[], h, rfl, fun j i xs hj => by simp at hj⟩
  | (i, x) :: r, Q, h => by
    simp only [partsv, G.run_bind] at h
    obtain ⟨cs, hcs, h⟩ := cellsv_run h (rho_rep R x)
    obtain ⟨ps, hq, hl, hps⟩ := partsv_run R h
    refine ⟨_, hq, by simpa using hl, fun j i' xs hj => ?_⟩
    cases j with
    | zero => simp at hj; obtain ⟨rfl, rfl⟩ := hj; exact ⟨_, rfl, hcs⟩
    | succ j => simp at hj; simpa using hps j i' xs hj

theorem sizesv_run (hT : TTok P T) : ∀ {fs : List Field} {Q : List (Nat × Nat) → Prop}, (sizesv T fs).run σ Q → ∃ ps, Q ps ∧ fs.mapM (fun f => (P.info? f.type).map fun i => (f.offset, i.size)) = some ps
  | [], Q, h => ⟨[], h, rfl⟩
  | f :: r, Q, h => by
    simp only [sizesv, G.run_bind] at h
    obtain ⟨i, hi, h⟩ := tiv_run h
    obtain ⟨ps, hq, hp⟩ := sizesv_run hT h
    obtain ⟨inf, z, h1, h2, _⟩ := hT.info _ i hi
    exact ⟨_, hq, by simp [List.mapM_cons, h1, hp, h2]⟩

theorem sound_build (hT : TTok P T) (R : RelM w0 S nt (lookS slots) σ a w μ) (hd : ∀ d, o.dst = some d → d < nt) {t : TypeId} {parts : Array (Nat × Operand)} (ho : o.op = .build t parts)
    (h : (semOp real T EX o true (rho slots)).run σ (OpOut.run M σ K)) : Sound P w0 S nt slots σ a w o K := by
  simp only [semOp, ho, G.run_bind] at h
  obtain ⟨i, hi, h1⟩ := tiv_run h
  clear h
  split at h1
  · rename_i fs hdsc
    rw [G.run_bind] at h1
    obtain ⟨ps, h, hps⟩ := sizesv_run hT h1
    clear h1
    rw [G.run_bind] at h
    obtain ⟨vs, h1, hvl, hvs⟩ := partsv_run R h
    clear h
    rw [G.run_bind] at h1
    obtain ⟨cs, hcs, hk⟩ := optv_run h1
    obtain ⟨inf, z, e1, e2, e3, e4, e5, e6⟩ := hT.info t i hi
    have hu := hT.desc t i hi
    rw [hdsc] at hu
    obtain ⟨ws, hw, hrep⟩ := fill_rep (σ := σ) (μ := μ) (w := w) (N := Nof S σ μ w) (zs := z.cells) hcs (by rw [e5]; exact zero_csRep hT hi) ⟨hvl, hvs⟩
    refine sound_val R hd (v := .agg ws) ?_ (x := .agg cs) ⟨_, rfl, hrep⟩ hk
    have hb : P.built t (parts.map fun (i, x) => (i, a.eval x)).toList = some ws := by
      unfold Program.built
      simp only [e1, hu, e4, hps]
      rw [← hw]
      congr 1
      · funext k; simp
      · simp
    simp only [execOp, ho, Sem.run_bind, run_build w t _ ws hb, Result.andThen_ok]
    rfl
  · exact h1.elim

theorem rowsOf_spec {z : List DV} {sz : Nat} (hz : z.length = sz) : ∀ {n : Nat} {cs : List CV} {row : Nat → List DV}, rowsOf real z sz n cs = some row →
    (∀ i, (row i).length = sz) ∧ ∀ i j x, i < n → (row i)[j]? = some x → cs[i * sz + j]? = some (.d x)
  | 0, cs, row, h => by simp [rowsOf] at h; subst h; exact ⟨fun i => hz, fun i j x hi => by omega⟩
  | n + 1, cs, row, h => by
    unfold rowsOf at h
    split at h
    · simp at h
    · rename_i p hp
      split at h
      · rename_i x r hx hr
        simp at h; subst h
        obtain ⟨h1, h2⟩ := takeN_spec hp
        have hx := toDs_spec hx
        obtain ⟨h3, h4⟩ := rowsOf_spec hz hr
        have hxl : x.length = sz := by rw [← h1, hx]; simp
        refine ⟨fun i => ?_, fun i j y hi hj0 => ?_⟩
        · show (if i < 1 then x else r (i - 1)).length = sz
          split
          · exact hxl
          · exact h3 _
        · have hj : (if i < 1 then x else r (i - 1))[j]? = some y := hj0
          clear hj0
          by_cases c : i < 1
          · rw [if_pos c] at hj
            have : i = 0 := by omega
            subst this
            have := h2 j (.d y) (by rw [hx]; simp [hj])
            simpa using this
          · rw [if_neg c] at hj
            have := h4 (i - 1) j y (by omega) hj
            rw [dropN_get] at this
            rw [← this]
            congr 1
            obtain ⟨k, rfl⟩ : ∃ k, i = k + 1 := ⟨i - 1, by omega⟩
            simp [Nat.add_mul]; omega
      · simp at h

theorem intsK_spec {k : IntKind} : ∀ {cs : List CV} {l : List Int}, intsK k cs = some l → ∀ (i : Nat) (x : CV), cs[i]? = some x → x = CV.d (.v (.int k (l.getD i 0)))
  | [], _, _, i, x, hx => by simp at hx
  | y :: r, l, h, i, x, hx => by
    unfold intsK at h
    split at h
    · rename_i e; cases e
    · rename_i k' n r' e
      cases e
      split at h
      · rename_i hk
        subst hk
        cases hr : intsK k' r with
        | none => rw [hr] at h; cases h
        | some l' =>
          rw [hr] at h
          simp at h
          subst h
          cases i with
          | zero => simp at hx; subst hx; rfl
          | succ i => exact intsK_spec hr i x (by simpa using hx)
      · cases h
    · cases h
theorem litRow_spec {sz n : Nat} {cs : List CV} {row : Nat → List DV} (h1 : ∀ i, (row i).length = sz) (h2 : ∀ i j x, i < n → (row i)[j]? = some x → cs[i * sz + j]? = some (CV.d x)) :
    (∀ i, (litRow real sz cs row i).length = sz) ∧ ∀ i j x, i < n → (litRow real sz cs row i)[j]? = some x → cs[i * sz + j]? = some (CV.d x) := by
  unfold litRow
  cases headK cs with
  | none => exact ⟨h1, h2⟩
  | some k =>
    cases hb : Nat.beq sz 1 with
    | false => simp only [hb, cond_false]; exact ⟨h1, h2⟩
    | true =>
      have hs := Nat.eq_of_beq_eq_true hb
      subst hs
      simp only [cond_true]
      cases hl : intsK k cs with
      | none => exact ⟨h1, h2⟩
      | some l =>
        refine ⟨fun i => rfl, fun i j x hi hj => ?_⟩
        have hlen : (row i).length = 1 := h1 i
        obtain ⟨y, hy⟩ : ∃ y, (row i)[0]? = some y := ⟨(row i)[0], List.getElem?_eq_getElem (by omega)⟩
        have hc := h2 i 0 y hi hy
        have he := intsK_spec hl _ _ hc
        cases j with
        | zero =>
          have hj : DV.v (.int k (l.getD i 0)) = x := by simpa [real] using hj
          subst hj
          rw [hc, he]
          simp
        | succ j => simp at hj
theorem sound_buildSlice (hT : TTok P T) (R : RelM w0 S nt (lookS slots) σ a w μ) (hd : ∀ d, o.dst = some d → d < nt) {t : TypeId} {len : Nat} {parts : Array (Nat × Operand)} (ho : o.op = .buildSlice t len parts)
    (h : (semOp real T EX o true (rho slots)).run σ (OpOut.run M σ K)) : Sound P w0 S nt slots σ a w o K := by
  simp only [semOp, ho, G.run_bind] at h
  obtain ⟨it, e, i, hit, hdesc, hi, h1⟩ := elemv_run h
  clear h
  have hu : P.underlying t = some (.slice e) := by rw [hT.desc t it hit, hdesc]
  obtain ⟨vs, h, hvl, hvs⟩ := partsv_run R h1
  clear h1
  obtain ⟨cs, hcs, h1⟩ := optv_run h
  clear h
  obtain ⟨row, hrow, h⟩ := optv_run h1
  clear h1
  cases hle : Nat.ble (len * i.size) 16777216 with
  | false => rw [hle] at h; exact h.elim
  | true =>
  rw [hle] at h
  have hle := Nat.le_of_ble_eq_true hle
  have hk : K (.c (.own (o.dst.getD 0 * 64) 0 len ((σ (o.dst.getD 0 * 64)).1 + 1))) [(o.dst.getD 0 * 64, (σ (o.dst.getD 0 * 64)).1 + 1, .arr i.size len (litRow real i.size cs row))] := h
  generalize o.dst.getD 0 * 64 = L at *
  obtain ⟨inf, z, e1, e2, e3, e4, e5, e6, e7⟩ := hT.info e i hi
  have hzs : z.cells.size = i.size := by rw [← e6, ← e5]; simp
  let zs : Array Value := (Array.range (len * i.size)).map ((if len * i.size = 0 then #[] else z.cells)[· % (if len * i.size = 0 then #[] else z.cells).size]!)
  have hzs' : CsRep σ μ w (Nof S σ μ w) ((List.replicate len (i.zero.map fun x => CV.d (.v x))).flatten) zs.toList := by
    have hlen : ((List.replicate len (i.zero.map fun x => CV.d (.v x))).flatten).length = len * i.size := by simp [e6]
    refine CsRep.of_get (by rw [hlen]; simp [zs]) fun j x hj => ?_
    have hjl : j < len * i.size := by rw [← hlen]; exact (List.getElem?_eq_some_iff.1 hj).1
    have hne : len * i.size ≠ 0 := by omega
    have hipos : 0 < i.size := Nat.pos_of_ne_zero fun h => by simp [h] at hne
    have hmod : j % i.size < i.size := Nat.mod_lt _ hipos
    have hget : ∀ (n : Nat) (l : List CV) (j : Nat), 0 < l.length → j < n * l.length → (List.replicate n l).flatten[j]? = l[j % l.length]? := by
      intro n l
      induction n with
      | zero => intro j _ h; simp at h
      | succ n ih =>
        intro j hl hj
        rw [List.replicate_succ, List.flatten_cons, List.getElem?_append]
        split
        · rename_i hc; rw [Nat.mod_eq_of_lt hc]
        · rename_i hc
          rw [ih (j - l.length) hl (by rw [Nat.succ_mul] at hj; omega)]
          congr 1
          exact (Nat.mod_eq_sub_mod (by omega)).symm
    rw [hget len _ j (by rw [List.length_map, e6]; exact hipos) (by rw [List.length_map, e6]; exact hjl)] at hj
    simp only [List.length_map, e6, List.getElem?_map, Option.map_eq_some_iff] at hj
    obtain ⟨u, hu', rfl⟩ := hj
    refine ⟨u, ?_, DRep.v u (e7 u (List.mem_of_getElem? hu'))⟩
    have hzj : z.cells[j % i.size]? = some u := by rw [← Array.getElem?_toList, e5]; exact hu'
    have hzj' : z.cells[j % i.size]! = u := by rw [getElem!_def, hzj]
    simp [zs, hne, hjl, hzs, hzj']
  obtain ⟨ws, hw, hrep⟩ := fill_rep (σ := σ) (μ := μ) (w := w) (N := Nof S σ μ w) (zs := zs) hcs hzs' ⟨hvl, hvs⟩
  obtain ⟨r1, r2⟩ := rowsOf_spec (by simp [e6]) hrow
  obtain ⟨r1, r2⟩ := litRow_spec r1 r2
  clear hrow
  generalize litRow real i.size cs row = row2 at *
  have hwl : ws.size = len * i.size := by
    have hpl : ∀ {parts : List (Nat × List CV)} {cells cs : List CV}, fillC (fun k => some (k * i.size, i.size)) cells parts = some cs → cs.length = cells.length := by
      intro parts
      induction parts with
      | nil => intro cells cs h; simp [fillC] at h; simp [h]
      | cons p r ih =>
        intro cells cs h
        unfold fillC at h
        simp only at h
        split at h
        · split at h
          · rename_i cs1 hpa; rw [ih h, (patch_spec hpa).1]
          · simp at h
        · simp at h
    have h1 := hrep.length
    rw [hpl hcs] at h1
    simpa [e6] using h1
  have hexec : (execOp a.eval o).run P w = .ok (.value (.slice (some ⟨w.heap.size, 0, none⟩) len len)) (w.alloc (.cells ws e)) := by
    have hno : ¬ (16777216 < len * i.size) := by omega
    have hw' : Instr.fill (fun k => some (k * i.size, i.size)) zs (parts.map fun (i, x) => (i, a.eval x)).toList = some ws := by rw [← hw]; congr 1; simp
    by_cases hz0 : len * i.size = 0
    · simp only [zs, hz0, if_true] at hw'
      simp [execOp, ho, Instr.buildSlice, underlying, hu, sizeOf_run hT hi, hz0, newRow]
      simp at hw'
      simp [hw']
    · simp only [zs, hz0, if_false] at hw'
      simp at hw'
      simp [execOp, ho, Instr.buildSlice, underlying, hu, sizeOf_run hT hi, hz0, hno, newRow, zeroValue, typeInfo, e1, e4, hw']
  by_cases hlen : len = 0
  · subst hlen
    obtain ⟨st, R'⟩ := (R.garb (.cells ws e)).bare L ((σ L).1 + 1) (by omega) (.arr i.size 0 row2) (.inr ⟨_, _, rfl⟩)
    refine sound_mem R' hd (v := .slice (some ⟨w.heap.size, 0, none⟩) 0 0) (.inl hexec) rfl ?_ hk
    exact ⟨rfl, by simp, fun sz' n' row' hσ' => ⟨by omega, .inl ⟨by simp, rfl, _, rfl⟩⟩⟩
  obtain ⟨st, R'⟩ := R.alloc L ((σ L).1 + 1) (by omega) (.arr i.size len row2) ws e ⟨fun k _ => r1 k, by rw [hwl]; omega, fun k j x hk' hj => by
    obtain ⟨u, hu', hc⟩ := hrep.get (r2 k j x hk' hj)
    exact ⟨u, by simpa using hu', hc⟩⟩
  refine sound_mem R' hd (v := .slice (some ⟨w.heap.size, 0, none⟩) len len) (.inl hexec) rfl ?_ hk
  refine ⟨rfl, by simp, fun sz' n' row' hσ' => ?_⟩
  simp at hσ'; obtain ⟨rfl, rfl, rfl⟩ := hσ'
  exact ⟨by omega, .inr ⟨w.heap.size, 0, 0, len, ws, e, by simp, rfl, Nat.le_refl _, fun _ => by simp, heap_alloc_new _ _, by rw [hwl]; omega, fun _ => by omega⟩⟩
end
end Go.Rk
