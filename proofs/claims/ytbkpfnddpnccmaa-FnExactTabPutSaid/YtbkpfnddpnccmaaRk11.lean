/- Operations, the last: a slice grown. -/
import Derived.Test.YtbkpfnddpnccmaaRk10
namespace Go.Rk
section
variable {P : Program} {T : TypeId → Option TI} {EX : FuncId → List Nat × Bool} {M : FuncId → List XT → Out → Prop}
variable {w0 : World} {S : Sets} {nt : Nat} {slots : List (Nat × AV)} {σ : Objs} {a : Act} {w : World} {μ : Place}
variable {o : Oper} {K : AV → List (Nat × Nat × HO) → Prop} {next : Act → World → Prop} {Q : Exit → Act → World → Prop}

theorem DRep.one {N : Nat → Prop} {x : DV} {v : Value} (h : DRep w N x v) : v.oneCell' = true := by cases h <;> first | assumption | rfl

/-- The cells of rows, one behind the other. -/
theorem rows_flat {N : Nat → Prop} {sz n off : Nat} {row : Nat → List DV} {cs : Array Value} (hr : ∀ i, i < n → (row i).length = sz)
    (hc : ∀ i j x, i < n → (row i)[j]? = some x → ∃ u, cs[off + i * sz + j]? = some u ∧ DRep w N x u) :
    ∃ news : List Value, news.length = n * sz ∧ (∀ (k : Nat) v, news[k]? = some v → cs[off + k]? = some v) ∧ (∀ v ∈ news, v.oneCell' = true) ∧
      ∀ i j x, i < n → (row i)[j]? = some x → ∃ u, news[i * sz + j]? = some u ∧ DRep w N x u := by
  have hk : ∀ k, k < n * sz → ∃ u, cs[off + k]? = some u ∧ u.oneCell' = true := fun k hk => by
    have hsz : 0 < sz := Nat.pos_of_ne_zero fun h => by simp [h] at hk
    have hi : k / sz < n := Nat.div_lt_of_lt_mul (by rw [Nat.mul_comm]; exact hk)
    have hj : k % sz < (row (k / sz)).length := by rw [hr _ hi]; exact Nat.mod_lt _ hsz
    obtain ⟨u, hu, hd⟩ := hc _ _ _ hi (List.getElem?_eq_getElem hj)
    refine ⟨u, ?_, hd.one⟩
    rw [← hu]; congr 1
    have := Nat.div_add_mod k sz
    rw [Nat.mul_comm] at this; omega
  refine ⟨(List.range (n * sz)).map fun k => cs.getD (off + k) undef, by simp, fun k v hv => ?_, fun v hv => ?_, fun i j x hi hj => ?_⟩
  · simp only [List.getElem?_map, Option.map_eq_some_iff] at hv
    obtain ⟨k', hk', rfl⟩ := hv
    obtain ⟨hlt, rfl⟩ := List.getElem?_eq_some_iff.1 hk'
    simp at hlt ⊢
    obtain ⟨u, hu, _⟩ := hk k hlt
    rw [hu]; rfl
  · simp only [List.mem_map, List.mem_range] at hv
    obtain ⟨k, hlt, rfl⟩ := hv
    obtain ⟨u, hu, h1⟩ := hk k hlt
    simp [hu, h1]
  · obtain ⟨u, hu, hd⟩ := hc i j x hi hj
    have hj' : j < sz := by rw [← hr i hi]; exact (List.getElem?_eq_some_iff.1 hj).1
    have hlt : i * sz + j < n * sz := by
      have := Nat.mul_le_mul_right sz (show i + 1 ≤ n from hi)
      rw [Nat.succ_mul] at this; omega
    refine ⟨u, ?_, hd⟩
    rw [show off + i * sz + j = off + (i * sz + j) by omega] at hu
    simp [hlt, hu]

/-- What is appended, as it is read. -/
theorem src_cells {N : Nat → Prop} {sz m : Nat} {row : Nat → List DV} {v : Value} (h : RowsAt w N sz m row v) :
    ∃ news : List Value, news.length = m * sz ∧ (∀ w' : World, w'.heap = w.heap → (Builtin.firstCells sz m v).run P w' = .ok news.toArray w') ∧ (Builtin.lenOf v = pure m) ∧ (∀ u ∈ news, u.oneCell' = true) ∧
      ∀ i j x, i < m → (row i)[j]? = some x → ∃ u, news[i * sz + j]? = some u ∧ DRep w N x u := by
  obtain ⟨hr, h⟩ := h
  rcases h with ⟨rfl, ad, cap, rfl⟩ | ⟨b, off, cap, cs, e, fr, rfl, hb, hc⟩
  · refine ⟨[], by simp, fun w' _ => ?_, rfl, fun u hu => by simp at hu, fun i j x hi => by omega⟩
    cases ad with
    | none => simp [Builtin.firstCells]
    | some ad => simp [Builtin.firstCells, loadCells, loadCellsFrom]
  · obtain ⟨news, h1, h2, h3, h4⟩ := rows_flat hr hc
    refine ⟨news, h1, fun w' hw' => ?_, rfl, h3, h4⟩
    refine run_firstCells_some w' sz m _ m cap news h1 fun j u hj => ?_
    rw [add_off, cell_at (by rw [hw']; exact hb)]
    exact h2 j u hj

theorem append_none {t u e : TypeId} {ty : TypeId} {i : TI} (hT : TTok P T) (hu : P.underlying t = some (.slice e)) {ui : TypeId} (hu2 : P.underlying u = some (.slice ui)) (hi : T e = some i)
    {N : Nat → Prop} {m : Nat} {row : Nat → List DV} {v : Value} (hs : RowsAt w N i.size m row v) (hroom : m * i.bytes ≤ 140737488355328 ∧ m ≤ 140737488355328) (ad : Option Addr) :
    ∃ w' v', (Builtin.append_ #[t, u] ty #[.slice ad 0 0, v]).run P w = .ok v' w' ∧
      ((m = 0 ∧ w' = w ∧ v' = .slice ad 0 0) ∨ ∃ cap cs, (0 < m ∧ m ≤ cap) ∧ v' = .slice (some ⟨w.heap.size, 0, none⟩) m cap ∧ w' = w.drew.alloc (.cells cs e) ∧ cap * i.size ≤ cs.size ∧
        ∀ r j x, r < m → (row r)[j]? = some x → ∃ q, cs[r * i.size + j]? = some q ∧ DRep w N x q) := by
  obtain ⟨inf, z, e1, e2, e3, e4, e5, e6, e7⟩ := hT.info e i hi
  obtain ⟨news, n1, n2, n3, n4, n5⟩ := src_cells (P := P) hs
  by_cases hm : m = 0
  · subst hm
    refine ⟨w, .slice ad 0 0, ?_, .inl ⟨rfl, rfl, rfl⟩⟩
    have hnil : news = [] := by simpa using n1
    subst hnil
    have := n2 w rfl
    cases ad with
    | none => simp [Builtin.append_, underlying, hu, hu2, sizeOf_run hT hi, n3, this]
    | some ad => simp [Builtin.append_, underlying, hu, hu2, sizeOf_run hT hi, n3, this, storeCells]
  · have hfit := growslice_fits (need := m) (old := 0) (bytes := i.bytes) (by omega) hroom.1
    have h63 : ¬ (9223372036854775807 < (m : Int)) := by omega
    have h48 : ¬ (281474976710656 < Builtin.nextslicecap m 0 * i.bytes) := by omega
    have hzs : z.cells.size = i.size := by rw [← e6, ← e5]; simp
    have hcap : m ≤ grownCap w m 0 e := by simp [grownCap, Question.cut]
    refine ⟨w.drew.alloc (.cells (news.toArray ++ Builtin.zeroCells z.cells (grownCap w m 0 e - m)) e), .slice (some ⟨w.heap.size, 0, none⟩) m (grownCap w m 0 e), ?_,
      .inr ⟨grownCap w m 0 e, _, ⟨by omega, hcap⟩, rfl, rfl, ?_, fun r j x hr hj => ?_⟩⟩
    · have hf := n2 w.drew rfl
      have h0 : (Builtin.firstCells i.size 0 (.slice ad 0 0)).run P w.drew = .ok #[] w.drew := by
        cases ad <;> simp [Builtin.firstCells, loadCells, loadCellsFrom]
      simp [Builtin.append_, underlying, hu, hu2, sizeOf_run hT hi, n3, hm, h63, typeInfo, e1, e3, h48, Question.forced, h0, hf, zeroValue, e4, newRow, grownCap]
    · rw [Array.size_append, size_zeroCells, hzs]
      simp only [List.size_toArray, n1]
      rw [← Nat.add_mul]
      exact Nat.mul_le_mul_right _ (by omega)
    · obtain ⟨q, hq, hd⟩ := n5 r j x hr hj
      refine ⟨q, ?_, hd⟩
      rw [Array.getElem?_append_left (by simpa using (List.getElem?_eq_some_iff.1 hq).1)]
      simpa using hq

theorem append_own {t u e : TypeId} {ty : TypeId} {i : TI} (hT : TTok P T) (hu : P.underlying t = some (.slice e)) {ui : TypeId} (hu2 : P.underlying u = some (.slice ui)) (hi : T e = some i)
    {N : Nat → Prop} {m : Nat} {row : Nat → List DV} {v : Value} (hs : RowsAt w N i.size m row v)
    {b base n cap : Nat} {cs : Array Value} {el : TypeId} (hb : w.heap[b]? = some (.cells cs el (0, 0))) (_hcap : n ≤ cap) (hfitc : base + cap * i.size ≤ cs.size)
    {row' : Nat → List DV} (hr' : ∀ r, r < n → (row' r).length = i.size) (hc' : ∀ r j x, r < n → (row' r)[j]? = some x → ∃ q, cs[base + r * i.size + j]? = some q ∧ DRep w N x q)
    (hroom : (n + m) * i.bytes ≤ 140737488355328 ∧ n + m ≤ 140737488355328) :
    ∃ w' v', (Builtin.append_ #[t, u] ty #[.slice (some ⟨b, base, none⟩) n cap, v]).run P w = .ok v' w' ∧
      ((n + m ≤ cap ∧ v' = .slice (some ⟨b, base, none⟩) (n + m) cap ∧ ∃ cs', cs'.size = cs.size ∧ w' = w.setRow b cs' ∧
          (∀ r j x, r < n → (row' r)[j]? = some x → ∃ q, cs'[base + r * i.size + j]? = some q ∧ DRep w N x q) ∧
          ∀ r j x, r < m → (row r)[j]? = some x → ∃ q, cs'[base + (n + r) * i.size + j]? = some q ∧ DRep w N x q) ∨
        ∃ cap' cs', (0 < n + m ∧ n + m ≤ cap') ∧ v' = .slice (some ⟨w.heap.size, 0, none⟩) (n + m) cap' ∧ w' = w.drew.alloc (.cells cs' e) ∧ cap' * i.size ≤ cs'.size ∧
          (∀ r j x, r < n → (row' r)[j]? = some x → ∃ q, cs'[r * i.size + j]? = some q ∧ DRep w N x q) ∧
          ∀ r j x, r < m → (row r)[j]? = some x → ∃ q, cs'[(n + r) * i.size + j]? = some q ∧ DRep w N x q) := by
  obtain ⟨inf, z, e1, e2, e3, e4, e5, e6, e7⟩ := hT.info e i hi
  obtain ⟨news, n1, n2, n3, n4, n5⟩ := src_cells (P := P) hs
  by_cases hroom' : n + m ≤ cap
  · have hmul : (n + m) * i.size ≤ cap * i.size := Nat.mul_le_mul_right _ hroom'
    rw [Nat.add_mul] at hmul
    have hfit : base + n * i.size + news.length ≤ cs.size := by rw [n1]; omega
    have hst := run_storeCells_at P b (base + n * i.size) el news 0 cs w hb (by simpa using hfit) n4
    simp only [Nat.add_zero] at hst
    refine ⟨_, .slice (some ⟨b, base, none⟩) (n + m) cap, ?_, .inl ⟨hroom', rfl, _, spliced_size _ _ _ hfit, rfl, fun r j x hr hj => ?_, fun r j x hr hj => ?_⟩⟩
    · have hf := n2 w rfl
      simp [Builtin.append_, underlying, hu, hu2, sizeOf_run hT hi, n3, hroom', hf, add_off, hst]
    · obtain ⟨q, hq, hd⟩ := hc' r j x hr hj
      refine ⟨q, ?_, hd⟩
      have hj' : j < i.size := by rw [← hr' r hr]; exact (List.getElem?_eq_some_iff.1 hj).1
      have : (r + 1) * i.size ≤ n * i.size := Nat.mul_le_mul_right _ hr
      rw [Nat.succ_mul] at this
      rw [spliced_get _ _ _ _ hfit, if_pos (by omega)]; exact hq
    · obtain ⟨q, hq, hd⟩ := n5 r j x hr hj
      refine ⟨q, ?_, hd⟩
      have hlt := (List.getElem?_eq_some_iff.1 hq).1
      rw [spliced_get _ _ _ _ hfit, Nat.add_mul, if_neg (by omega), if_pos (by omega), ← hq]
      congr 1; omega
  · have hg : cap < n + m := by omega
    have hfit := growslice_fits (need := n + m) (old := cap) (bytes := i.bytes) hg hroom.1
    have h63 : ¬ (9223372036854775807 < ((n : Int) + (m : Int))) := by omega
    have h48 : ¬ (281474976710656 < Builtin.nextslicecap (n + m) cap * i.bytes) := by omega
    have hzs : z.cells.size = i.size := by rw [← e6, ← e5]; simp
    have hcap' : n + m ≤ grownCap w (n + m) cap e := by simp [grownCap, Question.cut]
    obtain ⟨olds, o1, o2, o3, o4⟩ := rows_flat hr' hc'
    have ho := run_firstCells_some (P := P) w.drew i.size n ⟨b, base, none⟩ n cap olds o1 (fun j q hj => by rw [add_off, cell_at (w := w.drew) hb]; exact o2 j q hj)
    refine ⟨w.drew.alloc (.cells (olds.toArray ++ news.toArray ++ Builtin.zeroCells z.cells (grownCap w (n + m) cap e - (n + m))) e), .slice (some ⟨w.heap.size, 0, none⟩) (n + m) (grownCap w (n + m) cap e), ?_,
      .inr ⟨grownCap w (n + m) cap e, _, ⟨by omega, hcap'⟩, rfl, rfl, ?_, fun r j x hr hj => ?_, fun r j x hr hj => ?_⟩⟩
    · have hf := n2 w.drew rfl
      simp [Builtin.append_, underlying, hu, hu2, sizeOf_run hT hi, n3, hroom', h63, typeInfo, e1, e3, h48, Question.forced, ho, hf, zeroValue, e4, newRow, grownCap]
      congr 2
      apply Array.ext'
      simp [List.append_assoc]
    · rw [Array.size_append, Array.size_append, size_zeroCells, hzs]
      simp only [List.size_toArray, n1, o1]
      rw [← Nat.add_mul, ← Nat.add_mul]
      exact Nat.mul_le_mul_right _ (by omega)
    · obtain ⟨q, hq, hd⟩ := o4 r j x hr hj
      refine ⟨q, ?_, hd⟩
      have hlt := (List.getElem?_eq_some_iff.1 hq).1
      rw [Array.getElem?_append_left (by simp; omega), Array.getElem?_append_left (by simpa using hlt)]
      simpa using hq
    · obtain ⟨q, hq, hd⟩ := n5 r j x hr hj
      refine ⟨q, ?_, hd⟩
      have hlt := (List.getElem?_eq_some_iff.1 hq).1
      rw [Nat.add_mul, Array.getElem?_append_left (by simp; omega), Array.getElem?_append_right (by simp; omega)]
      simp only [List.size_toArray, o1]
      rw [show n * i.size + r * i.size + j - n * i.size = r * i.size + j by omega]
      simpa using hq

theorem Nof_drew {b : Nat} : Nof S σ μ w.drew b ↔ Nof S σ μ w b := Iff.rfl

theorem sound_append (hT : TTok P T) (R : RelM w0 S nt (lookS slots) σ a w μ) (hd : ∀ d, o.dst = some d → d < nt) {args : Array Operand} {ts : Array TypeId} (ho : o.op = .call ⟨.builtin .append, args, ts⟩)
    (h : (semOp real T EX o true (rho slots)).run σ (OpOut.run M σ K)) : Sound P w0 S nt slots σ a w o K := by
  simp only [semOp, ho] at h
  split at h
  · rename_i x y t u hargs ht hu'
    rw [G.run_bind] at h
    obtain ⟨iu, hiu, h1⟩ := tiv_run h
    clear h
    split at h1
    · rename_i ui hdu
      rw [G.run_bind] at h1
      obtain ⟨it, e, i, hit, hdesc, hi, h⟩ := elemv_run h1
      clear h1
      have hut : P.underlying t = some (.slice e) := by rw [hT.desc t it hit, hdesc]
      have huu : P.underlying u = some (.slice ui) := by rw [hT.desc u iu hiu, hdu]
      rw [G.run_bind] at h
      obtain ⟨c, hc, h1⟩ := cellv_run h (rho_rep R x)
      clear h
      rw [G.run_bind] at h1
      obtain ⟨d, hdd, h⟩ := cellv_run h1 (rho_rep R y)
      clear h1
      rw [G.run_bind] at h
      obtain ⟨m, row, hrows, h1⟩ := rowsv_run R hdd h
      clear h
      have ha : args = #[x, y] := by apply Array.ext'; simpa using hargs
      subst ha
      have hex : ∀ v' w', (Builtin.append_ ts o.type #[a.eval x, a.eval y]).run P w = .ok v' w' → (execOp a.eval o).run P w = .ok (.value v') w' := by
        intro v' w' hv
        simp [execOp, ho, resolve, invoke, builtin, hv]
      have hts : ∀ v' w', (Builtin.append_ #[t, u] o.type #[a.eval x, a.eval y]).run P w = .ok v' w' → (Builtin.append_ ts o.type #[a.eval x, a.eval y]).run P w = .ok v' w' := by
        intro v' w' hv
        rw [← hv]
        unfold Builtin.append_
        simp [ht, hu']
      generalize hL : o.dst.getD 0 * 64 = L at h1
      have hnew : ∀ ad, a.eval x = .slice ad 0 0 → real.room m i.bytes → K (.c (.own L 0 m ((σ L).1 + 1))) [(L, (σ L).1 + 1, .arr i.size m row)] → Sound P w0 S nt slots σ a w o K := by
        intro ad ex hroom hk
        obtain ⟨w', v', hr, hcase⟩ := append_none (ty := o.type) hT hut huu hi hrows hroom ad
        rw [← ex] at hr
        have hr := hex _ _ (hts _ _ hr)
        rcases hcase with ⟨rfl, rfl, rfl⟩ | ⟨cap, cs, ⟨hm0', hcap⟩, rfl, rfl, hfit, hcont⟩
        · obtain ⟨st, R'⟩ := R.bare L ((σ L).1 + 1) (by omega) (.arr i.size 0 row) (.inr ⟨_, _, rfl⟩)
          refine sound_mem R' hd (v := .slice ad 0 0) (.inl hr) rfl ?_ hk
          exact ⟨rfl, by simp, fun sz' n' row' hσ' => ⟨by omega, .inl ⟨by simp, rfl, ad, rfl⟩⟩⟩
        · obtain ⟨st, R'⟩ := R.drew.alloc L ((σ L).1 + 1) (by omega) (.arr i.size m row) cs e ⟨hrows.1, by
            have := Nat.mul_le_mul_right i.size hcap; omega, fun r j x' hr' hj => by
            obtain ⟨q, hq, hdq⟩ := hcont r j x' hr' hj
            exact ⟨q, by rw [Nat.zero_add]; exact hq, (show DRep w.drew (Nof S σ μ w) x' q from DRep.same_heap (w := w) (w' := w.drew) rfl hdq)⟩⟩
          refine sound_mem R' hd (v := .slice (some ⟨w.heap.size, 0, none⟩) m cap) (.inl hr) rfl ?_ hk
          refine ⟨rfl, by simp, fun sz' n' row' hσ' => ?_⟩
          simp at hσ'; obtain ⟨rfl, rfl, rfl⟩ := hσ'
          exact ⟨by omega, .inr ⟨w.heap.size, 0, 0, cap, cs, e, by simp, rfl, hcap, fun _ => by simp, heap_alloc_new w.drew _, by omega, fun _ => by omega⟩⟩
      unfold appendSem at h1
      split at h1
      · obtain ⟨hroom, hk⟩ := h1
        exact hnew none (by generalize he : a.eval x = q at hc; cases hc; rfl) hroom hk
      · obtain ⟨hroom, hk⟩ := h1
        obtain ⟨ad, ex⟩ := hc
        exact hnew ad ex hroom hk
      · rename_i l off len ver
        simp only [G.run] at h1
        split at h1
        · rename_i ver' sz n row' hσ
          cases hsz : Nat.beq sz i.size with
          | false => rw [hsz] at h1; exact h1.elim
          | true =>
            rw [hsz] at h1
            obtain ⟨hv, h0, hl, hroom, hk⟩ := h1
            have hv : ver = ver' := hv
            have h0 : off = 0 := h0
            have hl : len = n := hl
            have hk : K (.c (.own l 0 (n + m) (ver + 1))) [(l, ver + 1, .arr sz (n + m) (real.app n row' row))] := hk
            subst hv h0 hl
            have hsz := Nat.eq_of_beq_eq_true hsz
            subst hsz
            obtain ⟨_, hle, h3⟩ := hc
            obtain ⟨h4, h5⟩ := h3 _ len row' hσ
            have hσ1 : (σ l).1 = ver := by rw [hσ]
            have ob := R.objs l
            rw [hσ] at ob
            obtain ⟨hr, ob⟩ := ob
            have hrl : ∀ r, r < len + m → (real.app len row' row r).length = i.size := fun r hr1 => by
              show (if r < len then row' r else row (r - len)).length = _
              split
              · exact hr r ‹_›
              · exact hrows.1 _ (by omega)
            rcases h5 with ⟨hm0, rfl, ad, ex⟩ | ⟨b, base, o', cap, cs, e', hμ, ex, hcap, ho', hb, hfitc, hpos⟩
            · -- nothing lay there yet
              have hroom0 : m * i.bytes ≤ 140737488355328 ∧ m ≤ 140737488355328 := by
                have h1 : (0 + m) * i.bytes ≤ 140737488355328 ∧ 0 + m ≤ 140737488355328 := hroom
                rwa [Nat.zero_add] at h1
              obtain ⟨w', v', hr', hcase⟩ := append_none (t := t) (u := u) (e := e) (ty := o.type) (ui := ui) hT hut huu hi hrows hroom0 ad
              rw [← ex] at hr'
              have hr' := hex _ _ (hts _ _ hr')
              have happ : real.app 0 row' row = row := by funext r; show (if r < 0 then row' r else row (r - 0)) = row r; simp
              rw [Nat.zero_add, happ] at hk
              rcases hcase with ⟨rfl, rfl, rfl⟩ | ⟨cap, cs, ⟨hm0', hcap⟩, rfl, rfl, hfit, hcont⟩
              · obtain ⟨st, R'⟩ := R.bare l (ver + 1) (by omega) (.arr i.size 0 row) (.inr ⟨_, _, rfl⟩)
                refine sound_mem R' hd (v := .slice ad 0 0) (.inl hr') rfl ?_ hk
                exact ⟨rfl, by simp, fun sz' n' row' hσ' => ⟨by omega, .inl ⟨by simp, rfl, ad, rfl⟩⟩⟩
              · obtain ⟨st, R'⟩ := R.drew.alloc l (ver + 1) (by omega) (.arr i.size m row) cs e ⟨hrows.1, by
                  have := Nat.mul_le_mul_right i.size hcap; omega, fun r j x' hr' hj => by
                  obtain ⟨q, hq, hdq⟩ := hcont r j x' hr' hj
                  exact ⟨q, by rw [Nat.zero_add]; exact hq, (show DRep w.drew (Nof S σ μ w) x' q from DRep.same_heap (w := w) (w' := w.drew) rfl hdq)⟩⟩
                refine sound_mem R' hd (v := .slice (some ⟨w.heap.size, 0, none⟩) m cap) (.inl hr') rfl ?_ hk
                refine ⟨rfl, by simp, fun sz' n' row' hσ' => ?_⟩
                simp at hσ'; obtain ⟨rfl, rfl, rfl⟩ := hσ'
                exact ⟨by omega, .inr ⟨w.heap.size, 0, 0, cap, cs, e, by simp, rfl, hcap, fun _ => by simp, heap_alloc_new w.drew _, by omega, fun _ => by omega⟩⟩
            · have hob : o' = base := by rw [ho' (.inr rfl)]; simp
              subst hob
              rcases ob with ⟨h1, _⟩ | ⟨b', base', cs1, e1, hμ', hb1, hsz0, hcs⟩
              · rw [hμ] at h1; simp at h1
              rw [hμ] at hμ'; simp at hμ'; obtain ⟨rfl, rfl⟩ := hμ'
              rw [hb] at hb1; simp at hb1; obtain ⟨rfl, rfl⟩ := hb1
              obtain ⟨w', v', hr', hcase⟩ := append_own (ty := o.type) hT hut huu hi hrows hb hcap hfitc hr hcs hroom
              rw [← ex] at hr'
              have hr' := hex _ _ (hts _ _ hr')
              rcases hcase with ⟨hc1, rfl, cs', hs', rfl, c1, c2⟩ | ⟨cap', cs', ⟨hnm, hc1⟩, rfl, rfl, hfit', c1, c2⟩
              · have hmul := Nat.mul_le_mul_right i.size hc1
                obtain ⟨st, R'⟩ := R.write l (ver + 1) (.arr i.size (len + m) (real.app len row' row)) (by simp [live, hσ]) (by simp) (.inl (by omega)) hμ hb hs'
                  ⟨hrl, by omega, fun r j x' hr1 hj => by
                    have hj : (if r < len then row' r else row (r - len))[j]? = some x' := hj
                    by_cases c : r < len
                    · rw [if_pos c] at hj; exact c1 r j x' c hj
                    · rw [if_neg c] at hj
                      have := c2 (r - len) j x' (by omega) hj
                      rwa [show len + (r - len) = r by omega] at this⟩
                refine sound_mem R' hd (v := .slice (some ⟨b, o', none⟩) (len + m) cap) (.inl hr') rfl ?_ hk
                refine ⟨rfl, by simp, fun sz' n' row'' hσ' => ?_⟩
                simp at hσ'; obtain ⟨rfl, rfl, rfl⟩ := hσ'
                exact ⟨by omega, .inr ⟨b, o', o', cap, cs', e', hμ, rfl, hc1, fun _ => by simp, setRow_heap _ _ _ _ _ _ hb, by omega, fun _ => hpos rfl⟩⟩
              · have hmul := Nat.mul_le_mul_right i.size hc1
                obtain ⟨st, R'⟩ := R.drew.alloc l (ver + 1) (by omega) (.arr i.size (len + m) (real.app len row' row)) cs' e
                  ⟨hrl, by omega, fun r j x' hr1 hj => by
                    have hj : (if r < len then row' r else row (r - len))[j]? = some x' := hj
                    by_cases c : r < len
                    · rw [if_pos c] at hj
                      obtain ⟨q, hq, hdq⟩ := c1 r j x' c hj
                      exact ⟨q, by rw [Nat.zero_add]; exact hq, (show DRep w.drew (Nof S σ μ w) x' q from DRep.same_heap (w := w) (w' := w.drew) rfl hdq)⟩
                    · rw [if_neg c] at hj
                      have := c2 (r - len) j x' (by omega) hj
                      rw [show len + (r - len) = r by omega] at this
                      obtain ⟨q, hq, hdq⟩ := this
                      exact ⟨q, by rw [Nat.zero_add]; exact hq, (show DRep w.drew (Nof S σ μ w) x' q from DRep.same_heap (w := w) (w' := w.drew) rfl hdq)⟩⟩
                refine sound_mem R' hd (v := .slice (some ⟨w.heap.size, 0, none⟩) (len + m) cap') (.inl hr') rfl ?_ hk
                refine ⟨rfl, by simp, fun sz' n' row'' hσ' => ?_⟩
                simp at hσ'; obtain ⟨rfl, rfl, rfl⟩ := hσ'
                exact ⟨by omega, .inr ⟨w.heap.size, 0, 0, cap', cs', e, by simp, rfl, hc1, fun _ => by simp, heap_alloc_new w.drew _, by omega, fun _ => by omega⟩⟩
        · exact h1.elim
      · exact h1.elim
    · exact h1.elim
  · exact h.elim
end
end Go.Rk
