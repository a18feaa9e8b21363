/- Operations, more: loads and stores, addresses, arithmetic. -/
import Derived.Test.YtbkpfnddpnccmaaRk5
namespace Go.Rk
section
variable {P : Program} {T : TypeId → Option TI} {EX : FuncId → List Nat × Bool} {M : FuncId → List XT → Out → Prop}
variable {w0 : World} {S : Sets} {nt : Nat} {slots : List (Nat × AV)} {σ : Objs} {a : Act} {w : World} {μ : Place}
variable {o : Oper} {K : AV → List (Nat × Nat × HO) → Prop} {next : Act → World → Prop} {Q : Exit → Act → World → Prop}

theorem add_off (b off j : Nat) : (⟨b, off, none⟩ : Addr).add j = ⟨b, off + j, none⟩ := by
  unfold Addr.add
  split
  · rename_i h; subst h; rfl
  · rfl
theorem cell_at {w : World} {b off : Nat} {cs : Array Value} {e : TypeId} {fr : Nat × Nat} (h : w.heap[b]? = some (.cells cs e fr)) : w.cell? ⟨b, off, none⟩ = cs[off]? := by
  simp [World.cell?, h]

theorem load_run (hT : TTok P T) {t : TypeId} {i : TI} (hi : T t = some i) {N : Nat → Prop} {b off : Nat} {cs : Array Value} {e : TypeId} {fr : Nat × Nat} (hb : w.heap[b]? = some (.cells cs e fr))
    {xs : List CV} (hl : xs.length = i.size) (hx : ∀ (j : Nat) x, xs[j]? = some x → ∃ u, cs[off + j]? = some u ∧ CRep σ μ w N x u) {Q : AV → Prop} (h : (mkAV (isAggT i.desc) xs).run σ Q) :
    ∃ v, (loadVar t ⟨b, off, none⟩).run P w = .ok v w ∧ ∃ y, ARep σ μ w N y v ∧ Q y := by
  have hlen : ∀ j, j < xs.length → off + j < cs.size := fun j hj => by
    obtain ⟨u, hu, _⟩ := hx j xs[j] (List.getElem?_eq_getElem hj)
    exact (Array.getElem?_eq_some_iff.1 hu).1
  unfold mkAV at h
  cases hg : isAggT i.desc with
  | true =>
    simp only [hg, if_true] at h
    let vs : List Value := (List.range xs.length).map fun j => cs.getD (off + j) undef
    have hvl : vs.length = i.size := by simp [vs, hl]
    have hvj : ∀ (j : Nat) v, vs[j]? = some v → cs[off + j]? = some v := fun j v hj => by
      simp only [vs, List.getElem?_map, Option.map_eq_some_iff] at hj
      obtain ⟨k, hk, rfl⟩ := hj
      obtain ⟨hlt, rfl⟩ := List.getElem?_eq_some_iff.1 hk
      simp at hlt ⊢
      rw [Array.getElem?_eq_getElem (hlen j hlt)]; simp
    have hload := run_loadCells_list (P := P) w ⟨b, off, none⟩ vs (fun j v hj => by rw [add_off, cell_at hb]; exact hvj j v hj)
    rw [hvl] at hload
    refine ⟨.agg vs.toArray, by simp [loadVar, isAgg_run hT hi, hg, sizeOf_run hT hi, hload], .agg xs, ⟨_, rfl, ?_⟩, h⟩
    refine CsRep.of_get (by simp [hvl, hl]) fun j x hj => ?_
    obtain ⟨u, hu, hc⟩ := hx j x hj
    refine ⟨u, ?_, hc⟩
    have hj' : j < xs.length := (List.getElem?_eq_some_iff.1 hj).1
    simp [vs, hj', Array.getD_eq_getD_getElem?, hu]
  | false =>
    simp only [hg] at h
    match xs, h with
    | [x], h =>
      obtain ⟨u, hu, hc⟩ := hx 0 x rfl
      refine ⟨u, ?_, .c x, hc, h⟩
      have hu' : cs[off]? = some u := by simpa using hu
      simp [loadVar, isAgg_run hT hi, hg, cell_at hb, hu']

theorem sound_load (hT : TTok P T) (R : RelM w0 S nt (lookS slots) σ a w μ) (hd : ∀ d, o.dst = some d → d < nt) {t : TypeId} {p : Operand} (ho : o.op = .load t p)
    (h : (semOp real T EX o true (rho slots)).run σ (OpOut.run M σ K)) : Sound P w0 S nt slots σ a w o K := by
  simp only [semOp, ho, G.run_bind] at h
  obtain ⟨i, hi, h⟩ := tiv_run h
  obtain ⟨c, hc, h⟩ := cellv_run h (rho_rep R p)
  have fin : ∀ b off (cs : Array Value) e fr (xs : List CV), a.eval p = .pointer (some ⟨b, off, none⟩) → w.heap[b]? = some (.cells cs e fr) → xs.length = i.size →
      (∀ (j : Nat) x, xs[j]? = some x → ∃ u, cs[off + j]? = some u ∧ CRep σ μ w (Nof S σ μ w) x u) → (mkAV (isAggT i.desc) xs).run σ (fun y => K y []) → Sound P w0 S nt slots σ a w o K := by
    intro b off cs e fr xs he hb hl hx hm
    obtain ⟨v, hr, y, hy, hk⟩ := load_run hT hi hb hl hx hm
    exact sound_val R hd (by simp [execOp, ho, he, Instr.loadAt, Instr.sureAddr, hr]) hy hk
  cases c with
  | bp l ver off =>
    simp only [G.run] at h
    split at h
    · rename_i ver' cells hσ
      obtain ⟨hv, h⟩ := h
      have hv : ver = ver' := hv
      subst hv
      rw [G.run_bind] at h
      obtain ⟨xs, hxs, h⟩ := optv_run h
      rw [G.run_bind] at h
      obtain ⟨hone, hle, hc⟩ := hc
      obtain ⟨b, hμ, he⟩ := hc cells hσ
      have ob := R.objs l
      rw [hσ] at ob
      obtain ⟨b', cs, e, hμ', hb, hcs⟩ := ob
      rw [hμ] at hμ'; simp at hμ'; subst hμ'
      obtain ⟨hl, hg⟩ := takeN_spec hxs
      refine fin b off cs e (0, 0) xs he hb hl (fun j x hj => ?_) h
      have := hg j x hj
      rw [dropN_get] at this
      obtain ⟨u, hu, hc⟩ := hcs.get this
      exact ⟨u, by simpa using hu, hc⟩
    · exact h.elim
  | op l ver row off =>
    simp only [G.run] at h
    split at h
    · rename_i ver' sz n rows hσ
      obtain ⟨hv, h⟩ := h
      have hv : ver = ver' := hv
      subst hv
      rw [G.run_bind] at h
      obtain ⟨xs, hxs, h⟩ := optv_run h
      rw [G.run_bind] at h
      obtain ⟨hone, hle, hc⟩ := hc
      obtain ⟨hrow, b, base, hμ, he⟩ := hc sz n rows hσ
      have ob := R.objs l
      rw [hσ] at ob
      obtain ⟨hr, ob⟩ := ob
      rcases ob with ⟨h1, _⟩ | ⟨b', base', cs, e, hμ', hb, hsz, hcs⟩
      · rw [hμ] at h1; simp at h1
      rw [hμ] at hμ'; simp at hμ'; obtain ⟨rfl, rfl⟩ := hμ'
      obtain ⟨hl, hg⟩ := takeN_spec hxs
      refine fin b (base + row * sz + off) cs e (0, 0) (xs.map .d) he hb (by simpa using hl) (fun j x hj => ?_) h
      simp only [List.getElem?_map, Option.map_eq_some_iff] at hj
      obtain ⟨x', hx', rfl⟩ := hj
      have := hg j x' hx'
      rw [dropN_get] at this
      obtain ⟨u, hu, hc⟩ := hcs row (off + j) x' hrow this
      exact ⟨u, by rw [show base + row * sz + off + j = base + row * sz + (off + j) by omega]; exact hu, hc⟩
    · exact h.elim
  | d x =>
    cases x with
    | p cells =>
      rw [G.run_bind] at h
      obtain ⟨xs, hxs, h⟩ := optv_run h
      rw [G.run_bind] at h
      generalize he : a.eval p = pv at hc
      cases hc with
      | p _ b off cs e fr u hN hb hu hdd =>
        obtain ⟨hl, hg⟩ := takeN_spec hxs
        refine fin b off cs e fr (xs.map .d) he hb (by simpa using hl) (fun j x hj => ?_) h
        simp only [List.getElem?_map, Option.map_eq_some_iff] at hj
        obtain ⟨x', hx', rfl⟩ := hj
        exact ⟨u j, hu j x' (hg j x' hx'), hdd j x' (hg j x' hx')⟩
    | _ => exact h.elim
  | _ => exact h.elim

theorem spliced_get (cur : Array Value) (vs : List Value) (k j : Nat) (h : k + vs.length ≤ cur.size) :
    ((cur.toList.take k ++ vs ++ cur.toList.drop (k + vs.length)).toArray)[j]? = if j < k then cur[j]? else if j < k + vs.length then vs[j - k]? else cur[j]? := by
  simp only [List.getElem?_toArray, List.getElem?_append, List.length_append, List.length_take, Array.length_toList, List.getElem?_take, List.getElem?_drop, Array.getElem?_toList]
  have : min k cur.size = k := by omega
  rw [this]
  by_cases c1 : j < k
  · rw [if_pos (by omega), if_pos c1, if_pos c1, if_pos c1]
  · by_cases c2 : j < k + vs.length
    · rw [if_pos c2, if_neg c1, if_neg c1, if_pos c2]
    · rw [if_neg c2, if_neg c1, if_neg c2]; congr 1; omega
theorem spliced_size (cur : Array Value) (vs : List Value) (k : Nat) (h : k + vs.length ≤ cur.size) : ((cur.toList.take k ++ vs ++ cur.toList.drop (k + vs.length)).toArray).size = cur.size := by
  simp; omega

theorem noJunk_one : ∀ {xs : List CV} {vs : List Value} {N : Nat → Prop}, noJunk xs = true → CsRep σ μ w N xs vs → ∀ v ∈ vs, v.oneCell' = true
  | [], [], _, _, _, v, hv => by simp at hv
  | x :: r, u :: s, N, hj, hc, v, hv => by
    have hx : x ≠ .junk := fun e => by subst e; simp [noJunk] at hj
    have hr : noJunk r = true := by cases x <;> simp [noJunk] at hj hx ⊢ <;> exact hj
    rcases List.mem_cons.1 hv with rfl | hv
    · exact hc.1.one hx
    · exact noJunk_one hr hc.2 v hv
  | [], _ :: _, _, _, h, _, _ => h.elim
  | _ :: _, [], _, _, h, _, _ => h.elim

theorem storeVar_run (hT : TTok P T) {t : TypeId} {i : TI} (hi : T t = some i) {b off : Nat} {cs : Array Value} {e : TypeId} (hb : w.heap[b]? = some (.cells cs e (0, 0))) {v : Value}
    (hl : v.cells.toList.length = i.size) (h1 : ∀ u ∈ v.cells.toList, u.oneCell' = true) (hs : off + v.cells.toList.length ≤ cs.size) :
    (storeVar t ⟨b, off, none⟩ v).run P w = .ok () (w.setRow b (cs.toList.take off ++ v.cells.toList ++ cs.toList.drop (off + v.cells.toList.length)).toArray) := by
  have hst := run_storeCells_at P b off e v.cells.toList 0 cs w hb (by simpa using hs) h1
  simp only [Nat.add_zero] at hst
  have : v.cells.size = i.size := by simpa using hl
  simp [storeVar, sizeOf_run hT hi, this, hst]

theorem sound_store (hT : TTok P T) (R : RelM w0 S nt (lookS slots) σ a w μ) (hd : ∀ d, o.dst = some d → d < nt) {t : TypeId} {p x : Operand} (ho : o.op = .store t p x)
    (h : (semOp real T EX o true (rho slots)).run σ (OpOut.run M σ K)) : Sound P w0 S nt slots σ a w o K := by
  simp only [semOp, ho, G.run_bind] at h
  obtain ⟨i, hi, h⟩ := tiv_run h
  obtain ⟨xs, hxs, h⟩ := cellsv_run h (rho_rep R x)
  cases hif : (Nat.beq xs.length i.size && noJunk xs) with
  | false => rw [hif] at h; exact h.elim
  | true =>
  rw [hif] at h
  simp only [cond_true, G.run_bind] at h
  simp only [Bool.and_eq_true] at hif
  obtain ⟨hif, hnj⟩ := hif
  have hlen : xs.length = i.size := Nat.eq_of_beq_eq_true hif
  have hone := noJunk_one hnj hxs
  have hvl : (a.eval x).cells.toList.length = i.size := by rw [hxs.length, hlen]
  obtain ⟨c, hc, h⟩ := cellv_run h (rho_rep R p)
  cases c with
  | bp l ver off =>
    simp only [G.run] at h
    split at h
    · rename_i ver' cells hσ
      obtain ⟨hv, h⟩ := h
      have hv : ver = ver' := hv
      subst hv
      rw [G.run_bind] at h
      obtain ⟨cs', hcs', hK⟩ := optv_run h
      have hK : K (.c .junk) [(l, ver, .box cs')] := hK
      obtain ⟨_, hle, hc⟩ := hc
      obtain ⟨b, hμ, he⟩ := hc cells hσ
      have ob := R.objs l
      rw [hσ] at ob
      obtain ⟨b', cs, e, hμ', hb, hcs⟩ := ob
      rw [hμ] at hμ'; simp at hμ'; subst hμ'
      obtain ⟨p1, p2, p3⟩ := patch_spec hcs'
      have hsz : off + (a.eval x).cells.toList.length ≤ cs.size := by
        have := hcs.length; simp at this; rw [hvl, ← hlen]; omega
      have hst := storeVar_run hT hi hb hvl hone hsz
      obtain ⟨st, R'⟩ := R.write l ver (.box cs') (by simp [live, hσ]) (by simp) (.inr ⟨by rw [hσ], fun _ _ => ⟨cells, by rw [hσ]⟩, fun _ _ _ h => by simp at h⟩) hμ hb (spliced_size _ _ _ hsz)
        ⟨rfl, CsRep.of_get (by
            have := hcs.length
            rw [Array.length_toList] at this
            rw [Array.length_toList, spliced_size _ _ _ hsz, p1]; exact this) fun j y hj => by
          have hp := p3 j y hj
          rw [Array.getElem?_toList, spliced_get _ _ _ _ hsz, hxs.length]
          by_cases c1 : j < off
          · rw [if_pos c1] at hp ⊢
            obtain ⟨u, hu, hcu⟩ := hcs.get hp
            exact ⟨u, by simpa using hu, hcu⟩
          · by_cases c2 : j < off + xs.length
            · rw [if_neg c1, if_pos c2] at hp ⊢
              obtain ⟨u, hu, hcu⟩ := hxs.get hp
              exact ⟨u, hu, hcu⟩
            · rw [if_neg c1, if_neg c2] at hp ⊢
              obtain ⟨u, hu, hcu⟩ := hcs.get hp
              exact ⟨u, by simpa using hu, hcu⟩⟩
      refine sound_mem (x := .c .junk) R' hd (.inr ⟨?_, rfl⟩) rfl trivial hK
      simp [execOp, ho, he, Instr.storeAt, Instr.sureAddr, hst]
    · exact h.elim
  | op l ver row off =>
    simp only [G.run] at h
    split at h
    · rename_i ver' sz n rows hσ
      obtain ⟨hv, h⟩ := h
      have hv : ver = ver' := hv
      subst hv
      rw [G.run_bind] at h
      obtain ⟨ds, hds, h⟩ := optv_run h
      rw [G.run_bind] at h
      obtain ⟨cs', hcs', hK⟩ := optv_run h
      have hK : K (.c .junk) [(l, ver, .arr sz n (real.upd rows row cs'))] := hK
      have hds := toDs_spec hds
      obtain ⟨_, hle, hc⟩ := hc
      obtain ⟨hrow, b, base, hμ, he⟩ := hc sz n rows hσ
      have ob := R.objs l
      rw [hσ] at ob
      obtain ⟨hr, ob⟩ := ob
      rcases ob with ⟨h1, _⟩ | ⟨b', base', cs, e, hμ', hb, hsz0, hcs⟩
      · rw [hμ] at h1; simp at h1
      rw [hμ] at hμ'; simp at hμ'; obtain ⟨rfl, rfl⟩ := hμ'
      obtain ⟨p1, p2, p3⟩ := patch_spec hcs'
      have hrl := hr row hrow
      have hmul : (row + 1) * sz ≤ n * sz := Nat.mul_le_mul_right _ hrow
      have hdl : ds.length = i.size := by rw [← hlen, hds]; simp
      have hsz : base + row * sz + off + (a.eval x).cells.toList.length ≤ cs.size := by
        rw [hvl, ← hdl]; rw [Nat.add_mul] at hmul; omega
      have hst := storeVar_run hT hi hb hvl hone hsz
      obtain ⟨st, R'⟩ := R.write l ver (.arr sz n (real.upd rows row cs')) (by simp [live, hσ]) (by simp)
        (.inr ⟨by rw [hσ], fun _ h => by simp at h, fun sz' n' row' h => by simp at h; obtain ⟨rfl, rfl, _⟩ := h; exact ⟨n, rows, by rw [hσ], Nat.le_refl _⟩⟩) hμ hb (spliced_size _ _ _ hsz)
        ⟨fun k hk => by
            show (if k = row then cs' else rows k).length = sz
            split
            · rw [p1]; exact hrl
            · exact hr k hk, by rw [spliced_size _ _ _ hsz]; exact hsz0, fun k j y hk hj => by
          have hj : (if k = row then cs' else rows k)[j]? = some y := hj
          rw [spliced_get _ _ _ _ hsz, hxs.length]
          by_cases ek : k = row
          · subst ek
            rw [if_pos rfl] at hj
            have hp := p3 j y hj
            have hj' : j < sz := by rw [← hrl, ← p1]; exact (List.getElem?_eq_some_iff.1 hj).1
            by_cases c1 : j < off
            · rw [if_pos c1] at hp
              obtain ⟨u, hu, hcu⟩ := hcs k j y hk hp
              exact ⟨u, by rw [if_pos (by omega)]; exact hu, hcu⟩
            · by_cases c2 : j < off + ds.length
              · rw [if_neg c1, if_pos c2] at hp
                have hx' : xs[j - off]? = some (.d y) := by rw [hds]; simp [hp]
                obtain ⟨u, hu, hcu⟩ := hxs.get hx'
                refine ⟨u, ?_, hcu⟩
                rw [if_neg (by omega), if_pos (by rw [hlen, ← hdl]; omega), show base + k * sz + j - (base + k * sz + off) = j - off by omega]
                exact hu
              · rw [if_neg c1, if_neg c2] at hp
                obtain ⟨u, hu, hcu⟩ := hcs k j y hk hp
                exact ⟨u, by rw [if_neg (by omega), if_neg (by rw [hlen, ← hdl]; omega)]; exact hu, hcu⟩
          · rw [if_neg ek] at hj
            obtain ⟨u, hu, hcu⟩ := hcs k j y hk hj
            have hj' : j < sz := by rw [← hr k hk]; exact (List.getElem?_eq_some_iff.1 hj).1
            refine ⟨u, ?_, hcu⟩
            rcases Nat.lt_or_gt_of_ne ek with hlt | hgt
            · have : (k + 1) * sz ≤ row * sz := Nat.mul_le_mul_right _ hlt
              rw [Nat.add_mul] at this
              rw [if_pos (by omega)]; exact hu
            · have : (row + 1) * sz ≤ k * sz := Nat.mul_le_mul_right _ hgt
              rw [Nat.add_mul] at this
              rw [if_neg (by omega), if_neg (by rw [hlen, ← hdl]; omega)]; exact hu⟩
      refine sound_mem (x := .c .junk) R' hd (.inr ⟨?_, rfl⟩) rfl trivial hK
      simp [execOp, ho, he, Instr.storeAt, Instr.sureAddr, hst]
    · exact h.elim
  | _ => exact h.elim
end
end Go.Rk
