/- The walk over this seat's functions, part 5: what each of them answers, at all data. -/
import Derived.Test.YtmgeaomdilinnaaM1
import Derived.Test.YtmgeaomdilinnaaM2
import Derived.Test.YtmgeaomdilinnaaM3
import Derived.Test.YtmgeaomdilinnaaM4
import Derived.Test.YtmgeaomdilinnaaProg
import Derived.KernelRfl
import Derived.IntWalk
import Derived.Test.YtmgeaomdilinnaaChecked
/- Closing, as a step from state to state. -/
namespace Go.Rk
set_option linter.unusedSimpArgs false
set_option linter.unusedVariables false
def ownAs (so : Nat → Nat × HO) (l v sz n : Nat) (rw : Nat → List DV) : Prop := match so l with
  | (v', .arr sz' n' rw') => v = v' ∧ sz = sz' ∧ n = n' ∧ (∀ i, i < n → rw' i = rw i) ∧ FlatR n rw
  | _ => False
def nestAs (so : Nat → Nat × HO) (l v sz n : Nat) (rw : Nat → List DV) : Prop := match so l with
  | (v', .nest sz' n' rw' none) => v = v' ∧ sz = sz' ∧ n = n' ∧ ∀ i, i < n → NsLe (rw' i) (rw i)
  | _ => False
def dvOk (u : Value) : DV → Prop
  | .v u' => u = u'
  | .sl _ n _ => u = nilS ∧ n = 0
  | _ => False
def zcOk : DV → Prop
  | .sl _ n _ => n = 0
  | _ => False
/-- Cells as a row that owns what they lead to, and the labels that are gone by that. -/
def closeOk (so : Nat → Nat × HO) : List CV → List DV → List (Nat × Nat) → Prop
  | [], [], [] => True
  | x :: r, y :: s, ls => match x with
    | .d (.v u) => dvOk u y ∧ closeOk so r s ls
    | .zc => zcOk y ∧ closeOk so r s ls
    | .own l off len v => match y, ls with
      | .sl sz n rw, p :: ls => (p = (l, v) ∧ off = 0 ∧ len = n ∧ ownAs so l v sz n rw) ∧ closeOk so r s ls
      | _, _ => False
    | .nown l len v => match y, ls with
      | .sl sz n rw, p :: ls => (p = (l, v) ∧ len = n ∧ nestAs so l v sz n rw) ∧ closeOk so r s ls
      | _, _ => False
    | _ => False
  | _, _, _ => False
def deadT (ls : List (Nat × Nat)) : Turns := ls.map fun p => (p.1, (p.2 + 1, .dead), none, [])
def deadO (ls : List (Nat × Nat)) : List (Nat × Nat × HO) := ls.map fun p => (p.1, p.2 + 1, .dead)
theorem usOf_deadT (ls : List (Nat × Nat)) : usOf (deadT ls) = deadO ls := by simp [usOf, deadT, deadO]
theorem blkT_deadT : ∀ ls : List (Nat × Nat), blkT (deadT ls) = []
  | [] => rfl
  | p :: r => by
    show blkP none [] ++ blkT (deadT r) = []
    rw [blkT_deadT r]; rfl
theorem hasLab_deadO {ls : List (Nat × Nat)} {l : Nat} (h : hasLab (deadO ls) l = true) : ∃ p ∈ ls, p.1 = l := by
  obtain ⟨q, hq, e⟩ := hasLab_iff.1 h
  obtain ⟨p, hp, rfl⟩ := List.mem_map.1 hq
  exact ⟨p, hp, e⟩
theorem nodup_deadO : ∀ {ls : List (Nat × Nat)}, (ls.map (·.1)).Nodup → nodupL (deadO ls) = true
  | [], _ => rfl
  | p :: r, h => by
    simp only [List.map_cons, List.nodup_cons] at h
    show nodupL ((p.1, p.2 + 1, HO.dead) :: deadO r) = true
    unfold nodupL
    cases hb : hasLab (deadO r) p.1 with
    | true => obtain ⟨q, hq, e⟩ := hasLab_deadO hb; exact (h.1 (List.mem_map.2 ⟨q, hq, e⟩)).elim
    | false => exact nodup_deadO h.2
section
variable {w0 : World} {S : Sets} {nt : Nat} {slots : List (Nat × AV)} {σ : Objs} {a : Act} {w : World} {μ : Place}
theorem close_rep (R : RelM w0 S nt (lookS slots) σ a w μ) : ∀ {cells : List CV} {ds : List DV} {ls : List (Nat × Nat)} {vs : List Value}, closeOk σ cells ds ls → CsRep σ μ w (Nof S σ μ w) cells vs → (ls.map (·.1)).Nodup →
    ds.length = cells.length ∧ (∀ p ∈ ls, Valid σ p) ∧ ∃ G : Nat → Nat → Prop, (∀ (j : Nat) y u, ds[j]? = some y → vs[j]? = some u → NRep w y u (G j)) ∧ (∀ k, k ∈ blk μ ls ↔ ∃ j, j < ds.length ∧ G j k) ∧
      ∀ j j' k, j < ds.length → j' < ds.length → G j k → G j' k → j = j'
  | [], [], [], [], _, _, _ => ⟨rfl, fun p hp => by simp at hp, fun _ _ => False, fun j y u h => by simp at h, fun k => ⟨fun h => by simp [blk] at h, fun ⟨_, h, _⟩ => by simp at h⟩, fun _ _ _ h => by simp at h⟩
  | [], [], [], _ :: _, _, h, _ => h.elim
  | [], [], _ :: _, _, h, _, _ => h.elim
  | [], _ :: _, _, _, h, _, _ => h.elim
  | _ :: _, [], _, _, h, _, _ => h.elim
  | _ :: _, _ :: _, _, [], _, h, _ => h.elim
  | x :: r, y :: s, ls, v :: vs, hc, hv, hn => by
    -- the head owns nothing
    have data : closeOk σ r s ls → NRep w y v (fun _ => False) → (y :: s).length = (x :: r).length ∧ (∀ p ∈ ls, Valid σ p) ∧ ∃ G : Nat → Nat → Prop, (∀ (j : Nat) z u, (y :: s)[j]? = some z → (v :: vs)[j]? = some u → NRep w z u (G j)) ∧ (∀ k, k ∈ blk μ ls ↔ ∃ j, j < (y :: s).length ∧ G j k) ∧
        ∀ j j' k, j < (y :: s).length → j' < (y :: s).length → G j k → G j' k → j = j' := fun h0 hy => by
      obtain ⟨g0, g1, G, g2, g3, g4⟩ := close_rep R h0 hv.2 hn
      refine ⟨by simp [g0], g1, fun j k => match j with | 0 => False | j + 1 => G j k, fun j z u hz hu => ?_, fun k => (g3 k).trans ⟨fun ⟨j, h1, h2⟩ => ⟨j + 1, by simp; omega, h2⟩, fun ⟨j, h1, h2⟩ => ?_⟩, fun j j' k h1 h2 h3 h4 => ?_⟩
      · cases j with
        | zero => simp at hz hu; subst hz hu; exact hy
        | succ j => exact g2 j z u (by simpa using hz) (by simpa using hu)
      · cases j with
        | zero => exact h2.elim
        | succ j => exact ⟨j, by simp at h1; omega, h2⟩
      · cases j with
        | zero => exact h3.elim
        | succ j => cases j' with
          | zero => exact h4.elim
          | succ j' => rw [g4 j j' k (by simp at h1; omega) (by simp at h2; omega) h3 h4]
    -- the head is a label's
    have lab : ∀ (p : Nat × Nat) (ls' : List (Nat × Nat)), ls = p :: ls' → closeOk σ r s ls' → Valid σ p → NRep w y v (fun k => k ∈ blk μ [p]) → (y :: s).length = (x :: r).length ∧ (∀ p ∈ ls, Valid σ p) ∧ ∃ G : Nat → Nat → Prop, (∀ (j : Nat) z u, (y :: s)[j]? = some z → (v :: vs)[j]? = some u → NRep w z u (G j)) ∧ (∀ k, k ∈ blk μ ls ↔ ∃ j, j < (y :: s).length ∧ G j k) ∧
        ∀ j j' k, j < (y :: s).length → j' < (y :: s).length → G j k → G j' k → j = j' := fun p ls' e h0 hp hy => by
      subst e
      simp only [List.map_cons, List.nodup_cons] at hn
      obtain ⟨g0, g1, G, g2, g3, g4⟩ := close_rep R h0 hv.2 hn.2
      have hsep : ∀ k, k ∈ blk μ [p] → k ∈ blk μ ls' → False := fun k h1 h2 => by
        obtain ⟨q1, hq1, hm1⟩ := blk_mem h1
        obtain ⟨q2, hq2, hm2⟩ := blk_mem h2
        simp at hq1; subst hq1
        have := R.injH q1.1 q2.1 k hp.1 (g1 q2 hq2).1 hm1 hm2
        exact hn.1 (List.mem_map.2 ⟨q2, hq2, this.symm⟩)
      refine ⟨by simp [g0], fun q hq => ?_, fun j k => match j with | 0 => k ∈ blk μ [p] | j + 1 => G j k, fun j z u hz hu => ?_, fun k => ?_, fun j j' k h1 h2 h3 h4 => ?_⟩
      · rcases List.mem_cons.1 hq with rfl | hq
        · exact hp
        · exact g1 q hq
      · cases j with
        | zero => simp at hz hu; subst hz hu; exact hy
        | succ j => exact g2 j z u (by simpa using hz) (by simpa using hu)
      · have e : blk μ (p :: ls') = blk μ [p] ++ blk μ ls' := blk_append μ [p] ls'
        rw [e, List.mem_append, g3]
        constructor
        · rintro (h | ⟨j, h1, h2⟩)
          · exact ⟨0, by simp, h⟩
          · exact ⟨j + 1, by simp; omega, h2⟩
        · rintro ⟨j, h1, h2⟩
          cases j with
          | zero => exact .inl h2
          | succ j => exact .inr ⟨j, by simp at h1; omega, h2⟩
      · cases j with
        | zero => cases j' with
          | zero => rfl
          | succ j' => exact (hsep k h3 ((g3 k).2 ⟨j', by simp at h2; omega, h4⟩)).elim
        | succ j => cases j' with
          | zero => exact (hsep k h4 ((g3 k).2 ⟨j, by simp at h1; omega, h3⟩)).elim
          | succ j' => rw [g4 j j' k (by simp at h1; omega) (by simp at h2; omega) h3 h4]
    have hv1 := hv.1
    cases x with
    | d d =>
      cases d with
      | v u =>
        obtain ⟨h1, h2⟩ : dvOk u y ∧ closeOk σ r s ls := hc
        refine data h2 ?_
        cases hv1 with
        | v _ hone =>
          cases y with
          | v u' => have h1 : _ = u' := h1; subst h1; exact .v _ _ hone fun _ h => h
          | sl sz n rw => obtain ⟨e1, e2⟩ : v = nilS ∧ n = 0 := h1; subst e1; subst e2; exact .nil _ _ _ _ fun _ h => h
          | p _ => exact h1.elim
          | fn _ _ => exact h1.elim
      | _ => exact (show False from hc).elim
    | zc =>
      obtain ⟨h1, h2⟩ : zcOk y ∧ closeOk σ r s ls := hc
      refine data h2 ?_
      obtain ⟨ad, rfl⟩ := hv1
      cases y with
      | sl sz n rw => have h1 : n = 0 := h1; subst h1; exact .nil _ _ _ _ fun _ h => h
      | _ => exact h1.elim
    | own l off len ver =>
      cases y with
      | sl sz n rw =>
        cases ls with
        | nil => exact (show False from hc).elim
        | cons p ls' =>
          obtain ⟨⟨rfl, rfl, rfl, h3⟩, h2⟩ : (p = (l, ver) ∧ off = 0 ∧ len = n ∧ ownAs σ l ver sz n rw) ∧ closeOk σ r s ls' := hc
          unfold ownAs at h3
          split at h3
          · rename_i v' sz' n' rw' hσ
            obtain ⟨rfl, rfl, rfl, hrw, hfl⟩ := h3
            refine lab _ _ rfl h2 ⟨by simp [live, hσ], by simp [hσ]⟩ ?_
            have := own_whole R hσ hv1 (N := Nof S σ μ w) fun _ h => h
            exact (this.rows hrw).nrep hfl
          · exact h3.elim
      | _ => exact (show False from hc).elim
    | nown l len ver =>
      cases y with
      | sl sz n rw =>
        cases ls with
        | nil => exact (show False from hc).elim
        | cons p ls' =>
          obtain ⟨⟨rfl, rfl, h3⟩, h2⟩ : (p = (l, ver) ∧ len = n ∧ nestAs σ l ver sz n rw) ∧ closeOk σ r s ls' := hc
          unfold nestAs at h3
          split at h3
          · rename_i v' sz' n' rw' hσ
            obtain ⟨rfl, rfl, rfl, hrw⟩ := h3
            refine lab _ _ rfl h2 ⟨by simp [live, hσ], by simp [hσ]⟩ ?_
            exact nle_sl hrw _ _ _ (nest_whole R hσ hv1).2.1
          · exact h3.elim
      | _ => exact (show False from hc).elim
    | _ => exact (show False from hc).elim
end
theorem cov_close {fr : Bool} {nt : Nat} {σ τ : St} (l : Nat) (row' : Nat → List DV) (ds : List DV) (ls : List (Nat × Nat)) {ver sz n x : Nat} {row : Nat → List DV} {cells : List CV} (ho : lookO σ.objs l = (ver, .nest sz n row (some (x, cells))))
    (hc : closeOk σ.o cells ds ls) (hd : exOk ((l, ver) :: ls) [] = true) (h1 : row' x = ds) (h2 : ∀ i, i < n → i ≠ x → row' i = row i)
    (h : CovG fr nt ⟨σ.slots, ((l, ver, .nest sz n row' none) :: deadO ls) ++ σ.objs⟩ τ) : CovG fr nt σ τ := by
  refine cov_trans ?_ h
  rintro w0 S a w hfo ⟨μ, R⟩
  have hσ : σ.o l = (ver, .nest sz n row (some (x, cells))) := ho
  have hlv : live σ.o l := by simp [live, hσ]
  have ob := R.objs l
  rw [hσ] at ob
  rcases ob with ⟨_, _, h0, _⟩ | ⟨b, base, cs, e, hμ, hb, hsz, ⟨k0, G, k1, k2, k3⟩, hkb, hknd, hfoc⟩
  · cases h0
  have k2 : ∀ k, k ∈ μ.k l ↔ ∃ i j, i < n ∧ ¬ isFoc (some (x, cells)) i ∧ j < sz ∧ G i j k := k2
  obtain ⟨hx, hcl, hcs⟩ := hfoc _ _ rfl
  obtain ⟨hnd0, _⟩ := exOk_spec hd
  have hnd0 : (l :: ls.map (·.1)).Nodup := hnd0
  rw [List.nodup_cons] at hnd0
  have hff : ∀ i, isFoc (some (x, cells)) i ↔ i = x := fun i => ⟨fun ⟨c, hc⟩ => by simp at hc; exact hc.1.symm, fun e => ⟨cells, by rw [e]⟩⟩
  have hnf : ∀ k, ¬ isFoc none k := fun k ⟨c, hc⟩ => by cases hc
  let us : List Value := (List.range sz).map fun j => cs.getD (base + x * sz + j) undef
  have husg : ∀ (j : Nat) y, cells[j]? = some y → ∃ u, us[j]? = some u ∧ CRep σ.o μ w (Nof S σ.o μ w) y u := fun j y hj => by
    obtain ⟨u, hu, hc⟩ := hcs j y hj
    have hjl : j < sz := by rw [← hcl]; exact (List.getElem?_eq_some_iff.1 hj).1
    exact ⟨u, by simp [us, hjl, Array.getD_eq_getD_getElem?, hu], hc⟩
  have hus : CsRep σ.o μ w (Nof S σ.o μ w) cells us := CsRep.of_get (by simp [us, hcl]) husg
  obtain ⟨c0, c1, Gx, c2, c3, c4⟩ := close_rep R hc hus hnd0.2
  have hdl : ds.length = sz := by rw [c0, hcl]
  have husv : ∀ j, j < sz → ∃ u, us[j]? = some u ∧ cs[base + x * sz + j]? = some u := fun j hj => by
    obtain ⟨u, hu, _⟩ := hcs j _ (List.getElem?_eq_getElem (by omega))
    exact ⟨u, by simp [us, hj, Array.getD_eq_getD_getElem?, hu], hu⟩
  have hsepl : ∀ k, k ∈ blk μ ls → k ≠ b ∧ k ∉ μ.k l := fun k hk => by
    obtain ⟨p, hp, hm⟩ := blk_mem hk
    have hno : ¬ Has μ l k := fun hm' => by
      have := R.injH p.1 l k (c1 p hp).1 hlv hm hm'
      exact hnd0.1 (List.mem_map.2 ⟨p, hp, this⟩)
    exact ⟨fun e => hno (.inl ⟨base, by rw [e]; exact hμ⟩), fun h => hno (.inr h)⟩
  let ks : List Nat := μ.k l ++ blk μ ls
  let t0 : Nat × (Nat × HO) × Option (Nat × Nat) × List Nat := (l, (ver, .nest sz n row' none), some (b, base), ks)
  have hus' : usOf (t0 :: deadT ls) = (l, ver, .nest sz n row' none) :: deadO ls := by rw [← usOf_deadT]; rfl
  have hnd : nodupL (usOf (t0 :: deadT ls)) = true := by
    rw [hus']
    unfold nodupL
    cases hb : hasLab (deadO ls) l with
    | true => obtain ⟨q, hq, e⟩ := hasLab_deadO hb; exact (hnd0.1 (List.mem_map.2 ⟨q, hq, e⟩)).elim
    | false => exact nodup_deadO hnd0.2
  have hblk0 : ∀ k, k ∈ blk μ ((l, ver) :: ls) ↔ (k = b ∨ k ∈ μ.k l) ∨ k ∈ blk μ ls := fun k => by
    have e : blk μ ((l, ver) :: ls) = blk μ [(l, ver)] ++ blk μ ls := blk_append μ [(l, ver)] ls
    rw [e, List.mem_append, blk_one]
    show k ∈ blkP (μ l) (μ.k l) ∨ _ ↔ _
    rw [mem_blkP, hμ]
    constructor
    · rintro ((⟨_, e⟩ | h) | h)
      · simp at e; exact .inl (.inl e.1.symm)
      · exact .inl (.inr h)
      · exact .inr h
    · rintro ((rfl | h) | h)
      · exact .inl (.inl ⟨base, rfl⟩)
      · exact .inl (.inr h)
      · exact .inr h
  have hblkT : blkT (t0 :: deadT ls) = b :: ks := by
    have : blkT (t0 :: deadT ls) = blkP (some (b, base)) ks ++ blkT (deadT ls) := rfl
    rw [this, blkT_deadT]; simp [blkP]
  have hvex : ∀ p ∈ (l, ver) :: ls, Valid σ.o p := fun p hp => by
    rcases List.mem_cons.1 hp with rfl | hp
    · exact ⟨hlv, by rw [hσ]⟩
    · exact c1 p hp
  have hksn : ks.Nodup := List.nodup_append.2 ⟨hknd, blk_nodup R hnd0.2 c1, fun k hk k' hk' e => by subst e; exact (hsepl k hk').2 hk⟩
  obtain ⟨q1, q2, q3⟩ := R.turned (w' := w) (τ := t0 :: deadT ls) (ex := (l, ver) :: ls) (gone := []) (F' := b :: ks) hnd hvex
    (fun t ht => by
      rcases List.mem_cons.1 ht with rfl | ht
      · exact ⟨fun h => (nomatch h), .inr ⟨by rw [hσ], hμ.symm, fun _ h => (nomatch h), fun _ _ _ h => (nomatch h), fun sz' n' r' foc' h => by simp [t0] at h; obtain ⟨rfl, rfl, _⟩ := h; exact ⟨row, _, by rw [hσ]⟩⟩⟩
      · obtain ⟨p, hp, rfl⟩ := List.mem_map.1 ht
        refine ⟨fun _ => rfl, .inl ?_⟩
        have := (c1 p hp).2
        simp only
        omega)
    (fun p hp => by
      rw [List.append_nil] at hp
      rcases List.mem_cons.1 hp with rfl | hp
      · exact ⟨t0, by simp, rfl⟩
      · exact ⟨(p.1, (p.2 + 1, .dead), none, []), List.mem_cons_of_mem _ (List.mem_map.2 ⟨p, hp, rfl⟩), rfl⟩)
    ⟨rfl, rfl, rfl⟩ (Nat.le_refl _) (fun _ _ _ => rfl) (fun b cs e fr hb => ⟨cs, hb, rfl⟩)
    (fun k hk => by
      have hin : k ∈ blk μ ((l, ver) :: ls) := by
        rw [hblk0]
        simp only [List.mem_cons, ks, List.mem_append] at hk
        rcases hk with rfl | hk | hk
        · exact .inl (.inl rfl)
        · exact .inl (.inr hk)
        · exact .inr hk
      obtain ⟨p, hp, hm⟩ := blk_mem hin
      exact ⟨(R.ownH p.1 k (hvex p hp).1 hm).1, .inl hin⟩)
    (by
      rw [List.nodup_cons]
      refine ⟨fun hm => ?_, hksn⟩
      rcases List.mem_append.1 hm with hm | hm
      · exact hkb hm
      · exact (hsepl b hm).1 rfl)
    hblkT
    (fun N' hN' hf t ht => by
      rcases List.mem_cons.1 ht with rfl | ht
      · obtain ⟨f1, f2, f3⟩ := hf t0 (by simp)
        let G' : Nat → Nat → Nat → Prop := fun i j k => (i = x ∧ Gx j k) ∨ (i ≠ x ∧ G i j k)
        have hrow : ∀ i, i < n → (row' i).length = sz := fun i hi => by
          by_cases ei : i = x
          · rw [ei, h1, hdl]
          · rw [h2 i hi ei]; exact k0 i hi fun h => ei ((hff i).1 h)
        refine .inr ⟨b, base, cs, e, f2, hb, hsz, ⟨fun i hi _ => hrow i hi, G', fun i j y hi _ hj => ?_, fun k => ?_, fun i j i' j' k g1 _ g3 g4 _ g6 g7 g8 => ?_⟩, by
            rw [f3]
            intro hm
            rcases List.mem_append.1 hm with hm | hm
            · exact hkb hm
            · exact (hsepl b hm).1 rfl, by rw [f3]; exact hksn, fun i cells hfc => by cases hfc⟩
        · by_cases ei : i = x
          · subst ei
            rw [h1] at hj
            have hjl : j < sz := by rw [← hdl]; exact (List.getElem?_eq_some_iff.1 hj).1
            obtain ⟨u, hu1, hu2⟩ := husv j hjl
            exact ⟨u, hu2, (c2 j y u hj hu1).eqv fun k => ⟨fun h => h.elim (fun h => h.2) fun h => (h.1 rfl).elim, fun h => .inl ⟨rfl, h⟩⟩⟩
          · rw [h2 i hi ei] at hj
            obtain ⟨u, hu, hd⟩ := k1 i j y hi (fun h => ei ((hff i).1 h)) hj
            exact ⟨u, hu, hd.eqv fun k => ⟨fun h => h.elim (fun h => (ei h.1).elim) fun h => h.2, fun h => .inr ⟨ei, h⟩⟩⟩
        · show k ∈ (placeT μ (t0 :: deadT ls)).k l ↔ _
          rw [f3]
          show k ∈ μ.k l ++ blk μ ls ↔ _
          rw [List.mem_append, k2, c3]
          constructor
          · rintro (⟨i, j, g1, g0, g2, g3⟩ | ⟨j, g1, g2⟩)
            · exact ⟨i, j, g1, hnf i, g2, .inr ⟨fun e => g0 ((hff i).2 e), g3⟩⟩
            · exact ⟨x, j, hx, hnf x, by omega, .inl ⟨rfl, g2⟩⟩
          · rintro ⟨i, j, g1, _, g2, ⟨rfl, g3⟩ | ⟨g3, g4⟩⟩
            · exact .inr ⟨j, by omega, g3⟩
            · exact .inl ⟨i, j, g1, fun h => g3 ((hff i).1 h), g2, g4⟩
        · rcases g7 with ⟨rfl, g7⟩ | ⟨n7, g7⟩ <;> rcases g8 with ⟨rfl, g8⟩ | ⟨n8, g8⟩
          · exact ⟨rfl, c4 j j' k (by omega) (by omega) g7 g8⟩
          · exact ((hsepl k ((c3 k).2 ⟨j, by omega, g7⟩)).2 ((k2 k).2 ⟨i', j', g4, fun h => n8 ((hff i').1 h), g6, g8⟩)).elim
          · exact ((hsepl k ((c3 k).2 ⟨j', by omega, g8⟩)).2 ((k2 k).2 ⟨i, j, g1, fun h => n7 ((hff i).1 h), g3, g7⟩)).elim
          · exact k3 i j i' j' k g1 (fun h => n7 ((hff i).1 h)) g3 g4 (fun h => n8 ((hff i').1 h)) g6 g7 g8
      · obtain ⟨p, hp, rfl⟩ := List.mem_map.1 ht
        trivial)
  refine ⟨placeT μ (t0 :: deadT ls), ?_⟩
  have eo : St.o ⟨σ.slots, ((l, ver, .nest sz n row' none) :: deadO ls) ++ σ.objs⟩ = putO σ.o (usOf (t0 :: deadT ls)) := by
    show lookO (_ ++ σ.objs) = _
    rw [lookO_app, hus']; rfl
  rw [eo]
  exact q3
end Go.Rk
/- A slice with no room, taken as a nest from here on. -/
namespace Go.Rk
set_option linter.unusedSimpArgs false
set_option linter.unusedVariables false
theorem cov_promN {fr : Bool} {nt : Nat} {σ τ : St} (k L ver sz : Nat) (row : Nat → List DV) (hx : bareB (lookS σ.slots k) = true) (hv : nblt (σ.o L).1 ver = true)
    (h : CovG fr nt ⟨(k, .c (.nown L 0 ver)) :: σ.slots, (L, ver, .nest sz 0 row none) :: σ.objs⟩ τ) : CovG fr nt σ τ := by
  refine cov_trans ?_ h
  rintro w0 S a w hfo ⟨μ, R⟩
  obtain ⟨st, R'⟩ := R.bare L ver (by simpa [nblt_eq] using hv) (.nest sz 0 row none) (.inr (.inr ⟨_, _, rfl⟩))
  have eo : St.o ⟨(k, .c (.nown L 0 ver)) :: σ.slots, (L, ver, .nest sz 0 row none) :: σ.objs⟩ = updO σ.o L (ver, .nest sz 0 row none) := lookO_upd
  refine ⟨updP μ L none, ?_⟩
  rw [eo]
  refine { R' with slots := slot_cons (tm := fun k => a.tmps.getD k undef) ?_ R'.slots }
  have hs : ∃ ad, a.tmps.getD k undef = .slice ad 0 0 := by
    have r := R.slots k
    revert hx r
    generalize lookS σ.slots k = x
    generalize a.tmps.getD k undef = u
    intro hx r
    unfold bareB at hx
    split at hx
    · exact r
    · cases r with
      | v _ _ => exact ⟨none, rfl⟩
    · cases hx
  obtain ⟨ad, hs⟩ := hs
  refine ⟨by rw [hs]; rfl, by simp, fun sz' n row' foc' e => ?_⟩
  simp at e
  obtain ⟨rfl, rfl, rfl, rfl⟩ := e
  exact ⟨rfl, .inl ⟨by simp, rfl, ad, hs⟩⟩
theorem cov_promCN {fr : Bool} {nt : Nat} {σ τ : St} (l L ver sz : Nat) (row : Nat → List DV) {v : Nat} (xs ys : List CV) (ho : lookO σ.objs l = (v, .box (xs ++ .d (.v nilS) :: ys))) (hne : nbeq L l = false) (hv : nblt (σ.o L).1 ver = true)
    (h : CovG fr nt ⟨σ.slots, (l, v, .box (xs ++ .nown L 0 ver :: ys)) :: (L, ver, .nest sz 0 row none) :: σ.objs⟩ τ) : CovG fr nt σ τ := by
  refine cov_trans ?_ h
  rintro w0 S a w hfo ⟨μ, R⟩
  have hne : L ≠ l := fun e => by subst e; simp at hne
  obtain ⟨st, R'⟩ := R.bare L ver (by simpa [nblt_eq] using hv) (.nest sz 0 row none) (.inr (.inr ⟨_, _, rfl⟩))
  have eo : St.o ⟨σ.slots, (l, v, .box (xs ++ .nown L 0 ver :: ys)) :: (L, ver, .nest sz 0 row none) :: σ.objs⟩ = updO (updO σ.o L (ver, .nest sz 0 row none)) l (v, .box (xs ++ .nown L 0 ver :: ys)) := by
    show lookO ((l, v, .box (xs ++ .nown L 0 ver :: ys)) :: (L, ver, .nest sz 0 row none) :: σ.objs) = _
    rw [lookO_upd, lookO_upd]; rfl
  refine ⟨updP μ L none, ?_⟩
  rw [eo]
  generalize hσ' : updO σ.o L (ver, .nest sz 0 row none) = σ' at R' st ⊢
  generalize hμ' : updP μ L none = μ' at R' st ⊢
  have hl : σ' l = (v, .box (xs ++ .d (.v nilS) :: ys)) := by rw [← hσ', updO_ne _ _ hne.symm]; exact ho
  have hL : σ' L = (ver, .nest sz 0 row none) := by rw [← hσ']; exact updO_same _ _ _
  have hlive : ∀ k, live (updO σ' l (v, .box (xs ++ .nown L 0 ver :: ys))) k → live σ' k := fun k hk => by
    by_cases e : k = l
    · subst e; unfold live; rw [hl]; exact HO.noConfusion
    · unfold live at hk ⊢; rwa [updO_ne _ _ e] at hk
  have hst : Step S σ' (updO σ' l (v, .box (xs ++ .nown L 0 ver :: ys))) μ' μ' w w := by
    refine ⟨Nat.le_refl _, fun b hb => ⟨rfl, hb.1, hb.2.1, fun k hk => hb.2.2 k (hlive k hk)⟩, fun k => ?_⟩
    right
    by_cases e : k = l
    · subst e
      rw [updO_same]
      exact ⟨by rw [hl], rfl, fun c _ => ⟨_, by rw [hl]⟩, fun sz n row hr => (nomatch hr), fun sz n row foc hr => (nomatch hr), fun b base cs e' hm hex hb => ⟨cs, hb, rfl⟩⟩
    · rw [updO_ne _ _ e]
      exact ⟨rfl, rfl, fun c hc => ⟨c, hc⟩, fun sz n row hr => ⟨n, row, hr, Nat.le_refl _⟩, fun sz n row foc hr => ⟨row, foc, hr⟩, fun b base cs' e' hm _ hb => ⟨cs', hb, rfl⟩⟩
  refine R'.carry hst ⟨rfl, rfl, rfl⟩ (fun _ _ _ => rfl) (fun b cs e fr hb => ⟨cs, hb, rfl⟩) (fun k b hk hm => R'.ownH k b (hlive k hk) hm) (fun k k' b hk hk' hm hm' => R'.injH k k' b (hlive k hk) (hlive k' hk') hm hm') (fun k hk hn => R'.kz k (hlive k hk) ?_) (fun k => ?_)
  · by_cases e : k = l
    · subst e; rw [hl]; rfl
    · rw [updO_ne _ _ e] at hn; exact hn
  by_cases e : k = l
  · right
    subst e
    rw [updO_same]
    have hr := R'.objs k
    rw [hl] at hr
    obtain ⟨b, cs, e, h1, h2, h3⟩ := hr
    refine ⟨b, cs, e, h1, h2, CsRep.mid (fun u hu => ?_) (h3.step hst)⟩
    have hu : DRep w _ (.v nilS) u := hu
    cases hu
    refine ⟨rfl, by rw [updO_ne _ _ hne, hL]; exact Nat.le_refl _, fun sz' n row' foc' e => ?_⟩
    rw [updO_ne _ _ hne, hL] at e
    cases e
    exact ⟨rfl, .inl ⟨by rw [← hμ']; exact updP_same _ _ _, rfl, _, rfl⟩⟩
  · left
    exact ⟨updO_ne _ _ e, rfl, rfl, fun _ _ _ => rfl⟩
end Go.Rk
/- Small helps for nests: how a row's cells close; rows of values. -/
namespace Go.Rk
set_option linter.unusedSimpArgs false
set_option linter.unusedVariables false
theorem close_end {so : Nat → Nat × HO} : closeOk so [] [] [] := trivial
theorem close_v {so : Nat → Nat × HO} {u : Value} {r : List CV} {s : List DV} {ls : List (Nat × Nat)} (h : closeOk so r s ls) : closeOk so (.d (.v u) :: r) (.v u :: s) ls := ⟨rfl, h⟩
theorem close_nil {so : Nat → Nat × HO} {sz : Nat} {rw : Nat → List DV} {r : List CV} {s : List DV} {ls : List (Nat × Nat)} (h : closeOk so r s ls) : closeOk so (.d (.v nilS) :: r) (.sl sz 0 rw :: s) ls := ⟨⟨rfl, rfl⟩, h⟩
theorem close_own {so : Nat → Nat × HO} {l v sz n : Nat} {rw rw' : Nat → List DV} {r : List CV} {s : List DV} {ls : List (Nat × Nat)} (ho : so l = (v, .arr sz n rw')) (he : ∀ i, i < n → rw' i = rw i) (hf : FlatR n rw) (h : closeOk so r s ls) :
    closeOk so (.own l 0 n v :: r) (.sl sz n rw :: s) ((l, v) :: ls) := by
  refine ⟨⟨rfl, rfl, rfl, ?_⟩, h⟩
  unfold ownAs
  rw [ho]
  exact ⟨rfl, rfl, rfl, he, hf⟩
def FlatL : List DV → Prop
  | [] => True
  | x :: r => (∃ u, x = .v u) ∧ FlatL r
theorem flatL {l : List DV} (h : FlatL l) : ∀ x, x ∈ l → ∃ u, x = .v u := by
  induction l with
  | nil => intro x hx; simp at hx
  | cons y r ih =>
    intro x hx
    rcases List.mem_cons.1 hx with rfl | hx
    · exact h.1
    · exact ih h.2 x hx
theorem flatR {n : Nat} {row : Nat → List DV} (h : ∀ i, FlatL (row i)) : FlatR n row := fun i _ => flatL (h i)
end Go.Rk
/- The types of this program, as the walk asks them. -/
namespace Go.Rk
set_option linter.unusedSimpArgs false
set_option linter.unusedVariables false
open Go.Proofs
def ti3 : TI := { desc := TypeDesc.int IntKind.i64, size := 1, bytes := 8, zero := [Value.int IntKind.i64 0], eqk := false }
def ti4 : TI := { desc := TypeDesc.bool, size := 1, bytes := 1, zero := [Value.bool false], eqk := false }
def ti5 : TI := { desc := TypeDesc.int IntKind.u8, size := 1, bytes := 1, zero := [Value.int IntKind.u8 0], eqk := false }
def ti23 : TI := { desc := TypeDesc.struct #[{ name := "Sources", type := 3, offset := 0, embedded := false, tag := "", pkgPath := "", byteOffset := 0 }, { name := "Tasks", type := 3, offset := 1, embedded := false, tag := "", pkgPath := "", byteOffset := 8 }, { name := "Kind", type := 3, offset := 2, embedded := false, tag := "", pkgPath := "", byteOffset := 16 }, { name := "Size", type := 3, offset := 3, embedded := false, tag := "", pkgPath := "", byteOffset := 24 }, { name := "Step", type := 3, offset := 4, embedded := false, tag := "", pkgPath := "", byteOffset := 32 }, { name := "Late", type := 3, offset := 5, embedded := false, tag := "", pkgPath := "", byteOffset := 40 }, { name := "Tell", type := 3, offset := 6, embedded := false, tag := "", pkgPath := "", byteOffset := 48 }, { name := "Piece", type := 4, offset := 7, embedded := false, tag := "", pkgPath := "", byteOffset := 56 }, { name := "Least", type := 3, offset := 8, embedded := false, tag := "", pkgPath := "", byteOffset := 64 }, { name := "Room", type := 3, offset := 9, embedded := false, tag := "", pkgPath := "", byteOffset := 72 }], size := 10, bytes := 80, zero := [Value.int IntKind.i64 0, Value.int IntKind.i64 0, Value.int IntKind.i64 0, Value.int IntKind.i64 0, Value.int IntKind.i64 0, Value.int IntKind.i64 0, Value.int IntKind.i64 0, Value.bool false, Value.int IntKind.i64 0, Value.int IntKind.i64 0], eqk := true }
def ti24 : TI := { desc := TypeDesc.slice 114, size := 1, bytes := 24, zero := [Value.slice none 0 0], eqk := false }
def ti26 : TI := { desc := TypeDesc.struct #[{ name := "Mark", type := 3, offset := 0, embedded := false, tag := "", pkgPath := "", byteOffset := 0 }, { name := "Rows", type := 24, offset := 1, embedded := false, tag := "", pkgPath := "", byteOffset := 8 }], size := 2, bytes := 32, zero := [Value.int IntKind.i64 0, Value.slice none 0 0], eqk := false }
def ti27 : TI := { desc := TypeDesc.slice 3, size := 1, bytes := 24, zero := [Value.slice none 0 0], eqk := false }
def ti29 : TI := { desc := TypeDesc.slice 75, size := 1, bytes := 24, zero := [Value.slice none 0 0], eqk := false }
def ti30 : TI := { desc := TypeDesc.slice 106, size := 1, bytes := 24, zero := [Value.slice none 0 0], eqk := false }
def ti32 : TI := { desc := TypeDesc.struct #[{ name := "Mark", type := 3, offset := 0, embedded := false, tag := "", pkgPath := "", byteOffset := 0 }, { name := "Rows", type := 30, offset := 1, embedded := false, tag := "", pkgPath := "", byteOffset := 8 }], size := 2, bytes := 32, zero := [Value.int IntKind.i64 0, Value.slice none 0 0], eqk := false }
def ti33 : TI := { desc := TypeDesc.slice 154, size := 1, bytes := 24, zero := [Value.slice none 0 0], eqk := false }
def ti34 : TI := { desc := TypeDesc.slice 159, size := 1, bytes := 24, zero := [Value.slice none 0 0], eqk := false }
def ti36 : TI := { desc := TypeDesc.struct #[{ name := "N", type := 3, offset := 0, embedded := false, tag := "", pkgPath := "", byteOffset := 0 }, { name := "Panes", type := 33, offset := 1, embedded := false, tag := "", pkgPath := "", byteOffset := 8 }, { name := "Lates", type := 34, offset := 2, embedded := false, tag := "", pkgPath := "", byteOffset := 32 }], size := 3, bytes := 56, zero := [Value.int IntKind.i64 0, Value.slice none 0 0, Value.slice none 0 0], eqk := false }
def ti38 : TI := { desc := TypeDesc.struct #[{ name := "Ins", type := 29, offset := 0, embedded := false, tag := "", pkgPath := "", byteOffset := 0 }, { name := "Op", type := 32, offset := 1, embedded := false, tag := "", pkgPath := "", byteOffset := 24 }, { name := "Wall", type := 3, offset := 3, embedded := false, tag := "", pkgPath := "", byteOffset := 56 }, { name := "Pend", type := 36, offset := 4, embedded := false, tag := "", pkgPath := "", byteOffset := 64 }], size := 7, bytes := 120, zero := [Value.slice none 0 0, Value.int IntKind.i64 0, Value.slice none 0 0, Value.int IntKind.i64 0, Value.int IntKind.i64 0, Value.slice none 0 0, Value.slice none 0 0], eqk := false }
def ti40 : TI := { desc := TypeDesc.struct #[{ name := "Sources", type := 3, offset := 0, embedded := false, tag := "", pkgPath := "", byteOffset := 0 }, { name := "Tasks", type := 3, offset := 1, embedded := false, tag := "", pkgPath := "", byteOffset := 8 }, { name := "Kind", type := 3, offset := 2, embedded := false, tag := "", pkgPath := "", byteOffset := 16 }, { name := "Size", type := 3, offset := 3, embedded := false, tag := "", pkgPath := "", byteOffset := 24 }, { name := "Step", type := 3, offset := 4, embedded := false, tag := "", pkgPath := "", byteOffset := 32 }, { name := "Late", type := 3, offset := 5, embedded := false, tag := "", pkgPath := "", byteOffset := 40 }, { name := "Tell", type := 3, offset := 6, embedded := false, tag := "", pkgPath := "", byteOffset := 48 }, { name := "Piece", type := 4, offset := 7, embedded := false, tag := "", pkgPath := "", byteOffset := 56 }, { name := "Least", type := 3, offset := 8, embedded := false, tag := "", pkgPath := "", byteOffset := 64 }, { name := "Room", type := 3, offset := 9, embedded := false, tag := "", pkgPath := "", byteOffset := 72 }], size := 10, bytes := 80, zero := [Value.int IntKind.i64 0, Value.int IntKind.i64 0, Value.int IntKind.i64 0, Value.int IntKind.i64 0, Value.int IntKind.i64 0, Value.int IntKind.i64 0, Value.int IntKind.i64 0, Value.bool false, Value.int IntKind.i64 0, Value.int IntKind.i64 0], eqk := true }
def ti51 : TI := { desc := TypeDesc.slice 5, size := 1, bytes := 24, zero := [Value.slice none 0 0], eqk := false }
def ti53 : TI := { desc := TypeDesc.slice 4, size := 1, bytes := 24, zero := [Value.slice none 0 0], eqk := false }
def ti54 : TI := { desc := TypeDesc.slice 90, size := 1, bytes := 24, zero := [Value.slice none 0 0], eqk := false }
def ti56 : TI := { desc := TypeDesc.struct #[{ name := "N", type := 3, offset := 0, embedded := false, tag := "", pkgPath := "", byteOffset := 0 }, { name := "At", type := 27, offset := 1, embedded := false, tag := "", pkgPath := "", byteOffset := 8 }, { name := "Snaps", type := 54, offset := 2, embedded := false, tag := "", pkgPath := "", byteOffset := 32 }], size := 3, bytes := 56, zero := [Value.int IntKind.i64 0, Value.slice none 0 0, Value.slice none 0 0], eqk := false }
def ti58 : TI := { desc := TypeDesc.struct #[{ name := "N", type := 3, offset := 0, embedded := false, tag := "", pkgPath := "", byteOffset := 0 }, { name := "Open", type := 4, offset := 1, embedded := false, tag := "", pkgPath := "", byteOffset := 8 }, { name := "Src", type := 27, offset := 2, embedded := false, tag := "", pkgPath := "", byteOffset := 16 }, { name := "Tsk", type := 53, offset := 3, embedded := false, tag := "", pkgPath := "", byteOffset := 40 }, { name := "Snaps", type := 54, offset := 4, embedded := false, tag := "", pkgPath := "", byteOffset := 64 }, { name := "Safe", type := 56, offset := 5, embedded := false, tag := "", pkgPath := "", byteOffset := 88 }], size := 8, bytes := 144, zero := [Value.int IntKind.i64 0, Value.bool false, Value.slice none 0 0, Value.slice none 0 0, Value.slice none 0 0, Value.int IntKind.i64 0, Value.slice none 0 0, Value.slice none 0 0], eqk := false }
def ti73 : TI := { desc := TypeDesc.slice 157, size := 1, bytes := 24, zero := [Value.slice none 0 0], eqk := false }
def ti75 : TI := { desc := TypeDesc.struct #[{ name := "Queue", type := 73, offset := 0, embedded := false, tag := "", pkgPath := "", byteOffset := 0 }, { name := "Mark", type := 3, offset := 1, embedded := false, tag := "", pkgPath := "", byteOffset := 24 }, { name := "Held", type := 4, offset := 2, embedded := false, tag := "", pkgPath := "", byteOffset := 32 }], size := 3, bytes := 40, zero := [Value.slice none 0 0, Value.int IntKind.i64 0, Value.bool false], eqk := false }
def ti90 : TI := { desc := TypeDesc.struct #[{ name := "Op", type := 32, offset := 0, embedded := false, tag := "", pkgPath := "", byteOffset := 0 }, { name := "Marks", type := 27, offset := 2, embedded := false, tag := "", pkgPath := "", byteOffset := 32 }], size := 3, bytes := 56, zero := [Value.int IntKind.i64 0, Value.slice none 0 0, Value.slice none 0 0], eqk := false }
def ti96 : TI := { desc := TypeDesc.struct #[{ name := "Start", type := 3, offset := 0, embedded := false, tag := "", pkgPath := "", byteOffset := 0 }, { name := "End", type := 3, offset := 1, embedded := false, tag := "", pkgPath := "", byteOffset := 8 }], size := 2, bytes := 16, zero := [Value.int IntKind.i64 0, Value.int IntKind.i64 0], eqk := true }
def ti104 : TI := { desc := TypeDesc.struct #[{ name := "N", type := 3, offset := 0, embedded := false, tag := "", pkgPath := "", byteOffset := 0 }, { name := "Sum", type := 3, offset := 1, embedded := false, tag := "", pkgPath := "", byteOffset := 8 }, { name := "Least", type := 3, offset := 2, embedded := false, tag := "", pkgPath := "", byteOffset := 16 }, { name := "Most", type := 3, offset := 3, embedded := false, tag := "", pkgPath := "", byteOffset := 24 }], size := 4, bytes := 32, zero := [Value.int IntKind.i64 0, Value.int IntKind.i64 0, Value.int IntKind.i64 0, Value.int IntKind.i64 0], eqk := true }
def ti106 : TI := { desc := TypeDesc.struct #[{ name := "Key", type := 3, offset := 0, embedded := false, tag := "", pkgPath := "", byteOffset := 0 }, { name := "Win", type := 96, offset := 1, embedded := false, tag := "", pkgPath := "", byteOffset := 8 }, { name := "All", type := 104, offset := 3, embedded := false, tag := "", pkgPath := "", byteOffset := 24 }, { name := "Fresh", type := 104, offset := 7, embedded := false, tag := "", pkgPath := "", byteOffset := 56 }, { name := "Told", type := 3, offset := 11, embedded := false, tag := "", pkgPath := "", byteOffset := 88 }, { name := "Timely", type := 4, offset := 12, embedded := false, tag := "", pkgPath := "", byteOffset := 96 }], size := 13, bytes := 104, zero := [Value.int IntKind.i64 0, Value.int IntKind.i64 0, Value.int IntKind.i64 0, Value.int IntKind.i64 0, Value.int IntKind.i64 0, Value.int IntKind.i64 0, Value.int IntKind.i64 0, Value.int IntKind.i64 0, Value.int IntKind.i64 0, Value.int IntKind.i64 0, Value.int IntKind.i64 0, Value.int IntKind.i64 0, Value.bool false], eqk := true }
def ti111 : TI := { desc := TypeDesc.struct #[{ name := "Start", type := 3, offset := 0, embedded := false, tag := "", pkgPath := "", byteOffset := 0 }, { name := "End", type := 3, offset := 1, embedded := false, tag := "", pkgPath := "", byteOffset := 8 }], size := 2, bytes := 16, zero := [Value.int IntKind.i64 0, Value.int IntKind.i64 0], eqk := true }
def ti112 : TI := { desc := TypeDesc.struct #[{ name := "N", type := 3, offset := 0, embedded := false, tag := "", pkgPath := "", byteOffset := 0 }, { name := "Sum", type := 3, offset := 1, embedded := false, tag := "", pkgPath := "", byteOffset := 8 }, { name := "Least", type := 3, offset := 2, embedded := false, tag := "", pkgPath := "", byteOffset := 16 }, { name := "Most", type := 3, offset := 3, embedded := false, tag := "", pkgPath := "", byteOffset := 24 }], size := 4, bytes := 32, zero := [Value.int IntKind.i64 0, Value.int IntKind.i64 0, Value.int IntKind.i64 0, Value.int IntKind.i64 0], eqk := true }
def ti114 : TI := { desc := TypeDesc.struct #[{ name := "Key", type := 3, offset := 0, embedded := false, tag := "", pkgPath := "", byteOffset := 0 }, { name := "Win", type := 111, offset := 1, embedded := false, tag := "", pkgPath := "", byteOffset := 8 }, { name := "All", type := 112, offset := 3, embedded := false, tag := "", pkgPath := "", byteOffset := 24 }, { name := "Fresh", type := 112, offset := 7, embedded := false, tag := "", pkgPath := "", byteOffset := 56 }, { name := "Told", type := 3, offset := 11, embedded := false, tag := "", pkgPath := "", byteOffset := 88 }, { name := "Timely", type := 4, offset := 12, embedded := false, tag := "", pkgPath := "", byteOffset := 96 }], size := 13, bytes := 104, zero := [Value.int IntKind.i64 0, Value.int IntKind.i64 0, Value.int IntKind.i64 0, Value.int IntKind.i64 0, Value.int IntKind.i64 0, Value.int IntKind.i64 0, Value.int IntKind.i64 0, Value.int IntKind.i64 0, Value.int IntKind.i64 0, Value.int IntKind.i64 0, Value.int IntKind.i64 0, Value.int IntKind.i64 0, Value.bool false], eqk := true }
def ti132 : TI := { desc := TypeDesc.struct #[{ name := "b", type := 51, offset := 0, embedded := false, tag := "", pkgPath := "loop.example/freshet/spec", byteOffset := 0 }, { name := "p", type := 3, offset := 1, embedded := false, tag := "", pkgPath := "loop.example/freshet/spec", byteOffset := 24 }], size := 2, bytes := 32, zero := [Value.slice none 0 0, Value.int IntKind.i64 0], eqk := false }
def ti154 : TI := { desc := TypeDesc.struct #[{ name := "Key", type := 3, offset := 0, embedded := false, tag := "", pkgPath := "", byteOffset := 0 }, { name := "Win", type := 96, offset := 1, embedded := false, tag := "", pkgPath := "", byteOffset := 8 }, { name := "No", type := 3, offset := 3, embedded := false, tag := "", pkgPath := "", byteOffset := 24 }, { name := "Kind", type := 3, offset := 4, embedded := false, tag := "", pkgPath := "", byteOffset := 32 }, { name := "Agg", type := 104, offset := 5, embedded := false, tag := "", pkgPath := "", byteOffset := 40 }], size := 9, bytes := 72, zero := [Value.int IntKind.i64 0, Value.int IntKind.i64 0, Value.int IntKind.i64 0, Value.int IntKind.i64 0, Value.int IntKind.i64 0, Value.int IntKind.i64 0, Value.int IntKind.i64 0, Value.int IntKind.i64 0, Value.int IntKind.i64 0], eqk := true }
def ti157 : TI := { desc := TypeDesc.struct #[{ name := "Kind", type := 3, offset := 0, embedded := false, tag := "", pkgPath := "", byteOffset := 0 }, { name := "T", type := 3, offset := 1, embedded := false, tag := "", pkgPath := "", byteOffset := 8 }, { name := "Key", type := 3, offset := 2, embedded := false, tag := "", pkgPath := "", byteOffset := 16 }, { name := "V", type := 3, offset := 3, embedded := false, tag := "", pkgPath := "", byteOffset := 24 }, { name := "N", type := 3, offset := 4, embedded := false, tag := "", pkgPath := "", byteOffset := 32 }], size := 5, bytes := 40, zero := [Value.int IntKind.i64 0, Value.int IntKind.i64 0, Value.int IntKind.i64 0, Value.int IntKind.i64 0, Value.int IntKind.i64 0], eqk := true }
def ti159 : TI := { desc := TypeDesc.struct #[{ name := "Rec", type := 157, offset := 0, embedded := false, tag := "", pkgPath := "", byteOffset := 0 }, { name := "Win", type := 96, offset := 5, embedded := false, tag := "", pkgPath := "", byteOffset := 40 }], size := 7, bytes := 56, zero := [Value.int IntKind.i64 0, Value.int IntKind.i64 0, Value.int IntKind.i64 0, Value.int IntKind.i64 0, Value.int IntKind.i64 0, Value.int IntKind.i64 0, Value.int IntKind.i64 0], eqk := true }
def ti161 : TI := { desc := TypeDesc.int IntKind.u64, size := 1, bytes := 8, zero := [Value.int IntKind.u64 0], eqk := false }
def tab : List (Nat × TI) := [(3, ti3), (4, ti4), (5, ti5), (23, ti23), (24, ti24), (26, ti26), (27, ti27), (29, ti29), (30, ti30), (32, ti32), (33, ti33), (34, ti34), (36, ti36), (38, ti38), (40, ti40), (51, ti51), (53, ti53), (54, ti54), (56, ti56), (58, ti58), (73, ti73), (75, ti75), (90, ti90), (96, ti96), (104, ti104), (106, ti106), (111, ti111), (112, ti112), (114, ti114), (132, ti132), (154, ti154), (157, ti157), (159, ti159), (161, ti161)]
theorem row3 : TRow Try.prog 3 ti3 := ⟨Try.underlying3, ⟨Try.t3, Value.int IntKind.i64 0, by kernel_rfl, rfl, rfl, rfl, rfl, rfl, rfl⟩, fun h => by cases h⟩
theorem row4 : TRow Try.prog 4 ti4 := ⟨Try.underlying4, ⟨Try.t4, Value.bool false, by kernel_rfl, rfl, rfl, rfl, rfl, rfl, rfl⟩, fun h => by cases h⟩
theorem row5 : TRow Try.prog 5 ti5 := ⟨Try.underlying5, ⟨Try.t5, Value.int IntKind.u8 0, by kernel_rfl, rfl, rfl, rfl, rfl, rfl, rfl⟩, fun h => by cases h⟩
theorem row23 : TRow Try.prog 23 ti23 := ⟨Try.underlying23, ⟨Try.t23, Value.agg #[Value.int IntKind.i64 0, Value.int IntKind.i64 0, Value.int IntKind.i64 0, Value.int IntKind.i64 0, Value.int IntKind.i64 0, Value.int IntKind.i64 0, Value.int IntKind.i64 0, Value.bool false, Value.int IntKind.i64 0, Value.int IntKind.i64 0], by kernel_rfl, rfl, rfl, rfl, rfl, rfl, rfl⟩, fun _ => ⟨Try.stoodInHeld23, Try.eqGuardType23⟩⟩
theorem row24 : TRow Try.prog 24 ti24 := ⟨Try.underlying24, ⟨Try.t24, Value.slice none 0 0, by kernel_rfl, rfl, rfl, rfl, rfl, rfl, rfl⟩, fun h => by cases h⟩
theorem row26 : TRow Try.prog 26 ti26 := ⟨Try.underlying26, ⟨Try.t26, Value.agg #[Value.int IntKind.i64 0, Value.slice none 0 0], by kernel_rfl, rfl, rfl, rfl, rfl, rfl, rfl⟩, fun h => by cases h⟩
theorem row27 : TRow Try.prog 27 ti27 := ⟨Try.underlying27, ⟨Try.t27, Value.slice none 0 0, by kernel_rfl, rfl, rfl, rfl, rfl, rfl, rfl⟩, fun h => by cases h⟩
theorem row29 : TRow Try.prog 29 ti29 := ⟨Try.underlying29, ⟨Try.t29, Value.slice none 0 0, by kernel_rfl, rfl, rfl, rfl, rfl, rfl, rfl⟩, fun h => by cases h⟩
theorem row30 : TRow Try.prog 30 ti30 := ⟨Try.underlying30, ⟨Try.t30, Value.slice none 0 0, by kernel_rfl, rfl, rfl, rfl, rfl, rfl, rfl⟩, fun h => by cases h⟩
theorem row32 : TRow Try.prog 32 ti32 := ⟨Try.underlying32, ⟨Try.t32, Value.agg #[Value.int IntKind.i64 0, Value.slice none 0 0], by kernel_rfl, rfl, rfl, rfl, rfl, rfl, rfl⟩, fun h => by cases h⟩
theorem row33 : TRow Try.prog 33 ti33 := ⟨Try.underlying33, ⟨Try.t33, Value.slice none 0 0, by kernel_rfl, rfl, rfl, rfl, rfl, rfl, rfl⟩, fun h => by cases h⟩
theorem row34 : TRow Try.prog 34 ti34 := ⟨Try.underlying34, ⟨Try.t34, Value.slice none 0 0, by kernel_rfl, rfl, rfl, rfl, rfl, rfl, rfl⟩, fun h => by cases h⟩
theorem row36 : TRow Try.prog 36 ti36 := ⟨Try.underlying36, ⟨Try.t36, Value.agg #[Value.int IntKind.i64 0, Value.slice none 0 0, Value.slice none 0 0], by kernel_rfl, rfl, rfl, rfl, rfl, rfl, rfl⟩, fun h => by cases h⟩
theorem row38 : TRow Try.prog 38 ti38 := ⟨Try.underlying38, ⟨Try.t38, Value.agg #[Value.slice none 0 0, Value.int IntKind.i64 0, Value.slice none 0 0, Value.int IntKind.i64 0, Value.int IntKind.i64 0, Value.slice none 0 0, Value.slice none 0 0], by kernel_rfl, rfl, rfl, rfl, rfl, rfl, rfl⟩, fun h => by cases h⟩
theorem row40 : TRow Try.prog 40 ti40 := ⟨Try.underlying40, ⟨Try.t40, Value.agg #[Value.int IntKind.i64 0, Value.int IntKind.i64 0, Value.int IntKind.i64 0, Value.int IntKind.i64 0, Value.int IntKind.i64 0, Value.int IntKind.i64 0, Value.int IntKind.i64 0, Value.bool false, Value.int IntKind.i64 0, Value.int IntKind.i64 0], by kernel_rfl, rfl, rfl, rfl, rfl, rfl, rfl⟩, fun _ => ⟨Try.stoodInHeld40, Try.eqGuardType40⟩⟩
theorem row51 : TRow Try.prog 51 ti51 := ⟨Try.underlying51, ⟨Try.t51, Value.slice none 0 0, by kernel_rfl, rfl, rfl, rfl, rfl, rfl, rfl⟩, fun h => by cases h⟩
theorem row53 : TRow Try.prog 53 ti53 := ⟨Try.underlying53, ⟨Try.t53, Value.slice none 0 0, by kernel_rfl, rfl, rfl, rfl, rfl, rfl, rfl⟩, fun h => by cases h⟩
theorem row54 : TRow Try.prog 54 ti54 := ⟨Try.underlying54, ⟨Try.t54, Value.slice none 0 0, by kernel_rfl, rfl, rfl, rfl, rfl, rfl, rfl⟩, fun h => by cases h⟩
theorem row56 : TRow Try.prog 56 ti56 := ⟨Try.underlying56, ⟨Try.t56, Value.agg #[Value.int IntKind.i64 0, Value.slice none 0 0, Value.slice none 0 0], by kernel_rfl, rfl, rfl, rfl, rfl, rfl, rfl⟩, fun h => by cases h⟩
theorem row58 : TRow Try.prog 58 ti58 := ⟨Try.underlying58, ⟨Try.t58, Value.agg #[Value.int IntKind.i64 0, Value.bool false, Value.slice none 0 0, Value.slice none 0 0, Value.slice none 0 0, Value.int IntKind.i64 0, Value.slice none 0 0, Value.slice none 0 0], by kernel_rfl, rfl, rfl, rfl, rfl, rfl, rfl⟩, fun h => by cases h⟩
theorem row73 : TRow Try.prog 73 ti73 := ⟨Try.underlying73, ⟨Try.t73, Value.slice none 0 0, by kernel_rfl, rfl, rfl, rfl, rfl, rfl, rfl⟩, fun h => by cases h⟩
theorem row75 : TRow Try.prog 75 ti75 := ⟨Try.underlying75, ⟨Try.t75, Value.agg #[Value.slice none 0 0, Value.int IntKind.i64 0, Value.bool false], by kernel_rfl, rfl, rfl, rfl, rfl, rfl, rfl⟩, fun h => by cases h⟩
theorem row90 : TRow Try.prog 90 ti90 := ⟨Try.underlying90, ⟨Try.t90, Value.agg #[Value.int IntKind.i64 0, Value.slice none 0 0, Value.slice none 0 0], by kernel_rfl, rfl, rfl, rfl, rfl, rfl, rfl⟩, fun h => by cases h⟩
theorem row96 : TRow Try.prog 96 ti96 := ⟨Try.underlying96, ⟨Try.t96, Value.agg #[Value.int IntKind.i64 0, Value.int IntKind.i64 0], by kernel_rfl, rfl, rfl, rfl, rfl, rfl, rfl⟩, fun _ => ⟨Try.stoodInHeld96, Try.eqGuardType96⟩⟩
theorem row104 : TRow Try.prog 104 ti104 := ⟨Try.underlying104, ⟨Try.t104, Value.agg #[Value.int IntKind.i64 0, Value.int IntKind.i64 0, Value.int IntKind.i64 0, Value.int IntKind.i64 0], by kernel_rfl, rfl, rfl, rfl, rfl, rfl, rfl⟩, fun _ => ⟨Try.stoodInHeld104, Try.eqGuardType104⟩⟩
theorem row106 : TRow Try.prog 106 ti106 := ⟨Try.underlying106, ⟨Try.t106, Value.agg #[Value.int IntKind.i64 0, Value.int IntKind.i64 0, Value.int IntKind.i64 0, Value.int IntKind.i64 0, Value.int IntKind.i64 0, Value.int IntKind.i64 0, Value.int IntKind.i64 0, Value.int IntKind.i64 0, Value.int IntKind.i64 0, Value.int IntKind.i64 0, Value.int IntKind.i64 0, Value.int IntKind.i64 0, Value.bool false], by kernel_rfl, rfl, rfl, rfl, rfl, rfl, rfl⟩, fun _ => ⟨Try.stoodInHeld106, Try.eqGuardType106⟩⟩
theorem row111 : TRow Try.prog 111 ti111 := ⟨Try.underlying111, ⟨Try.t111, Value.agg #[Value.int IntKind.i64 0, Value.int IntKind.i64 0], by kernel_rfl, rfl, rfl, rfl, rfl, rfl, rfl⟩, fun _ => ⟨Try.stoodInHeld111, Try.eqGuardType111⟩⟩
theorem row112 : TRow Try.prog 112 ti112 := ⟨Try.underlying112, ⟨Try.t112, Value.agg #[Value.int IntKind.i64 0, Value.int IntKind.i64 0, Value.int IntKind.i64 0, Value.int IntKind.i64 0], by kernel_rfl, rfl, rfl, rfl, rfl, rfl, rfl⟩, fun _ => ⟨Try.stoodInHeld112, Try.eqGuardType112⟩⟩
theorem row114 : TRow Try.prog 114 ti114 := ⟨Try.underlying114, ⟨Try.t114, Value.agg #[Value.int IntKind.i64 0, Value.int IntKind.i64 0, Value.int IntKind.i64 0, Value.int IntKind.i64 0, Value.int IntKind.i64 0, Value.int IntKind.i64 0, Value.int IntKind.i64 0, Value.int IntKind.i64 0, Value.int IntKind.i64 0, Value.int IntKind.i64 0, Value.int IntKind.i64 0, Value.int IntKind.i64 0, Value.bool false], by kernel_rfl, rfl, rfl, rfl, rfl, rfl, rfl⟩, fun _ => ⟨Try.stoodInHeld114, Try.eqGuardType114⟩⟩
theorem row132 : TRow Try.prog 132 ti132 := ⟨Try.underlying132, ⟨Try.t132, Value.agg #[Value.slice none 0 0, Value.int IntKind.i64 0], by kernel_rfl, rfl, rfl, rfl, rfl, rfl, rfl⟩, fun h => by cases h⟩
theorem row154 : TRow Try.prog 154 ti154 := ⟨Try.underlying154, ⟨Try.t154, Value.agg #[Value.int IntKind.i64 0, Value.int IntKind.i64 0, Value.int IntKind.i64 0, Value.int IntKind.i64 0, Value.int IntKind.i64 0, Value.int IntKind.i64 0, Value.int IntKind.i64 0, Value.int IntKind.i64 0, Value.int IntKind.i64 0], by kernel_rfl, rfl, rfl, rfl, rfl, rfl, rfl⟩, fun _ => ⟨Try.stoodInHeld154, Try.eqGuardType154⟩⟩
theorem row157 : TRow Try.prog 157 ti157 := ⟨Try.underlying157, ⟨Try.t157, Value.agg #[Value.int IntKind.i64 0, Value.int IntKind.i64 0, Value.int IntKind.i64 0, Value.int IntKind.i64 0, Value.int IntKind.i64 0], by kernel_rfl, rfl, rfl, rfl, rfl, rfl, rfl⟩, fun _ => ⟨Try.stoodInHeld157, Try.eqGuardType157⟩⟩
theorem row159 : TRow Try.prog 159 ti159 := ⟨Try.underlying159, ⟨Try.t159, Value.agg #[Value.int IntKind.i64 0, Value.int IntKind.i64 0, Value.int IntKind.i64 0, Value.int IntKind.i64 0, Value.int IntKind.i64 0, Value.int IntKind.i64 0, Value.int IntKind.i64 0], by kernel_rfl, rfl, rfl, rfl, rfl, rfl, rfl⟩, fun _ => ⟨Try.stoodInHeld159, Try.eqGuardType159⟩⟩
theorem row161 : TRow Try.prog 161 ti161 := ⟨Try.underlying161, ⟨Try.t161, Value.int IntKind.u64 0, by kernel_rfl, rfl, rfl, rfl, rfl, rfl, rfl⟩, fun h => by cases h⟩
theorem rows : TRows Try.prog tab := ⟨row3, row4, row5, row23, row24, row26, row27, row29, row30, row32, row33, row34, row36, row38, row40, row51, row53, row54, row56, row58, row73, row75, row90, row96, row104, row106, row111, row112, row114, row132, row154, row157, row159, row161, trivial⟩
abbrev TT : TypeId → Option TI := tabT tab
theorem ttok : TTok Try.prog TT := ttok_of rows (by decide +kernel)
end Go.Rk
/- The data of this program, by shapes. -/
namespace Go.Rk
set_option linter.unusedSimpArgs false
set_option linter.unusedVariables false
abbrev eI (n : Int) : DV := .v (.int .i64 n)
abbrev eB (n : Bool) : DV := .v (.bool n)
def xd (l : List DV) : XT := .agg (l.map .d)
/-- Rows. -/
structure Sl (α : Type) where
  n : Nat
  g : Nat → α
  hn : n ≤ maxLen
structure JobT where
  srcs : Int
  tsks : Int
  kind : Int
  size : Int
  step : Int
  late : Int
  tell : Int
  piece : Bool
  least : Int
  room : Int
structure ItmT where
  kind : Int
  t : Int
  key : Int
  v : Int
  n : Int
structure WinT where
  s : Int
  e : Int
structure AggT where
  n : Int
  sum : Int
  least : Int
  most : Int
structure RowT where
  key : Int
  win : WinT
  all : AggT
  fresh : AggT
  told : Int
  timely : Bool
structure OpStT where
  mark : Int
  rows : Sl RowT
structure PaneT where
  key : Int
  win : WinT
  no : Int
  kind : Int
  agg : AggT
structure LatT where
  itm : ItmT
  win : WinT
structure TabT where
  key : Int
  win : WinT
  agg : AggT
structure TskInT where
  queue : Sl ItmT
  mark : Int
  held : Bool
structure TxnT where
  n : Int
  panes : Sl PaneT
  lates : Sl LatT
structure TskT where
  ins : Sl TskInT
  op : OpStT
  wall : Int
  pend : TxnT
structure SnapT where
  op : OpStT
  marks : Sl Int
structure SafeT where
  n : Int
  at_ : Sl Int
  snaps : Sl SnapT
structure CkpT where
  n : Int
  opn : Bool
  src : Sl Int
  tsk : Sl Bool
  snaps : Sl SnapT
  safe : SafeT
structure SrcT where
  at_ : Int
  wall : Int
structure SinkT where
  ready : Sl TxnT
  n : Int
  panes : Sl PaneT
  lates : Sl LatT
structure FloT where
  job : JobT
  logs : Sl (Sl ItmT)
  srcs : Sl SrcT
  tasks : Sl TskT
  sinks : Sl SinkT
  ckp : CkpT
def eJob (x : JobT) : List DV := [eI x.srcs, eI x.tsks, eI x.kind, eI x.size, eI x.step, eI x.late, eI x.tell, eB x.piece, eI x.least, eI x.room]
def eRow (x : RowT) : List DV := [eI x.key, eI x.win.s, eI x.win.e, eI x.all.n, eI x.all.sum, eI x.all.least, eI x.all.most, eI x.fresh.n, eI x.fresh.sum, eI x.fresh.least, eI x.fresh.most, eI x.told, eB x.timely]
def eOpSt (x : OpStT) : List DV := [eI x.mark, (.sl 13 x.rows.n fun i => eRow (x.rows.g i))]
def bdOpSt (x : OpStT) : Prop := x.rows.n ≤ 1048576
def eSnap (x : SnapT) : List DV := [eI x.op.mark, (.sl 13 x.op.rows.n fun i => eRow (x.op.rows.g i)), (.sl 1 x.marks.n fun i => [eI (x.marks.g i)])]
def bdSnap (x : SnapT) : Prop := bdOpSt x.op ∧ x.marks.n ≤ 1048576
def eSafe (x : SafeT) : List DV := [eI x.n, (.sl 1 x.at_.n fun i => [eI (x.at_.g i)]), (.sl 3 x.snaps.n fun i => eSnap (x.snaps.g i))]
def bdSafe (x : SafeT) : Prop := x.at_.n ≤ 1048576 ∧ x.snaps.n ≤ 1048576 ∧ (∀ i, i < x.snaps.n → bdSnap (x.snaps.g i))
def eCkp (x : CkpT) : List DV := [eI x.n, eB x.opn, (.sl 1 x.src.n fun i => [eI (x.src.g i)]), (.sl 1 x.tsk.n fun i => [eB (x.tsk.g i)]), (.sl 3 x.snaps.n fun i => eSnap (x.snaps.g i)), eI x.safe.n, (.sl 1 x.safe.at_.n fun i => [eI (x.safe.at_.g i)]), (.sl 3 x.safe.snaps.n fun i => eSnap (x.safe.snaps.g i))]
def bdCkp (x : CkpT) : Prop := x.src.n ≤ 1048576 ∧ x.tsk.n ≤ 1048576 ∧ x.snaps.n ≤ 1048576 ∧ (∀ i, i < x.snaps.n → bdSnap (x.snaps.g i)) ∧ bdSafe x.safe
end Go.Rk
/- What the program's small functions say, in words of numbers; sizes. -/
namespace Go.Rk
set_option linter.unusedSimpArgs false
set_option linter.unusedVariables false
theorem cut_of {A : Ar} (hA : real = A) {a b : Int} {n : Nat} (h : 0 ≤ a ∧ a ≤ b ∧ b ≤ n) : A.cut a b n := by subst hA; exact h
/-- The first rows of a slice. -/
theorem sl0 {A : Ar} (hA : real = A) (sz i : Nat) (f : Nat → List DV) : DV.sl sz (A.dif (Int.ofNat i) 0) (A.sub (A.nat 0) f) = .sl sz i f := by
  subst hA
  have e : (fun j => f (0 + j)) = f := by funext j; rw [Nat.zero_add]
  show DV.sl sz ((Int.ofNat i - 0).toNat) (fun j => f ((0 : Int).toNat + j)) = _
  simp only [Int.sub_zero]
  exact congrArg (DV.sl sz i) e
theorem bifA (b x : Bool) : (bif b then x else false) = (b && x) := by cases b <;> rfl
theorem bifB (b x : Bool) : (bif b then true else x) = (b || x) := by cases b <;> rfl
theorem bifC (b x : Bool) : (bif b then false else x) = (!b && x) := by cases b <;> rfl
theorem bifD (b x : Bool) : (bif b then x else true) = (!b || x) := by cases b <;> rfl
/-- The first place, or -1. -/
inductive FirstIx (n : Nat) (p : Nat → Prop) : Int → Prop
  | at (i : Nat) (h : i < n) (hi : p i) (hb : ∀ j, j < i → ¬ p j) : FirstIx n p i
  | none (hb : ∀ j, j < n → ¬ p j) : FirstIx n p (-1)
theorem firstIx_ex (n : Nat) (p : Nat → Prop) : ∃ x, FirstIx n p x := by
  by_cases h : ∃ i, i < n ∧ p i
  · obtain ⟨i, hi⟩ := h
    induction i using Nat.strongRecOn with
    | _ i ih =>
      by_cases hm : ∃ j, j < i ∧ p j
      · obtain ⟨j, hj1, hj2⟩ := hm
        exact ih j hj1 ⟨by omega, hj2⟩
      · exact ⟨_, .at i hi.1 hi.2 fun j hj e => hm ⟨j, hj, e⟩⟩
  · exact ⟨-1, .none fun j hj e => h ⟨j, hj, e⟩⟩
theorem firstIx_one {n : Nat} {p : Nat → Prop} {x y : Int} (h : FirstIx n p x) (h' : FirstIx n p y) : x = y := by
  cases h with
  | «at» i hi hh hb =>
    cases h' with
    | «at» j hj hh' hb' =>
      have : i = j := by
        rcases Nat.lt_trichotomy i j with h | h | h
        · exact absurd hh (hb' i h)
        · exact h
        · exact absurd hh' (hb j h)
      rw [this]
    | none hb' => exact absurd hh (hb' i hi)
  | none hb =>
    cases h' with
    | «at» j hj hh' hb' => exact absurd hh' (hb j hj)
    | none hb' => rfl
theorem firstIx_neg {n : Nat} {p : Nat → Prop} {x : Int} (h : FirstIx n p x) : (0 ≤ x ↔ ∃ i, i < n ∧ p i) ∧ (0 ≤ x → ∃ i, i < n ∧ x = (i : Int) ∧ p i ∧ ∀ j, j < i → ¬ p j) ∧ (¬ 0 ≤ x → x = -1) := by
  cases h with
  | «at» i hi hh hb => exact ⟨⟨fun _ => ⟨i, hi, hh⟩, fun _ => by omega⟩, fun _ => ⟨i, hi, rfl, hh, hb⟩, fun h => absurd (by omega) h⟩
  | none hb => exact ⟨⟨fun h => by omega, fun ⟨i, hi, hp⟩ => absurd hp (hb i hi)⟩, fun h => by omega, fun _ => rfl⟩
def WinOkP (w : WinT) : Prop := (0 ≤ w.s ∧ w.s ≤ 60) ∧ IntKind.i64.wrap (w.s + 1) ≤ w.e ∧ w.e ≤ 120
def AggOkP (a : AggT) : Prop := (a.n = 0 ∧ a.sum = 0 ∧ a.least = 0 ∧ a.most = 0) ∨
  (a.n ≠ 0 ∧ (1 ≤ a.n ∧ a.n ≤ 1000) ∧ (-9 ≤ a.least ∧ a.least ≤ 9) ∧ (a.least ≤ a.most ∧ a.most ≤ 9) ∧ (IntKind.i64.wrap (a.n * a.least) ≤ a.sum ∧ a.sum ≤ IntKind.i64.wrap (a.n * a.most)))
def JobOkP (j : JobT) : Prop := (1 ≤ j.srcs ∧ j.srcs ≤ 3) ∧ (1 ≤ j.tsks ∧ j.tsks ≤ 2) ∧ (1 ≤ j.kind ∧ j.kind ≤ 3) ∧ (1 ≤ j.size ∧ j.size ≤ 20) ∧
  ((j.kind = 2 ∧ (1 ≤ j.step ∧ j.step ≤ j.size) ∧ j.size ≤ 4 * j.step) ∨ (j.kind ≠ 2 ∧ j.step = 0)) ∧
  (0 ≤ j.late ∧ j.late ≤ 20) ∧ (1 ≤ j.tell ∧ j.tell ≤ 4) ∧ (-9 ≤ j.least ∧ j.least ≤ 9) ∧ (1 ≤ j.room ∧ j.room ≤ 4)
def TouchP (a b : WinT) : Prop := a.s < b.e ∧ b.s < a.e
def WinLt (a b : WinT) : Prop := a.s < b.s ∨ (a.s = b.s ∧ a.e < b.e)
def AheadP (ak : Int) (aw : WinT) (bk : Int) (bw : WinT) : Prop := ak < bk ∨ (ak = bk ∧ WinLt aw bw)
def RowOkP (j : JobT) (r : RowT) (mark : Int) : Prop := (0 ≤ r.key ∧ r.key ≤ 3) ∧ WinOkP r.win ∧ AggOkP r.all ∧ AggOkP r.fresh ∧ r.all.n ≠ 0 ∧ r.fresh.n ≤ r.all.n ∧ (0 ≤ r.told ∧ r.told ≤ 1500) ∧
  mark < IntKind.i64.wrap (r.win.e + j.late) ∧ (r.timely = true ↔ r.win.e ≤ mark) ∧ (0 < r.told ↔ r.win.e ≤ mark) ∧ (r.fresh.n = 0 ↔ r.win.e ≤ mark)
def OpOkP (j : JobT) (s : OpStT) : Prop := JobOkP j ∧ (0 ≤ s.mark ∧ s.mark ≤ 1000) ∧ s.rows.n ≤ 300 ∧
  ∀ i, i < s.rows.n → RowOkP j (s.rows.g i) s.mark ∧ (0 < i → AheadP (s.rows.g (i - 1)).key (s.rows.g (i - 1)).win (s.rows.g i).key (s.rows.g i).win) ∧
    (j.kind = 3 → ∀ k, k < i → ¬ ((s.rows.g k).key = (s.rows.g i).key ∧ TouchP (s.rows.g k).win (s.rows.g i).win))
end Go.Rk
/- Sizes: what is left when the rows of something are taken off. -/
namespace Go.Rk
set_option linter.unusedSimpArgs false
set_option linter.unusedVariables false
theorem up64 {i n : Nat} (h : i < n) (hn : n ≤ maxLen) : IntKind.i64.wrap ((i : Int) + 1) = ((i + 1 : Nat) : Int) := by
  have hm : maxLen = 9223372036854775807 := by decide
  rw [hm] at hn
  rw [IntWalk.i64_in _ (by omega)]
  simp
end Go.Rk
/- Mirrors, comparisons and sizes: what these functions of the laws do. -/
namespace Go.Rk
set_option linter.unusedSimpArgs false
set_option linter.unusedVariables false
open Go.Proofs
def EXA : FuncId → List Nat × Bool := fun _ => ([], false)
theorem mixed : Try.prog.follows .mixedOrders = true := by kernel_rfl
end Go.Rk
/- Small functions: what they answer. -/
namespace Go.Rk
set_option linter.unusedSimpArgs false
set_option linter.unusedVariables false
open Go.Proofs
set_option maxRecDepth 100000 in
theorem c_in (n lo hi : Int) : ∃ b, b = decide (lo ≤ n ∧ n ≤ hi) ∧ Meets Try.prog 56 [.c (.d (eI n)), .c (.d (eI lo)), .c (.d (eI hi))] ⟨.one (.c (.d (eB b))), [none, none, none]⟩ := by
  obtain ⟨b, hb⟩ : ∃ b, b = decide (lo ≤ n ∧ n ≤ hi) := ⟨_, rfl⟩
  refine ⟨b, hb, ?_⟩
  refine meets_of (H := []) (EX := EXA) ttok mixed Try.func56 rfl (by kernel_rfl) (by decide) ?_
  generalize hA : real = A
  generalize hM : MeetsB Try.prog = M
  cbv
  repeat' first
    | apply And.intro
    | exact True.intro
    | with_reducible rfl
    | exact same_of hA rfl
    | refine br_of hA (fun _ => ?_) (fun _ => ?_)
    | exact imp_of hA id
    | (refine imp_of hA ?_; subst hA; simp only [real, Bool.true_and]; exact id)
    | (refine ind_of hA ?_; decide +kernel)
    | fail
  all_goals subst hA
  all_goals refine congrArg (fun b => XA.one (.c (.d (eB b)))) (Bool.eq_iff_iff.2 ?_)
  all_goals subst_vars
  all_goals try simp only [real, bifA, bifB, bifC, bifD, decide_eq_true_eq, decide_eq_false_iff_not, beq_iff_eq, bne_iff_ne, beq_eq_false_iff_ne, bne_eq_false_iff_eq, ne_eq, Bool.and_eq_true, Bool.or_eq_true, Bool.not_eq_true', Bool.not_eq_false', Bool.and_eq_false_iff, Bool.or_eq_false_iff, Bool.false_eq_true, and_false, false_and, or_false, false_or, and_true, true_and, not_true_eq_false, not_false_eq_true, true_iff, false_iff, IntKind.wrap_i64] at *
  all_goals first
    | omega
    | skip
set_option maxRecDepth 100000 in
theorem c_l1In (n lo hi : Int) : ∃ b, b = decide (lo ≤ n ∧ n ≤ hi) ∧ Meets Try.prog 34 [.c (.d (eI n)), .c (.d (eI lo)), .c (.d (eI hi))] ⟨.one (.c (.d (eB b))), [none, none, none]⟩ := by
  obtain ⟨b, hb⟩ : ∃ b, b = decide (lo ≤ n ∧ n ≤ hi) := ⟨_, rfl⟩
  refine ⟨b, hb, ?_⟩
  refine meets_of (H := []) (EX := EXA) ttok mixed Try.func34 rfl (by kernel_rfl) (by decide) ?_
  generalize hA : real = A
  generalize hM : MeetsB Try.prog = M
  cbv
  repeat' first
    | apply And.intro
    | exact True.intro
    | with_reducible rfl
    | exact same_of hA rfl
    | refine br_of hA (fun _ => ?_) (fun _ => ?_)
    | exact imp_of hA id
    | (refine imp_of hA ?_; subst hA; simp only [real, Bool.true_and]; exact id)
    | (refine ind_of hA ?_; decide +kernel)
    | fail
  all_goals subst hA
  all_goals refine congrArg (fun b => XA.one (.c (.d (eB b)))) (Bool.eq_iff_iff.2 ?_)
  all_goals subst_vars
  all_goals try simp only [real, bifA, bifB, bifC, bifD, decide_eq_true_eq, decide_eq_false_iff_not, beq_iff_eq, bne_iff_ne, beq_eq_false_iff_ne, bne_eq_false_iff_eq, ne_eq, Bool.and_eq_true, Bool.or_eq_true, Bool.not_eq_true', Bool.not_eq_false', Bool.and_eq_false_iff, Bool.or_eq_false_iff, Bool.false_eq_true, and_false, false_and, or_false, false_or, and_true, true_and, not_true_eq_false, not_false_eq_true, true_iff, false_iff, IntKind.wrap_i64] at *
  all_goals first
    | omega
    | skip
set_option maxRecDepth 100000 in
theorem c_WinOk (s e : Int) : ∃ b, b = decide ((0 ≤ s ∧ s ≤ 60) ∧ IntKind.i64.wrap (s + 1) ≤ e ∧ e ≤ 120) ∧ Meets Try.prog 59 [.agg [.d (eI s), .d (eI e)]] ⟨.one (.c (.d (eB b))), [none]⟩ := by
  obtain ⟨b, hb⟩ : ∃ b, b = decide ((0 ≤ s ∧ s ≤ 60) ∧ IntKind.i64.wrap (s + 1) ≤ e ∧ e ≤ 120) := ⟨_, rfl⟩
  refine ⟨b, hb, ?_⟩
  refine meets_of (H := []) (EX := EXA) ttok mixed Try.func59 rfl (by kernel_rfl) (by decide) ?_
  generalize hA : real = A
  generalize hM : MeetsB Try.prog = M
  cbv
  repeat' first
    | apply And.intro
    | exact True.intro
    | with_reducible rfl
    | exact same_of hA rfl
    | refine br_of hA (fun _ => ?_) (fun _ => ?_)
    | exact imp_of hA id
    | (refine imp_of hA ?_; subst hA; simp only [real, Bool.true_and]; exact id)
    | (refine ind_of hA ?_; decide +kernel)
    | (refine call_ex hA hM (c_in _ _ _) (fun _ _ => ?_); cbv)
    | fail
  all_goals subst hA
  all_goals refine congrArg (fun b => XA.one (.c (.d (eB b)))) (Bool.eq_iff_iff.2 ?_)
  all_goals subst_vars
  all_goals try simp only [real, bifA, bifB, bifC, bifD, decide_eq_true_eq, decide_eq_false_iff_not, beq_iff_eq, bne_iff_ne, beq_eq_false_iff_ne, bne_eq_false_iff_eq, ne_eq, Bool.and_eq_true, Bool.or_eq_true, Bool.not_eq_true', Bool.not_eq_false', Bool.and_eq_false_iff, Bool.or_eq_false_iff, Bool.false_eq_true, and_false, false_and, or_false, false_or, and_true, true_and, not_true_eq_false, not_false_eq_true, true_iff, false_iff, IntKind.wrap_i64] at *
  all_goals first
    | omega
    | skip
set_option maxRecDepth 100000 in
theorem c_tells (n : Int) : ∃ b, b = decide (1 ≤ n ∧ n ≤ 4) ∧ Meets Try.prog 99 [.c (.d (eI n))] ⟨.one (.c (.d (eB b))), [none]⟩ := by
  obtain ⟨b, hb⟩ : ∃ b, b = decide (1 ≤ n ∧ n ≤ 4) := ⟨_, rfl⟩
  refine ⟨b, hb, ?_⟩
  refine meets_of (H := []) (EX := EXA) ttok mixed Try.func99 rfl (by kernel_rfl) (by decide) ?_
  generalize hA : real = A
  generalize hM : MeetsB Try.prog = M
  cbv
  repeat' first
    | apply And.intro
    | exact True.intro
    | with_reducible rfl
    | exact same_of hA rfl
    | refine br_of hA (fun _ => ?_) (fun _ => ?_)
    | exact imp_of hA id
    | (refine imp_of hA ?_; subst hA; simp only [real, Bool.true_and]; exact id)
    | (refine ind_of hA ?_; decide +kernel)
    | (refine call_ex hA hM (c_in _ _ _) (fun _ _ => ?_); cbv)
    | fail
  all_goals subst hA
  all_goals refine congrArg (fun b => XA.one (.c (.d (eB b)))) (Bool.eq_iff_iff.2 ?_)
  all_goals subst_vars
  all_goals try simp only [real, bifA, bifB, bifC, bifD, decide_eq_true_eq, decide_eq_false_iff_not, beq_iff_eq, bne_iff_ne, beq_eq_false_iff_ne, bne_eq_false_iff_eq, ne_eq, Bool.and_eq_true, Bool.or_eq_true, Bool.not_eq_true', Bool.not_eq_false', Bool.and_eq_false_iff, Bool.or_eq_false_iff, Bool.false_eq_true, and_false, false_and, or_false, false_or, and_true, true_and, not_true_eq_false, not_false_eq_true, true_iff, false_iff, IntKind.wrap_i64] at *
  all_goals first
    | omega
    | skip
set_option maxRecDepth 100000 in
theorem c_JobOk (a b1 kind size step late tell : Int) (p : Bool) (least room : Int) : ∃ b, b = decide ((1 ≤ a ∧ a ≤ 3) ∧ (1 ≤ b1 ∧ b1 ≤ 2) ∧ (1 ≤ kind ∧ kind ≤ 3) ∧ (1 ≤ size ∧ size ≤ 20) ∧ ((kind = 2 ∧ (1 ≤ step ∧ step ≤ size) ∧ size ≤ 4 * step) ∨ (kind ≠ 2 ∧ step = 0)) ∧ (0 ≤ late ∧ late ≤ 20) ∧ (1 ≤ tell ∧ tell ≤ 4) ∧ (-9 ≤ least ∧ least ≤ 9) ∧ (1 ≤ room ∧ room ≤ 4)) ∧ Meets Try.prog 50 [.agg [.d (eI a), .d (eI b1), .d (eI kind), .d (eI size), .d (eI step), .d (eI late), .d (eI tell), .d (eB p), .d (eI least), .d (eI room)]] ⟨.one (.c (.d (eB b))), [none]⟩ := by
  obtain ⟨b, hb⟩ : ∃ b, b = decide ((1 ≤ a ∧ a ≤ 3) ∧ (1 ≤ b1 ∧ b1 ≤ 2) ∧ (1 ≤ kind ∧ kind ≤ 3) ∧ (1 ≤ size ∧ size ≤ 20) ∧ ((kind = 2 ∧ (1 ≤ step ∧ step ≤ size) ∧ size ≤ 4 * step) ∨ (kind ≠ 2 ∧ step = 0)) ∧ (0 ≤ late ∧ late ≤ 20) ∧ (1 ≤ tell ∧ tell ≤ 4) ∧ (-9 ≤ least ∧ least ≤ 9) ∧ (1 ≤ room ∧ room ≤ 4)) := ⟨_, rfl⟩
  refine ⟨b, hb, ?_⟩
  refine meets_of (H := []) (EX := EXA) ttok mixed Try.func50 rfl (by kernel_rfl) (by decide) ?_
  generalize hA : real = A
  generalize hM : MeetsB Try.prog = M
  cbv
  repeat' first
    | apply And.intro
    | exact True.intro
    | with_reducible rfl
    | exact same_of hA rfl
    | refine br_of hA (fun _ => ?_) (fun _ => ?_)
    | exact imp_of hA id
    | (refine imp_of hA ?_; subst hA; simp only [real, Bool.true_and]; exact id)
    | (refine ind_of hA ?_; decide +kernel)
    | (refine call_ex hA hM (c_in _ _ _) (fun _ _ => ?_); cbv)
    | (refine call_ex hA hM (c_tells _) (fun _ _ => ?_); cbv)
    | fail
  all_goals subst hA
  all_goals refine congrArg (fun b => XA.one (.c (.d (eB b)))) (Bool.eq_iff_iff.2 ?_)
  all_goals subst_vars
  all_goals try simp only [real, bifA, bifB, bifC, bifD, decide_eq_true_eq, decide_eq_false_iff_not, beq_iff_eq, bne_iff_ne, beq_eq_false_iff_ne, bne_eq_false_iff_eq, ne_eq, Bool.and_eq_true, Bool.or_eq_true, Bool.not_eq_true', Bool.not_eq_false', Bool.and_eq_false_iff, Bool.or_eq_false_iff, Bool.false_eq_true, and_false, false_and, or_false, false_or, and_true, true_and, not_true_eq_false, not_false_eq_true, true_iff, false_iff, IntKind.wrap_i64] at *
  all_goals first
    | omega
    | skip
set_option maxRecDepth 100000 in
theorem c_sJobOk (a b1 kind size step late tell : Int) (p : Bool) (least room : Int) : ∃ b, b = decide ((1 ≤ a ∧ a ≤ 3) ∧ (1 ≤ b1 ∧ b1 ≤ 2) ∧ (1 ≤ kind ∧ kind ≤ 3) ∧ (1 ≤ size ∧ size ≤ 20) ∧ ((kind = 2 ∧ (1 ≤ step ∧ step ≤ size) ∧ size ≤ 4 * step) ∨ (kind ≠ 2 ∧ step = 0)) ∧ (0 ≤ late ∧ late ≤ 20) ∧ (1 ≤ tell ∧ tell ≤ 4) ∧ (-9 ≤ least ∧ least ≤ 9) ∧ (1 ≤ room ∧ room ≤ 4)) ∧ Meets Try.prog 23 [.agg [.d (eI a), .d (eI b1), .d (eI kind), .d (eI size), .d (eI step), .d (eI late), .d (eI tell), .d (eB p), .d (eI least), .d (eI room)]] ⟨.one (.c (.d (eB b))), [none]⟩ := by
  obtain ⟨b, hb⟩ : ∃ b, b = decide ((1 ≤ a ∧ a ≤ 3) ∧ (1 ≤ b1 ∧ b1 ≤ 2) ∧ (1 ≤ kind ∧ kind ≤ 3) ∧ (1 ≤ size ∧ size ≤ 20) ∧ ((kind = 2 ∧ (1 ≤ step ∧ step ≤ size) ∧ size ≤ 4 * step) ∨ (kind ≠ 2 ∧ step = 0)) ∧ (0 ≤ late ∧ late ≤ 20) ∧ (1 ≤ tell ∧ tell ≤ 4) ∧ (-9 ≤ least ∧ least ≤ 9) ∧ (1 ≤ room ∧ room ≤ 4)) := ⟨_, rfl⟩
  refine ⟨b, hb, ?_⟩
  refine meets_of (H := []) (EX := EXA) ttok mixed Try.func23 rfl (by kernel_rfl) (by decide) ?_
  generalize hA : real = A
  generalize hM : MeetsB Try.prog = M
  cbv
  repeat' first
    | apply And.intro
    | exact True.intro
    | with_reducible rfl
    | exact same_of hA rfl
    | refine br_of hA (fun _ => ?_) (fun _ => ?_)
    | exact imp_of hA id
    | (refine imp_of hA ?_; subst hA; simp only [real, Bool.true_and]; exact id)
    | (refine ind_of hA ?_; decide +kernel)
    | (refine call_ex hA hM (c_l1In _ _ _) (fun _ _ => ?_); cbv)
    | fail
  all_goals subst hA
  all_goals refine congrArg (fun b => XA.one (.c (.d (eB b)))) (Bool.eq_iff_iff.2 ?_)
  all_goals subst_vars
  all_goals try simp only [real, bifA, bifB, bifC, bifD, decide_eq_true_eq, decide_eq_false_iff_not, beq_iff_eq, bne_iff_ne, beq_eq_false_iff_ne, bne_eq_false_iff_eq, ne_eq, Bool.and_eq_true, Bool.or_eq_true, Bool.not_eq_true', Bool.not_eq_false', Bool.and_eq_false_iff, Bool.or_eq_false_iff, Bool.false_eq_true, and_false, false_and, or_false, false_or, and_true, true_and, not_true_eq_false, not_false_eq_true, true_iff, false_iff, IntKind.wrap_i64] at *
  all_goals first
    | omega
    | skip
set_option maxRecDepth 100000 in
theorem c_isTime (n : Int) : ∃ b, b = decide (0 ≤ n ∧ n ≤ 1000) ∧ Meets Try.prog 77 [.c (.d (eI n))] ⟨.one (.c (.d (eB b))), [none]⟩ := by
  obtain ⟨b, hb⟩ : ∃ b, b = decide (0 ≤ n ∧ n ≤ 1000) := ⟨_, rfl⟩
  refine ⟨b, hb, ?_⟩
  refine meets_of (H := []) (EX := EXA) ttok mixed Try.func77 rfl (by kernel_rfl) (by decide) ?_
  generalize hA : real = A
  generalize hM : MeetsB Try.prog = M
  cbv
  repeat' first
    | apply And.intro
    | exact True.intro
    | with_reducible rfl
    | exact same_of hA rfl
    | refine br_of hA (fun _ => ?_) (fun _ => ?_)
    | exact imp_of hA id
    | (refine imp_of hA ?_; subst hA; simp only [real, Bool.true_and]; exact id)
    | (refine ind_of hA ?_; decide +kernel)
    | (refine call_ex hA hM (c_in _ _ _) (fun _ _ => ?_); cbv)
    | fail
  all_goals subst hA
  all_goals refine congrArg (fun b => XA.one (.c (.d (eB b)))) (Bool.eq_iff_iff.2 ?_)
  all_goals subst_vars
  all_goals try simp only [real, bifA, bifB, bifC, bifD, decide_eq_true_eq, decide_eq_false_iff_not, beq_iff_eq, bne_iff_ne, beq_eq_false_iff_ne, bne_eq_false_iff_eq, ne_eq, Bool.and_eq_true, Bool.or_eq_true, Bool.not_eq_true', Bool.not_eq_false', Bool.and_eq_false_iff, Bool.or_eq_false_iff, Bool.false_eq_true, and_false, false_and, or_false, false_or, and_true, true_and, not_true_eq_false, not_false_eq_true, true_iff, false_iff, IntKind.wrap_i64] at *
  all_goals first
    | omega
    | skip
set_option maxRecDepth 100000 in
theorem c_isKey (n : Int) : ∃ b, b = decide (0 ≤ n ∧ n ≤ 3) ∧ Meets Try.prog 117 [.c (.d (eI n))] ⟨.one (.c (.d (eB b))), [none]⟩ := by
  obtain ⟨b, hb⟩ : ∃ b, b = decide (0 ≤ n ∧ n ≤ 3) := ⟨_, rfl⟩
  refine ⟨b, hb, ?_⟩
  refine meets_of (H := []) (EX := EXA) ttok mixed Try.func117 rfl (by kernel_rfl) (by decide) ?_
  generalize hA : real = A
  generalize hM : MeetsB Try.prog = M
  cbv
  repeat' first
    | apply And.intro
    | exact True.intro
    | with_reducible rfl
    | exact same_of hA rfl
    | refine br_of hA (fun _ => ?_) (fun _ => ?_)
    | exact imp_of hA id
    | (refine imp_of hA ?_; subst hA; simp only [real, Bool.true_and]; exact id)
    | (refine ind_of hA ?_; decide +kernel)
    | (refine call_ex hA hM (c_in _ _ _) (fun _ _ => ?_); cbv)
    | fail
  all_goals subst hA
  all_goals refine congrArg (fun b => XA.one (.c (.d (eB b)))) (Bool.eq_iff_iff.2 ?_)
  all_goals subst_vars
  all_goals try simp only [real, bifA, bifB, bifC, bifD, decide_eq_true_eq, decide_eq_false_iff_not, beq_iff_eq, bne_iff_ne, beq_eq_false_iff_ne, bne_eq_false_iff_eq, ne_eq, Bool.and_eq_true, Bool.or_eq_true, Bool.not_eq_true', Bool.not_eq_false', Bool.and_eq_false_iff, Bool.or_eq_false_iff, Bool.false_eq_true, and_false, false_and, or_false, false_or, and_true, true_and, not_true_eq_false, not_false_eq_true, true_iff, false_iff, IntKind.wrap_i64] at *
  all_goals first
    | omega
    | skip
end Go.Rk
/- Small functions: what they answer. -/
namespace Go.Rk
set_option linter.unusedSimpArgs false
set_option linter.unusedVariables false
open Go.Proofs
set_option maxRecDepth 100000 in
theorem c_isNaN (n : Int) : ∃ b, b = decide (False) ∧ Meets Try.prog 134 [.c (.d (eI n))] ⟨.one (.c (.d (eB b))), [none]⟩ := by
  obtain ⟨b, hb⟩ : ∃ b, b = decide (False) := ⟨_, rfl⟩
  refine ⟨b, hb, ?_⟩
  refine meets_of (H := []) (EX := EXA) ttok mixed Try.func134 rfl (by kernel_rfl) (by decide) ?_
  generalize hA : real = A
  generalize hM : MeetsB Try.prog = M
  cbv
  repeat' first
    | apply And.intro
    | exact True.intro
    | with_reducible rfl
    | exact same_of hA rfl
    | refine br_of hA (fun _ => ?_) (fun _ => ?_)
    | exact imp_of hA id
    | (refine imp_of hA ?_; subst hA; simp only [real, Bool.true_and]; exact id)
    | (refine ind_of hA ?_; decide +kernel)
    | fail
  all_goals subst hA
  all_goals refine congrArg (fun b => XA.one (.c (.d (eB b)))) (Bool.eq_iff_iff.2 ?_)
  all_goals subst_vars
  all_goals try simp only [real, bifA, bifB, bifC, bifD, decide_eq_true_eq, decide_eq_false_iff_not, beq_iff_eq, bne_iff_ne, beq_eq_false_iff_ne, bne_eq_false_iff_eq, ne_eq, Bool.and_eq_true, Bool.or_eq_true, Bool.not_eq_true', Bool.not_eq_false', Bool.and_eq_false_iff, Bool.or_eq_false_iff, Bool.false_eq_true, and_false, false_and, or_false, false_or, and_true, true_and, not_true_eq_false, not_false_eq_true, true_iff, false_iff, IntKind.wrap_i64] at *
  all_goals first
    | omega
    | skip
set_option maxRecDepth 100000 in
theorem c_Compare (a b : Int) : ∃ x : Int, x = (if a < b then -1 else if b < a then 1 else 0) ∧ Meets Try.prog 120 [.c (.d (eI a)), .c (.d (eI b))] ⟨.one (.c (.d (eI x))), [none, none]⟩ := by
  obtain ⟨x, hx⟩ : ∃ x : Int, x = (if a < b then -1 else if b < a then 1 else 0) := ⟨_, rfl⟩
  refine ⟨x, hx, ?_⟩
  refine meets_of (H := []) (EX := EXA) ttok mixed Try.func120 rfl (by kernel_rfl) (by decide) ?_
  generalize hA : real = A
  generalize hM : MeetsB Try.prog = M
  cbv
  repeat' first
    | apply And.intro
    | exact True.intro
    | with_reducible rfl
    | exact same_of hA rfl
    | refine br_of hA (fun _ => ?_) (fun _ => ?_)
    | exact imp_of hA id
    | (refine imp_of hA ?_; subst hA; simp only [real, Bool.true_and]; exact id)
    | (refine ind_of hA ?_; decide +kernel)
    | (refine call_ex hA hM (c_isNaN _) (fun _ _ => ?_); cbv)
    | fail
  all_goals subst hA
  all_goals refine congrArg (fun x => XA.one (.c (.d (eI x)))) ?_
  all_goals subst_vars
  all_goals try simp only [real, bifA, bifB, bifC, bifD, decide_eq_true_eq, decide_eq_false_iff_not, beq_iff_eq, bne_iff_ne, beq_eq_false_iff_ne, bne_eq_false_iff_eq, ne_eq, Bool.and_eq_true, Bool.or_eq_true, Bool.not_eq_true', Bool.not_eq_false', Bool.and_eq_false_iff, Bool.or_eq_false_iff, Bool.false_eq_true, reduceCtorEq] at *
  all_goals first
    | omega
    | skip
/-- The first that is not 0. -/
inductive FirstNz (n : Nat) (g : Nat → Int) : Int → Prop
  | at (i : Nat) (h : i < n) (hi : g i ≠ 0) (hb : ∀ j, j < i → g j = 0) : FirstNz n g (g i)
  | none (hb : ∀ j, j < n → g j = 0) : FirstNz n g 0
theorem firstNz_ex (n : Nat) (g : Nat → Int) : ∃ x, FirstNz n g x := by
  by_cases h : ∃ i, i < n ∧ g i ≠ 0
  · obtain ⟨i, hi⟩ := h
    induction i using Nat.strongRecOn with
    | _ i ih =>
      by_cases hm : ∃ j, j < i ∧ g j ≠ 0
      · obtain ⟨j, hj1, hj2⟩ := hm
        exact ih j hj1 ⟨by omega, hj2⟩
      · exact ⟨_, .at i hi.1 hi.2 fun j hj => Classical.not_not.1 fun e => hm ⟨j, hj, e⟩⟩
  · exact ⟨0, .none fun j hj => Classical.not_not.1 fun e => h ⟨j, hj, e⟩⟩
theorem firstNz_one {n : Nat} {g : Nat → Int} {x y : Int} (h : FirstNz n g x) (h' : FirstNz n g y) : x = y := by
  cases h with
  | «at» i hi hh hb =>
    cases h' with
    | «at» j hj hh' hb' =>
      have : i = j := by
        rcases Nat.lt_trichotomy i j with h | h | h
        · exact absurd (hb' i h) hh
        · exact h
        · exact absurd (hb j h) hh'
      rw [this]
    | none hb' => exact absurd (hb' i hi) hh
  | none hb =>
    cases h' with
    | «at» j hj hh' hb' => exact absurd (hb j hj) hh'
    | none hb' => rfl
theorem firstNz_two {g : Nat → Int} {x : Int} (h : FirstNz 2 g x) : x = if g 0 = 0 then g 1 else g 0 := by
  refine firstNz_one h ?_
  by_cases h0 : g 0 = 0
  · rw [if_pos h0]
    by_cases h1 : g 1 = 0
    · rw [h1]; exact .none fun j hj => by rcases j with _ | _ | j; exact h0; exact h1; omega
    · exact .at 1 (by omega) h1 fun j hj => by rcases j with _ | j; exact h0; omega
  · rw [if_neg h0]; exact .at 0 (by omega) h0 fun j hj => by omega
def stOr (n : Nat) (g : Nat → Int) (i : Nat) : St := ⟨[(8, .c (.d (eI i))), (7, .c (.d (eI n))), (6, .c (.d (.sl 1 n fun i => [eI (g i)]))), (3, .c (.d (eI 0)))], []⟩
set_option maxRecDepth 100000 in
theorem m_Or (n : Nat) (hn : n ≤ maxLen) (g : Nat → Int) (x : Int) (hx : FirstNz n g x) : Meets Try.prog 119 [.c (.d (.sl 1 n fun i => [eI (g i)]))] ⟨.one (.c (.d (eI x))), [none]⟩ := by
  refine meets_of (H := []) (EX := EXA) ttok mixed Try.func119 rfl (by kernel_rfl) (by decide) ?_
  generalize hA : real = A
  generalize hM : MeetsB Try.prog = M
  cbv
  repeat' first
    | apply And.intro
    | exact True.intro
    | with_reducible rfl
    | exact same_of hA rfl
    | refine br_of hA (fun _ => ?_) (fun _ => ?_)
    | exact imp_of hA id
    | (refine imp_of hA ?_; subst hA; simp only [real, Bool.true_and]; exact id)
    | (refine ind_of hA ?_; decide +kernel)
    | fail
  refine loop_of hA (α := { i : Nat // i ≤ n ∧ ∀ j, j < i → g j = 0 }) (fun x => stOr n g x.1) (fun x => n - x.1) ⟨0, Nat.zero_le _, fun j h => absurd h (Nat.not_lt_zero _)⟩ ?_ ?_
  · refine cov_of ?_ ?_ ?_
    · cbv; subst hA; exact ⟨rfl, rfl, trivial⟩
    · cbv
    · cbv
  rintro ⟨i, hi, hb⟩
  cbv
  repeat' first
    | apply And.intro
    | exact True.intro
    | with_reducible rfl
    | exact same_of hA rfl
    | refine br_of hA (fun _ => ?_) (fun _ => ?_)
    | exact imp_of hA id
    | (refine imp_of hA ?_; subst hA; simp only [real, Bool.true_and]; exact id)
    | (refine ind_of hA ?_; decide +kernel)
    | (refine inb_of hA fun _ => ?_; subst hA; simp only [real, decide_eq_true_eq, Int.ofNat_eq_natCast] at *; omega)
    | fail
  · rename_i hlt hne
    subst hA
    simp only [real, decide_eq_true_eq, Int.ofNat_eq_natCast, Int.toNat_natCast, bne_iff_ne] at *
    obtain rfl := firstNz_one hx (.at i (by omega) hne hb)
    rfl
  · rename_i hlt hne
    have hlt' : i < n := by subst hA; simp only [real, decide_eq_true_eq, Int.ofNat_eq_natCast] at hlt; omega
    refine ⟨⟨i + 1, by omega, fun j hj => ?_⟩, by simp only; omega, cov_of ?_ ?_ ?_⟩
    · by_cases e : j = i
      · subst e
        subst hA
        simpa [real] using hne
      · exact hb j (by omega)
    · cbv
      subst hA
      exact ⟨congrArg (fun x => DV.v (.int .i64 x)) (up64 hlt' hn), trivial⟩
    · cbv
    · cbv
  · subst hA
    simp only [real, decide_eq_false_iff_not, Int.ofNat_eq_natCast] at *
    obtain rfl := firstNz_one hx (.none fun j hj => hb j (by omega))
    rfl
theorem two_of {A : Ar} (hA : real = A) (a b : Int) : A.sub 0 (A.app 1 (A.rep [eI a]) (A.app 1 (A.rep [eI b]) (A.rep [eI 0]))) = fun i => [eI (if i = 0 then a else if i = 1 then b else 0)] := by
  subst hA
  funext i
  rcases i with _ | _ | i
  · rfl
  · rfl
  · simp [real]
theorem c_Or (a b : Int) : ∃ x : Int, x = (if a = 0 then b else a) ∧ Meets Try.prog 119 [.c (.d (.sl 1 2 fun i => [eI (if i = 0 then a else if i = 1 then b else 0)]))] ⟨.one (.c (.d (eI x))), [none]⟩ := by
  obtain ⟨x, hx⟩ := firstNz_ex 2 fun i => if i = 0 then a else if i = 1 then b else 0
  exact ⟨x, firstNz_two hx, m_Or 2 (by decide) _ x hx⟩
set_option maxRecDepth 100000 in
theorem c_wcompare (s e s2 e2 : Int) : ∃ x : Int, x = (if s < s2 then -1 else if s2 < s then 1 else if e < e2 then -1 else if e2 < e then 1 else 0) ∧ Meets Try.prog 121 [.agg [.d (eI s), .d (eI e)], .agg [.d (eI s2), .d (eI e2)]] ⟨.one (.c (.d (eI x))), [none, none]⟩ := by
  obtain ⟨x, hx⟩ : ∃ x : Int, x = (if s < s2 then -1 else if s2 < s then 1 else if e < e2 then -1 else if e2 < e then 1 else 0) := ⟨_, rfl⟩
  refine ⟨x, hx, ?_⟩
  refine meets_of (H := []) (EX := EXA) ttok mixed Try.func121 rfl (by kernel_rfl) (by decide) ?_
  generalize hA : real = A
  generalize hM : MeetsB Try.prog = M
  cbv
  repeat' first
    | apply And.intro
    | exact True.intro
    | with_reducible rfl
    | exact same_of hA rfl
    | refine br_of hA (fun _ => ?_) (fun _ => ?_)
    | exact imp_of hA id
    | (refine imp_of hA ?_; subst hA; simp only [real, Bool.true_and]; exact id)
    | (refine ind_of hA ?_; decide +kernel)
    | (refine call_ex hA hM (c_Compare _ _) (fun _ _ => ?_); cbv)
    | (refine call_ex2 hA hM (c_Or _ _) (congrArg (fun f => [XT.c (.d (.sl 1 2 f))]) (two_of hA _ _)) (fun _ _ => ?_); cbv)
    | fail
  all_goals subst hA
  all_goals refine congrArg (fun x => XA.one (.c (.d (eI x)))) ?_
  all_goals subst_vars
  all_goals try simp only [real, bifA, bifB, bifC, bifD, decide_eq_true_eq, decide_eq_false_iff_not, beq_iff_eq, bne_iff_ne, beq_eq_false_iff_ne, bne_eq_false_iff_eq, ne_eq, Bool.and_eq_true, Bool.or_eq_true, Bool.not_eq_true', Bool.not_eq_false', Bool.and_eq_false_iff, Bool.or_eq_false_iff, Bool.false_eq_true, reduceCtorEq] at *
  all_goals first
    | omega
    | skip
set_option maxRecDepth 100000 in
theorem c_rcompare (r q : RowT) : ∃ x : Int, x = (if r.key < q.key then -1 else if q.key < r.key then 1 else if r.win.s < q.win.s then -1 else if q.win.s < r.win.s then 1 else if r.win.e < q.win.e then -1 else if q.win.e < r.win.e then 1 else 0) ∧ Meets Try.prog 79 [xd (eRow r), xd (eRow q)] ⟨.one (.c (.d (eI x))), [none, none]⟩ := by
  obtain ⟨x, hx⟩ : ∃ x : Int, x = (if r.key < q.key then -1 else if q.key < r.key then 1 else if r.win.s < q.win.s then -1 else if q.win.s < r.win.s then 1 else if r.win.e < q.win.e then -1 else if q.win.e < r.win.e then 1 else 0) := ⟨_, rfl⟩
  refine ⟨x, hx, ?_⟩
  refine meets_of (H := []) (EX := EXA) ttok mixed Try.func79 rfl (by kernel_rfl) (by decide) ?_
  generalize hA : real = A
  generalize hM : MeetsB Try.prog = M
  cbv
  repeat' first
    | apply And.intro
    | exact True.intro
    | with_reducible rfl
    | exact same_of hA rfl
    | refine br_of hA (fun _ => ?_) (fun _ => ?_)
    | exact imp_of hA id
    | (refine imp_of hA ?_; subst hA; simp only [real, Bool.true_and]; exact id)
    | (refine ind_of hA ?_; decide +kernel)
    | (refine call_ex hA hM (c_Compare _ _) (fun _ _ => ?_); cbv)
    | (refine call_ex hA hM (c_wcompare _ _ _ _) (fun _ _ => ?_); cbv)
    | (refine call_ex2 hA hM (c_Or _ _) (congrArg (fun f => [XT.c (.d (.sl 1 2 f))]) (two_of hA _ _)) (fun _ _ => ?_); cbv)
    | fail
  all_goals subst hA
  all_goals refine congrArg (fun x => XA.one (.c (.d (eI x)))) ?_
  all_goals subst_vars
  all_goals try simp only [real, bifA, bifB, bifC, bifD, decide_eq_true_eq, decide_eq_false_iff_not, beq_iff_eq, bne_iff_ne, beq_eq_false_iff_ne, bne_eq_false_iff_eq, ne_eq, Bool.and_eq_true, Bool.or_eq_true, Bool.not_eq_true', Bool.not_eq_false', Bool.and_eq_false_iff, Bool.or_eq_false_iff, Bool.false_eq_true, reduceCtorEq] at *
  all_goals first
    | omega
    | skip
set_option maxRecDepth 100000 in
theorem c_WinTouch (s e s2 e2 : Int) : ∃ b, b = decide (s < e2 ∧ s2 < e) ∧ Meets Try.prog 81 [.agg [.d (eI s), .d (eI e)], .agg [.d (eI s2), .d (eI e2)]] ⟨.one (.c (.d (eB b))), [none, none]⟩ := by
  obtain ⟨b, hb⟩ : ∃ b, b = decide (s < e2 ∧ s2 < e) := ⟨_, rfl⟩
  refine ⟨b, hb, ?_⟩
  refine meets_of (H := []) (EX := EXA) ttok mixed Try.func81 rfl (by kernel_rfl) (by decide) ?_
  generalize hA : real = A
  generalize hM : MeetsB Try.prog = M
  cbv
  repeat' first
    | apply And.intro
    | exact True.intro
    | with_reducible rfl
    | exact same_of hA rfl
    | refine br_of hA (fun _ => ?_) (fun _ => ?_)
    | exact imp_of hA id
    | (refine imp_of hA ?_; subst hA; simp only [real, Bool.true_and]; exact id)
    | (refine ind_of hA ?_; decide +kernel)
    | fail
  all_goals subst hA
  all_goals refine congrArg (fun b => XA.one (.c (.d (eB b)))) (Bool.eq_iff_iff.2 ?_)
  all_goals subst_vars
  all_goals try simp only [real, bifA, bifB, bifC, bifD, decide_eq_true_eq, decide_eq_false_iff_not, beq_iff_eq, bne_iff_ne, beq_eq_false_iff_ne, bne_eq_false_iff_eq, ne_eq, Bool.and_eq_true, Bool.or_eq_true, Bool.not_eq_true', Bool.not_eq_false', Bool.and_eq_false_iff, Bool.or_eq_false_iff, Bool.false_eq_true, and_false, false_and, or_false, false_or, and_true, true_and, not_true_eq_false, not_false_eq_true, true_iff, false_iff, IntKind.wrap_i64] at *
  all_goals first
    | omega
    | skip
set_option maxRecDepth 100000 in
theorem c_AggOk (n sum least most : Int) : ∃ b, b = decide ((n = 0 ∧ sum = 0 ∧ least = 0 ∧ most = 0) ∨ (n ≠ 0 ∧ (1 ≤ n ∧ n ≤ 1000) ∧ (-9 ≤ least ∧ least ≤ 9) ∧ (least ≤ most ∧ most ≤ 9) ∧ (IntKind.i64.wrap (n * least) ≤ sum ∧ sum ≤ IntKind.i64.wrap (n * most)))) ∧ Meets Try.prog 118 [.agg [.d (eI n), .d (eI sum), .d (eI least), .d (eI most)]] ⟨.one (.c (.d (eB b))), [none]⟩ := by
  obtain ⟨b, hb⟩ : ∃ b, b = decide ((n = 0 ∧ sum = 0 ∧ least = 0 ∧ most = 0) ∨ (n ≠ 0 ∧ (1 ≤ n ∧ n ≤ 1000) ∧ (-9 ≤ least ∧ least ≤ 9) ∧ (least ≤ most ∧ most ≤ 9) ∧ (IntKind.i64.wrap (n * least) ≤ sum ∧ sum ≤ IntKind.i64.wrap (n * most)))) := ⟨_, rfl⟩
  refine ⟨b, hb, ?_⟩
  refine meets_of (H := []) (EX := EXA) ttok mixed Try.func118 rfl (by kernel_rfl) (by decide) ?_
  generalize hA : real = A
  generalize hM : MeetsB Try.prog = M
  cbv
  repeat' first
    | apply And.intro
    | exact True.intro
    | with_reducible rfl
    | exact same_of hA rfl
    | refine br_of hA (fun _ => ?_) (fun _ => ?_)
    | exact imp_of hA id
    | (refine imp_of hA ?_; subst hA; simp only [real, Bool.true_and]; exact id)
    | (refine ind_of hA ?_; decide +kernel)
    | (refine call_ex hA hM (c_in _ _ _) (fun _ _ => ?_); cbv)
    | fail
  all_goals subst hA
  all_goals refine congrArg (fun b => XA.one (.c (.d (eB b)))) (Bool.eq_iff_iff.2 ?_)
  all_goals subst_vars
  all_goals try simp only [real, bifA, bifB, bifC, bifD, decide_eq_true_eq, decide_eq_false_iff_not, beq_iff_eq, bne_iff_ne, beq_eq_false_iff_ne, bne_eq_false_iff_eq, ne_eq, Bool.and_eq_true, Bool.or_eq_true, Bool.not_eq_true', Bool.not_eq_false', Bool.and_eq_false_iff, Bool.or_eq_false_iff, Bool.false_eq_true, and_false, false_and, or_false, false_or, and_true, true_and, not_true_eq_false, not_false_eq_true, true_iff, false_iff, IntKind.wrap_i64] at *
  all_goals first
    | omega
    | skip
end Go.Rk
/- First places. -/
namespace Go.Rk
set_option linter.unusedSimpArgs false
set_option linter.unusedVariables false
open Go.Proofs
def stIxRow1 (n : Nat) (g : Nat → RowT) (F : FuncId) (c0 : DV) (i : Nat) : St := ⟨[(8, .c (.d (eI i))), (7, .c (.d (eI n))), (0, .c (.d (.sl 13 n fun i => eRow (g i)))), (1, .c (.d (.fn F [c0])))], []⟩
set_option maxRecDepth 100000 in
theorem c_IndexRow1 (n : Nat) (hn : n ≤ maxLen) (g : Nat → RowT) (F : FuncId) (c0 : DV) (Q : RowT → Prop) (hc : ∀ r, ∃ b, (b = true ↔ Q r) ∧ Meets Try.prog F [xd (eRow r), .c (.d c0)] ⟨.one (.c (.d (eB b))), [none, none]⟩) : ∃ x, FirstIx n (fun i => Q (g i)) x ∧ Meets Try.prog 122 [.c (.d (.sl 13 n fun i => eRow (g i))), .c (.d (.fn F [c0]))] ⟨.one (.c (.d (eI x))), [none, none]⟩ := by
  obtain ⟨x, hx⟩ := firstIx_ex n fun i => Q (g i)
  refine ⟨x, hx, ?_⟩
  refine meets_of (H := []) (EX := EXA) ttok mixed Try.func122 rfl (by kernel_rfl) (by decide) ?_
  generalize hA : real = A
  generalize hM : MeetsB Try.prog = M
  cbv
  repeat' first
    | apply And.intro
    | exact True.intro
    | with_reducible rfl
    | exact same_of hA rfl
    | refine br_of hA (fun _ => ?_) (fun _ => ?_)
    | exact imp_of hA id
    | (refine imp_of hA ?_; subst hA; simp only [real, Bool.true_and]; exact id)
    | (refine ind_of hA ?_; decide +kernel)
    | fail
  refine loop_of hA (α := { i : Nat // i ≤ n ∧ ∀ j, j < i → ¬ Q (g j) }) (fun x => stIxRow1 n g F c0 x.1) (fun x => n - x.1) ⟨0, Nat.zero_le _, fun j h => absurd h (Nat.not_lt_zero _)⟩ ?_ ?_
  · refine cov_of ?_ ?_ ?_
    · cbv; subst hA; exact ⟨rfl, rfl, trivial⟩
    · cbv
    · cbv
  rintro ⟨i, hi, hb⟩
  cbv
  repeat' first
    | apply And.intro
    | exact True.intro
    | with_reducible rfl
    | exact same_of hA rfl
    | refine br_of hA (fun _ => ?_) (fun _ => ?_)
    | exact imp_of hA id
    | (refine imp_of hA ?_; subst hA; simp only [real, Bool.true_and]; exact id)
    | (refine ind_of hA ?_; decide +kernel)
    | (refine inb_of hA fun _ => ?_; subst hA; simp only [real, decide_eq_true_eq, Int.ofNat_eq_natCast] at *; omega)
    | fail
  · refine call_ex hA hM (hc (g (A.nat (Int.ofNat i)))) (fun b hbb => ?_)
    cbv
    repeat' first
      | apply And.intro
      | exact True.intro
      | with_reducible rfl
      | exact same_of hA rfl
      | refine br_of hA (fun _ => ?_) (fun _ => ?_)
      | exact imp_of hA id
      | (refine imp_of hA ?_; subst hA; simp only [real, Bool.true_and]; exact id)
      | (refine ind_of hA ?_; decide +kernel)
      | fail
    · rename_i hlt ht
      subst hA
      simp only [real, decide_eq_true_eq, Int.ofNat_eq_natCast, Int.toNat_natCast] at *
      obtain rfl := firstIx_one hx (.at i (by omega) (hbb.1 ht) hb)
      rfl
    · rename_i hlt ht
      have hlt' : i < n := by subst hA; simp only [real, decide_eq_true_eq, Int.ofNat_eq_natCast] at hlt; omega
      refine ⟨⟨i + 1, by omega, fun j hj => ?_⟩, by simp only; omega, cov_of ?_ ?_ ?_⟩
      · by_cases e : j = i
        · subst e
          subst hA
          intro hq
          have := hbb.2 hq
          rw [ht] at this
          cases this
        · exact hb j (by omega)
      · cbv
        subst hA
        exact ⟨congrArg (fun x => DV.v (.int .i64 x)) (up64 hlt' hn), trivial⟩
      · cbv
      · cbv
  · subst hA
    simp only [real, decide_eq_false_iff_not, Int.ofNat_eq_natCast] at *
    obtain rfl := firstIx_one hx (.none fun j hj => hb j (by omega))
    rfl
set_option maxRecDepth 100000 in
theorem c_ContainsRow1 (n : Nat) (hn : n ≤ maxLen) (g : Nat → RowT) (F : FuncId) (c0 : DV) (Q : RowT → Prop) (hc : ∀ r, ∃ b, (b = true ↔ Q r) ∧ Meets Try.prog F [xd (eRow r), .c (.d c0)] ⟨.one (.c (.d (eB b))), [none, none]⟩) : ∃ b, (b = true ↔ ∃ i, i < n ∧ Q (g i)) ∧ Meets Try.prog 82 [.c (.d (.sl 13 n fun i => eRow (g i))), .c (.d (.fn F [c0]))] ⟨.one (.c (.d (eB b))), [none, none]⟩ := by
  obtain ⟨x, hx, hm⟩ := c_IndexRow1 n hn g F c0 Q hc
  obtain ⟨b, hb⟩ : ∃ b, b = decide (0 ≤ x) := ⟨_, rfl⟩
  have hxx := firstIx_neg hx
  refine ⟨b, by rw [hb, decide_eq_true_eq]; exact hxx.1, ?_⟩
  refine meets_of (H := []) (EX := EXA) ttok mixed Try.func82 rfl (by kernel_rfl) (by decide) ?_
  generalize hA : real = A
  generalize hM : MeetsB Try.prog = M
  cbv
  repeat' first
    | apply And.intro
    | exact True.intro
    | with_reducible rfl
    | exact same_of hA rfl
    | refine br_of hA (fun _ => ?_) (fun _ => ?_)
    | exact imp_of hA id
    | (refine imp_of hA ?_; subst hA; simp only [real, Bool.true_and]; exact id)
    | (refine ind_of hA ?_; decide +kernel)
    | (refine call_of hA hM _ hm ?_; cbv)
    | fail
  all_goals subst hA
  all_goals refine congrArg (fun b => XA.one (.c (.d (eB b)))) (Bool.eq_iff_iff.2 ?_)
  all_goals subst_vars
  all_goals try simp only [real, bifA, bifB, bifC, bifD, decide_eq_true_eq, decide_eq_false_iff_not, beq_iff_eq, bne_iff_ne, beq_eq_false_iff_ne, bne_eq_false_iff_eq, ne_eq, Bool.and_eq_true, Bool.or_eq_true, Bool.not_eq_true', Bool.not_eq_false', Bool.and_eq_false_iff, Bool.or_eq_false_iff, Bool.false_eq_true, and_false, false_and, or_false, false_or, and_true, true_and, not_true_eq_false, not_false_eq_true, true_iff, false_iff, IntKind.wrap_i64] at *
  all_goals first
    | omega
    | skip
def stIxSnap1 (n : Nat) (g : Nat → SnapT) (F : FuncId) (c0 : DV) (i : Nat) : St := ⟨[(8, .c (.d (eI i))), (7, .c (.d (eI n))), (0, .c (.d (.sl 3 n fun i => eSnap (g i)))), (1, .c (.d (.fn F [c0])))], []⟩
set_option maxRecDepth 100000 in
theorem c_IndexSnap1 (n : Nat) (hn : n ≤ maxLen) (g : Nat → SnapT) (F : FuncId) (c0 : DV) (Q : SnapT → Prop) (hc : ∀ r, ∃ b, (b = true ↔ Q r) ∧ Meets Try.prog F [xd (eSnap r), .c (.d c0)] ⟨.one (.c (.d (eB b))), [none, none]⟩) : ∃ x, FirstIx n (fun i => Q (g i)) x ∧ Meets Try.prog 130 [.c (.d (.sl 3 n fun i => eSnap (g i))), .c (.d (.fn F [c0]))] ⟨.one (.c (.d (eI x))), [none, none]⟩ := by
  obtain ⟨x, hx⟩ := firstIx_ex n fun i => Q (g i)
  refine ⟨x, hx, ?_⟩
  refine meets_of (H := []) (EX := EXA) ttok mixed Try.func130 rfl (by kernel_rfl) (by decide) ?_
  generalize hA : real = A
  generalize hM : MeetsB Try.prog = M
  cbv
  repeat' first
    | apply And.intro
    | exact True.intro
    | with_reducible rfl
    | exact same_of hA rfl
    | refine br_of hA (fun _ => ?_) (fun _ => ?_)
    | exact imp_of hA id
    | (refine imp_of hA ?_; subst hA; simp only [real, Bool.true_and]; exact id)
    | (refine ind_of hA ?_; decide +kernel)
    | fail
  refine loop_of hA (α := { i : Nat // i ≤ n ∧ ∀ j, j < i → ¬ Q (g j) }) (fun x => stIxSnap1 n g F c0 x.1) (fun x => n - x.1) ⟨0, Nat.zero_le _, fun j h => absurd h (Nat.not_lt_zero _)⟩ ?_ ?_
  · refine cov_of ?_ ?_ ?_
    · cbv; subst hA; exact ⟨rfl, rfl, trivial⟩
    · cbv
    · cbv
  rintro ⟨i, hi, hb⟩
  cbv
  repeat' first
    | apply And.intro
    | exact True.intro
    | with_reducible rfl
    | exact same_of hA rfl
    | refine br_of hA (fun _ => ?_) (fun _ => ?_)
    | exact imp_of hA id
    | (refine imp_of hA ?_; subst hA; simp only [real, Bool.true_and]; exact id)
    | (refine ind_of hA ?_; decide +kernel)
    | (refine inb_of hA fun _ => ?_; subst hA; simp only [real, decide_eq_true_eq, Int.ofNat_eq_natCast] at *; omega)
    | fail
  · refine call_ex hA hM (hc (g (A.nat (Int.ofNat i)))) (fun b hbb => ?_)
    cbv
    repeat' first
      | apply And.intro
      | exact True.intro
      | with_reducible rfl
      | exact same_of hA rfl
      | refine br_of hA (fun _ => ?_) (fun _ => ?_)
      | exact imp_of hA id
      | (refine imp_of hA ?_; subst hA; simp only [real, Bool.true_and]; exact id)
      | (refine ind_of hA ?_; decide +kernel)
      | fail
    · rename_i hlt ht
      subst hA
      simp only [real, decide_eq_true_eq, Int.ofNat_eq_natCast, Int.toNat_natCast] at *
      obtain rfl := firstIx_one hx (.at i (by omega) (hbb.1 ht) hb)
      rfl
    · rename_i hlt ht
      have hlt' : i < n := by subst hA; simp only [real, decide_eq_true_eq, Int.ofNat_eq_natCast] at hlt; omega
      refine ⟨⟨i + 1, by omega, fun j hj => ?_⟩, by simp only; omega, cov_of ?_ ?_ ?_⟩
      · by_cases e : j = i
        · subst e
          subst hA
          intro hq
          have := hbb.2 hq
          rw [ht] at this
          cases this
        · exact hb j (by omega)
      · cbv
        subst hA
        exact ⟨congrArg (fun x => DV.v (.int .i64 x)) (up64 hlt' hn), trivial⟩
      · cbv
      · cbv
  · subst hA
    simp only [real, decide_eq_false_iff_not, Int.ofNat_eq_natCast] at *
    obtain rfl := firstIx_one hx (.none fun j hj => hb j (by omega))
    rfl
set_option maxRecDepth 100000 in
theorem c_ContainsSnap1 (n : Nat) (hn : n ≤ maxLen) (g : Nat → SnapT) (F : FuncId) (c0 : DV) (Q : SnapT → Prop) (hc : ∀ r, ∃ b, (b = true ↔ Q r) ∧ Meets Try.prog F [xd (eSnap r), .c (.d c0)] ⟨.one (.c (.d (eB b))), [none, none]⟩) : ∃ b, (b = true ↔ ∃ i, i < n ∧ Q (g i)) ∧ Meets Try.prog 104 [.c (.d (.sl 3 n fun i => eSnap (g i))), .c (.d (.fn F [c0]))] ⟨.one (.c (.d (eB b))), [none, none]⟩ := by
  obtain ⟨x, hx, hm⟩ := c_IndexSnap1 n hn g F c0 Q hc
  obtain ⟨b, hb⟩ : ∃ b, b = decide (0 ≤ x) := ⟨_, rfl⟩
  have hxx := firstIx_neg hx
  refine ⟨b, by rw [hb, decide_eq_true_eq]; exact hxx.1, ?_⟩
  refine meets_of (H := []) (EX := EXA) ttok mixed Try.func104 rfl (by kernel_rfl) (by decide) ?_
  generalize hA : real = A
  generalize hM : MeetsB Try.prog = M
  cbv
  repeat' first
    | apply And.intro
    | exact True.intro
    | with_reducible rfl
    | exact same_of hA rfl
    | refine br_of hA (fun _ => ?_) (fun _ => ?_)
    | exact imp_of hA id
    | (refine imp_of hA ?_; subst hA; simp only [real, Bool.true_and]; exact id)
    | (refine ind_of hA ?_; decide +kernel)
    | (refine call_of hA hM _ hm ?_; cbv)
    | fail
  all_goals subst hA
  all_goals refine congrArg (fun b => XA.one (.c (.d (eB b)))) (Bool.eq_iff_iff.2 ?_)
  all_goals subst_vars
  all_goals try simp only [real, bifA, bifB, bifC, bifD, decide_eq_true_eq, decide_eq_false_iff_not, beq_iff_eq, bne_iff_ne, beq_eq_false_iff_ne, bne_eq_false_iff_eq, ne_eq, Bool.and_eq_true, Bool.or_eq_true, Bool.not_eq_true', Bool.not_eq_false', Bool.and_eq_false_iff, Bool.or_eq_false_iff, Bool.false_eq_true, and_false, false_and, or_false, false_or, and_true, true_and, not_true_eq_false, not_false_eq_true, true_iff, false_iff, IntKind.wrap_i64] at *
  all_goals first
    | omega
    | skip
def stIxint0 (n : Nat) (g : Nat → Int) (F : FuncId) (i : Nat) : St := ⟨[(8, .c (.d (eI i))), (7, .c (.d (eI n))), (0, .c (.d (.sl 1 n fun i => [eI (g i)]))), (1, .c (.d (.fn F [])))], []⟩
set_option maxRecDepth 100000 in
theorem c_Indexint0 (n : Nat) (hn : n ≤ maxLen) (g : Nat → Int) (F : FuncId) (Q : Int → Prop) (hc : ∀ r, ∃ b, (b = true ↔ Q r) ∧ Meets Try.prog F [.c (.d (eI r))] ⟨.one (.c (.d (eB b))), [none]⟩) : ∃ x, FirstIx n (fun i => Q (g i)) x ∧ Meets Try.prog 123 [.c (.d (.sl 1 n fun i => [eI (g i)])), .c (.d (.fn F []))] ⟨.one (.c (.d (eI x))), [none, none]⟩ := by
  obtain ⟨x, hx⟩ := firstIx_ex n fun i => Q (g i)
  refine ⟨x, hx, ?_⟩
  refine meets_of (H := []) (EX := EXA) ttok mixed Try.func123 rfl (by kernel_rfl) (by decide) ?_
  generalize hA : real = A
  generalize hM : MeetsB Try.prog = M
  cbv
  repeat' first
    | apply And.intro
    | exact True.intro
    | with_reducible rfl
    | exact same_of hA rfl
    | refine br_of hA (fun _ => ?_) (fun _ => ?_)
    | exact imp_of hA id
    | (refine imp_of hA ?_; subst hA; simp only [real, Bool.true_and]; exact id)
    | (refine ind_of hA ?_; decide +kernel)
    | fail
  refine loop_of hA (α := { i : Nat // i ≤ n ∧ ∀ j, j < i → ¬ Q (g j) }) (fun x => stIxint0 n g F x.1) (fun x => n - x.1) ⟨0, Nat.zero_le _, fun j h => absurd h (Nat.not_lt_zero _)⟩ ?_ ?_
  · refine cov_of ?_ ?_ ?_
    · cbv; subst hA; exact ⟨rfl, rfl, trivial⟩
    · cbv
    · cbv
  rintro ⟨i, hi, hb⟩
  cbv
  repeat' first
    | apply And.intro
    | exact True.intro
    | with_reducible rfl
    | exact same_of hA rfl
    | refine br_of hA (fun _ => ?_) (fun _ => ?_)
    | exact imp_of hA id
    | (refine imp_of hA ?_; subst hA; simp only [real, Bool.true_and]; exact id)
    | (refine ind_of hA ?_; decide +kernel)
    | (refine inb_of hA fun _ => ?_; subst hA; simp only [real, decide_eq_true_eq, Int.ofNat_eq_natCast] at *; omega)
    | fail
  · refine call_ex hA hM (hc (g (A.nat (Int.ofNat i)))) (fun b hbb => ?_)
    cbv
    repeat' first
      | apply And.intro
      | exact True.intro
      | with_reducible rfl
      | exact same_of hA rfl
      | refine br_of hA (fun _ => ?_) (fun _ => ?_)
      | exact imp_of hA id
      | (refine imp_of hA ?_; subst hA; simp only [real, Bool.true_and]; exact id)
      | (refine ind_of hA ?_; decide +kernel)
      | fail
    · rename_i hlt ht
      subst hA
      simp only [real, decide_eq_true_eq, Int.ofNat_eq_natCast, Int.toNat_natCast] at *
      obtain rfl := firstIx_one hx (.at i (by omega) (hbb.1 ht) hb)
      rfl
    · rename_i hlt ht
      have hlt' : i < n := by subst hA; simp only [real, decide_eq_true_eq, Int.ofNat_eq_natCast] at hlt; omega
      refine ⟨⟨i + 1, by omega, fun j hj => ?_⟩, by simp only; omega, cov_of ?_ ?_ ?_⟩
      · by_cases e : j = i
        · subst e
          subst hA
          intro hq
          have := hbb.2 hq
          rw [ht] at this
          cases this
        · exact hb j (by omega)
      · cbv
        subst hA
        exact ⟨congrArg (fun x => DV.v (.int .i64 x)) (up64 hlt' hn), trivial⟩
      · cbv
      · cbv
  · subst hA
    simp only [real, decide_eq_false_iff_not, Int.ofNat_eq_natCast] at *
    obtain rfl := firstIx_one hx (.none fun j hj => hb j (by omega))
    rfl
set_option maxRecDepth 100000 in
theorem c_Containsint0 (n : Nat) (hn : n ≤ maxLen) (g : Nat → Int) (F : FuncId) (Q : Int → Prop) (hc : ∀ r, ∃ b, (b = true ↔ Q r) ∧ Meets Try.prog F [.c (.d (eI r))] ⟨.one (.c (.d (eB b))), [none]⟩) : ∃ b, (b = true ↔ ∃ i, i < n ∧ Q (g i)) ∧ Meets Try.prog 83 [.c (.d (.sl 1 n fun i => [eI (g i)])), .c (.d (.fn F []))] ⟨.one (.c (.d (eB b))), [none, none]⟩ := by
  obtain ⟨x, hx, hm⟩ := c_Indexint0 n hn g F Q hc
  obtain ⟨b, hb⟩ : ∃ b, b = decide (0 ≤ x) := ⟨_, rfl⟩
  have hxx := firstIx_neg hx
  refine ⟨b, by rw [hb, decide_eq_true_eq]; exact hxx.1, ?_⟩
  refine meets_of (H := []) (EX := EXA) ttok mixed Try.func83 rfl (by kernel_rfl) (by decide) ?_
  generalize hA : real = A
  generalize hM : MeetsB Try.prog = M
  cbv
  repeat' first
    | apply And.intro
    | exact True.intro
    | with_reducible rfl
    | exact same_of hA rfl
    | refine br_of hA (fun _ => ?_) (fun _ => ?_)
    | exact imp_of hA id
    | (refine imp_of hA ?_; subst hA; simp only [real, Bool.true_and]; exact id)
    | (refine ind_of hA ?_; decide +kernel)
    | (refine call_of hA hM _ hm ?_; cbv)
    | fail
  all_goals subst hA
  all_goals refine congrArg (fun b => XA.one (.c (.d (eB b)))) (Bool.eq_iff_iff.2 ?_)
  all_goals subst_vars
  all_goals try simp only [real, bifA, bifB, bifC, bifD, decide_eq_true_eq, decide_eq_false_iff_not, beq_iff_eq, bne_iff_ne, beq_eq_false_iff_ne, bne_eq_false_iff_eq, ne_eq, Bool.and_eq_true, Bool.or_eq_true, Bool.not_eq_true', Bool.not_eq_false', Bool.and_eq_false_iff, Bool.or_eq_false_iff, Bool.false_eq_true, and_false, false_and, or_false, false_or, and_true, true_and, not_true_eq_false, not_false_eq_true, true_iff, false_iff, IntKind.wrap_i64] at *
  all_goals first
    | omega
    | skip
end Go.Rk
/- Rows. -/
namespace Go.Rk
set_option linter.unusedSimpArgs false
set_option linter.unusedVariables false
open Go.Proofs
theorem beqB (a b : Bool) : ((a == b) = true) = (a = true ↔ b = true) := by cases a <;> cases b <;> simp
theorem beqI (a b : Int) : ((a == b) = true) = (a = b) := by simp
theorem bneI (a b : Int) : ((a != b) = true) = ¬ (a = b) := by simp
theorem beqIF (a b : Int) : ((a == b) = false) = ¬ (a = b) := by simp
theorem bneIF (a b : Int) : ((a != b) = false) = (a = b) := by simp
open Classical in
set_option maxRecDepth 100000 in
theorem c_rowOk (j : JobT) (r : RowT) (mark : Int) : ∃ b, (b = true ↔ RowOkP j r mark) ∧ Meets Try.prog 78 [xd (eRow r), xd (eJob j), .c (.d (eI mark))] ⟨.one (.c (.d (eB b))), [none, none, none]⟩ := by
  obtain ⟨b, hb⟩ : ∃ b, b = decide (RowOkP j r mark) := ⟨_, rfl⟩
  refine ⟨b, by rw [hb, decide_eq_true_eq], ?_⟩
  refine meets_of (H := []) (EX := EXA) ttok mixed Try.func78 rfl (by kernel_rfl) (by decide) ?_
  generalize hA : real = A
  generalize hM : MeetsB Try.prog = M
  cbv
  repeat' first
    | apply And.intro
    | exact True.intro
    | with_reducible rfl
    | exact same_of hA rfl
    | refine br_of hA (fun _ => ?_) (fun _ => ?_)
    | exact imp_of hA id
    | (refine imp_of hA ?_; subst hA; simp only [real, Bool.true_and]; exact id)
    | (refine ind_of hA ?_; decide +kernel)
    | (refine call_ex hA hM (c_in _ _ _) (fun _ _ => ?_); cbv)
    | (refine call_ex hA hM (c_isKey _) (fun _ _ => ?_); cbv)
    | (refine call_ex hA hM (c_WinOk _ _) (fun _ _ => ?_); cbv)
    | (refine call_ex hA hM (c_AggOk _ _ _ _) (fun _ _ => ?_); cbv)
    | fail
  all_goals obtain ⟨key, ⟨s, e⟩, ⟨n1, sum1, least1, most1⟩, ⟨n2, sum2, least2, most2⟩, told, timely⟩ := r
  all_goals obtain ⟨_, _, _, _, _, late, _, _, _, _⟩ := j
  all_goals subst hA
  all_goals refine congrArg (fun b => XA.one (.c (.d (eB b)))) (Bool.eq_iff_iff.2 ?_)
  all_goals subst_vars
  all_goals simp only [real, bifA, bifB, bifC, bifD, beqB, decide_eq_true_eq, decide_eq_false_iff_not, beqI, bneI, beqIF, bneIF, ne_eq, Bool.and_eq_true, Bool.or_eq_true, Bool.not_eq_true', Bool.not_eq_false', Bool.and_eq_false_iff, Bool.or_eq_false_iff, Bool.false_eq_true, and_false, false_and, or_false, false_or, and_true, true_and, not_true_eq_false, not_false_eq_true, true_iff, false_iff, IntKind.wrap_i64, RowOkP, WinOkP, AggOkP] at *
  all_goals first
    | omega
    | (cases timely <;> simp only [true_iff, false_iff, iff_true, iff_false, Bool.false_eq_true, not_true_eq_false, not_false_eq_true, reduceCtorEq] at * <;> omega)
end Go.Rk
/- Operators. -/
namespace Go.Rk
set_option linter.unusedSimpArgs false
set_option linter.unusedVariables false
open Go.Proofs
def OkAt (j : JobT) (mark : Int) (g : Nat → RowT) (i : Nat) : Prop := RowOkP j (g i) mark ∧ (0 < i → AheadP (g (i - 1)).key (g (i - 1)).win (g i).key (g i).win) ∧
    (j.kind = 3 → ∀ k, k < i → ¬ ((g k).key = (g i).key ∧ TouchP (g k).win (g i).win))
theorem down64 {i : Nat} (h : 0 < i) (hn : i ≤ maxLen) : (IntKind.i64.wrap ((i : Int) - 1)).toNat = i - 1 := by
  have hm : maxLen = 9223372036854775807 := by decide
  rw [hm] at hn
  rw [IntWalk.i64_in _ (by omega)]
  omega
theorem c_rcmpA (r q : RowT) : ∃ x : Int, (x < 0 ↔ AheadP r.key r.win q.key q.win) ∧ Meets Try.prog 79 [xd (eRow r), xd (eRow q)] ⟨.one (.c (.d (eI x))), [none, none]⟩ := by
  obtain ⟨x, hx, hm⟩ := c_rcompare r q
  refine ⟨x, ?_, hm⟩
  unfold AheadP WinLt
  omega
set_option maxRecDepth 100000 in
theorem c_OpOk1 (r q : RowT) : ∃ b, (b = true ↔ q.key = r.key ∧ TouchP q.win r.win) ∧ Meets Try.prog 80 [xd (eRow q), .c (.d (.p (eRow r)))] ⟨.one (.c (.d (eB b))), [none, none]⟩ := by
  obtain ⟨b, hb⟩ : ∃ b, b = decide (q.key = r.key ∧ q.win.s < r.win.e ∧ r.win.s < q.win.e) := ⟨_, rfl⟩
  refine ⟨b, by rw [hb, decide_eq_true_eq]; exact Iff.rfl, ?_⟩
  refine meets_of (H := []) (EX := EXA) ttok mixed Try.func80 rfl (by kernel_rfl) (by decide) ?_
  generalize hA : real = A
  generalize hM : MeetsB Try.prog = M
  cbv
  repeat' first
    | apply And.intro
    | exact True.intro
    | with_reducible rfl
    | exact same_of hA rfl
    | refine br_of hA (fun _ => ?_) (fun _ => ?_)
    | exact imp_of hA id
    | (refine imp_of hA ?_; subst hA; simp only [real, Bool.true_and]; exact id)
    | (refine ind_of hA ?_; decide +kernel)
    | (refine call_ex hA hM (c_WinTouch _ _ _ _) (fun _ _ => ?_); cbv)
    | fail
  all_goals subst hA
  all_goals refine congrArg (fun b => XA.one (.c (.d (eB b)))) (Bool.eq_iff_iff.2 ?_)
  all_goals subst_vars
  all_goals try simp only [real, bifA, bifB, bifC, bifD, decide_eq_true_eq, decide_eq_false_iff_not, beq_iff_eq, bne_iff_ne, beq_eq_false_iff_ne, bne_eq_false_iff_eq, ne_eq, Bool.and_eq_true, Bool.or_eq_true, Bool.not_eq_true', Bool.not_eq_false', Bool.and_eq_false_iff, Bool.or_eq_false_iff, Bool.false_eq_true, and_false, false_and, or_false, false_or, and_true, true_and, not_true_eq_false, not_false_eq_true, true_iff, false_iff, IntKind.wrap_i64] at *
  all_goals first
    | omega
    | skip
def stOk (j : JobT) (mark : Int) (n : Nat) (g : Nat → RowT) (i : Nat) : St := ⟨[(26, .c (.d (eI i))), (25, .c (.d (eI n))), (24, .c (.d (.sl 13 n fun i => eRow (g i)))), (2, .c (.bp 128 1 0)), (3, .c (.bp 192 1 0))], [(128, 1, .box ((eJob j).map .d)), (192, 1, .box ([eI mark, .sl 13 n fun i => eRow (g i)].map .d))]⟩
open Classical in
set_option maxRecDepth 100000 in
theorem c_OpOk (j : JobT) (s : OpStT) : ∃ b, (b = true ↔ OpOkP j s) ∧ Meets Try.prog 36 [xd (eJob j), xd (eOpSt s)] ⟨.one (.c (.d (eB b))), [none, none]⟩ := by
  obtain ⟨b, hb⟩ : ∃ b : Bool, (b = true ↔ OpOkP j s) := ⟨decide (OpOkP j s), by rw [decide_eq_true_eq]⟩
  refine ⟨b, hb, ?_⟩
  obtain ⟨mark, n, g, hn⟩ := s
  show Meets Try.prog 36 [xd (eJob j), xd [eI mark, .sl 13 n fun i => eRow (g i)]] _
  refine meets_of (H := []) (EX := EXA) ttok mixed Try.func36 rfl (by kernel_rfl) (by decide) ?_
  generalize hA : real = A
  generalize hM : MeetsB Try.prog = M
  cbv
  repeat' first
    | apply And.intro
    | exact True.intro
    | with_reducible rfl
    | exact same_of hA rfl
    | refine br_of hA (fun _ => ?_) (fun _ => ?_)
    | exact imp_of hA id
    | (refine imp_of hA ?_; subst hA; simp only [real, Bool.true_and]; exact id)
    | (refine ind_of hA ?_; decide +kernel)
    | (refine call_ex hA hM (c_JobOk _ _ _ _ _ _ _ _ _ _) (fun _ _ => ?_); cbv)
    | (refine call_ex hA hM (c_isTime _) (fun _ _ => ?_); cbv)
    | fail
  · rename_i hbad
    subst hA; subst_vars
    refine congrArg (fun b => XA.one (.c (.d (eB b)))) ?_
    simp only [real, bifA, bifB, bifC, bifD, beqB, decide_eq_true_eq, decide_eq_false_iff_not, beqI, bneI, beqIF, bneIF, ne_eq, Bool.and_eq_true, Bool.or_eq_true, Bool.not_eq_true', Bool.not_eq_false', Bool.and_eq_false_iff, Bool.or_eq_false_iff, Bool.false_eq_true, and_false, false_and, or_false, false_or, and_true, true_and, not_true_eq_false, not_false_eq_true, true_iff, false_iff, Int.ofNat_eq_natCast, Int.toNat_natCast] at hbad
    cases b with
    | false => rfl
    | true =>
      exfalso
      obtain ⟨h1, h2, h3, _⟩ := hb.1 rfl
      unfold JobOkP at h1
      simp only at h2 h3
      omega
  rename_i hgood
  have hpre : JobOkP j ∧ (0 ≤ mark ∧ mark ≤ 1000) ∧ n ≤ 300 := by
    subst hA; subst_vars
    simp only [real, bifA, bifB, bifC, bifD, beqB, decide_eq_true_eq, decide_eq_false_iff_not, beqI, bneI, beqIF, bneIF, ne_eq, Bool.and_eq_true, Bool.or_eq_true, Bool.not_eq_true', Bool.not_eq_false', Bool.and_eq_false_iff, Bool.or_eq_false_iff, Bool.false_eq_true, and_false, false_and, or_false, false_or, and_true, true_and, not_true_eq_false, not_false_eq_true, true_iff, false_iff, Int.ofNat_eq_natCast, Int.toNat_natCast] at hgood
    unfold JobOkP
    omega
  clear hgood
  refine loop_of hA (α := { i : Nat // i ≤ n ∧ ∀ k, k < i → OkAt j mark g k }) (fun x => stOk j mark n g x.1) (fun x => n - x.1) ⟨0, Nat.zero_le _, fun j h => absurd h (Nat.not_lt_zero _)⟩ ?_ ?_
  · refine cov_of ?_ ?_ ?_
    · cbv; subst hA; repeat' first | apply And.intro | exact True.intro | rfl
    · cbv; try (repeat' first | apply And.intro | exact True.intro | rfl)
    · cbv
  rintro ⟨i, hi, hk⟩
  cbv
  repeat' first
    | apply And.intro
    | exact True.intro
    | with_reducible rfl
    | exact same_of hA rfl
    | refine br_of hA (fun _ => ?_) (fun _ => ?_)
    | exact imp_of hA id
    | (refine imp_of hA ?_; subst hA; simp only [real, Bool.true_and]; exact id)
    | (refine ind_of hA ?_; decide +kernel)
    | (refine call_ex hA hM (c_rowOk _ _ _) (fun _ _ => ?_); cbv)
    | (refine call_ex hA hM (c_rcmpA _ _) (fun _ _ => ?_); cbv)
    | (refine inb_of hA fun _ => ?_; subst hA; simp only [real, Bool.and_eq_true, Bool.not_eq_true', Bool.not_eq_false', decide_eq_true_eq, Int.ofNat_eq_natCast, IntKind.wrap_i64] at *; omega)
    | (refine cut_of hA ?_; subst hA; simp only [real, decide_eq_true_eq, Int.ofNat_eq_natCast] at *; omega)
    | (refine call_ex2 hA hM (c_ContainsRow1 i (Nat.le_trans hi hn) g 80 (.p (eRow (g (A.nat (Int.ofNat i))))) _ (fun q => c_OpOk1 (g (A.nat (Int.ofNat i))) q)) (congrArg (fun d => [XT.c (.d d), XT.c (.d (.fn 80 [.p (eRow (g (A.nat (Int.ofNat i))))]))]) (sl0 hA _ _ _)) (fun _ _ => ?_); cbv)
  · rename_i hlt b1 hb1 x hx hc
    subst hA
    refine congrArg (fun b => XA.one (.c (.d (eB b)))) ?_
    simp only [real, bifA, bifB, bifC, bifD, beqB, decide_eq_true_eq, decide_eq_false_iff_not, beqI, bneI, beqIF, bneIF, ne_eq, Bool.and_eq_true, Bool.or_eq_true, Bool.not_eq_true', Bool.not_eq_false', Bool.and_eq_false_iff, Bool.or_eq_false_iff, Bool.false_eq_true, and_false, false_and, or_false, false_or, and_true, true_and, not_true_eq_false, not_false_eq_true, true_iff, false_iff, Int.ofNat_eq_natCast, Int.toNat_natCast] at hlt hb1 hx hc
    cases b with
    | false => rfl
    | true =>
      exfalso
      have h : OkAt j mark g i := (hb.1 rfl).2.2.2 i (show i < n by omega)
      rcases hc with hc | hc
      · have := hb1.2 h.1; rw [hc] at this; cases this
      · rw [down64 (by omega) (Nat.le_trans hi hn)] at hx
        have := hx.2 (h.2.1 (by omega)); omega
  · rename_i hlt b1 hb1 x hx hc b2 hb2 hc2
    subst hA
    refine congrArg (fun b => XA.one (.c (.d (eB b)))) ?_
    simp only [real, bifA, bifB, bifC, bifD, beqB, decide_eq_true_eq, decide_eq_false_iff_not, beqI, bneI, beqIF, bneIF, ne_eq, Bool.and_eq_true, Bool.or_eq_true, Bool.not_eq_true', Bool.not_eq_false', Bool.and_eq_false_iff, Bool.or_eq_false_iff, Bool.false_eq_true, and_false, false_and, or_false, false_or, and_true, true_and, not_true_eq_false, not_false_eq_true, true_iff, false_iff, Int.ofNat_eq_natCast, Int.toNat_natCast] at hlt hb2 hc2
    cases b with
    | false => rfl
    | true =>
      exfalso
      have h : OkAt j mark g i := (hb.1 rfl).2.2.2 i (show i < n by omega)
      obtain ⟨k, hk1, hk2⟩ := hb2.1 hc2.2
      exact h.2.2 hc2.1 k hk1 hk2
  · rename_i hlt b1 hb1 x hx hc b2 hb2 hc2
    have hlt' : i < n := by subst hA; simp only [real, decide_eq_true_eq, Int.ofNat_eq_natCast] at hlt; omega
    refine ⟨⟨i + 1, by omega, fun k hk' => ?_⟩, by simp only; omega, cov_of ?_ ?_ ?_⟩
    · by_cases e : k = i
      · subst e
        subst hA
        simp only [real, bifA, bifB, bifC, bifD, beqB, decide_eq_true_eq, decide_eq_false_iff_not, beqI, bneI, beqIF, bneIF, ne_eq, Bool.and_eq_true, Bool.or_eq_true, Bool.not_eq_true', Bool.not_eq_false', Bool.and_eq_false_iff, Bool.or_eq_false_iff, Bool.false_eq_true, and_false, false_and, or_false, false_or, and_true, true_and, not_true_eq_false, not_false_eq_true, true_iff, false_iff, Int.ofNat_eq_natCast, Int.toNat_natCast] at hlt hb1 hx hc hb2 hc2
        refine ⟨hb1.1 (by cases b1 <;> simp_all), fun hp => ?_, fun h3 q hq hqq => ?_⟩
        · rw [down64 hp (Nat.le_trans hi hn)] at hx
          refine hx.1 ?_
          rcases hc.2 with h | h <;> omega
        · rcases hc2 with h | h
          · exact h h3
          · have := hb2.2 ⟨q, hq, hqq⟩; rw [h] at this; cases this
      · exact hk k (by omega)
    · cbv
      subst hA
      exact ⟨congrArg (fun x => DV.v (.int .i64 x)) (up64 hlt' hn), trivial⟩
    · cbv; try (repeat' first | apply And.intro | exact True.intro | rfl)
    · cbv
  · rename_i hge
    refine congrArg (fun b => XA.one (.c (.d (eB b)))) ?_
    refine (hb.2 ⟨hpre.1, hpre.2.1, hpre.2.2, fun k hk' => ?_⟩).symm
    have hk' : k < n := hk'
    exact hk k (by subst hA; simp only [real, decide_eq_false_iff_not, Int.ofNat_eq_natCast] at hge; omega)
end Go.Rk
/- Counts and least numbers. -/
namespace Go.Rk
set_option linter.unusedSimpArgs false
set_option linter.unusedVariables false
/-- A call that is made where its guard holds alone. -/
theorem call_exg {A : Ar} {P : Program} {M : Ms} (hA : real = A) (hM : MeetsB P = M) {g : Bool} {f : FuncId} {args : List XT} {K : Out → Prop} {β : Type} {S : β → Prop} {out : β → Out}
    (hne : ∃ b, S b) (h : ∀ b, S b → g = true → Meets P f args (out b)) (k : ∀ b, S b → K (out b)) : A.hold fun _ => ∃ out, (g = true → M.m f args out) ∧ K out := by
  subst hA hM
  obtain ⟨b, hb⟩ := hne
  exact ⟨out b, fun hg => h b hb hg, k b hb⟩
theorem nex {b : Bool} {n : Nat} {P : Nat → Prop} (h : b = true ↔ ∃ i, i < n ∧ ¬ P i) : b = false ↔ ∀ i, i < n → P i := by
  rw [← Bool.not_eq_true, h]
  exact ⟨fun h i hi => Classical.byContradiction fun hn => h ⟨i, hi, hn⟩, fun h ⟨i, hi, hn⟩ => hn (h i hi)⟩
/-- The least of these and 'z'. -/
def LowP (z : Int) (n : Nat) (g : Nat → Int) (x : Int) : Prop := x ≤ z ∧ (∀ i, i < n → x ≤ g i) ∧ (x = z ∨ ∃ i, i < n ∧ x = g i)
theorem lowP_one {z : Int} {n : Nat} {g : Nat → Int} {x y : Int} (h : LowP z n g x) (h' : LowP z n g y) : x = y := by
  have a : x ≤ y := by
    rcases h'.2.2 with e | ⟨i, hi, e⟩
    · rw [e]; exact h.1
    · rw [e]; exact h.2.1 i hi
  have b : y ≤ x := by
    rcases h.2.2 with e | ⟨i, hi, e⟩
    · rw [e]; exact h'.1
    · rw [e]; exact h'.2.1 i hi
  omega
theorem lowP_step {z : Int} {n : Nat} {g : Nat → Int} {x : Int} (h : LowP z n g x) : LowP z (n + 1) g (if g n < x then g n else x) := by
  obtain ⟨h1, h2, h3⟩ := h
  split
  · refine ⟨by omega, fun i hi => ?_, .inr ⟨n, by omega, rfl⟩⟩
    rcases Nat.lt_succ_iff_lt_or_eq.1 hi with hi | rfl
    · have := h2 i hi; omega
    · omega
  · refine ⟨h1, fun i hi => ?_, h3.imp id fun ⟨i, hi, e⟩ => ⟨i, by omega, e⟩⟩
    rcases Nat.lt_succ_iff_lt_or_eq.1 hi with hi | rfl
    · exact h2 i hi
    · omega
theorem lowP_ex (z : Int) (n : Nat) (g : Nat → Int) : ∃ x, LowP z n g x := by
  induction n with
  | zero => exact ⟨z, by omega, fun i hi => absurd hi (Nat.not_lt_zero i), .inl rfl⟩
  | succ n ih => obtain ⟨x, hx⟩ := ih; exact ⟨_, lowP_step hx⟩
/-- The least of these, of which there is one. -/
def MinP (n : Nat) (g : Nat → Int) (x : Int) : Prop := (∀ i, i < n → x ≤ g i) ∧ ∃ i, i < n ∧ x = g i
theorem minP_of {n : Nat} {g : Nat → Int} {x : Int} (h0 : 0 < n) (h : LowP (g 0) n g x) : MinP n g x := ⟨h.2.1, h.2.2.elim (fun e => ⟨0, h0, e⟩) id⟩
theorem minP_one {n : Nat} {g : Nat → Int} {x y : Int} (h : MinP n g x) (h' : MinP n g y) : x = y := by
  obtain ⟨i, hi, e⟩ := h.2
  obtain ⟨j, hj, e'⟩ := h'.2
  have := h.1 j hj
  have := h'.1 i hi
  omega
/-- One row more at the end. -/
theorem push_at {A : Ar} (hA : real = A) (n : Nat) (row : Nat → List DV) (x : List DV) (z : Nat → List DV) (k : Nat) (hk : k < n + 1) : A.app n row (A.sub 0 (A.app 1 (A.rep x) z)) k = if k < n then row k else x := by
  subst hA
  show (if k < n then row k else (if 0 + (k - n) < 1 then x else z (0 + (k - n) - 1))) = _
  split
  · rfl
  · rw [if_pos (by omega)]
end Go.Rk
/- What it means that checkpoints are ok. -/
namespace Go.Rk
set_option linter.unusedSimpArgs false
set_option linter.unusedVariables false
def MarksP (j : JobT) (ms : Sl Int) : Prop := (ms.n : Int) = j.srcs ∧ ∀ i, i < ms.n → (0 ≤ ms.g i ∧ ms.g i ≤ 1000)
def SnapOkP (j : JobT) (s : SnapT) : Prop := OpOkP j s.op ∧ MarksP j s.marks ∧ LowP 1000 s.marks.n s.marks.g s.op.mark
def EmptyP (s : SnapT) : Prop := s.op.mark = 0 ∧ s.op.rows.n = 0 ∧ s.marks.n = 0
def SafeOkP (j : JobT) (s : SafeT) : Prop := (0 ≤ s.n ∧ s.n ≤ 900) ∧ (s.at_.n : Int) = j.srcs ∧ (∀ i, i < s.at_.n → (0 ≤ s.at_.g i ∧ s.at_.g i ≤ 40)) ∧ (s.snaps.n : Int) = j.tsks ∧ ∀ i, i < s.snaps.n → SnapOkP j (s.snaps.g i)
def SrcP (opn : Bool) (x : Int) : Prop := (-1 ≤ x ∧ x ≤ 40) ∧ (opn = true ∨ x = -1)
def TkP (j : JobT) (opn : Bool) (t : Bool) (s : SnapT) : Prop := (t = true → opn = true ∧ SnapOkP j s) ∧ (t = false → EmptyP s)
def CkpOkP (j : JobT) (c : CkpT) : Prop := JobOkP j ∧ SafeOkP j c.safe ∧ (c.safe.n ≤ c.n ∧ c.n ≤ 900) ∧ ¬ (c.opn = true ∧ c.n = c.safe.n) ∧ (c.src.n : Int) = j.srcs ∧ (c.tsk.n : Int) = j.tsks ∧ (c.snaps.n : Int) = j.tsks ∧
  (∀ i, i < c.src.n → SrcP c.opn (c.src.g i)) ∧ ∀ i, i < c.tsk.n → TkP j c.opn (c.tsk.g i) (c.snaps.g i)
def ReadyP (c : CkpT) : Prop := c.opn = true ∧ (∀ i, i < c.src.n → c.src.g i ≠ -1) ∧ ∀ i, i < c.tsk.n → c.tsk.g i = true
theorem min_low {n : Nat} {g : Nat → Int} {x : Int} (h0 : 0 < n) (hg : ∀ i, i < n → g i ≤ 1000) : MinP n g x ↔ LowP 1000 n g x := by
  constructor
  · rintro ⟨h1, i, hi, e⟩
    exact ⟨by have := hg i hi; omega, h1, .inr ⟨i, hi, e⟩⟩
  · rintro ⟨h1, h2, h3⟩
    refine ⟨h2, ?_⟩
    rcases h3 with e | h
    · have := h2 0 h0
      have := hg 0 h0
      exact ⟨0, h0, by omega⟩
    · exact h
/-- The least of all, if there is one. -/
theorem minq_ex (n : Nat) (g : Nat → Int) : ∃ x, 0 < n → MinP n g x := by
  by_cases h : 0 < n
  · obtain ⟨x, hx⟩ := lowP_ex (g 0) n g
    exact ⟨x, fun h0 => minP_of h0 hx⟩
  · exact ⟨0, fun h0 => absurd h0 h⟩
theorem tk_of {j : JobT} {opn t b1 b2 : Bool} {s : SnapT} (h1 : b1 = true ↔ SnapOkP j s) (h2 : b2 = true ↔ EmptyP s) : TkP j opn t s ↔ ((t && (!opn || !b1)) || (!t && !b2)) = false := by
  unfold TkP
  rw [← h1, ← h2]
  cases t <;> cases opn <;> cases b1 <;> cases b2 <;> simp
end Go.Rk
/- Checkpoints. -/
namespace Go.Rk
set_option linter.unusedSimpArgs false
set_option linter.unusedVariables false
open Go.Proofs
open Classical in
set_option maxRecDepth 100000 in
theorem c_notTime (n : Int) : ∃ b, (b = true ↔ ¬ (0 ≤ n ∧ n ≤ 1000)) ∧ Meets Try.prog 84 [.c (.d (eI n))] ⟨.one (.c (.d (eB b))), [none]⟩ := by
  obtain ⟨b, hb⟩ : ∃ b : Bool, (b = true ↔ ¬ (0 ≤ n ∧ n ≤ 1000)) := ⟨decide (¬ (0 ≤ n ∧ n ≤ 1000)), by rw [decide_eq_true_eq]⟩
  refine ⟨b, hb, ?_⟩
  refine meets_of (H := []) (EX := EXA) ttok mixed Try.func84 rfl (by kernel_rfl) (by decide) ?_
  generalize hA : real = A
  generalize hM : MeetsB Try.prog = M
  cbv
  repeat' first
    | apply And.intro
    | exact True.intro
    | with_reducible rfl
    | exact same_of hA rfl
    | refine br_of hA (fun _ => ?_) (fun _ => ?_)
    | exact imp_of hA id
    | (refine imp_of hA ?_; subst hA; simp only [real, Bool.true_and]; exact id)
    | (refine ind_of hA ?_; decide +kernel)
    | (refine call_ex hA hM (c_isTime _) (fun _ _ => ?_); cbv)
    | fail
  rename_i b1 hb1
  refine congrArg (fun b => XA.one (.c (.d (eB b)))) (Bool.eq_iff_iff.2 ?_)
  subst hA
  rw [hb, hb1]
  simp [real]
  omega
open Classical in
set_option maxRecDepth 100000 in
theorem c_notAt (n : Int) : ∃ b, (b = true ↔ ¬ (0 ≤ n ∧ n ≤ 40)) ∧ Meets Try.prog 102 [.c (.d (eI n))] ⟨.one (.c (.d (eB b))), [none]⟩ := by
  obtain ⟨b, hb⟩ : ∃ b : Bool, (b = true ↔ ¬ (0 ≤ n ∧ n ≤ 40)) := ⟨decide (¬ (0 ≤ n ∧ n ≤ 40)), by rw [decide_eq_true_eq]⟩
  refine ⟨b, hb, ?_⟩
  refine meets_of (H := []) (EX := EXA) ttok mixed Try.func102 rfl (by kernel_rfl) (by decide) ?_
  generalize hA : real = A
  generalize hM : MeetsB Try.prog = M
  cbv
  repeat' first
    | apply And.intro
    | exact True.intro
    | with_reducible rfl
    | exact same_of hA rfl
    | refine br_of hA (fun _ => ?_) (fun _ => ?_)
    | exact imp_of hA id
    | (refine imp_of hA ?_; subst hA; simp only [real, Bool.true_and]; exact id)
    | (refine ind_of hA ?_; decide +kernel)
    | (refine call_ex hA hM (c_in _ _ _) (fun _ _ => ?_); cbv)
    | fail
  rename_i b1 hb1
  refine congrArg (fun b => XA.one (.c (.d (eB b)))) (Bool.eq_iff_iff.2 ?_)
  subst hA
  rw [hb, hb1]
  simp [real]
  omega
open Classical in
set_option maxRecDepth 100000 in
theorem c_marksOk (j : JobT) (ms : Sl Int) : ∃ b, (b = true ↔ MarksP j ms) ∧ Meets Try.prog 37 [xd (eJob j), .c (.d (.sl 1 ms.n fun i => [eI (ms.g i)]))] ⟨.one (.c (.d (eB b))), [none, none]⟩ := by
  obtain ⟨b, hb⟩ : ∃ b : Bool, (b = true ↔ MarksP j ms) := ⟨decide (MarksP j ms), by rw [decide_eq_true_eq]⟩
  refine ⟨b, hb, ?_⟩
  have hcon := c_Containsint0 ms.n ms.hn ms.g 84 _ c_notTime
  refine meets_of (H := []) (EX := EXA) ttok mixed Try.func37 rfl (by kernel_rfl) (by decide) ?_
  generalize hA : real = A
  generalize hM : MeetsB Try.prog = M
  cbv
  repeat' first
    | apply And.intro
    | exact True.intro
    | with_reducible rfl
    | exact same_of hA rfl
    | refine br_of hA (fun _ => ?_) (fun _ => ?_)
    | exact imp_of hA id
    | (refine imp_of hA ?_; subst hA; simp only [real, Bool.true_and]; exact id)
    | (refine ind_of hA ?_; decide +kernel)
    | (refine call_ex hA hM hcon (fun _ _ => ?_); cbv)
    | fail
  rename_i b1 hb1
  refine congrArg (fun b => XA.one (.c (.d (eB b)))) (Bool.eq_iff_iff.2 ?_)
  have e1 := nex hb1
  subst hA
  rw [hb]
  simp only [real, bifA, bifB, bifC, bifD, beqB, decide_eq_true_eq, decide_eq_false_iff_not, beqI, bneI, beqIF, bneIF, ne_eq, Bool.and_eq_true, Bool.or_eq_true, Bool.not_eq_true', Bool.not_eq_false', Bool.and_eq_false_iff, Bool.or_eq_false_iff, Bool.false_eq_true, and_false, false_and, or_false, false_or, and_true, true_and, not_true_eq_false, not_false_eq_true, true_iff, false_iff, Int.ofNat_eq_natCast, Int.toNat_natCast]
  rw [e1]
  exact Iff.rfl
def st_min (n : Nat) (g : Nat → Int) (i : Nat) (v : Int) : St := ⟨[(4, .c (.d (eI i))), (3, .c (.d (eI v))), (0, .c (.d (.sl 1 n fun i => [eI (g i)])))], []⟩
set_option maxRecDepth 100000 in
theorem c_min (n : Nat) (hn : n ≤ maxLen) (g : Nat → Int) (h0 : 0 < n) (x : Int) (hx : MinP n g x) : Meets Try.prog 105 [.c (.d (.sl 1 n fun i => [eI (g i)]))] ⟨.one (.c (.d (eI x))), [none]⟩ := by
  refine meets_of (H := []) (EX := EXA) ttok mixed Try.func105 rfl (by kernel_rfl) (by decide) ?_
  generalize hA : real = A
  generalize hM : MeetsB Try.prog = M
  cbv
  repeat' first
    | apply And.intro
    | exact True.intro
    | with_reducible rfl
    | exact same_of hA rfl
    | refine br_of hA (fun _ => ?_) (fun _ => ?_)
    | exact imp_of hA id
    | (refine imp_of hA ?_; subst hA; simp only [real, Bool.true_and]; exact id)
    | (refine ind_of hA ?_; decide +kernel)
    | (refine inb_of hA fun _ => ?_; subst hA; simp only [real, Bool.and_eq_true, Bool.not_eq_true', Bool.not_eq_false', decide_eq_true_eq, Int.ofNat_eq_natCast, IntKind.wrap_i64] at *; omega)
    | fail
  · exfalso
    rename_i h
    subst hA
    simp only [real, decide_eq_true_eq, Int.ofNat_eq_natCast] at h
    omega
  refine loop_of hA (α := { q : Nat × Int // 1 ≤ q.1 ∧ q.1 ≤ n ∧ LowP (g 0) q.1 g q.2 }) (fun y => st_min n g y.1.1 y.1.2) (fun y => n - y.1.1) ⟨(1, g 0), Nat.le_refl _, h0, Int.le_refl _, fun i h => (by have e : i = 0 := Nat.lt_one_iff.1 h; rw [e]; exact Int.le_refl _), .inl rfl⟩ ?_ ?_
  · refine cov_of ?_ ?_ ?_
    · cbv; try (subst hA; repeat' first | apply And.intro | exact True.intro | rfl)
    · cbv; try (subst hA; repeat' first | apply And.intro | exact True.intro | rfl)
    · cbv
  rintro ⟨⟨i, v⟩, h1, hi, hc⟩
  have hc : LowP (g 0) i g v := hc
  have hi : i ≤ n := hi
  have hs := lowP_step hc
  cbv
  repeat' first
    | apply And.intro
    | exact True.intro
    | with_reducible rfl
    | exact same_of hA rfl
    | refine br_of hA (fun _ => ?_) (fun _ => ?_)
    | exact imp_of hA id
    | (refine imp_of hA ?_; subst hA; simp only [real, Bool.true_and]; exact id)
    | (refine ind_of hA ?_; decide +kernel)
    | (refine inb_of hA fun _ => ?_; subst hA; simp only [real, Bool.and_eq_true, Bool.not_eq_true', Bool.not_eq_false', decide_eq_true_eq, Int.ofNat_eq_natCast, IntKind.wrap_i64] at *; omega)
    | fail
  · rename_i hlt
    have hlt' : i < n := by subst hA; simp only [real, decide_eq_true_eq, Int.ofNat_eq_natCast] at hlt; omega
    obtain ⟨v2, hv2⟩ : ∃ v2 : Int, v2 = (if g i < v then g i else v) := ⟨_, rfl⟩
    rw [← hv2] at hs
    refine ⟨⟨(i + 1, v2), by simp only; omega, by simp only; omega, hs⟩, by simp only; omega, cov_of ?_ ?_ ?_⟩
    · cbv
      subst hA
      repeat' first | apply And.intro | exact True.intro | exact congrArg (fun x => DV.v (.int .i64 x)) (up64 hlt' hn) | exact congrArg (fun x => DV.v (.int .i64 x)) hv2.symm | rfl | (intro k hk; exact push_at rfl _ _ _ _ k hk)
    · cbv
    · cbv
  · rename_i hge
    have : i = n := by
      subst hA
      simp only [real, decide_eq_false_iff_not, Int.ofNat_eq_natCast] at hge
      omega
    subst this
    exact congrArg (fun x => XA.one (.c (.d (eI x)))) (minP_one (minP_of h0 hc) hx)
open Classical in
set_option maxRecDepth 100000 in
theorem c_SnapOk (j : JobT) (s : SnapT) : ∃ b, (b = true ↔ SnapOkP j s) ∧ Meets Try.prog 57 [xd (eSnap s), xd (eJob j)] ⟨.one (.c (.d (eB b))), [none, none]⟩ := by
  obtain ⟨b, hb⟩ : ∃ b : Bool, (b = true ↔ SnapOkP j s) := ⟨decide (SnapOkP j s), by rw [decide_eq_true_eq]⟩
  refine ⟨b, hb, ?_⟩
  refine meets_of (H := []) (EX := EXA) ttok mixed Try.func57 rfl (by kernel_rfl) (by decide) ?_
  generalize hA : real = A
  generalize hM : MeetsB Try.prog = M
  cbv
  repeat' first
    | apply And.intro
    | exact True.intro
    | with_reducible rfl
    | exact same_of hA rfl
    | refine br_of hA (fun _ => ?_) (fun _ => ?_)
    | exact imp_of hA id
    | (refine imp_of hA ?_; subst hA; simp only [real, Bool.true_and]; exact id)
    | (refine ind_of hA ?_; decide +kernel)
    | (refine call_ex hA hM (c_OpOk j s.op) (fun _ _ => ?_); cbv)
    | (refine call_ex hA hM (c_marksOk j s.marks) (fun _ _ => ?_); cbv)
    | fail
  rename_i b1 hb1 b2 hb2
  refine call_exg (out := fun x => ⟨.one (.c (.d (eI x))), [none]⟩) hA hM (minq_ex s.marks.n s.marks.g) (fun x hx hg => ?_) (fun x hx => ?_)
  · subst hA
    simp only [real, bifA, bifB, bifC, bifD, beqB, decide_eq_true_eq, decide_eq_false_iff_not, beqI, bneI, beqIF, bneIF, ne_eq, Bool.and_eq_true, Bool.or_eq_true, Bool.not_eq_true', Bool.not_eq_false', Bool.and_eq_false_iff, Bool.or_eq_false_iff, Bool.false_eq_true, and_false, false_and, or_false, false_or, and_true, true_and, not_true_eq_false, not_false_eq_true, true_iff, false_iff, Int.ofNat_eq_natCast, Int.toNat_natCast] at hg
    have h1 := hb1.1 hg.1
    have h2 := hb2.1 hg.2
    have h0 : 0 < s.marks.n := by
      have a := h1.1.1.1
      have b : (s.marks.n : Int) = j.srcs := h2.1
      rw [← b] at a
      exact Int.ofNat_lt.1 (Int.lt_of_lt_of_le (by decide) a)
    exact c_min s.marks.n s.marks.hn s.marks.g h0 x (hx h0)
  cbv
  repeat' first
    | apply And.intro
    | exact True.intro
    | with_reducible rfl
    | exact same_of hA rfl
    | refine br_of hA (fun _ => ?_) (fun _ => ?_)
    | exact imp_of hA id
    | (refine imp_of hA ?_; subst hA; simp only [real, Bool.true_and]; exact id)
    | (refine ind_of hA ?_; decide +kernel)
    | fail
  refine congrArg (fun b => XA.one (.c (.d (eB b)))) (Bool.eq_iff_iff.2 ?_)
  subst hA
  rw [hb]
  simp only [real, bifA, bifB, bifC, bifD, beqB, decide_eq_true_eq, decide_eq_false_iff_not, beqI, bneI, beqIF, bneIF, ne_eq, Bool.and_eq_true, Bool.or_eq_true, Bool.not_eq_true', Bool.not_eq_false', Bool.and_eq_false_iff, Bool.or_eq_false_iff, Bool.false_eq_true, and_false, false_and, or_false, false_or, and_true, true_and, not_true_eq_false, not_false_eq_true, true_iff, false_iff, Int.ofNat_eq_natCast, Int.toNat_natCast]
  rw [hb1, hb2]
  have key : OpOkP j s.op → MarksP j s.marks → (s.op.mark = x ↔ LowP 1000 s.marks.n s.marks.g s.op.mark) := fun h1 h2 => by
    have h0 : 0 < s.marks.n := by
      have a := h1.1.1.1
      have b : (s.marks.n : Int) = j.srcs := h2.1
      rw [← b] at a
      exact Int.ofNat_lt.1 (Int.lt_of_lt_of_le (by decide) a)
    have hm := hx h0
    have hl := (min_low h0 (fun i hi => (h2.2 i hi).2)).1 hm
    exact ⟨fun e => by rw [e]; exact hl, fun h => lowP_one h hl⟩
  exact ⟨fun h => ⟨h.1.1, h.1.2, (key h.1.1 h.1.2).1 h.2⟩, fun h => ⟨⟨h.1, h.2.1⟩, (key h.1 h.2.1).2 h.2.2⟩⟩
open Classical in
set_option maxRecDepth 100000 in
theorem c_empty (s : SnapT) : ∃ b, (b = true ↔ EmptyP s) ∧ Meets Try.prog 58 [xd (eSnap s)] ⟨.one (.c (.d (eB b))), [none]⟩ := by
  obtain ⟨b, hb⟩ : ∃ b : Bool, (b = true ↔ EmptyP s) := ⟨decide (EmptyP s), by rw [decide_eq_true_eq]⟩
  refine ⟨b, hb, ?_⟩
  refine meets_of (H := []) (EX := EXA) ttok mixed Try.func58 rfl (by kernel_rfl) (by decide) ?_
  generalize hA : real = A
  generalize hM : MeetsB Try.prog = M
  cbv
  repeat' first
    | apply And.intro
    | exact True.intro
    | with_reducible rfl
    | exact same_of hA rfl
    | refine br_of hA (fun _ => ?_) (fun _ => ?_)
    | exact imp_of hA id
    | (refine imp_of hA ?_; subst hA; simp only [real, Bool.true_and]; exact id)
    | (refine ind_of hA ?_; decide +kernel)
    | fail
  refine congrArg (fun b => XA.one (.c (.d (eB b)))) (Bool.eq_iff_iff.2 ?_)
  subst hA
  rw [hb]
  simp only [real, bifA, bifB, bifC, bifD, beqB, decide_eq_true_eq, decide_eq_false_iff_not, beqI, bneI, beqIF, bneIF, ne_eq, Bool.and_eq_true, Bool.or_eq_true, Bool.not_eq_true', Bool.not_eq_false', Bool.and_eq_false_iff, Bool.or_eq_false_iff, Bool.false_eq_true, and_false, false_and, or_false, false_or, and_true, true_and, not_true_eq_false, not_false_eq_true, true_iff, false_iff, Int.ofNat_eq_natCast, Int.toNat_natCast]
  unfold EmptyP
  exact ⟨fun h => ⟨h.1.1, Int.ofNat_eq_zero.1 h.1.2, Int.ofNat_eq_zero.1 h.2⟩, fun h => ⟨⟨h.1, Int.ofNat_eq_zero.2 h.2.1⟩, Int.ofNat_eq_zero.2 h.2.2⟩⟩
open Classical in
set_option maxRecDepth 100000 in
theorem c_notSnap (j : JobT) (s : SnapT) : ∃ b, (b = true ↔ ¬ SnapOkP j s) ∧ Meets Try.prog 103 [xd (eSnap s), .c (.d (.p (eJob j)))] ⟨.one (.c (.d (eB b))), [none, none]⟩ := by
  obtain ⟨b, hb⟩ : ∃ b : Bool, (b = true ↔ ¬ SnapOkP j s) := ⟨decide (¬ SnapOkP j s), by rw [decide_eq_true_eq]⟩
  refine ⟨b, hb, ?_⟩
  refine meets_of (H := []) (EX := EXA) ttok mixed Try.func103 rfl (by kernel_rfl) (by decide) ?_
  generalize hA : real = A
  generalize hM : MeetsB Try.prog = M
  cbv
  repeat' first
    | apply And.intro
    | exact True.intro
    | with_reducible rfl
    | exact same_of hA rfl
    | refine br_of hA (fun _ => ?_) (fun _ => ?_)
    | exact imp_of hA id
    | (refine imp_of hA ?_; subst hA; simp only [real, Bool.true_and]; exact id)
    | (refine ind_of hA ?_; decide +kernel)
    | (refine call_ex hA hM (c_SnapOk j s) (fun _ _ => ?_); cbv)
    | fail
  rename_i b1 hb1
  refine congrArg (fun b => XA.one (.c (.d (eB b)))) (Bool.eq_iff_iff.2 ?_)
  subst hA
  rw [hb, ← hb1]
  simp [real]
open Classical in
set_option maxRecDepth 100000 in
theorem c_SafeOk (j : JobT) (s : SafeT) : ∃ b, (b = true ↔ SafeOkP j s) ∧ Meets Try.prog 55 [xd (eSafe s), xd (eJob j)] ⟨.one (.c (.d (eB b))), [none, none]⟩ := by
  obtain ⟨b, hb⟩ : ∃ b : Bool, (b = true ↔ SafeOkP j s) := ⟨decide (SafeOkP j s), by rw [decide_eq_true_eq]⟩
  refine ⟨b, hb, ?_⟩
  have hca := c_Containsint0 s.at_.n s.at_.hn s.at_.g 102 _ c_notAt
  have hcs := c_ContainsSnap1 s.snaps.n s.snaps.hn s.snaps.g 103 (.p (eJob j)) _ (c_notSnap j)
  refine meets_of (H := []) (EX := EXA) ttok mixed Try.func55 rfl (by kernel_rfl) (by decide) ?_
  generalize hA : real = A
  generalize hM : MeetsB Try.prog = M
  cbv
  repeat' first
    | apply And.intro
    | exact True.intro
    | with_reducible rfl
    | exact same_of hA rfl
    | refine br_of hA (fun _ => ?_) (fun _ => ?_)
    | exact imp_of hA id
    | (refine imp_of hA ?_; subst hA; simp only [real, Bool.true_and]; exact id)
    | (refine ind_of hA ?_; decide +kernel)
    | (refine call_ex hA hM (c_in _ _ _) (fun _ _ => ?_); cbv)
    | (refine call_ex hA hM hca (fun _ _ => ?_); cbv)
    | (refine call_ex hA hM hcs (fun _ _ => ?_); cbv)
    | fail
  rename_i b1 hb1 b2 hb2 b3 hb3
  refine congrArg (fun b => XA.one (.c (.d (eB b)))) (Bool.eq_iff_iff.2 ?_)
  have e2 := nex hb2
  have e3 := nex hb3
  subst hA; subst hb1
  rw [hb]
  simp only [real, bifA, bifB, bifC, bifD, beqB, decide_eq_true_eq, decide_eq_false_iff_not, beqI, bneI, beqIF, bneIF, ne_eq, Bool.and_eq_true, Bool.or_eq_true, Bool.not_eq_true', Bool.not_eq_false', Bool.and_eq_false_iff, Bool.or_eq_false_iff, Bool.false_eq_true, and_false, false_and, or_false, false_or, and_true, true_and, not_true_eq_false, not_false_eq_true, true_iff, false_iff, Int.ofNat_eq_natCast, Int.toNat_natCast]
  rw [e2, e3]
  exact ⟨fun h => ⟨h.1.1.1.1, h.1.1.1.2, h.1.1.2, h.1.2, h.2⟩, fun h => ⟨⟨⟨⟨h.1, h.2.1⟩, h.2.2.1⟩, h.2.2.2.1⟩, h.2.2.2.2⟩⟩
end Go.Rk
/- Checkpoints, as the reference has them. -/
namespace Go.Rk
set_option linter.unusedSimpArgs false
set_option linter.unusedVariables false
open Go.Proofs
theorem c_JobOkP (j : JobT) : ∃ b, (b = true ↔ JobOkP j) ∧ Meets Try.prog 50 [xd (eJob j)] ⟨.one (.c (.d (eB b))), [none]⟩ := by
  obtain ⟨b, hb, hm⟩ := c_JobOk j.srcs j.tsks j.kind j.size j.step j.late j.tell j.piece j.least j.room
  exact ⟨b, by rw [hb, decide_eq_true_eq]; exact Iff.rfl, hm⟩
theorem c_sJobOkP (j : JobT) : ∃ b, (b = true ↔ JobOkP j) ∧ Meets Try.prog 23 [xd (eJob j)] ⟨.one (.c (.d (eB b))), [none]⟩ := by
  obtain ⟨b, hb, hm⟩ := c_sJobOk j.srcs j.tsks j.kind j.size j.step j.late j.tell j.piece j.least j.room
  exact ⟨b, by rw [hb, decide_eq_true_eq]; exact Iff.rfl, hm⟩
def st_Ck0 (j : JobT) (cn : Int) (opn : Bool) (n1 : Nat) (g1 : Nat → Int) (hn1 : n1 ≤ maxLen) (n2 : Nat) (g2 : Nat → Bool) (hn2 : n2 ≤ maxLen) (n3 : Nat) (g3 : Nat → SnapT) (hn3 : n3 ≤ maxLen) (safe : SafeT) (i : Nat) : St := ⟨[(65, .c (.d (eI i))), (64, .c (.d (eI n1))), (63, .c (.d (.sl 1 n1 fun i => [eI (g1 i)]))), (2, .c (.bp 128 1 0)), (3, .c (.bp 192 1 0))], [(128, 1, .box ((eJob j).map .d)), (192, 1, .box ((eCkp ⟨cn, opn, ⟨n1, g1, hn1⟩, ⟨n2, g2, hn2⟩, ⟨n3, g3, hn3⟩, safe⟩).map .d))]⟩
def st_Ck1 (j : JobT) (cn : Int) (opn : Bool) (n1 : Nat) (g1 : Nat → Int) (hn1 : n1 ≤ maxLen) (n2 : Nat) (g2 : Nat → Bool) (hn2 : n2 ≤ maxLen) (n3 : Nat) (g3 : Nat → SnapT) (hn3 : n3 ≤ maxLen) (safe : SafeT) (i : Nat) : St := ⟨[(85, .c (.d (eI i))), (84, .c (.d (eI n2))), (83, .c (.d (.sl 1 n2 fun i => [eB (g2 i)]))), (2, .c (.bp 128 1 0)), (3, .c (.bp 192 1 0))], [(128, 1, .box ((eJob j).map .d)), (192, 1, .box ((eCkp ⟨cn, opn, ⟨n1, g1, hn1⟩, ⟨n2, g2, hn2⟩, ⟨n3, g3, hn3⟩, safe⟩).map .d))]⟩
open Classical in
set_option maxRecDepth 100000 in
theorem c_CkpOk (j : JobT) (c : CkpT) : ∃ b, (b = true ↔ CkpOkP j c) ∧ Meets Try.prog 24 [xd (eJob j), xd (eCkp c)] ⟨.one (.c (.d (eB b))), [none, none]⟩ := by
  obtain ⟨b, hb⟩ : ∃ b : Bool, (b = true ↔ CkpOkP j c) := ⟨decide (CkpOkP j c), by rw [decide_eq_true_eq]⟩
  refine ⟨b, hb, ?_⟩
  obtain ⟨cn, opn, ⟨n1, g1, hn1⟩, ⟨n2, g2, hn2⟩, ⟨n3, g3, hn3⟩, safe⟩ := c
  refine meets_of (H := []) (EX := EXA) ttok mixed Try.func24 rfl (by kernel_rfl) (by decide) ?_
  generalize hA : real = A
  generalize hM : MeetsB Try.prog = M
  cbv
  repeat' first
    | apply And.intro
    | exact True.intro
    | with_reducible rfl
    | exact same_of hA rfl
    | refine br_of hA (fun _ => ?_) (fun _ => ?_)
    | exact imp_of hA id
    | (refine imp_of hA ?_; subst hA; simp only [real, Bool.true_and]; exact id)
    | (refine ind_of hA ?_; decide +kernel)
    | (refine call_ex hA hM (c_JobOkP j) (fun _ _ => ?_); cbv)
    | (refine call_ex hA hM (c_in _ _ _) (fun _ _ => ?_); cbv)
    | (refine call_ex hA hM (c_SafeOk j safe) (fun _ _ => ?_); cbv)
    | fail
  · rename_i b1 hb1 b2 hb2 b3 hb3 hbad
    subst hA; subst hb3
    simp only [real, bifA, bifB, bifC, bifD, beqB, decide_eq_true_eq, decide_eq_false_iff_not, beqI, bneI, beqIF, bneIF, ne_eq, Classical.not_not, Bool.and_eq_true, Bool.or_eq_true, Bool.not_eq_true', Bool.not_eq_false', Bool.and_eq_false_iff, Bool.or_eq_false_iff, Bool.false_eq_true, and_false, false_and, or_false, false_or, and_true, true_and, not_true_eq_false, not_false_eq_true, true_iff, false_iff, Int.ofNat_eq_natCast, Int.toNat_natCast] at hbad
    have hbad : ((b1 = false ∨ b2 = false) ∨ ¬ (safe.n ≤ cn ∧ cn ≤ 900)) ∨ (opn = true ∧ cn = safe.n) := hbad
    refine congrArg (fun b => XA.one (.c (.d (eB b)))) ?_
    cases b with
    | false => rfl
    | true =>
      exfalso
      have h := hb.1 rfl
      rcases hbad with ((h1 | h1) | h1) | h1
      · have := hb1.2 h.1
        rw [h1] at this; cases this
      · have := hb2.2 h.2.1
        rw [h1] at this; cases this
      · exact h1 h.2.2.1
      · exact h.2.2.2.1 h1
  · rename_i b1 hb1 b2 hb2 b3 hb3 hgood hbad
    subst hA; subst hb3
    simp only [real, bifA, bifB, bifC, bifD, beqB, decide_eq_true_eq, decide_eq_false_iff_not, beqI, bneI, beqIF, bneIF, ne_eq, Classical.not_not, Bool.and_eq_true, Bool.or_eq_true, Bool.not_eq_true', Bool.not_eq_false', Bool.and_eq_false_iff, Bool.or_eq_false_iff, Bool.false_eq_true, and_false, false_and, or_false, false_or, and_true, true_and, not_true_eq_false, not_false_eq_true, true_iff, false_iff, Int.ofNat_eq_natCast, Int.toNat_natCast] at hbad
    have hbad : (¬ (n1 : Int) = j.srcs ∨ ¬ (n2 : Int) = j.tsks) ∨ ¬ (n3 : Int) = j.tsks := hbad
    refine congrArg (fun b => XA.one (.c (.d (eB b)))) ?_
    cases b with
    | false => rfl
    | true =>
      exfalso
      have h := hb.1 rfl
      rcases hbad with (h1 | h1) | h1
      · exact h1 h.2.2.2.2.1
      · exact h1 h.2.2.2.2.2.1
      · exact h1 h.2.2.2.2.2.2.1
  rename_i b1 hb1 b2 hb2 b3 hb3 hgood hgood2
  have hpre : JobOkP j ∧ SafeOkP j safe ∧ (safe.n ≤ cn ∧ cn ≤ 900) ∧ ¬ (opn = true ∧ cn = safe.n) ∧ (n1 : Int) = j.srcs ∧ (n2 : Int) = j.tsks ∧ (n3 : Int) = j.tsks := by
    subst hA; subst hb3
    simp only [real, bifA, bifB, bifC, bifD, beqB, decide_eq_true_eq, decide_eq_false_iff_not, beqI, bneI, beqIF, bneIF, ne_eq, Classical.not_not, Bool.and_eq_true, Bool.or_eq_true, Bool.not_eq_true', Bool.not_eq_false', Bool.and_eq_false_iff, Bool.or_eq_false_iff, Bool.false_eq_true, and_false, false_and, or_false, false_or, and_true, true_and, not_true_eq_false, not_false_eq_true, true_iff, false_iff, Int.ofNat_eq_natCast, Int.toNat_natCast] at hgood hgood2
    have hgood : ((b1 = true ∧ b2 = true) ∧ (safe.n ≤ cn ∧ cn ≤ 900)) ∧ (opn = false ∨ ¬ cn = safe.n) := hgood
    have hgood2 : ((n1 : Int) = j.srcs ∧ (n2 : Int) = j.tsks) ∧ (n3 : Int) = j.tsks := hgood2
    exact ⟨hb1.1 hgood.1.1.1, hb2.1 hgood.1.1.2, hgood.1.2, (fun h => by rcases hgood.2 with q | q; rw [h.1] at q; cases q; exact q h.2), hgood2.1.1, hgood2.1.2, hgood2.2⟩
  clear hgood hgood2
  have htq : n2 = n3 := by
    have e1 := hpre.2.2.2.2.2.1
    rw [← hpre.2.2.2.2.2.2] at e1
    exact Int.ofNat.inj e1
  refine loop_of hA (α := { i : Nat // i ≤ n1 ∧ ∀ k, k < i → SrcP opn (g1 k) }) (fun x => st_Ck0 j cn opn n1 g1 hn1 n2 g2 hn2 n3 g3 hn3 safe x.1) (fun x => n1 - x.1) ⟨0, Nat.zero_le _, fun k h => absurd h (Nat.not_lt_zero k)⟩ ?_ ?_
  · refine cov_of ?_ ?_ ?_
    · cbv; try (subst hA; repeat' first | apply And.intro | exact True.intro | rfl)
    · cbv; try (subst hA; repeat' first | apply And.intro | exact True.intro | rfl)
    · cbv
  rintro ⟨i, hi, hk⟩
  cbv
  repeat' first
    | apply And.intro
    | exact True.intro
    | with_reducible rfl
    | exact same_of hA rfl
    | refine br_of hA (fun _ => ?_) (fun _ => ?_)
    | exact imp_of hA id
    | (refine imp_of hA ?_; subst hA; simp only [real, Bool.true_and]; exact id)
    | (refine ind_of hA ?_; decide +kernel)
    | (refine call_ex hA hM (c_in _ _ _) (fun _ _ => ?_); cbv)
    | (refine inb_of hA fun _ => ?_; subst hA; simp only [real, Bool.and_eq_true, Bool.not_eq_true', Bool.not_eq_false', decide_eq_true_eq, Int.ofNat_eq_natCast, IntKind.wrap_i64] at *; omega)
    | fail
  · rename_i hlt bq hbq hc
    have hlt' : i < n1 := by subst hA; simp only [real, decide_eq_true_eq, Int.ofNat_eq_natCast] at hlt; omega
    have hq : ¬ (SrcP opn (g1 i)) := by
      subst hA; subst hbq
      have e : g1 (real.nat (Int.ofNat i)) = g1 i := rfl
      rw [e] at hc
      unfold SrcP
      generalize g1 i = x at hc ⊢
      cases opn <;> simp [real, bifA, bifB] at hc ⊢ <;> omega
    refine congrArg (fun b => XA.one (.c (.d (eB b)))) ?_
    cases b with
    | false => rfl
    | true =>
      exfalso
      exact hq ((hb.1 rfl).2.2.2.2.2.2.2.1 i hlt')
  · rename_i hlt bq hbq hc
    have hlt' : i < n1 := by subst hA; simp only [real, decide_eq_true_eq, Int.ofNat_eq_natCast] at hlt; omega
    have hq : SrcP opn (g1 i) := by
      subst hA; subst hbq
      have e : g1 (real.nat (Int.ofNat i)) = g1 i := rfl
      rw [e] at hc
      unfold SrcP
      generalize g1 i = x at hc ⊢
      cases opn <;> simp [real, bifA, bifB] at hc ⊢ <;> omega
    refine ⟨⟨i + 1, by omega, fun k hk' => ?_⟩, by simp only; omega, cov_of ?_ ?_ ?_⟩
    · by_cases e : k = i
      · rw [e]; exact hq
      · exact hk k (by omega)
    · cbv
      subst hA
      repeat' first | apply And.intro | exact True.intro | exact congrArg (fun x => DV.v (.int .i64 x)) (up64 hlt' hn1) | rfl | (intro k hk; exact push_at rfl _ _ _ _ k hk)
    · cbv; try (subst hA; repeat' first | apply And.intro | exact True.intro | rfl)
    · cbv
  rename_i hge
  have hall : ∀ k, k < n1 → SrcP opn (g1 k) := fun k hk' => hk k (by subst hA; simp only [real, decide_eq_false_iff_not, Int.ofNat_eq_natCast] at hge; omega)
  clear hk hi hge
  have hall1 := hall
  clear hall
  refine loop_of hA (α := { i : Nat // i ≤ n2 ∧ ∀ k, k < i → TkP j opn (g2 k) (g3 k) }) (fun x => st_Ck1 j cn opn n1 g1 hn1 n2 g2 hn2 n3 g3 hn3 safe x.1) (fun x => n2 - x.1) ⟨0, Nat.zero_le _, fun k h => absurd h (Nat.not_lt_zero k)⟩ ?_ ?_
  · refine cov_of ?_ ?_ ?_
    · cbv; try (subst hA; repeat' first | apply And.intro | exact True.intro | rfl)
    · cbv; try (subst hA; repeat' first | apply And.intro | exact True.intro | rfl)
    · cbv
  rintro ⟨i, hi, hk⟩
  cbv
  repeat' first
    | apply And.intro
    | exact True.intro
    | with_reducible rfl
    | exact same_of hA rfl
    | refine br_of hA (fun _ => ?_) (fun _ => ?_)
    | exact imp_of hA id
    | (refine imp_of hA ?_; subst hA; simp only [real, Bool.true_and]; exact id)
    | (refine ind_of hA ?_; decide +kernel)
    | (refine call_ex hA hM (c_SnapOk j (g3 (A.nat (Int.ofNat i)))) (fun _ _ => ?_); cbv)
    | (refine call_ex hA hM (c_empty (g3 (A.nat (Int.ofNat i)))) (fun _ _ => ?_); cbv)
    | (refine inb_of hA fun _ => ?_; subst hA; simp only [real, Bool.and_eq_true, Bool.not_eq_true', Bool.not_eq_false', decide_eq_true_eq, Int.ofNat_eq_natCast, IntKind.wrap_i64] at *; omega)
    | fail
  · rename_i hlt b1 hb1 b2 hb2 hc
    have hlt' : i < n2 := by subst hA; simp only [real, decide_eq_true_eq, Int.ofNat_eq_natCast] at hlt; omega
    have hq : ¬ (TkP j opn (g2 i) (g3 i)) := by
      subst hA
      have hb1 : b1 = true ↔ SnapOkP j (g3 i) := hb1
      have hb2 : b2 = true ↔ EmptyP (g3 i) := hb2
      rw [tk_of (t := g2 i) (opn := opn) hb1 hb2]
      have e : g2 (real.nat (Int.ofNat i)) = g2 i := rfl
      rw [e] at hc
      generalize g2 i = t at hc ⊢
      cases t <;> cases opn <;> cases b1 <;> cases b2 <;> simp [real] at hc ⊢
    refine congrArg (fun b => XA.one (.c (.d (eB b)))) ?_
    cases b with
    | false => rfl
    | true =>
      exfalso
      exact hq ((hb.1 rfl).2.2.2.2.2.2.2.2 i hlt')
  · rename_i hlt b1 hb1 b2 hb2 hc
    have hlt' : i < n2 := by subst hA; simp only [real, decide_eq_true_eq, Int.ofNat_eq_natCast] at hlt; omega
    have hq : TkP j opn (g2 i) (g3 i) := by
      subst hA
      have hb1 : b1 = true ↔ SnapOkP j (g3 i) := hb1
      have hb2 : b2 = true ↔ EmptyP (g3 i) := hb2
      rw [tk_of (t := g2 i) (opn := opn) hb1 hb2]
      have e : g2 (real.nat (Int.ofNat i)) = g2 i := rfl
      rw [e] at hc
      generalize g2 i = t at hc ⊢
      cases t <;> cases opn <;> cases b1 <;> cases b2 <;> simp [real] at hc ⊢
    refine ⟨⟨i + 1, by omega, fun k hk' => ?_⟩, by simp only; omega, cov_of ?_ ?_ ?_⟩
    · by_cases e : k = i
      · rw [e]; exact hq
      · exact hk k (by omega)
    · cbv
      subst hA
      repeat' first | apply And.intro | exact True.intro | exact congrArg (fun x => DV.v (.int .i64 x)) (up64 hlt' hn2) | rfl | (intro k hk; exact push_at rfl _ _ _ _ k hk)
    · cbv; try (subst hA; repeat' first | apply And.intro | exact True.intro | rfl)
    · cbv
  rename_i hge
  have hall : ∀ k, k < n2 → TkP j opn (g2 k) (g3 k) := fun k hk' => hk k (by subst hA; simp only [real, decide_eq_false_iff_not, Int.ofNat_eq_natCast] at hge; omega)
  clear hk hi hge
  exact congrArg (fun b => XA.one (.c (.d (eB b)))) (hb.2 ⟨hpre.1, hpre.2.1, hpre.2.2.1, hpre.2.2.2.1, hpre.2.2.2.2.1, hpre.2.2.2.2.2.1, hpre.2.2.2.2.2.2, hall1, hall⟩).symm
end Go.Rk
