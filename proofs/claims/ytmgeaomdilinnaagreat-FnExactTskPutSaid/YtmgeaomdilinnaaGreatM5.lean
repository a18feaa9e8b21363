/- The walk over this seat's functions, part 5: what each of them answers, at all data. -/
import Derived.Test.YtmgeaomdilinnaaGreatM1
import Derived.Test.YtmgeaomdilinnaaGreatM2
import Derived.Test.YtmgeaomdilinnaaGreatM3
import Derived.Test.YtmgeaomdilinnaaGreatM4
import Derived.Test.YtmgeaomdilinnaaGreatProg
import Derived.KernelRfl
import Derived.IntWalk
import Derived.Test.YtmgeaomdilinnaaGreatChecked
/- Closing, as a step from state to state. -/
namespace Go.Rk
set_option linter.unusedSimpArgs false
set_option linter.unusedVariables false
def ownAs (so : Nat → Nat × HO) (l v sz n : Nat) (rw : Nat → List DV) : Prop := match so l with
  | (v', .arr sz' n' rw') => v = v' ∧ sz = sz' ∧ n = n' ∧ (∀ i, i < n → rw' i = rw i) ∧ FlatR n rw
  | _ => False
def nestAs (so : Nat → Nat × HO) (l v sz n : Nat) (rw : Nat → List DV) : Prop := match so l with
  | (v', .nest sz' n' rw' none) => v = v' ∧ sz = sz' ∧ n = n' ∧ ∀ i, i < n → NsLe (rw' i) (rw i)
  | _ => False
def dvOk (u : Value) : DV → Prop
  | .v u' => u = u'
  | .sl _ n _ => u = nilS ∧ n = 0
  | _ => False
def zcOk : DV → Prop
  | .sl _ n _ => n = 0
  | _ => False
/-- Cells as a row that owns what they lead to, and the labels that are gone by that. -/
def closeOk (so : Nat → Nat × HO) : List CV → List DV → List (Nat × Nat) → Prop
  | [], [], [] => True
  | x :: r, y :: s, ls => match x with
    | .d (.v u) => dvOk u y ∧ closeOk so r s ls
    | .zc => zcOk y ∧ closeOk so r s ls
    | .own l off len v => match y, ls with
      | .sl sz n rw, p :: ls => (p = (l, v) ∧ off = 0 ∧ len = n ∧ ownAs so l v sz n rw) ∧ closeOk so r s ls
      | _, _ => False
    | .nown l len v => match y, ls with
      | .sl sz n rw, p :: ls => (p = (l, v) ∧ len = n ∧ nestAs so l v sz n rw) ∧ closeOk so r s ls
      | _, _ => False
    | _ => False
  | _, _, _ => False
def deadT (ls : List (Nat × Nat)) : Turns := ls.map fun p => (p.1, (p.2 + 1, .dead), none, [])
def deadO (ls : List (Nat × Nat)) : List (Nat × Nat × HO) := ls.map fun p => (p.1, p.2 + 1, .dead)
theorem usOf_deadT (ls : List (Nat × Nat)) : usOf (deadT ls) = deadO ls := by simp [usOf, deadT, deadO]
theorem blkT_deadT : ∀ ls : List (Nat × Nat), blkT (deadT ls) = []
  | [] => rfl
  | p :: r => by
    show blkP none [] ++ blkT (deadT r) = []
    rw [blkT_deadT r]; rfl
theorem hasLab_deadO {ls : List (Nat × Nat)} {l : Nat} (h : hasLab (deadO ls) l = true) : ∃ p ∈ ls, p.1 = l := by
  obtain ⟨q, hq, e⟩ := hasLab_iff.1 h
  obtain ⟨p, hp, rfl⟩ := List.mem_map.1 hq
  exact ⟨p, hp, e⟩
theorem nodup_deadO : ∀ {ls : List (Nat × Nat)}, (ls.map (·.1)).Nodup → nodupL (deadO ls) = true
  | [], _ => rfl
  | p :: r, h => by
    simp only [List.map_cons, List.nodup_cons] at h
    show nodupL ((p.1, p.2 + 1, HO.dead) :: deadO r) = true
    unfold nodupL
    cases hb : hasLab (deadO r) p.1 with
    | true => obtain ⟨q, hq, e⟩ := hasLab_deadO hb; exact (h.1 (List.mem_map.2 ⟨q, hq, e⟩)).elim
    | false => exact nodup_deadO h.2
section
variable {w0 : World} {S : Sets} {nt : Nat} {slots : List (Nat × AV)} {σ : Objs} {a : Act} {w : World} {μ : Place}
theorem close_rep (R : RelM w0 S nt (lookS slots) σ a w μ) : ∀ {cells : List CV} {ds : List DV} {ls : List (Nat × Nat)} {vs : List Value}, closeOk σ cells ds ls → CsRep σ μ w (Nof S σ μ w) cells vs → (ls.map (·.1)).Nodup →
    ds.length = cells.length ∧ (∀ p ∈ ls, Valid σ p) ∧ ∃ G : Nat → Nat → Prop, (∀ (j : Nat) y u, ds[j]? = some y → vs[j]? = some u → NRep w y u (G j)) ∧ (∀ k, k ∈ blk μ ls ↔ ∃ j, j < ds.length ∧ G j k) ∧
      ∀ j j' k, j < ds.length → j' < ds.length → G j k → G j' k → j = j'
  | [], [], [], [], _, _, _ => ⟨rfl, fun p hp => by simp at hp, fun _ _ => False, fun j y u h => by simp at h, fun k => ⟨fun h => by simp [blk] at h, fun ⟨_, h, _⟩ => by simp at h⟩, fun _ _ _ h => by simp at h⟩
  | [], [], [], _ :: _, _, h, _ => h.elim
  | [], [], _ :: _, _, h, _, _ => h.elim
  | [], _ :: _, _, _, h, _, _ => h.elim
  | _ :: _, [], _, _, h, _, _ => h.elim
  | _ :: _, _ :: _, _, [], _, h, _ => h.elim
  | x :: r, y :: s, ls, v :: vs, hc, hv, hn => by
    -- the head owns nothing
    have data : closeOk σ r s ls → NRep w y v (fun _ => False) → (y :: s).length = (x :: r).length ∧ (∀ p ∈ ls, Valid σ p) ∧ ∃ G : Nat → Nat → Prop, (∀ (j : Nat) z u, (y :: s)[j]? = some z → (v :: vs)[j]? = some u → NRep w z u (G j)) ∧ (∀ k, k ∈ blk μ ls ↔ ∃ j, j < (y :: s).length ∧ G j k) ∧
        ∀ j j' k, j < (y :: s).length → j' < (y :: s).length → G j k → G j' k → j = j' := fun h0 hy => by
      obtain ⟨g0, g1, G, g2, g3, g4⟩ := close_rep R h0 hv.2 hn
      refine ⟨by simp [g0], g1, fun j k => match j with | 0 => False | j + 1 => G j k, fun j z u hz hu => ?_, fun k => (g3 k).trans ⟨fun ⟨j, h1, h2⟩ => ⟨j + 1, by simp; omega, h2⟩, fun ⟨j, h1, h2⟩ => ?_⟩, fun j j' k h1 h2 h3 h4 => ?_⟩
      · cases j with
        | zero => simp at hz hu; subst hz hu; exact hy
        | succ j => exact g2 j z u (by simpa using hz) (by simpa using hu)
      · cases j with
        | zero => exact h2.elim
        | succ j => exact ⟨j, by simp at h1; omega, h2⟩
      · cases j with
        | zero => exact h3.elim
        | succ j => cases j' with
          | zero => exact h4.elim
          | succ j' => rw [g4 j j' k (by simp at h1; omega) (by simp at h2; omega) h3 h4]
    -- the head is a label's
    have lab : ∀ (p : Nat × Nat) (ls' : List (Nat × Nat)), ls = p :: ls' → closeOk σ r s ls' → Valid σ p → NRep w y v (fun k => k ∈ blk μ [p]) → (y :: s).length = (x :: r).length ∧ (∀ p ∈ ls, Valid σ p) ∧ ∃ G : Nat → Nat → Prop, (∀ (j : Nat) z u, (y :: s)[j]? = some z → (v :: vs)[j]? = some u → NRep w z u (G j)) ∧ (∀ k, k ∈ blk μ ls ↔ ∃ j, j < (y :: s).length ∧ G j k) ∧
        ∀ j j' k, j < (y :: s).length → j' < (y :: s).length → G j k → G j' k → j = j' := fun p ls' e h0 hp hy => by
      subst e
      simp only [List.map_cons, List.nodup_cons] at hn
      obtain ⟨g0, g1, G, g2, g3, g4⟩ := close_rep R h0 hv.2 hn.2
      have hsep : ∀ k, k ∈ blk μ [p] → k ∈ blk μ ls' → False := fun k h1 h2 => by
        obtain ⟨q1, hq1, hm1⟩ := blk_mem h1
        obtain ⟨q2, hq2, hm2⟩ := blk_mem h2
        simp at hq1; subst hq1
        have := R.injH q1.1 q2.1 k hp.1 (g1 q2 hq2).1 hm1 hm2
        exact hn.1 (List.mem_map.2 ⟨q2, hq2, this.symm⟩)
      refine ⟨by simp [g0], fun q hq => ?_, fun j k => match j with | 0 => k ∈ blk μ [p] | j + 1 => G j k, fun j z u hz hu => ?_, fun k => ?_, fun j j' k h1 h2 h3 h4 => ?_⟩
      · rcases List.mem_cons.1 hq with rfl | hq
        · exact hp
        · exact g1 q hq
      · cases j with
        | zero => simp at hz hu; subst hz hu; exact hy
        | succ j => exact g2 j z u (by simpa using hz) (by simpa using hu)
      · have e : blk μ (p :: ls') = blk μ [p] ++ blk μ ls' := blk_append μ [p] ls'
        rw [e, List.mem_append, g3]
        constructor
        · rintro (h | ⟨j, h1, h2⟩)
          · exact ⟨0, by simp, h⟩
          · exact ⟨j + 1, by simp; omega, h2⟩
        · rintro ⟨j, h1, h2⟩
          cases j with
          | zero => exact .inl h2
          | succ j => exact .inr ⟨j, by simp at h1; omega, h2⟩
      · cases j with
        | zero => cases j' with
          | zero => rfl
          | succ j' => exact (hsep k h3 ((g3 k).2 ⟨j', by simp at h2; omega, h4⟩)).elim
        | succ j => cases j' with
          | zero => exact (hsep k h4 ((g3 k).2 ⟨j, by simp at h1; omega, h3⟩)).elim
          | succ j' => rw [g4 j j' k (by simp at h1; omega) (by simp at h2; omega) h3 h4]
    have hv1 := hv.1
    cases x with
    | d d =>
      cases d with
      | v u =>
        obtain ⟨h1, h2⟩ : dvOk u y ∧ closeOk σ r s ls := hc
        refine data h2 ?_
        cases hv1 with
        | v _ hone =>
          cases y with
          | v u' => have h1 : _ = u' := h1; subst h1; exact .v _ _ hone fun _ h => h
          | sl sz n rw => obtain ⟨e1, e2⟩ : v = nilS ∧ n = 0 := h1; subst e1; subst e2; exact .nil _ _ _ _ fun _ h => h
          | p _ => exact h1.elim
          | fn _ _ => exact h1.elim
      | _ => exact (show False from hc).elim
    | zc =>
      obtain ⟨h1, h2⟩ : zcOk y ∧ closeOk σ r s ls := hc
      refine data h2 ?_
      obtain ⟨ad, rfl⟩ := hv1
      cases y with
      | sl sz n rw => have h1 : n = 0 := h1; subst h1; exact .nil _ _ _ _ fun _ h => h
      | _ => exact h1.elim
    | own l off len ver =>
      cases y with
      | sl sz n rw =>
        cases ls with
        | nil => exact (show False from hc).elim
        | cons p ls' =>
          obtain ⟨⟨rfl, rfl, rfl, h3⟩, h2⟩ : (p = (l, ver) ∧ off = 0 ∧ len = n ∧ ownAs σ l ver sz n rw) ∧ closeOk σ r s ls' := hc
          unfold ownAs at h3
          split at h3
          · rename_i v' sz' n' rw' hσ
            obtain ⟨rfl, rfl, rfl, hrw, hfl⟩ := h3
            refine lab _ _ rfl h2 ⟨by simp [live, hσ], by simp [hσ]⟩ ?_
            have := own_whole R hσ hv1 (N := Nof S σ μ w) fun _ h => h
            exact (this.rows hrw).nrep hfl
          · exact h3.elim
      | _ => exact (show False from hc).elim
    | nown l len ver =>
      cases y with
      | sl sz n rw =>
        cases ls with
        | nil => exact (show False from hc).elim
        | cons p ls' =>
          obtain ⟨⟨rfl, rfl, h3⟩, h2⟩ : (p = (l, ver) ∧ len = n ∧ nestAs σ l ver sz n rw) ∧ closeOk σ r s ls' := hc
          unfold nestAs at h3
          split at h3
          · rename_i v' sz' n' rw' hσ
            obtain ⟨rfl, rfl, rfl, hrw⟩ := h3
            refine lab _ _ rfl h2 ⟨by simp [live, hσ], by simp [hσ]⟩ ?_
            exact nle_sl hrw _ _ _ (nest_whole R hσ hv1).2.1
          · exact h3.elim
      | _ => exact (show False from hc).elim
    | _ => exact (show False from hc).elim
end
theorem cov_close {fr : Bool} {nt : Nat} {σ τ : St} (l : Nat) (row' : Nat → List DV) (ds : List DV) (ls : List (Nat × Nat)) {ver sz n x : Nat} {row : Nat → List DV} {cells : List CV} (ho : lookO σ.objs l = (ver, .nest sz n row (some (x, cells))))
    (hc : closeOk σ.o cells ds ls) (hd : exOk ((l, ver) :: ls) [] = true) (h1 : row' x = ds) (h2 : ∀ i, i < n → i ≠ x → row' i = row i)
    (h : CovG fr nt ⟨σ.slots, ((l, ver, .nest sz n row' none) :: deadO ls) ++ σ.objs⟩ τ) : CovG fr nt σ τ := by
  refine cov_trans ?_ h
  rintro w0 S a w hfo ⟨μ, R⟩
  have hσ : σ.o l = (ver, .nest sz n row (some (x, cells))) := ho
  have hlv : live σ.o l := by simp [live, hσ]
  have ob := R.objs l
  rw [hσ] at ob
  rcases ob with ⟨_, _, h0, _⟩ | ⟨b, base, cs, e, hμ, hb, hsz, ⟨k0, G, k1, k2, k3⟩, hkb, hknd, hfoc⟩
  · cases h0
  have k2 : ∀ k, k ∈ μ.k l ↔ ∃ i j, i < n ∧ ¬ isFoc (some (x, cells)) i ∧ j < sz ∧ G i j k := k2
  obtain ⟨hx, hcl, hcs⟩ := hfoc _ _ rfl
  obtain ⟨hnd0, _⟩ := exOk_spec hd
  have hnd0 : (l :: ls.map (·.1)).Nodup := hnd0
  rw [List.nodup_cons] at hnd0
  have hff : ∀ i, isFoc (some (x, cells)) i ↔ i = x := fun i => ⟨fun ⟨c, hc⟩ => by simp at hc; exact hc.1.symm, fun e => ⟨cells, by rw [e]⟩⟩
  have hnf : ∀ k, ¬ isFoc none k := fun k ⟨c, hc⟩ => by cases hc
  let us : List Value := (List.range sz).map fun j => cs.getD (base + x * sz + j) undef
  have husg : ∀ (j : Nat) y, cells[j]? = some y → ∃ u, us[j]? = some u ∧ CRep σ.o μ w (Nof S σ.o μ w) y u := fun j y hj => by
    obtain ⟨u, hu, hc⟩ := hcs j y hj
    have hjl : j < sz := by rw [← hcl]; exact (List.getElem?_eq_some_iff.1 hj).1
    exact ⟨u, by simp [us, hjl, Array.getD_eq_getD_getElem?, hu], hc⟩
  have hus : CsRep σ.o μ w (Nof S σ.o μ w) cells us := CsRep.of_get (by simp [us, hcl]) husg
  obtain ⟨c0, c1, Gx, c2, c3, c4⟩ := close_rep R hc hus hnd0.2
  have hdl : ds.length = sz := by rw [c0, hcl]
  have husv : ∀ j, j < sz → ∃ u, us[j]? = some u ∧ cs[base + x * sz + j]? = some u := fun j hj => by
    obtain ⟨u, hu, _⟩ := hcs j _ (List.getElem?_eq_getElem (by omega))
    exact ⟨u, by simp [us, hj, Array.getD_eq_getD_getElem?, hu], hu⟩
  have hsepl : ∀ k, k ∈ blk μ ls → k ≠ b ∧ k ∉ μ.k l := fun k hk => by
    obtain ⟨p, hp, hm⟩ := blk_mem hk
    have hno : ¬ Has μ l k := fun hm' => by
      have := R.injH p.1 l k (c1 p hp).1 hlv hm hm'
      exact hnd0.1 (List.mem_map.2 ⟨p, hp, this⟩)
    exact ⟨fun e => hno (.inl ⟨base, by rw [e]; exact hμ⟩), fun h => hno (.inr h)⟩
  let ks : List Nat := μ.k l ++ blk μ ls
  let t0 : Nat × (Nat × HO) × Option (Nat × Nat) × List Nat := (l, (ver, .nest sz n row' none), some (b, base), ks)
  have hus' : usOf (t0 :: deadT ls) = (l, ver, .nest sz n row' none) :: deadO ls := by rw [← usOf_deadT]; rfl
  have hnd : nodupL (usOf (t0 :: deadT ls)) = true := by
    rw [hus']
    unfold nodupL
    cases hb : hasLab (deadO ls) l with
    | true => obtain ⟨q, hq, e⟩ := hasLab_deadO hb; exact (hnd0.1 (List.mem_map.2 ⟨q, hq, e⟩)).elim
    | false => exact nodup_deadO hnd0.2
  have hblk0 : ∀ k, k ∈ blk μ ((l, ver) :: ls) ↔ (k = b ∨ k ∈ μ.k l) ∨ k ∈ blk μ ls := fun k => by
    have e : blk μ ((l, ver) :: ls) = blk μ [(l, ver)] ++ blk μ ls := blk_append μ [(l, ver)] ls
    rw [e, List.mem_append, blk_one]
    show k ∈ blkP (μ l) (μ.k l) ∨ _ ↔ _
    rw [mem_blkP, hμ]
    constructor
    · rintro ((⟨_, e⟩ | h) | h)
      · simp at e; exact .inl (.inl e.1.symm)
      · exact .inl (.inr h)
      · exact .inr h
    · rintro ((rfl | h) | h)
      · exact .inl (.inl ⟨base, rfl⟩)
      · exact .inl (.inr h)
      · exact .inr h
  have hblkT : blkT (t0 :: deadT ls) = b :: ks := by
    have : blkT (t0 :: deadT ls) = blkP (some (b, base)) ks ++ blkT (deadT ls) := rfl
    rw [this, blkT_deadT]; simp [blkP]
  have hvex : ∀ p ∈ (l, ver) :: ls, Valid σ.o p := fun p hp => by
    rcases List.mem_cons.1 hp with rfl | hp
    · exact ⟨hlv, by rw [hσ]⟩
    · exact c1 p hp
  have hksn : ks.Nodup := List.nodup_append.2 ⟨hknd, blk_nodup R hnd0.2 c1, fun k hk k' hk' e => by subst e; exact (hsepl k hk').2 hk⟩
  obtain ⟨q1, q2, q3⟩ := R.turned (w' := w) (τ := t0 :: deadT ls) (ex := (l, ver) :: ls) (gone := []) (F' := b :: ks) hnd hvex
    (fun t ht => by
      rcases List.mem_cons.1 ht with rfl | ht
      · exact ⟨fun h => (nomatch h), .inr ⟨by rw [hσ], hμ.symm, fun _ h => (nomatch h), fun _ _ _ h => (nomatch h), fun sz' n' r' foc' h => by simp [t0] at h; obtain ⟨rfl, rfl, _⟩ := h; exact ⟨row, _, by rw [hσ]⟩⟩⟩
      · obtain ⟨p, hp, rfl⟩ := List.mem_map.1 ht
        refine ⟨fun _ => rfl, .inl ?_⟩
        have := (c1 p hp).2
        simp only
        omega)
    (fun p hp => by
      rw [List.append_nil] at hp
      rcases List.mem_cons.1 hp with rfl | hp
      · exact ⟨t0, by simp, rfl⟩
      · exact ⟨(p.1, (p.2 + 1, .dead), none, []), List.mem_cons_of_mem _ (List.mem_map.2 ⟨p, hp, rfl⟩), rfl⟩)
    ⟨rfl, rfl, rfl⟩ (Nat.le_refl _) (fun _ _ _ => rfl) (fun b cs e fr hb => ⟨cs, hb, rfl⟩)
    (fun k hk => by
      have hin : k ∈ blk μ ((l, ver) :: ls) := by
        rw [hblk0]
        simp only [List.mem_cons, ks, List.mem_append] at hk
        rcases hk with rfl | hk | hk
        · exact .inl (.inl rfl)
        · exact .inl (.inr hk)
        · exact .inr hk
      obtain ⟨p, hp, hm⟩ := blk_mem hin
      exact ⟨(R.ownH p.1 k (hvex p hp).1 hm).1, .inl hin⟩)
    (by
      rw [List.nodup_cons]
      refine ⟨fun hm => ?_, hksn⟩
      rcases List.mem_append.1 hm with hm | hm
      · exact hkb hm
      · exact (hsepl b hm).1 rfl)
    hblkT
    (fun N' hN' hf t ht => by
      rcases List.mem_cons.1 ht with rfl | ht
      · obtain ⟨f1, f2, f3⟩ := hf t0 (by simp)
        let G' : Nat → Nat → Nat → Prop := fun i j k => (i = x ∧ Gx j k) ∨ (i ≠ x ∧ G i j k)
        have hrow : ∀ i, i < n → (row' i).length = sz := fun i hi => by
          by_cases ei : i = x
          · rw [ei, h1, hdl]
          · rw [h2 i hi ei]; exact k0 i hi fun h => ei ((hff i).1 h)
        refine .inr ⟨b, base, cs, e, f2, hb, hsz, ⟨fun i hi _ => hrow i hi, G', fun i j y hi _ hj => ?_, fun k => ?_, fun i j i' j' k g1 _ g3 g4 _ g6 g7 g8 => ?_⟩, by
            rw [f3]
            intro hm
            rcases List.mem_append.1 hm with hm | hm
            · exact hkb hm
            · exact (hsepl b hm).1 rfl, by rw [f3]; exact hksn, fun i cells hfc => by cases hfc⟩
        · by_cases ei : i = x
          · subst ei
            rw [h1] at hj
            have hjl : j < sz := by rw [← hdl]; exact (List.getElem?_eq_some_iff.1 hj).1
            obtain ⟨u, hu1, hu2⟩ := husv j hjl
            exact ⟨u, hu2, (c2 j y u hj hu1).eqv fun k => ⟨fun h => h.elim (fun h => h.2) fun h => (h.1 rfl).elim, fun h => .inl ⟨rfl, h⟩⟩⟩
          · rw [h2 i hi ei] at hj
            obtain ⟨u, hu, hd⟩ := k1 i j y hi (fun h => ei ((hff i).1 h)) hj
            exact ⟨u, hu, hd.eqv fun k => ⟨fun h => h.elim (fun h => (ei h.1).elim) fun h => h.2, fun h => .inr ⟨ei, h⟩⟩⟩
        · show k ∈ (placeT μ (t0 :: deadT ls)).k l ↔ _
          rw [f3]
          show k ∈ μ.k l ++ blk μ ls ↔ _
          rw [List.mem_append, k2, c3]
          constructor
          · rintro (⟨i, j, g1, g0, g2, g3⟩ | ⟨j, g1, g2⟩)
            · exact ⟨i, j, g1, hnf i, g2, .inr ⟨fun e => g0 ((hff i).2 e), g3⟩⟩
            · exact ⟨x, j, hx, hnf x, by omega, .inl ⟨rfl, g2⟩⟩
          · rintro ⟨i, j, g1, _, g2, ⟨rfl, g3⟩ | ⟨g3, g4⟩⟩
            · exact .inr ⟨j, by omega, g3⟩
            · exact .inl ⟨i, j, g1, fun h => g3 ((hff i).1 h), g2, g4⟩
        · rcases g7 with ⟨rfl, g7⟩ | ⟨n7, g7⟩ <;> rcases g8 with ⟨rfl, g8⟩ | ⟨n8, g8⟩
          · exact ⟨rfl, c4 j j' k (by omega) (by omega) g7 g8⟩
          · exact ((hsepl k ((c3 k).2 ⟨j, by omega, g7⟩)).2 ((k2 k).2 ⟨i', j', g4, fun h => n8 ((hff i').1 h), g6, g8⟩)).elim
          · exact ((hsepl k ((c3 k).2 ⟨j', by omega, g8⟩)).2 ((k2 k).2 ⟨i, j, g1, fun h => n7 ((hff i).1 h), g3, g7⟩)).elim
          · exact k3 i j i' j' k g1 (fun h => n7 ((hff i).1 h)) g3 g4 (fun h => n8 ((hff i').1 h)) g6 g7 g8
      · obtain ⟨p, hp, rfl⟩ := List.mem_map.1 ht
        trivial)
  refine ⟨placeT μ (t0 :: deadT ls), ?_⟩
  have eo : St.o ⟨σ.slots, ((l, ver, .nest sz n row' none) :: deadO ls) ++ σ.objs⟩ = putO σ.o (usOf (t0 :: deadT ls)) := by
    show lookO (_ ++ σ.objs) = _
    rw [lookO_app, hus']; rfl
  rw [eo]
  exact q3
end Go.Rk
/- A slice with no room, taken as a nest from here on. -/
namespace Go.Rk
set_option linter.unusedSimpArgs false
set_option linter.unusedVariables false
theorem cov_promCN {fr : Bool} {nt : Nat} {σ τ : St} (l L ver sz : Nat) (row : Nat → List DV) {v : Nat} (xs ys : List CV) (ho : lookO σ.objs l = (v, .box (xs ++ .d (.v nilS) :: ys))) (hne : nbeq L l = false) (hv : nblt (σ.o L).1 ver = true)
    (h : CovG fr nt ⟨σ.slots, (l, v, .box (xs ++ .nown L 0 ver :: ys)) :: (L, ver, .nest sz 0 row none) :: σ.objs⟩ τ) : CovG fr nt σ τ := by
  refine cov_trans ?_ h
  rintro w0 S a w hfo ⟨μ, R⟩
  have hne : L ≠ l := fun e => by subst e; simp at hne
  obtain ⟨st, R'⟩ := R.bare L ver (by simpa [nblt_eq] using hv) (.nest sz 0 row none) (.inr (.inr ⟨_, _, rfl⟩))
  have eo : St.o ⟨σ.slots, (l, v, .box (xs ++ .nown L 0 ver :: ys)) :: (L, ver, .nest sz 0 row none) :: σ.objs⟩ = updO (updO σ.o L (ver, .nest sz 0 row none)) l (v, .box (xs ++ .nown L 0 ver :: ys)) := by
    show lookO ((l, v, .box (xs ++ .nown L 0 ver :: ys)) :: (L, ver, .nest sz 0 row none) :: σ.objs) = _
    rw [lookO_upd, lookO_upd]; rfl
  refine ⟨updP μ L none, ?_⟩
  rw [eo]
  generalize hσ' : updO σ.o L (ver, .nest sz 0 row none) = σ' at R' st ⊢
  generalize hμ' : updP μ L none = μ' at R' st ⊢
  have hl : σ' l = (v, .box (xs ++ .d (.v nilS) :: ys)) := by rw [← hσ', updO_ne _ _ hne.symm]; exact ho
  have hL : σ' L = (ver, .nest sz 0 row none) := by rw [← hσ']; exact updO_same _ _ _
  have hlive : ∀ k, live (updO σ' l (v, .box (xs ++ .nown L 0 ver :: ys))) k → live σ' k := fun k hk => by
    by_cases e : k = l
    · subst e; unfold live; rw [hl]; exact HO.noConfusion
    · unfold live at hk ⊢; rwa [updO_ne _ _ e] at hk
  have hst : Step S σ' (updO σ' l (v, .box (xs ++ .nown L 0 ver :: ys))) μ' μ' w w := by
    refine ⟨Nat.le_refl _, fun b hb => ⟨rfl, hb.1, hb.2.1, fun k hk => hb.2.2 k (hlive k hk)⟩, fun k => ?_⟩
    right
    by_cases e : k = l
    · subst e
      rw [updO_same]
      exact ⟨by rw [hl], rfl, fun c _ => ⟨_, by rw [hl]⟩, fun sz n row hr => (nomatch hr), fun sz n row foc hr => (nomatch hr), fun b base cs e' hm hex hb => ⟨cs, hb, rfl⟩⟩
    · rw [updO_ne _ _ e]
      exact ⟨rfl, rfl, fun c hc => ⟨c, hc⟩, fun sz n row hr => ⟨n, row, hr, Nat.le_refl _⟩, fun sz n row foc hr => ⟨row, foc, hr⟩, fun b base cs' e' hm _ hb => ⟨cs', hb, rfl⟩⟩
  refine R'.carry hst ⟨rfl, rfl, rfl⟩ (fun _ _ _ => rfl) (fun b cs e fr hb => ⟨cs, hb, rfl⟩) (fun k b hk hm => R'.ownH k b (hlive k hk) hm) (fun k k' b hk hk' hm hm' => R'.injH k k' b (hlive k hk) (hlive k' hk') hm hm') (fun k hk hn => R'.kz k (hlive k hk) ?_) (fun k => ?_)
  · by_cases e : k = l
    · subst e; rw [hl]; rfl
    · rw [updO_ne _ _ e] at hn; exact hn
  by_cases e : k = l
  · right
    subst e
    rw [updO_same]
    have hr := R'.objs k
    rw [hl] at hr
    obtain ⟨b, cs, e, h1, h2, h3⟩ := hr
    refine ⟨b, cs, e, h1, h2, CsRep.mid (fun u hu => ?_) (h3.step hst)⟩
    have hu : DRep w _ (.v nilS) u := hu
    cases hu
    refine ⟨rfl, by rw [updO_ne _ _ hne, hL]; exact Nat.le_refl _, fun sz' n row' foc' e => ?_⟩
    rw [updO_ne _ _ hne, hL] at e
    cases e
    exact ⟨rfl, .inl ⟨by rw [← hμ']; exact updP_same _ _ _, rfl, _, rfl⟩⟩
  · left
    exact ⟨updO_ne _ _ e, rfl, rfl, fun _ _ _ => rfl⟩
end Go.Rk
/- An own row of values, taken as a nest from here on. -/
namespace Go.Rk
set_option linter.unusedSimpArgs false
set_option linter.unusedVariables false
theorem cov_nestOf {fr : Bool} {nt : Nat} {σ τ : St} (k l l' v' : Nat) (row' : Nat → List DV) {v sz n : Nat} {row : Nat → List DV} (hk : lookS σ.slots k = .c (.own l 0 n v)) (ho : lookO σ.objs l = (v, .arr sz n row)) (hne : nbeq l l' = false) (hv : nblt (lookO σ.objs l').1 v' = true)
    (hf : FlatR n row) (hr : ∀ i, i < n → NsLe (row i) (row' i))
    (h : CovG fr nt ⟨(k, .c (.nown l' n v')) :: σ.slots, (l', v', .nest sz n row' none) :: (l, v + 1, .dead) :: σ.objs⟩ τ) : CovG fr nt σ τ := by
  refine cov_trans ?_ h
  rintro w0 S a w hfo ⟨μ, R⟩
  have hne : l ≠ l' := fun e => by subst e; simp at hne
  have hv : (σ.o l').1 < v' := by
    have hv : nblt (σ.o l').1 v' = true := hv
    simpa [nblt_eq] using hv
  have hσ : σ.o l = (v, .arr sz n row) := ho
  have hlv : live σ.o l := by simp [live, hσ]
  have hs := R.slots k
  rw [hk] at hs
  have hown := own_whole R hσ hs (N := fun _ => True) fun _ _ => trivial
  have hnest : NestRep w sz n row' (a.tmps.getD k undef) (blk μ [(l, v)]) := (hown.nest hf).le (nle_sl hr)
  obtain ⟨p, tk⟩ := nest_taken (σ := σ.o) (μ := μ) (N := fun _ => False) (L := l') (ver := v') hnest (.inl hv)
  have hvex : ∀ p ∈ [(l, v)], Valid σ.o p := fun p hp => by simp at hp; subst hp; exact ⟨hlv, by rw [hσ]⟩
  let τs : Turns := [(l', (v', .nest sz n row' none), p), (l, (v + 1, .dead), none, [])]
  have hblkT : blkT τs = blk μ [(l, v)] := by
    have h1 := tk.1
    have : blkT τs = blkT [(l', (v', HO.nest sz n row' none), p)] ++ blkT [(l, (v + 1, HO.dead), none, [])] := blkT_append [_] [_]
    rw [this, h1]; simp [blkT, blkP]
  have hus : usOf τs = [(l', v', .nest sz n row' none), (l, v + 1, .dead)] := rfl
  have hnd : nodupL (usOf τs) = true := by
    rw [hus]
    unfold nodupL
    have : nbeq l l' = false := by cases hb : nbeq l l' with | false => rfl | true => exact absurd (eq_of_nbeq hb) hne
    simp [hasLab, this, nodupL]
  obtain ⟨q1, q2, q3⟩ := R.turned (w' := w) (τ := τs) (ex := [(l, v)]) (gone := []) (F' := blk μ [(l, v)]) hnd hvex
    (fun t ht => by
      rcases List.mem_cons.1 ht with rfl | ht
      · exact tk.2.1 _ (by simp)
      · simp at ht; subst ht
        exact ⟨fun _ => rfl, .inl (by simp [hσ])⟩)
    (fun p hp => by simp at hp; subst hp; exact ⟨(l, (v + 1, .dead), none, []), by simp [τs], rfl⟩) ⟨rfl, rfl, rfl⟩ (Nat.le_refl _) (fun _ _ _ => rfl) (fun b cs e fr hb => ⟨cs, hb, rfl⟩)
    (fun b hb => by
      obtain ⟨p, hp, hm⟩ := blk_mem hb
      exact ⟨(R.ownH p.1 b (hvex p hp).1 hm).1, .inl hb⟩)
    (blk_nodup R (by simp) hvex) hblkT
    (fun N' _ hf t ht => by
      rcases List.mem_cons.1 ht with rfl | ht
      · exact (tk.2.2 _ _ N' (fun _ h => h.elim) (fun t ht => hf t (by simp at ht; subst ht; simp [τs]))).2 _ (by simp)
      · simp at ht; subst ht; trivial)
  refine ⟨placeT μ τs, ?_⟩
  have eo : St.o ⟨(k, .c (.nown l' n v')) :: σ.slots, (l', v', .nest sz n row' none) :: (l, v + 1, .dead) :: σ.objs⟩ = putO σ.o (usOf τs) := by
    show lookO ([(l', v', HO.nest sz n row' none), (l, v + 1, HO.dead)] ++ σ.objs) = _
    rw [lookO_app, hus]; rfl
  rw [eo]
  refine { q3 with slots := slot_cons (tm := fun k => a.tmps.getD k undef) ?_ q3.slots }
  exact (tk.2.2 _ _ _ (fun _ h => h.elim) (fun t ht => q2 t (by simp at ht; subst ht; simp [τs]))).1
end Go.Rk
/- Small helps for nests: how a row's cells close; rows of values. -/
namespace Go.Rk
set_option linter.unusedSimpArgs false
set_option linter.unusedVariables false
theorem close_end {so : Nat → Nat × HO} : closeOk so [] [] [] := trivial
theorem close_v {so : Nat → Nat × HO} {u : Value} {r : List CV} {s : List DV} {ls : List (Nat × Nat)} (h : closeOk so r s ls) : closeOk so (.d (.v u) :: r) (.v u :: s) ls := ⟨rfl, h⟩
theorem close_own {so : Nat → Nat × HO} {l v sz n : Nat} {rw rw' : Nat → List DV} {r : List CV} {s : List DV} {ls : List (Nat × Nat)} (ho : so l = (v, .arr sz n rw')) (he : ∀ i, i < n → rw' i = rw i) (hf : FlatR n rw) (h : closeOk so r s ls) :
    closeOk so (.own l 0 n v :: r) (.sl sz n rw :: s) ((l, v) :: ls) := by
  refine ⟨⟨rfl, rfl, rfl, ?_⟩, h⟩
  unfold ownAs
  rw [ho]
  exact ⟨rfl, rfl, rfl, he, hf⟩
def FlatL : List DV → Prop
  | [] => True
  | x :: r => (∃ u, x = .v u) ∧ FlatL r
theorem flatL {l : List DV} (h : FlatL l) : ∀ x, x ∈ l → ∃ u, x = .v u := by
  induction l with
  | nil => intro x hx; simp at hx
  | cons y r ih =>
    intro x hx
    rcases List.mem_cons.1 hx with rfl | hx
    · exact h.1
    · exact ih h.2 x hx
theorem flatR {n : Nat} {row : Nat → List DV} (h : ∀ i, FlatL (row i)) : FlatR n row := fun i _ => flatL (h i)
end Go.Rk
/- The types of this program, as the walk asks them. -/
namespace Go.Rk
set_option linter.unusedSimpArgs false
set_option linter.unusedVariables false
open Go.Proofs
def ti3 : TI := { desc := TypeDesc.int IntKind.i64, size := 1, bytes := 8, zero := [Value.int IntKind.i64 0], eqk := false }
def ti4 : TI := { desc := TypeDesc.bool, size := 1, bytes := 1, zero := [Value.bool false], eqk := false }
def ti5 : TI := { desc := TypeDesc.int IntKind.u8, size := 1, bytes := 1, zero := [Value.int IntKind.u8 0], eqk := false }
def ti23 : TI := { desc := TypeDesc.struct #[{ name := "Sources", type := 3, offset := 0, embedded := false, tag := "", pkgPath := "", byteOffset := 0 }, { name := "Tasks", type := 3, offset := 1, embedded := false, tag := "", pkgPath := "", byteOffset := 8 }, { name := "Kind", type := 3, offset := 2, embedded := false, tag := "", pkgPath := "", byteOffset := 16 }, { name := "Size", type := 3, offset := 3, embedded := false, tag := "", pkgPath := "", byteOffset := 24 }, { name := "Step", type := 3, offset := 4, embedded := false, tag := "", pkgPath := "", byteOffset := 32 }, { name := "Late", type := 3, offset := 5, embedded := false, tag := "", pkgPath := "", byteOffset := 40 }, { name := "Tell", type := 3, offset := 6, embedded := false, tag := "", pkgPath := "", byteOffset := 48 }, { name := "Piece", type := 4, offset := 7, embedded := false, tag := "", pkgPath := "", byteOffset := 56 }, { name := "Least", type := 3, offset := 8, embedded := false, tag := "", pkgPath := "", byteOffset := 64 }, { name := "Room", type := 3, offset := 9, embedded := false, tag := "", pkgPath := "", byteOffset := 72 }], size := 10, bytes := 80, zero := [Value.int IntKind.i64 0, Value.int IntKind.i64 0, Value.int IntKind.i64 0, Value.int IntKind.i64 0, Value.int IntKind.i64 0, Value.int IntKind.i64 0, Value.int IntKind.i64 0, Value.bool false, Value.int IntKind.i64 0, Value.int IntKind.i64 0], eqk := true }
def ti24 : TI := { desc := TypeDesc.slice 124, size := 1, bytes := 24, zero := [Value.slice none 0 0], eqk := false }
def ti25 : TI := { desc := TypeDesc.slice 188, size := 1, bytes := 24, zero := [Value.slice none 0 0], eqk := false }
def ti27 : TI := { desc := TypeDesc.struct #[{ name := "Mark", type := 3, offset := 0, embedded := false, tag := "", pkgPath := "", byteOffset := 0 }, { name := "Rows", type := 25, offset := 1, embedded := false, tag := "", pkgPath := "", byteOffset := 8 }], size := 2, bytes := 32, zero := [Value.int IntKind.i64 0, Value.slice none 0 0], eqk := false }
def ti28 : TI := { desc := TypeDesc.slice 191, size := 1, bytes := 24, zero := [Value.slice none 0 0], eqk := false }
def ti29 : TI := { desc := TypeDesc.slice 194, size := 1, bytes := 24, zero := [Value.slice none 0 0], eqk := false }
def ti31 : TI := { desc := TypeDesc.struct #[{ name := "N", type := 3, offset := 0, embedded := false, tag := "", pkgPath := "", byteOffset := 0 }, { name := "Panes", type := 28, offset := 1, embedded := false, tag := "", pkgPath := "", byteOffset := 8 }, { name := "Lates", type := 29, offset := 2, embedded := false, tag := "", pkgPath := "", byteOffset := 32 }], size := 3, bytes := 56, zero := [Value.int IntKind.i64 0, Value.slice none 0 0, Value.slice none 0 0], eqk := false }
def ti33 : TI := { desc := TypeDesc.struct #[{ name := "Ins", type := 24, offset := 0, embedded := false, tag := "", pkgPath := "", byteOffset := 0 }, { name := "Op", type := 27, offset := 1, embedded := false, tag := "", pkgPath := "", byteOffset := 24 }, { name := "Wall", type := 3, offset := 3, embedded := false, tag := "", pkgPath := "", byteOffset := 56 }, { name := "Pend", type := 31, offset := 4, embedded := false, tag := "", pkgPath := "", byteOffset := 64 }], size := 7, bytes := 120, zero := [Value.slice none 0 0, Value.int IntKind.i64 0, Value.slice none 0 0, Value.int IntKind.i64 0, Value.int IntKind.i64 0, Value.slice none 0 0, Value.slice none 0 0], eqk := false }
def ti35 : TI := { desc := TypeDesc.struct #[{ name := "Kind", type := 3, offset := 0, embedded := false, tag := "", pkgPath := "", byteOffset := 0 }, { name := "T", type := 3, offset := 1, embedded := false, tag := "", pkgPath := "", byteOffset := 8 }, { name := "Key", type := 3, offset := 2, embedded := false, tag := "", pkgPath := "", byteOffset := 16 }, { name := "V", type := 3, offset := 3, embedded := false, tag := "", pkgPath := "", byteOffset := 24 }, { name := "N", type := 3, offset := 4, embedded := false, tag := "", pkgPath := "", byteOffset := 32 }], size := 5, bytes := 40, zero := [Value.int IntKind.i64 0, Value.int IntKind.i64 0, Value.int IntKind.i64 0, Value.int IntKind.i64 0, Value.int IntKind.i64 0], eqk := true }
def ti37 : TI := { desc := TypeDesc.slice 86, size := 1, bytes := 24, zero := [Value.slice none 0 0], eqk := false }
def ti38 : TI := { desc := TypeDesc.slice 173, size := 1, bytes := 24, zero := [Value.slice none 0 0], eqk := false }
def ti40 : TI := { desc := TypeDesc.struct #[{ name := "Mark", type := 3, offset := 0, embedded := false, tag := "", pkgPath := "", byteOffset := 0 }, { name := "Rows", type := 38, offset := 1, embedded := false, tag := "", pkgPath := "", byteOffset := 8 }], size := 2, bytes := 32, zero := [Value.int IntKind.i64 0, Value.slice none 0 0], eqk := false }
def ti41 : TI := { desc := TypeDesc.slice 179, size := 1, bytes := 24, zero := [Value.slice none 0 0], eqk := false }
def ti42 : TI := { desc := TypeDesc.slice 182, size := 1, bytes := 24, zero := [Value.slice none 0 0], eqk := false }
def ti44 : TI := { desc := TypeDesc.struct #[{ name := "N", type := 3, offset := 0, embedded := false, tag := "", pkgPath := "", byteOffset := 0 }, { name := "Panes", type := 41, offset := 1, embedded := false, tag := "", pkgPath := "", byteOffset := 8 }, { name := "Lates", type := 42, offset := 2, embedded := false, tag := "", pkgPath := "", byteOffset := 32 }], size := 3, bytes := 56, zero := [Value.int IntKind.i64 0, Value.slice none 0 0, Value.slice none 0 0], eqk := false }
def ti46 : TI := { desc := TypeDesc.struct #[{ name := "Ins", type := 37, offset := 0, embedded := false, tag := "", pkgPath := "", byteOffset := 0 }, { name := "Op", type := 40, offset := 1, embedded := false, tag := "", pkgPath := "", byteOffset := 24 }, { name := "Wall", type := 3, offset := 3, embedded := false, tag := "", pkgPath := "", byteOffset := 56 }, { name := "Pend", type := 44, offset := 4, embedded := false, tag := "", pkgPath := "", byteOffset := 64 }], size := 7, bytes := 120, zero := [Value.slice none 0 0, Value.int IntKind.i64 0, Value.slice none 0 0, Value.int IntKind.i64 0, Value.int IntKind.i64 0, Value.slice none 0 0, Value.slice none 0 0], eqk := false }
def ti49 : TI := { desc := TypeDesc.struct #[{ name := "Sources", type := 3, offset := 0, embedded := false, tag := "", pkgPath := "", byteOffset := 0 }, { name := "Tasks", type := 3, offset := 1, embedded := false, tag := "", pkgPath := "", byteOffset := 8 }, { name := "Kind", type := 3, offset := 2, embedded := false, tag := "", pkgPath := "", byteOffset := 16 }, { name := "Size", type := 3, offset := 3, embedded := false, tag := "", pkgPath := "", byteOffset := 24 }, { name := "Step", type := 3, offset := 4, embedded := false, tag := "", pkgPath := "", byteOffset := 32 }, { name := "Late", type := 3, offset := 5, embedded := false, tag := "", pkgPath := "", byteOffset := 40 }, { name := "Tell", type := 3, offset := 6, embedded := false, tag := "", pkgPath := "", byteOffset := 48 }, { name := "Piece", type := 4, offset := 7, embedded := false, tag := "", pkgPath := "", byteOffset := 56 }, { name := "Least", type := 3, offset := 8, embedded := false, tag := "", pkgPath := "", byteOffset := 64 }, { name := "Room", type := 3, offset := 9, embedded := false, tag := "", pkgPath := "", byteOffset := 72 }], size := 10, bytes := 80, zero := [Value.int IntKind.i64 0, Value.int IntKind.i64 0, Value.int IntKind.i64 0, Value.int IntKind.i64 0, Value.int IntKind.i64 0, Value.int IntKind.i64 0, Value.int IntKind.i64 0, Value.bool false, Value.int IntKind.i64 0, Value.int IntKind.i64 0], eqk := true }
def ti52 : TI := { desc := TypeDesc.struct #[{ name := "Kind", type := 3, offset := 0, embedded := false, tag := "", pkgPath := "", byteOffset := 0 }, { name := "T", type := 3, offset := 1, embedded := false, tag := "", pkgPath := "", byteOffset := 8 }, { name := "Key", type := 3, offset := 2, embedded := false, tag := "", pkgPath := "", byteOffset := 16 }, { name := "V", type := 3, offset := 3, embedded := false, tag := "", pkgPath := "", byteOffset := 24 }, { name := "N", type := 3, offset := 4, embedded := false, tag := "", pkgPath := "", byteOffset := 32 }], size := 5, bytes := 40, zero := [Value.int IntKind.i64 0, Value.int IntKind.i64 0, Value.int IntKind.i64 0, Value.int IntKind.i64 0, Value.int IntKind.i64 0], eqk := true }
def ti57 : TI := { desc := TypeDesc.slice 3, size := 1, bytes := 24, zero := [Value.slice none 0 0], eqk := false }
def ti58 : TI := { desc := TypeDesc.slice 4, size := 1, bytes := 24, zero := [Value.slice none 0 0], eqk := false }
def ti59 : TI := { desc := TypeDesc.slice 155, size := 1, bytes := 24, zero := [Value.slice none 0 0], eqk := false }
def ti61 : TI := { desc := TypeDesc.struct #[{ name := "N", type := 3, offset := 0, embedded := false, tag := "", pkgPath := "", byteOffset := 0 }, { name := "At", type := 57, offset := 1, embedded := false, tag := "", pkgPath := "", byteOffset := 8 }, { name := "Snaps", type := 59, offset := 2, embedded := false, tag := "", pkgPath := "", byteOffset := 32 }], size := 3, bytes := 56, zero := [Value.int IntKind.i64 0, Value.slice none 0 0, Value.slice none 0 0], eqk := false }
def ti63 : TI := { desc := TypeDesc.struct #[{ name := "N", type := 3, offset := 0, embedded := false, tag := "", pkgPath := "", byteOffset := 0 }, { name := "Open", type := 4, offset := 1, embedded := false, tag := "", pkgPath := "", byteOffset := 8 }, { name := "Src", type := 57, offset := 2, embedded := false, tag := "", pkgPath := "", byteOffset := 16 }, { name := "Tsk", type := 58, offset := 3, embedded := false, tag := "", pkgPath := "", byteOffset := 40 }, { name := "Snaps", type := 59, offset := 4, embedded := false, tag := "", pkgPath := "", byteOffset := 64 }, { name := "Safe", type := 61, offset := 5, embedded := false, tag := "", pkgPath := "", byteOffset := 88 }], size := 8, bytes := 144, zero := [Value.int IntKind.i64 0, Value.bool false, Value.slice none 0 0, Value.slice none 0 0, Value.slice none 0 0, Value.int IntKind.i64 0, Value.slice none 0 0, Value.slice none 0 0], eqk := false }
def ti65 : TI := { desc := TypeDesc.slice 159, size := 1, bytes := 24, zero := [Value.slice none 0 0], eqk := false }
def ti67 : TI := { desc := TypeDesc.struct #[{ name := "N", type := 3, offset := 0, embedded := false, tag := "", pkgPath := "", byteOffset := 0 }, { name := "At", type := 57, offset := 1, embedded := false, tag := "", pkgPath := "", byteOffset := 8 }, { name := "Snaps", type := 65, offset := 2, embedded := false, tag := "", pkgPath := "", byteOffset := 32 }], size := 3, bytes := 56, zero := [Value.int IntKind.i64 0, Value.slice none 0 0, Value.slice none 0 0], eqk := false }
def ti69 : TI := { desc := TypeDesc.struct #[{ name := "N", type := 3, offset := 0, embedded := false, tag := "", pkgPath := "", byteOffset := 0 }, { name := "Open", type := 4, offset := 1, embedded := false, tag := "", pkgPath := "", byteOffset := 8 }, { name := "Src", type := 57, offset := 2, embedded := false, tag := "", pkgPath := "", byteOffset := 16 }, { name := "Tsk", type := 58, offset := 3, embedded := false, tag := "", pkgPath := "", byteOffset := 40 }, { name := "Snaps", type := 65, offset := 4, embedded := false, tag := "", pkgPath := "", byteOffset := 64 }, { name := "Safe", type := 67, offset := 5, embedded := false, tag := "", pkgPath := "", byteOffset := 88 }], size := 8, bytes := 144, zero := [Value.int IntKind.i64 0, Value.bool false, Value.slice none 0 0, Value.slice none 0 0, Value.slice none 0 0, Value.int IntKind.i64 0, Value.slice none 0 0, Value.slice none 0 0], eqk := false }
def ti84 : TI := { desc := TypeDesc.slice 52, size := 1, bytes := 24, zero := [Value.slice none 0 0], eqk := false }
def ti86 : TI := { desc := TypeDesc.struct #[{ name := "Queue", type := 84, offset := 0, embedded := false, tag := "", pkgPath := "", byteOffset := 0 }, { name := "Mark", type := 3, offset := 1, embedded := false, tag := "", pkgPath := "", byteOffset := 24 }, { name := "Held", type := 4, offset := 2, embedded := false, tag := "", pkgPath := "", byteOffset := 32 }], size := 3, bytes := 40, zero := [Value.slice none 0 0, Value.int IntKind.i64 0, Value.bool false], eqk := false }
def ti122 : TI := { desc := TypeDesc.slice 35, size := 1, bytes := 24, zero := [Value.slice none 0 0], eqk := false }
def ti124 : TI := { desc := TypeDesc.struct #[{ name := "Queue", type := 122, offset := 0, embedded := false, tag := "", pkgPath := "", byteOffset := 0 }, { name := "Mark", type := 3, offset := 1, embedded := false, tag := "", pkgPath := "", byteOffset := 24 }, { name := "Held", type := 4, offset := 2, embedded := false, tag := "", pkgPath := "", byteOffset := 32 }], size := 3, bytes := 40, zero := [Value.slice none 0 0, Value.int IntKind.i64 0, Value.bool false], eqk := false }
def ti155 : TI := { desc := TypeDesc.struct #[{ name := "Op", type := 27, offset := 0, embedded := false, tag := "", pkgPath := "", byteOffset := 0 }, { name := "Marks", type := 57, offset := 2, embedded := false, tag := "", pkgPath := "", byteOffset := 32 }], size := 3, bytes := 56, zero := [Value.int IntKind.i64 0, Value.slice none 0 0, Value.slice none 0 0], eqk := false }
def ti159 : TI := { desc := TypeDesc.struct #[{ name := "Op", type := 40, offset := 0, embedded := false, tag := "", pkgPath := "", byteOffset := 0 }, { name := "Marks", type := 57, offset := 2, embedded := false, tag := "", pkgPath := "", byteOffset := 32 }], size := 3, bytes := 56, zero := [Value.int IntKind.i64 0, Value.slice none 0 0, Value.slice none 0 0], eqk := false }
def ti169 : TI := { desc := TypeDesc.struct #[{ name := "Start", type := 3, offset := 0, embedded := false, tag := "", pkgPath := "", byteOffset := 0 }, { name := "End", type := 3, offset := 1, embedded := false, tag := "", pkgPath := "", byteOffset := 8 }], size := 2, bytes := 16, zero := [Value.int IntKind.i64 0, Value.int IntKind.i64 0], eqk := true }
def ti171 : TI := { desc := TypeDesc.struct #[{ name := "N", type := 3, offset := 0, embedded := false, tag := "", pkgPath := "", byteOffset := 0 }, { name := "Sum", type := 3, offset := 1, embedded := false, tag := "", pkgPath := "", byteOffset := 8 }, { name := "Least", type := 3, offset := 2, embedded := false, tag := "", pkgPath := "", byteOffset := 16 }, { name := "Most", type := 3, offset := 3, embedded := false, tag := "", pkgPath := "", byteOffset := 24 }], size := 4, bytes := 32, zero := [Value.int IntKind.i64 0, Value.int IntKind.i64 0, Value.int IntKind.i64 0, Value.int IntKind.i64 0], eqk := true }
def ti173 : TI := { desc := TypeDesc.struct #[{ name := "Key", type := 3, offset := 0, embedded := false, tag := "", pkgPath := "", byteOffset := 0 }, { name := "Win", type := 169, offset := 1, embedded := false, tag := "", pkgPath := "", byteOffset := 8 }, { name := "All", type := 171, offset := 3, embedded := false, tag := "", pkgPath := "", byteOffset := 24 }, { name := "Fresh", type := 171, offset := 7, embedded := false, tag := "", pkgPath := "", byteOffset := 56 }, { name := "Told", type := 3, offset := 11, embedded := false, tag := "", pkgPath := "", byteOffset := 88 }, { name := "Timely", type := 4, offset := 12, embedded := false, tag := "", pkgPath := "", byteOffset := 96 }], size := 13, bytes := 104, zero := [Value.int IntKind.i64 0, Value.int IntKind.i64 0, Value.int IntKind.i64 0, Value.int IntKind.i64 0, Value.int IntKind.i64 0, Value.int IntKind.i64 0, Value.int IntKind.i64 0, Value.int IntKind.i64 0, Value.int IntKind.i64 0, Value.int IntKind.i64 0, Value.int IntKind.i64 0, Value.int IntKind.i64 0, Value.bool false], eqk := true }
def ti179 : TI := { desc := TypeDesc.struct #[{ name := "Key", type := 3, offset := 0, embedded := false, tag := "", pkgPath := "", byteOffset := 0 }, { name := "Win", type := 169, offset := 1, embedded := false, tag := "", pkgPath := "", byteOffset := 8 }, { name := "No", type := 3, offset := 3, embedded := false, tag := "", pkgPath := "", byteOffset := 24 }, { name := "Kind", type := 3, offset := 4, embedded := false, tag := "", pkgPath := "", byteOffset := 32 }, { name := "Agg", type := 171, offset := 5, embedded := false, tag := "", pkgPath := "", byteOffset := 40 }], size := 9, bytes := 72, zero := [Value.int IntKind.i64 0, Value.int IntKind.i64 0, Value.int IntKind.i64 0, Value.int IntKind.i64 0, Value.int IntKind.i64 0, Value.int IntKind.i64 0, Value.int IntKind.i64 0, Value.int IntKind.i64 0, Value.int IntKind.i64 0], eqk := true }
def ti182 : TI := { desc := TypeDesc.struct #[{ name := "Rec", type := 52, offset := 0, embedded := false, tag := "", pkgPath := "", byteOffset := 0 }, { name := "Win", type := 169, offset := 5, embedded := false, tag := "", pkgPath := "", byteOffset := 40 }], size := 7, bytes := 56, zero := [Value.int IntKind.i64 0, Value.int IntKind.i64 0, Value.int IntKind.i64 0, Value.int IntKind.i64 0, Value.int IntKind.i64 0, Value.int IntKind.i64 0, Value.int IntKind.i64 0], eqk := true }
def ti185 : TI := { desc := TypeDesc.struct #[{ name := "Start", type := 3, offset := 0, embedded := false, tag := "", pkgPath := "", byteOffset := 0 }, { name := "End", type := 3, offset := 1, embedded := false, tag := "", pkgPath := "", byteOffset := 8 }], size := 2, bytes := 16, zero := [Value.int IntKind.i64 0, Value.int IntKind.i64 0], eqk := true }
def ti186 : TI := { desc := TypeDesc.struct #[{ name := "N", type := 3, offset := 0, embedded := false, tag := "", pkgPath := "", byteOffset := 0 }, { name := "Sum", type := 3, offset := 1, embedded := false, tag := "", pkgPath := "", byteOffset := 8 }, { name := "Least", type := 3, offset := 2, embedded := false, tag := "", pkgPath := "", byteOffset := 16 }, { name := "Most", type := 3, offset := 3, embedded := false, tag := "", pkgPath := "", byteOffset := 24 }], size := 4, bytes := 32, zero := [Value.int IntKind.i64 0, Value.int IntKind.i64 0, Value.int IntKind.i64 0, Value.int IntKind.i64 0], eqk := true }
def ti188 : TI := { desc := TypeDesc.struct #[{ name := "Key", type := 3, offset := 0, embedded := false, tag := "", pkgPath := "", byteOffset := 0 }, { name := "Win", type := 185, offset := 1, embedded := false, tag := "", pkgPath := "", byteOffset := 8 }, { name := "All", type := 186, offset := 3, embedded := false, tag := "", pkgPath := "", byteOffset := 24 }, { name := "Fresh", type := 186, offset := 7, embedded := false, tag := "", pkgPath := "", byteOffset := 56 }, { name := "Told", type := 3, offset := 11, embedded := false, tag := "", pkgPath := "", byteOffset := 88 }, { name := "Timely", type := 4, offset := 12, embedded := false, tag := "", pkgPath := "", byteOffset := 96 }], size := 13, bytes := 104, zero := [Value.int IntKind.i64 0, Value.int IntKind.i64 0, Value.int IntKind.i64 0, Value.int IntKind.i64 0, Value.int IntKind.i64 0, Value.int IntKind.i64 0, Value.int IntKind.i64 0, Value.int IntKind.i64 0, Value.int IntKind.i64 0, Value.int IntKind.i64 0, Value.int IntKind.i64 0, Value.int IntKind.i64 0, Value.bool false], eqk := true }
def ti191 : TI := { desc := TypeDesc.struct #[{ name := "Key", type := 3, offset := 0, embedded := false, tag := "", pkgPath := "", byteOffset := 0 }, { name := "Win", type := 185, offset := 1, embedded := false, tag := "", pkgPath := "", byteOffset := 8 }, { name := "No", type := 3, offset := 3, embedded := false, tag := "", pkgPath := "", byteOffset := 24 }, { name := "Kind", type := 3, offset := 4, embedded := false, tag := "", pkgPath := "", byteOffset := 32 }, { name := "Agg", type := 186, offset := 5, embedded := false, tag := "", pkgPath := "", byteOffset := 40 }], size := 9, bytes := 72, zero := [Value.int IntKind.i64 0, Value.int IntKind.i64 0, Value.int IntKind.i64 0, Value.int IntKind.i64 0, Value.int IntKind.i64 0, Value.int IntKind.i64 0, Value.int IntKind.i64 0, Value.int IntKind.i64 0, Value.int IntKind.i64 0], eqk := true }
def ti194 : TI := { desc := TypeDesc.struct #[{ name := "Rec", type := 35, offset := 0, embedded := false, tag := "", pkgPath := "", byteOffset := 0 }, { name := "Win", type := 185, offset := 5, embedded := false, tag := "", pkgPath := "", byteOffset := 40 }], size := 7, bytes := 56, zero := [Value.int IntKind.i64 0, Value.int IntKind.i64 0, Value.int IntKind.i64 0, Value.int IntKind.i64 0, Value.int IntKind.i64 0, Value.int IntKind.i64 0, Value.int IntKind.i64 0], eqk := true }
def ti215 : TI := { desc := TypeDesc.int IntKind.u64, size := 1, bytes := 8, zero := [Value.int IntKind.u64 0], eqk := false }
def tab : List (Nat × TI) := [(3, ti3), (4, ti4), (5, ti5), (23, ti23), (24, ti24), (25, ti25), (27, ti27), (28, ti28), (29, ti29), (31, ti31), (33, ti33), (35, ti35), (37, ti37), (38, ti38), (40, ti40), (41, ti41), (42, ti42), (44, ti44), (46, ti46), (49, ti49), (52, ti52), (57, ti57), (58, ti58), (59, ti59), (61, ti61), (63, ti63), (65, ti65), (67, ti67), (69, ti69), (84, ti84), (86, ti86), (122, ti122), (124, ti124), (155, ti155), (159, ti159), (169, ti169), (171, ti171), (173, ti173), (179, ti179), (182, ti182), (185, ti185), (186, ti186), (188, ti188), (191, ti191), (194, ti194), (215, ti215)]
theorem row3 : TRow Tryz.prog 3 ti3 := ⟨Tryz.underlying3, ⟨Tryz.t3, Value.int IntKind.i64 0, by kernel_rfl, rfl, rfl, rfl, rfl, rfl, rfl⟩, fun h => by cases h⟩
theorem row4 : TRow Tryz.prog 4 ti4 := ⟨Tryz.underlying4, ⟨Tryz.t4, Value.bool false, by kernel_rfl, rfl, rfl, rfl, rfl, rfl, rfl⟩, fun h => by cases h⟩
theorem row5 : TRow Tryz.prog 5 ti5 := ⟨Tryz.underlying5, ⟨Tryz.t5, Value.int IntKind.u8 0, by kernel_rfl, rfl, rfl, rfl, rfl, rfl, rfl⟩, fun h => by cases h⟩
theorem row23 : TRow Tryz.prog 23 ti23 := ⟨Tryz.underlying23, ⟨Tryz.t23, Value.agg #[Value.int IntKind.i64 0, Value.int IntKind.i64 0, Value.int IntKind.i64 0, Value.int IntKind.i64 0, Value.int IntKind.i64 0, Value.int IntKind.i64 0, Value.int IntKind.i64 0, Value.bool false, Value.int IntKind.i64 0, Value.int IntKind.i64 0], by kernel_rfl, rfl, rfl, rfl, rfl, rfl, rfl⟩, fun _ => ⟨Tryz.stoodInHeld23, Tryz.eqGuardType23⟩⟩
theorem row24 : TRow Tryz.prog 24 ti24 := ⟨Tryz.underlying24, ⟨Tryz.t24, Value.slice none 0 0, by kernel_rfl, rfl, rfl, rfl, rfl, rfl, rfl⟩, fun h => by cases h⟩
theorem row25 : TRow Tryz.prog 25 ti25 := ⟨Tryz.underlying25, ⟨Tryz.t25, Value.slice none 0 0, by kernel_rfl, rfl, rfl, rfl, rfl, rfl, rfl⟩, fun h => by cases h⟩
theorem row27 : TRow Tryz.prog 27 ti27 := ⟨Tryz.underlying27, ⟨Tryz.t27, Value.agg #[Value.int IntKind.i64 0, Value.slice none 0 0], by kernel_rfl, rfl, rfl, rfl, rfl, rfl, rfl⟩, fun h => by cases h⟩
theorem row28 : TRow Tryz.prog 28 ti28 := ⟨Tryz.underlying28, ⟨Tryz.t28, Value.slice none 0 0, by kernel_rfl, rfl, rfl, rfl, rfl, rfl, rfl⟩, fun h => by cases h⟩
theorem row29 : TRow Tryz.prog 29 ti29 := ⟨Tryz.underlying29, ⟨Tryz.t29, Value.slice none 0 0, by kernel_rfl, rfl, rfl, rfl, rfl, rfl, rfl⟩, fun h => by cases h⟩
theorem row31 : TRow Tryz.prog 31 ti31 := ⟨Tryz.underlying31, ⟨Tryz.t31, Value.agg #[Value.int IntKind.i64 0, Value.slice none 0 0, Value.slice none 0 0], by kernel_rfl, rfl, rfl, rfl, rfl, rfl, rfl⟩, fun h => by cases h⟩
theorem row33 : TRow Tryz.prog 33 ti33 := ⟨Tryz.underlying33, ⟨Tryz.t33, Value.agg #[Value.slice none 0 0, Value.int IntKind.i64 0, Value.slice none 0 0, Value.int IntKind.i64 0, Value.int IntKind.i64 0, Value.slice none 0 0, Value.slice none 0 0], by kernel_rfl, rfl, rfl, rfl, rfl, rfl, rfl⟩, fun h => by cases h⟩
theorem row35 : TRow Tryz.prog 35 ti35 := ⟨Tryz.underlying35, ⟨Tryz.t35, Value.agg #[Value.int IntKind.i64 0, Value.int IntKind.i64 0, Value.int IntKind.i64 0, Value.int IntKind.i64 0, Value.int IntKind.i64 0], by kernel_rfl, rfl, rfl, rfl, rfl, rfl, rfl⟩, fun _ => ⟨Tryz.stoodInHeld35, Tryz.eqGuardType35⟩⟩
theorem row37 : TRow Tryz.prog 37 ti37 := ⟨Tryz.underlying37, ⟨Tryz.t37, Value.slice none 0 0, by kernel_rfl, rfl, rfl, rfl, rfl, rfl, rfl⟩, fun h => by cases h⟩
theorem row38 : TRow Tryz.prog 38 ti38 := ⟨Tryz.underlying38, ⟨Tryz.t38, Value.slice none 0 0, by kernel_rfl, rfl, rfl, rfl, rfl, rfl, rfl⟩, fun h => by cases h⟩
theorem row40 : TRow Tryz.prog 40 ti40 := ⟨Tryz.underlying40, ⟨Tryz.t40, Value.agg #[Value.int IntKind.i64 0, Value.slice none 0 0], by kernel_rfl, rfl, rfl, rfl, rfl, rfl, rfl⟩, fun h => by cases h⟩
theorem row41 : TRow Tryz.prog 41 ti41 := ⟨Tryz.underlying41, ⟨Tryz.t41, Value.slice none 0 0, by kernel_rfl, rfl, rfl, rfl, rfl, rfl, rfl⟩, fun h => by cases h⟩
theorem row42 : TRow Tryz.prog 42 ti42 := ⟨Tryz.underlying42, ⟨Tryz.t42, Value.slice none 0 0, by kernel_rfl, rfl, rfl, rfl, rfl, rfl, rfl⟩, fun h => by cases h⟩
theorem row44 : TRow Tryz.prog 44 ti44 := ⟨Tryz.underlying44, ⟨Tryz.t44, Value.agg #[Value.int IntKind.i64 0, Value.slice none 0 0, Value.slice none 0 0], by kernel_rfl, rfl, rfl, rfl, rfl, rfl, rfl⟩, fun h => by cases h⟩
theorem row46 : TRow Tryz.prog 46 ti46 := ⟨Tryz.underlying46, ⟨Tryz.t46, Value.agg #[Value.slice none 0 0, Value.int IntKind.i64 0, Value.slice none 0 0, Value.int IntKind.i64 0, Value.int IntKind.i64 0, Value.slice none 0 0, Value.slice none 0 0], by kernel_rfl, rfl, rfl, rfl, rfl, rfl, rfl⟩, fun h => by cases h⟩
theorem row49 : TRow Tryz.prog 49 ti49 := ⟨Tryz.underlying49, ⟨Tryz.t49, Value.agg #[Value.int IntKind.i64 0, Value.int IntKind.i64 0, Value.int IntKind.i64 0, Value.int IntKind.i64 0, Value.int IntKind.i64 0, Value.int IntKind.i64 0, Value.int IntKind.i64 0, Value.bool false, Value.int IntKind.i64 0, Value.int IntKind.i64 0], by kernel_rfl, rfl, rfl, rfl, rfl, rfl, rfl⟩, fun _ => ⟨Tryz.stoodInHeld49, Tryz.eqGuardType49⟩⟩
theorem row52 : TRow Tryz.prog 52 ti52 := ⟨Tryz.underlying52, ⟨Tryz.t52, Value.agg #[Value.int IntKind.i64 0, Value.int IntKind.i64 0, Value.int IntKind.i64 0, Value.int IntKind.i64 0, Value.int IntKind.i64 0], by kernel_rfl, rfl, rfl, rfl, rfl, rfl, rfl⟩, fun _ => ⟨Tryz.stoodInHeld52, Tryz.eqGuardType52⟩⟩
theorem row57 : TRow Tryz.prog 57 ti57 := ⟨Tryz.underlying57, ⟨Tryz.t57, Value.slice none 0 0, by kernel_rfl, rfl, rfl, rfl, rfl, rfl, rfl⟩, fun h => by cases h⟩
theorem row58 : TRow Tryz.prog 58 ti58 := ⟨Tryz.underlying58, ⟨Tryz.t58, Value.slice none 0 0, by kernel_rfl, rfl, rfl, rfl, rfl, rfl, rfl⟩, fun h => by cases h⟩
theorem row59 : TRow Tryz.prog 59 ti59 := ⟨Tryz.underlying59, ⟨Tryz.t59, Value.slice none 0 0, by kernel_rfl, rfl, rfl, rfl, rfl, rfl, rfl⟩, fun h => by cases h⟩
theorem row61 : TRow Tryz.prog 61 ti61 := ⟨Tryz.underlying61, ⟨Tryz.t61, Value.agg #[Value.int IntKind.i64 0, Value.slice none 0 0, Value.slice none 0 0], by kernel_rfl, rfl, rfl, rfl, rfl, rfl, rfl⟩, fun h => by cases h⟩
theorem row63 : TRow Tryz.prog 63 ti63 := ⟨Tryz.underlying63, ⟨Tryz.t63, Value.agg #[Value.int IntKind.i64 0, Value.bool false, Value.slice none 0 0, Value.slice none 0 0, Value.slice none 0 0, Value.int IntKind.i64 0, Value.slice none 0 0, Value.slice none 0 0], by kernel_rfl, rfl, rfl, rfl, rfl, rfl, rfl⟩, fun h => by cases h⟩
theorem row65 : TRow Tryz.prog 65 ti65 := ⟨Tryz.underlying65, ⟨Tryz.t65, Value.slice none 0 0, by kernel_rfl, rfl, rfl, rfl, rfl, rfl, rfl⟩, fun h => by cases h⟩
theorem row67 : TRow Tryz.prog 67 ti67 := ⟨Tryz.underlying67, ⟨Tryz.t67, Value.agg #[Value.int IntKind.i64 0, Value.slice none 0 0, Value.slice none 0 0], by kernel_rfl, rfl, rfl, rfl, rfl, rfl, rfl⟩, fun h => by cases h⟩
theorem row69 : TRow Tryz.prog 69 ti69 := ⟨Tryz.underlying69, ⟨Tryz.t69, Value.agg #[Value.int IntKind.i64 0, Value.bool false, Value.slice none 0 0, Value.slice none 0 0, Value.slice none 0 0, Value.int IntKind.i64 0, Value.slice none 0 0, Value.slice none 0 0], by kernel_rfl, rfl, rfl, rfl, rfl, rfl, rfl⟩, fun h => by cases h⟩
theorem row84 : TRow Tryz.prog 84 ti84 := ⟨Tryz.underlying84, ⟨Tryz.t84, Value.slice none 0 0, by kernel_rfl, rfl, rfl, rfl, rfl, rfl, rfl⟩, fun h => by cases h⟩
theorem row86 : TRow Tryz.prog 86 ti86 := ⟨Tryz.underlying86, ⟨Tryz.t86, Value.agg #[Value.slice none 0 0, Value.int IntKind.i64 0, Value.bool false], by kernel_rfl, rfl, rfl, rfl, rfl, rfl, rfl⟩, fun h => by cases h⟩
theorem row122 : TRow Tryz.prog 122 ti122 := ⟨Tryz.underlying122, ⟨Tryz.t122, Value.slice none 0 0, by kernel_rfl, rfl, rfl, rfl, rfl, rfl, rfl⟩, fun h => by cases h⟩
theorem row124 : TRow Tryz.prog 124 ti124 := ⟨Tryz.underlying124, ⟨Tryz.t124, Value.agg #[Value.slice none 0 0, Value.int IntKind.i64 0, Value.bool false], by kernel_rfl, rfl, rfl, rfl, rfl, rfl, rfl⟩, fun h => by cases h⟩
theorem row155 : TRow Tryz.prog 155 ti155 := ⟨Tryz.underlying155, ⟨Tryz.t155, Value.agg #[Value.int IntKind.i64 0, Value.slice none 0 0, Value.slice none 0 0], by kernel_rfl, rfl, rfl, rfl, rfl, rfl, rfl⟩, fun h => by cases h⟩
theorem row159 : TRow Tryz.prog 159 ti159 := ⟨Tryz.underlying159, ⟨Tryz.t159, Value.agg #[Value.int IntKind.i64 0, Value.slice none 0 0, Value.slice none 0 0], by kernel_rfl, rfl, rfl, rfl, rfl, rfl, rfl⟩, fun h => by cases h⟩
theorem row169 : TRow Tryz.prog 169 ti169 := ⟨Tryz.underlying169, ⟨Tryz.t169, Value.agg #[Value.int IntKind.i64 0, Value.int IntKind.i64 0], by kernel_rfl, rfl, rfl, rfl, rfl, rfl, rfl⟩, fun _ => ⟨Tryz.stoodInHeld169, Tryz.eqGuardType169⟩⟩
theorem row171 : TRow Tryz.prog 171 ti171 := ⟨Tryz.underlying171, ⟨Tryz.t171, Value.agg #[Value.int IntKind.i64 0, Value.int IntKind.i64 0, Value.int IntKind.i64 0, Value.int IntKind.i64 0], by kernel_rfl, rfl, rfl, rfl, rfl, rfl, rfl⟩, fun _ => ⟨Tryz.stoodInHeld171, Tryz.eqGuardType171⟩⟩
theorem row173 : TRow Tryz.prog 173 ti173 := ⟨Tryz.underlying173, ⟨Tryz.t173, Value.agg #[Value.int IntKind.i64 0, Value.int IntKind.i64 0, Value.int IntKind.i64 0, Value.int IntKind.i64 0, Value.int IntKind.i64 0, Value.int IntKind.i64 0, Value.int IntKind.i64 0, Value.int IntKind.i64 0, Value.int IntKind.i64 0, Value.int IntKind.i64 0, Value.int IntKind.i64 0, Value.int IntKind.i64 0, Value.bool false], by kernel_rfl, rfl, rfl, rfl, rfl, rfl, rfl⟩, fun _ => ⟨Tryz.stoodInHeld173, Tryz.eqGuardType173⟩⟩
theorem row179 : TRow Tryz.prog 179 ti179 := ⟨Tryz.underlying179, ⟨Tryz.t179, Value.agg #[Value.int IntKind.i64 0, Value.int IntKind.i64 0, Value.int IntKind.i64 0, Value.int IntKind.i64 0, Value.int IntKind.i64 0, Value.int IntKind.i64 0, Value.int IntKind.i64 0, Value.int IntKind.i64 0, Value.int IntKind.i64 0], by kernel_rfl, rfl, rfl, rfl, rfl, rfl, rfl⟩, fun _ => ⟨Tryz.stoodInHeld179, Tryz.eqGuardType179⟩⟩
theorem row182 : TRow Tryz.prog 182 ti182 := ⟨Tryz.underlying182, ⟨Tryz.t182, Value.agg #[Value.int IntKind.i64 0, Value.int IntKind.i64 0, Value.int IntKind.i64 0, Value.int IntKind.i64 0, Value.int IntKind.i64 0, Value.int IntKind.i64 0, Value.int IntKind.i64 0], by kernel_rfl, rfl, rfl, rfl, rfl, rfl, rfl⟩, fun _ => ⟨Tryz.stoodInHeld182, Tryz.eqGuardType182⟩⟩
theorem row185 : TRow Tryz.prog 185 ti185 := ⟨Tryz.underlying185, ⟨Tryz.t185, Value.agg #[Value.int IntKind.i64 0, Value.int IntKind.i64 0], by kernel_rfl, rfl, rfl, rfl, rfl, rfl, rfl⟩, fun _ => ⟨Tryz.stoodInHeld185, Tryz.eqGuardType185⟩⟩
theorem row186 : TRow Tryz.prog 186 ti186 := ⟨Tryz.underlying186, ⟨Tryz.t186, Value.agg #[Value.int IntKind.i64 0, Value.int IntKind.i64 0, Value.int IntKind.i64 0, Value.int IntKind.i64 0], by kernel_rfl, rfl, rfl, rfl, rfl, rfl, rfl⟩, fun _ => ⟨Tryz.stoodInHeld186, Tryz.eqGuardType186⟩⟩
theorem row188 : TRow Tryz.prog 188 ti188 := ⟨Tryz.underlying188, ⟨Tryz.t188, Value.agg #[Value.int IntKind.i64 0, Value.int IntKind.i64 0, Value.int IntKind.i64 0, Value.int IntKind.i64 0, Value.int IntKind.i64 0, Value.int IntKind.i64 0, Value.int IntKind.i64 0, Value.int IntKind.i64 0, Value.int IntKind.i64 0, Value.int IntKind.i64 0, Value.int IntKind.i64 0, Value.int IntKind.i64 0, Value.bool false], by kernel_rfl, rfl, rfl, rfl, rfl, rfl, rfl⟩, fun _ => ⟨Tryz.stoodInHeld188, Tryz.eqGuardType188⟩⟩
theorem row191 : TRow Tryz.prog 191 ti191 := ⟨Tryz.underlying191, ⟨Tryz.t191, Value.agg #[Value.int IntKind.i64 0, Value.int IntKind.i64 0, Value.int IntKind.i64 0, Value.int IntKind.i64 0, Value.int IntKind.i64 0, Value.int IntKind.i64 0, Value.int IntKind.i64 0, Value.int IntKind.i64 0, Value.int IntKind.i64 0], by kernel_rfl, rfl, rfl, rfl, rfl, rfl, rfl⟩, fun _ => ⟨Tryz.stoodInHeld191, Tryz.eqGuardType191⟩⟩
theorem row194 : TRow Tryz.prog 194 ti194 := ⟨Tryz.underlying194, ⟨Tryz.t194, Value.agg #[Value.int IntKind.i64 0, Value.int IntKind.i64 0, Value.int IntKind.i64 0, Value.int IntKind.i64 0, Value.int IntKind.i64 0, Value.int IntKind.i64 0, Value.int IntKind.i64 0], by kernel_rfl, rfl, rfl, rfl, rfl, rfl, rfl⟩, fun _ => ⟨Tryz.stoodInHeld194, Tryz.eqGuardType194⟩⟩
theorem row215 : TRow Tryz.prog 215 ti215 := ⟨Tryz.underlying215, ⟨Tryz.t215, Value.int IntKind.u64 0, by kernel_rfl, rfl, rfl, rfl, rfl, rfl, rfl⟩, fun h => by cases h⟩
theorem rows : TRows Tryz.prog tab := ⟨row3, row4, row5, row23, row24, row25, row27, row28, row29, row31, row33, row35, row37, row38, row40, row41, row42, row44, row46, row49, row52, row57, row58, row59, row61, row63, row65, row67, row69, row84, row86, row122, row124, row155, row159, row169, row171, row173, row179, row182, row185, row186, row188, row191, row194, row215, trivial⟩
abbrev TT : TypeId → Option TI := tabT tab
theorem ttok : TTok Tryz.prog TT := ttok_of rows (by decide +kernel)
end Go.Rk
/- The data of this program, by shapes. -/
namespace Go.Rk
set_option linter.unusedSimpArgs false
set_option linter.unusedVariables false
abbrev eI (n : Int) : DV := .v (.int .i64 n)
abbrev eB (n : Bool) : DV := .v (.bool n)
def xd (l : List DV) : XT := .agg (l.map .d)
/-- Rows. -/
structure Sl (α : Type) where
  n : Nat
  g : Nat → α
  hn : n ≤ maxLen
structure JobT where
  srcs : Int
  tsks : Int
  kind : Int
  size : Int
  step : Int
  late : Int
  tell : Int
  piece : Bool
  least : Int
  room : Int
structure ItmT where
  kind : Int
  t : Int
  key : Int
  v : Int
  n : Int
structure WinT where
  s : Int
  e : Int
structure AggT where
  n : Int
  sum : Int
  least : Int
  most : Int
structure RowT where
  key : Int
  win : WinT
  all : AggT
  fresh : AggT
  told : Int
  timely : Bool
structure OpStT where
  mark : Int
  rows : Sl RowT
structure PaneT where
  key : Int
  win : WinT
  no : Int
  kind : Int
  agg : AggT
structure LatT where
  itm : ItmT
  win : WinT
structure TabT where
  key : Int
  win : WinT
  agg : AggT
structure TskInT where
  queue : Sl ItmT
  mark : Int
  held : Bool
structure TxnT where
  n : Int
  panes : Sl PaneT
  lates : Sl LatT
structure TskT where
  ins : Sl TskInT
  op : OpStT
  wall : Int
  pend : TxnT
structure SnapT where
  op : OpStT
  marks : Sl Int
structure SafeT where
  n : Int
  at_ : Sl Int
  snaps : Sl SnapT
structure CkpT where
  n : Int
  opn : Bool
  src : Sl Int
  tsk : Sl Bool
  snaps : Sl SnapT
  safe : SafeT
structure SrcT where
  at_ : Int
  wall : Int
structure SinkT where
  ready : Sl TxnT
  n : Int
  panes : Sl PaneT
  lates : Sl LatT
structure FloT where
  job : JobT
  logs : Sl (Sl ItmT)
  srcs : Sl SrcT
  tasks : Sl TskT
  sinks : Sl SinkT
  ckp : CkpT
def eJob (x : JobT) : List DV := [eI x.srcs, eI x.tsks, eI x.kind, eI x.size, eI x.step, eI x.late, eI x.tell, eB x.piece, eI x.least, eI x.room]
def eItm (x : ItmT) : List DV := [eI x.kind, eI x.t, eI x.key, eI x.v, eI x.n]
def eWin (x : WinT) : List DV := [eI x.s, eI x.e]
def eAgg (x : AggT) : List DV := [eI x.n, eI x.sum, eI x.least, eI x.most]
def eRow (x : RowT) : List DV := [eI x.key, eI x.win.s, eI x.win.e, eI x.all.n, eI x.all.sum, eI x.all.least, eI x.all.most, eI x.fresh.n, eI x.fresh.sum, eI x.fresh.least, eI x.fresh.most, eI x.told, eB x.timely]
def eOpSt (x : OpStT) : List DV := [eI x.mark, (.sl 13 x.rows.n fun i => eRow (x.rows.g i))]
def bdOpSt (x : OpStT) : Prop := x.rows.n ≤ 1048576
def ePane (x : PaneT) : List DV := [eI x.key, eI x.win.s, eI x.win.e, eI x.no, eI x.kind, eI x.agg.n, eI x.agg.sum, eI x.agg.least, eI x.agg.most]
def eLat (x : LatT) : List DV := [eI x.itm.kind, eI x.itm.t, eI x.itm.key, eI x.itm.v, eI x.itm.n, eI x.win.s, eI x.win.e]
def eTskIn (x : TskInT) : List DV := [(.sl 5 x.queue.n fun i => eItm (x.queue.g i)), eI x.mark, eB x.held]
def bdTskIn (x : TskInT) : Prop := x.queue.n ≤ 1048576
def eTxn (x : TxnT) : List DV := [eI x.n, (.sl 9 x.panes.n fun i => ePane (x.panes.g i)), (.sl 7 x.lates.n fun i => eLat (x.lates.g i))]
def bdTxn (x : TxnT) : Prop := x.panes.n ≤ 1048576 ∧ x.lates.n ≤ 1048576
def eTsk (x : TskT) : List DV := [(.sl 3 x.ins.n fun i => eTskIn (x.ins.g i)), eI x.op.mark, (.sl 13 x.op.rows.n fun i => eRow (x.op.rows.g i)), eI x.wall, eI x.pend.n, (.sl 9 x.pend.panes.n fun i => ePane (x.pend.panes.g i)), (.sl 7 x.pend.lates.n fun i => eLat (x.pend.lates.g i))]
def bdTsk (x : TskT) : Prop := x.ins.n ≤ 1048576 ∧ (∀ i, i < x.ins.n → bdTskIn (x.ins.g i)) ∧ bdOpSt x.op ∧ bdTxn x.pend
end Go.Rk
/- What the program's small functions say, in words of numbers; sizes. -/
namespace Go.Rk
set_option linter.unusedSimpArgs false
set_option linter.unusedVariables false
theorem made_n {A : Ar} (hA : real = A) {n b : Nat} (hn : n ≤ 1048576) (hb : b ≤ 100000) : A.made (A.int n) (A.int n) b := by
  subst hA
  have h1 : n * b ≤ 1048576 * 100000 := Nat.mul_le_mul hn hb
  have h2 : (n : Int) * (b : Int) ≤ 140737488355328 := by
    rw [← Int.natCast_mul]
    omega
  have h3 : (n : Int) ≤ 140737488355328 := by omega
  exact ⟨Int.natCast_nonneg n, rfl, h2, h3⟩
theorem cut_of {A : Ar} (hA : real = A) {a b : Int} {n : Nat} (h : 0 ≤ a ∧ a ≤ b ∧ b ≤ n) : A.cut a b n := by subst hA; exact h
/-- The first rows of a slice. -/
theorem sl0 {A : Ar} (hA : real = A) (sz i : Nat) (f : Nat → List DV) : DV.sl sz (A.dif (Int.ofNat i) 0) (A.sub (A.nat 0) f) = .sl sz i f := by
  subst hA
  have e : (fun j => f (0 + j)) = f := by funext j; rw [Nat.zero_add]
  show DV.sl sz ((Int.ofNat i - 0).toNat) (fun j => f ((0 : Int).toNat + j)) = _
  simp only [Int.sub_zero]
  exact congrArg (DV.sl sz i) e
theorem bifA (b x : Bool) : (bif b then x else false) = (b && x) := by cases b <;> rfl
theorem bifB (b x : Bool) : (bif b then true else x) = (b || x) := by cases b <;> rfl
theorem bifC (b x : Bool) : (bif b then false else x) = (!b && x) := by cases b <;> rfl
theorem bifD (b x : Bool) : (bif b then x else true) = (!b || x) := by cases b <;> rfl
/-- The first place, or -1. -/
inductive FirstIx (n : Nat) (p : Nat → Prop) : Int → Prop
  | at (i : Nat) (h : i < n) (hi : p i) (hb : ∀ j, j < i → ¬ p j) : FirstIx n p i
  | none (hb : ∀ j, j < n → ¬ p j) : FirstIx n p (-1)
theorem firstIx_ex (n : Nat) (p : Nat → Prop) : ∃ x, FirstIx n p x := by
  by_cases h : ∃ i, i < n ∧ p i
  · obtain ⟨i, hi⟩ := h
    induction i using Nat.strongRecOn with
    | _ i ih =>
      by_cases hm : ∃ j, j < i ∧ p j
      · obtain ⟨j, hj1, hj2⟩ := hm
        exact ih j hj1 ⟨by omega, hj2⟩
      · exact ⟨_, .at i hi.1 hi.2 fun j hj e => hm ⟨j, hj, e⟩⟩
  · exact ⟨-1, .none fun j hj e => h ⟨j, hj, e⟩⟩
theorem firstIx_one {n : Nat} {p : Nat → Prop} {x y : Int} (h : FirstIx n p x) (h' : FirstIx n p y) : x = y := by
  cases h with
  | «at» i hi hh hb =>
    cases h' with
    | «at» j hj hh' hb' =>
      have : i = j := by
        rcases Nat.lt_trichotomy i j with h | h | h
        · exact absurd hh (hb' i h)
        · exact h
        · exact absurd hh' (hb j h)
      rw [this]
    | none hb' => exact absurd hh (hb' i hi)
  | none hb =>
    cases h' with
    | «at» j hj hh' hb' => exact absurd hh' (hb j hj)
    | none hb' => rfl
theorem firstIx_neg {n : Nat} {p : Nat → Prop} {x : Int} (h : FirstIx n p x) : (0 ≤ x ↔ ∃ i, i < n ∧ p i) ∧ (0 ≤ x → ∃ i, i < n ∧ x = (i : Int) ∧ p i ∧ ∀ j, j < i → ¬ p j) ∧ (¬ 0 ≤ x → x = -1) := by
  cases h with
  | «at» i hi hh hb => exact ⟨⟨fun _ => ⟨i, hi, hh⟩, fun _ => by omega⟩, fun _ => ⟨i, hi, rfl, hh, hb⟩, fun h => absurd (by omega) h⟩
  | none hb => exact ⟨⟨fun h => by omega, fun ⟨i, hi, hp⟩ => absurd hp (hb i hi)⟩, fun h => by omega, fun _ => rfl⟩
def WinOkP (w : WinT) : Prop := (0 ≤ w.s ∧ w.s ≤ 60) ∧ IntKind.i64.wrap (w.s + 1) ≤ w.e ∧ w.e ≤ 120
def AggOkP (a : AggT) : Prop := (a.n = 0 ∧ a.sum = 0 ∧ a.least = 0 ∧ a.most = 0) ∨
  (a.n ≠ 0 ∧ (1 ≤ a.n ∧ a.n ≤ 1000) ∧ (-9 ≤ a.least ∧ a.least ≤ 9) ∧ (a.least ≤ a.most ∧ a.most ≤ 9) ∧ (IntKind.i64.wrap (a.n * a.least) ≤ a.sum ∧ a.sum ≤ IntKind.i64.wrap (a.n * a.most)))
def ItmOkP (x : ItmT) : Prop :=
  (x.kind = 1 ∧ (0 ≤ x.t ∧ x.t ≤ 60) ∧ (0 ≤ x.key ∧ x.key ≤ 3) ∧ (-9 ≤ x.v ∧ x.v ≤ 9) ∧ x.n = 0) ∨
  (x.kind = 2 ∧ ((1 ≤ x.t ∧ x.t ≤ 60) ∨ x.t = 1000) ∧ x.key = 0 ∧ x.v = 0 ∧ x.n = 0) ∨
  (x.kind = 3 ∧ x.t = 0 ∧ x.key = 0 ∧ x.v = 0 ∧ (1 ≤ x.n ∧ x.n ≤ 900))
def JobOkP (j : JobT) : Prop := (1 ≤ j.srcs ∧ j.srcs ≤ 3) ∧ (1 ≤ j.tsks ∧ j.tsks ≤ 2) ∧ (1 ≤ j.kind ∧ j.kind ≤ 3) ∧ (1 ≤ j.size ∧ j.size ≤ 20) ∧
  ((j.kind = 2 ∧ (1 ≤ j.step ∧ j.step ≤ j.size) ∧ j.size ≤ 4 * j.step) ∨ (j.kind ≠ 2 ∧ j.step = 0)) ∧
  (0 ≤ j.late ∧ j.late ≤ 20) ∧ (1 ≤ j.tell ∧ j.tell ≤ 4) ∧ (-9 ≤ j.least ∧ j.least ≤ 9) ∧ (1 ≤ j.room ∧ j.room ≤ 4)
def TouchP (a b : WinT) : Prop := a.s < b.e ∧ b.s < a.e
def WinLt (a b : WinT) : Prop := a.s < b.s ∨ (a.s = b.s ∧ a.e < b.e)
def AheadP (ak : Int) (aw : WinT) (bk : Int) (bw : WinT) : Prop := ak < bk ∨ (ak = bk ∧ WinLt aw bw)
def RowOkP (j : JobT) (r : RowT) (mark : Int) : Prop := (0 ≤ r.key ∧ r.key ≤ 3) ∧ WinOkP r.win ∧ AggOkP r.all ∧ AggOkP r.fresh ∧ r.all.n ≠ 0 ∧ r.fresh.n ≤ r.all.n ∧ (0 ≤ r.told ∧ r.told ≤ 1500) ∧
  mark < IntKind.i64.wrap (r.win.e + j.late) ∧ (r.timely = true ↔ r.win.e ≤ mark) ∧ (0 < r.told ↔ r.win.e ≤ mark) ∧ (r.fresh.n = 0 ↔ r.win.e ≤ mark)
def PaneOkP (p : PaneT) : Prop := (0 ≤ p.key ∧ p.key ≤ 3) ∧ WinOkP p.win ∧ (0 ≤ p.no ∧ p.no ≤ 1500) ∧ AggOkP p.agg ∧
  ((p.kind = 1 ∧ p.no = 0 ∧ 0 < p.agg.n) ∨ (p.kind = 2 ∧ 0 < p.no ∧ 0 < p.agg.n) ∨ (p.kind = 3 ∧ 0 < p.no ∧ p.agg.n = 0))
def LatOkP (l : LatT) : Prop := (l.itm.kind = 1 ∧ ItmOkP l.itm) ∧ WinOkP l.win ∧ (l.win.s ≤ l.itm.t ∧ l.itm.t ≤ IntKind.i64.wrap (l.win.e - 1))
def OpOkP (j : JobT) (s : OpStT) : Prop := JobOkP j ∧ (0 ≤ s.mark ∧ s.mark ≤ 1000) ∧ s.rows.n ≤ 300 ∧
  ∀ i, i < s.rows.n → RowOkP j (s.rows.g i) s.mark ∧ (0 < i → AheadP (s.rows.g (i - 1)).key (s.rows.g (i - 1)).win (s.rows.g i).key (s.rows.g i).win) ∧
    (j.kind = 3 → ∀ k, k < i → ¬ ((s.rows.g k).key = (s.rows.g i).key ∧ TouchP (s.rows.g k).win (s.rows.g i).win))
end Go.Rk
/- Sizes: what is left when the rows of something are taken off. -/
namespace Go.Rk
set_option linter.unusedSimpArgs false
set_option linter.unusedVariables false
theorem up64 {i n : Nat} (h : i < n) (hn : n ≤ maxLen) : IntKind.i64.wrap ((i : Int) + 1) = ((i + 1 : Nat) : Int) := by
  have hm : maxLen = 9223372036854775807 := by decide
  rw [hm] at hn
  rw [IntWalk.i64_in _ (by omega)]
  simp
def szN (n : Nat) (l : Int) : Int := if l - (n : Int) < 0 then -1 else l - n
def szLoop (f : Nat → Int → Int) (l : Int) : Nat → Int
  | 0 => l
  | i + 1 => if szLoop f l i < 0 then -1 else f i (szLoop f l i)
theorem szN_spec {n : Nat} {l : Int} (h0 : 0 ≤ l) (h1 : l ≤ 1048576) : -1 ≤ szN n l ∧ szN n l ≤ 1048576 ∧ (0 ≤ szN n l → n ≤ 1048576) := by
  unfold szN; split <;> omega
theorem szLoop_spec {f : Nat → Int → Int} {B : Nat → Prop} {n : Nat} (hf : ∀ i, i < n → ∀ l, 0 ≤ l → l ≤ 1048576 → -1 ≤ f i l ∧ f i l ≤ 1048576 ∧ (0 ≤ f i l → B i)) {l : Int} (h0 : 0 ≤ l) (h1 : l ≤ 1048576) :
    ∀ k, k ≤ n → -1 ≤ szLoop f l k ∧ szLoop f l k ≤ 1048576 ∧ (0 ≤ szLoop f l k → ∀ i, i < k → B i)
  | 0, _ => ⟨by unfold szLoop; omega, h1, fun _ i h => absurd h (Nat.not_lt_zero i)⟩
  | k + 1, hk => by
    have ih := szLoop_spec hf h0 h1 k (by omega)
    unfold szLoop
    split
    · exact ⟨by omega, by omega, fun h => by omega⟩
    · rename_i hge
      have := hf k (by omega) _ (by omega) ih.2.1
      refine ⟨this.1, this.2.1, fun h i hi => ?_⟩
      rcases Nat.lt_succ_iff_lt_or_eq.1 hi with hi | rfl
      · exact ih.2.2 (by omega) i hi
      · exact this.2.2 h
theorem szLoop_neg {f : Nat → Int → Int} {l : Int} {n : Nat} (hf : ∀ k, k ≤ n → -1 ≤ szLoop f l k) {k : Nat} (h : szLoop f l k < 0) : ∀ m, k + m ≤ n → szLoop f l (k + m) = -1
  | 0, hm => by have := hf k hm; simp only [Nat.add_zero]; omega
  | m + 1, hm => by
    have ih := szLoop_neg hf h m (by omega)
    show szLoop f l (k + m + 1) = -1
    unfold szLoop
    rw [ih]; rfl
def szS (f : Nat → Int → Int) (n : Nat) (l : Int) : Int := if szN n l < 0 then -1 else szLoop f (szN n l) n
theorem szS_spec {f : Nat → Int → Int} {B : Nat → Prop} {n : Nat} (hf : ∀ i, i < n → ∀ l, 0 ≤ l → l ≤ 1048576 → -1 ≤ f i l ∧ f i l ≤ 1048576 ∧ (0 ≤ f i l → B i)) {l : Int} (h0 : 0 ≤ l) (h1 : l ≤ 1048576) :
    -1 ≤ szS f n l ∧ szS f n l ≤ 1048576 ∧ (0 ≤ szS f n l → n ≤ 1048576 ∧ ∀ i, i < n → B i) := by
  unfold szS
  have s := szN_spec (n := n) h0 h1
  split
  · omega
  · have t := szLoop_spec hf (l := szN n l) (by omega) s.2.1 n (Nat.le_refl n)
    exact ⟨t.1, t.2.1, fun h => ⟨s.2.2 (by omega), t.2.2 h⟩⟩
def szOpSt (x : OpStT) (l0 : Int) : Int := szN x.rows.n l0
theorem szOpSt_spec (x : OpStT) {l0 : Int} (h0 : 0 ≤ l0) (h1 : l0 ≤ 1048576) : -1 ≤ szOpSt x l0 ∧ szOpSt x l0 ≤ 1048576 ∧ (0 ≤ szOpSt x l0 → bdOpSt x) := by
  unfold szOpSt bdOpSt
  have s1 := szN_spec (n := x.rows.n) h0 h1
  refine ⟨s1.1, s1.2.1, fun h => ?_⟩
  have t1 := s1.2.2 h
  simp_all
def szTskIn (x : TskInT) (l0 : Int) : Int := szN x.queue.n l0
theorem szTskIn_spec (x : TskInT) {l0 : Int} (h0 : 0 ≤ l0) (h1 : l0 ≤ 1048576) : -1 ≤ szTskIn x l0 ∧ szTskIn x l0 ≤ 1048576 ∧ (0 ≤ szTskIn x l0 → bdTskIn x) := by
  unfold szTskIn bdTskIn
  have s1 := szN_spec (n := x.queue.n) h0 h1
  refine ⟨s1.1, s1.2.1, fun h => ?_⟩
  have t1 := s1.2.2 h
  simp_all
def szTxn (x : TxnT) (l0 : Int) : Int := let l1 := szN x.panes.n l0; if l1 < 0 then -1 else szN x.lates.n l1
theorem szTxn_spec (x : TxnT) {l0 : Int} (h0 : 0 ≤ l0) (h1 : l0 ≤ 1048576) : -1 ≤ szTxn x l0 ∧ szTxn x l0 ≤ 1048576 ∧ (0 ≤ szTxn x l0 → bdTxn x) := by
  unfold szTxn bdTxn
  have s1 := szN_spec (n := x.panes.n) h0 h1
  generalize szN x.panes.n l0 = l1 at s1 ⊢
  try dsimp only
  by_cases c1 : l1 < 0
  · rw [if_pos c1]; exact ⟨by omega, by omega, fun h => absurd h (by omega)⟩
  rw [if_neg c1]
  have s2 := szN_spec (n := x.lates.n) (by omega : 0 ≤ l1) s1.2.1
  refine ⟨s2.1, s2.2.1, fun h => ?_⟩
  have t1 := s1.2.2 (by omega)
  have t2 := s2.2.2 h
  simp_all
def szTsk (x : TskT) (l0 : Int) : Int := let l1 := szS (fun i l => szTskIn (x.ins.g i) l) x.ins.n l0; if l1 < 0 then -1 else let l2 := szOpSt x.op l1; if l2 < 0 then -1 else szTxn x.pend l2
theorem szTsk_spec (x : TskT) {l0 : Int} (h0 : 0 ≤ l0) (h1 : l0 ≤ 1048576) : -1 ≤ szTsk x l0 ∧ szTsk x l0 ≤ 1048576 ∧ (0 ≤ szTsk x l0 → bdTsk x) := by
  unfold szTsk bdTsk
  have s1 := (szS_spec (n := x.ins.n) (B := fun i => bdTskIn (x.ins.g i)) (fun i _ l h0 h1 => by simpa using szTskIn_spec (x.ins.g i) h0 h1) h0 h1)
  generalize szS (fun i l => szTskIn (x.ins.g i) l) x.ins.n l0 = l1 at s1 ⊢
  try dsimp only
  by_cases c1 : l1 < 0
  · rw [if_pos c1]; exact ⟨by omega, by omega, fun h => absurd h (by omega)⟩
  rw [if_neg c1]
  have s2 := szOpSt_spec x.op (by omega : 0 ≤ l1) s1.2.1
  generalize szOpSt x.op l1 = l2 at s2 ⊢
  try dsimp only
  by_cases c2 : l2 < 0
  · rw [if_pos c2]; exact ⟨by omega, by omega, fun h => absurd h (by omega)⟩
  rw [if_neg c2]
  have s3 := szTxn_spec x.pend (by omega : 0 ≤ l2) s2.2.1
  refine ⟨s3.1, s3.2.1, fun h => ?_⟩
  have t1 := s1.2.2 (by omega)
  have t2 := s2.2.2 (by omega)
  have t3 := s3.2.2 h
  simp_all
end Go.Rk
/- Mirrors, comparisons and sizes: what these functions of the laws do. -/
namespace Go.Rk
set_option linter.unusedSimpArgs false
set_option linter.unusedVariables false
open Go.Proofs
def EXA : FuncId → List Nat × Bool := fun _ => ([], false)
theorem mixed : Tryz.prog.follows .mixedOrders = true := by kernel_rfl
set_option maxRecDepth 100000 in
theorem to_Job (x : JobT) : Meets Tryz.prog 9 [xd (eJob x)] ⟨.one (xd (eJob x)), [none]⟩ := by
  refine meets_of (H := []) (EX := EXA) ttok mixed Tryz.func9 rfl (by kernel_rfl) (by decide) ?_
  generalize hA : real = A
  generalize hM : MeetsB Tryz.prog = M
  cbv
  repeat' first
    | apply And.intro
    | exact True.intro
    | with_reducible rfl
    | exact same_of hA rfl
    | refine br_of hA (fun _ => ?_) (fun _ => ?_)
    | (refine ind_of hA ?_; decide +kernel)
set_option maxRecDepth 100000 in
theorem to_Itm (x : ItmT) : Meets Tryz.prog 11 [xd (eItm x)] ⟨.one (xd (eItm x)), [none]⟩ := by
  refine meets_of (H := []) (EX := EXA) ttok mixed Tryz.func11 rfl (by kernel_rfl) (by decide) ?_
  generalize hA : real = A
  generalize hM : MeetsB Tryz.prog = M
  cbv
  repeat' first
    | apply And.intro
    | exact True.intro
    | with_reducible rfl
    | exact same_of hA rfl
    | refine br_of hA (fun _ => ?_) (fun _ => ?_)
    | (refine ind_of hA ?_; decide +kernel)
set_option maxRecDepth 100000 in
theorem eq_Itm (x : ItmT) : Meets Tryz.prog 195 [xd (eItm x), xd (eItm x)] ⟨.one (.c (.d (eB true))), [none, none]⟩ := by
  refine meets_of (H := []) (EX := EXA) ttok mixed Tryz.func195 rfl (by kernel_rfl) (by decide) ?_
  generalize hA : real = A
  generalize hM : MeetsB Tryz.prog = M
  cbv
  repeat' first
    | apply And.intro
    | exact True.intro
    | with_reducible rfl
    | exact same_of hA rfl
    | refine br_of hA (fun _ => ?_) (fun _ => ?_)
    | (refine ind_of hA ?_; decide +kernel)
    | (exfalso; rename_i h; subst hA; simp [real] at h; done)
def st_toItmS (n : Nat) (rd : Nat → ItmT) (i : Nat) (rm : Nat → ItmT) : St :=
  ⟨[(4, .c (.d (eI i))), (0, .c (.d (.sl 5 n fun i => eItm (rd i)))), (3, .c (.own 448 0 n 1))], [(448, 1, .arr 5 n fun i => eItm (rm i))]⟩
set_option maxRecDepth 100000 in
theorem to_ItmS (n : Nat) (hn : n ≤ 1048576) (rd : Nat → ItmT) : Meets Tryz.prog 143 [.c (.d (.sl 5 n fun i => eItm (rd i)))] ⟨.one (.c (.own 5 n fun i => eItm (rd i))), [none]⟩ := by
  have hn2 : n ≤ maxLen := Nat.le_trans hn (by decide)
  refine meets_of (H := [6]) (EX := EXA) ttok mixed Tryz.func143 rfl (by kernel_rfl) (by decide) ?_
  generalize hA : real = A
  generalize hM : MeetsB Tryz.prog = M
  cbv
  repeat' first
    | apply And.intro
    | exact True.intro
    | with_reducible rfl
    | exact same_of hA rfl
    | refine br_of hA (fun _ => ?_) (fun _ => ?_)
    | (refine ind_of hA ?_; decide +kernel)
    | exact made_n hA hn (by decide)
  refine loop_of hA (α := { p : Nat × (Nat → ItmT) // p.1 ≤ n ∧ ∀ j, j < p.1 → p.2 j = rd j }) (fun x => st_toItmS n rd x.1.1 x.1.2) (fun x => n - x.1.1) ⟨(0, fun _ => ⟨0, 0, 0, 0, 0⟩), Nat.zero_le _, fun j h => absurd h (Nat.not_lt_zero _)⟩ ?_ ?_
  · refine cov_of ?_ ?_ ?_
    · cbv
      subst hA
      exact ⟨rfl, ⟨rfl, trivial⟩, trivial⟩
    · cbv
      subst hA
      exact ⟨⟨rfl, fun _ _ => rfl⟩, trivial⟩
    · cbv
  rintro ⟨⟨i, rm⟩, hi, hrm⟩
  cbv
  repeat' first
    | apply And.intro
    | exact True.intro
    | with_reducible rfl
    | exact same_of hA rfl
    | refine br_of hA (fun _ => ?_) (fun _ => ?_)
    | (refine ind_of hA ?_; decide +kernel)
    | (refine call_of hA hM _ (to_Itm (rd (A.nat (Int.ofNat i)))) ?_; cbv)
    | (refine inb_of hA fun _ => ?_; subst hA; simp only [real, decide_eq_true_eq, Int.ofNat_eq_natCast] at *; omega)
  · rename_i hlt
    have hlt' : i < n := by subst hA; simp only [real, decide_eq_true_eq, Int.ofNat_eq_natCast] at hlt; omega
    refine ⟨⟨(i + 1, fun j => if j = i then rd i else rm j), by simp only; omega, fun j hj => ?_⟩, by simp only; omega, cov_of ?_ ?_ ?_⟩
    · simp only at hj ⊢
      by_cases e : j = i
      · simp [e]
      · rw [if_neg e]; exact hrm j (by simp only; omega)
    · cbv
      subst hA
      exact ⟨congrArg (fun x => DV.v (.int .i64 x)) (up64 hlt' hn2), trivial⟩
    · cbv
      refine ⟨fun q _ => ?_, trivial⟩
      subst hA
      by_cases e : q = i
      · subst e; show (if q = 0 + q then eItm (rd q) else eItm (rm q)) = _; simp only [Nat.zero_add, if_pos, if_true] <;> rfl
      · show (if q = 0 + i then eItm (rd i) else eItm (rm q)) = _; simp only [Nat.zero_add, e, if_false] <;> rfl
    · cbv
  · rename_i hge
    have hin : i = n := by
      subst hA
      have : ¬ ((i : Int) < (n : Int)) := of_decide_eq_false hge
      simp only at hi
      omega
    subst hin
    refine stop_of hA ⟨[(3, .c (.own 448 0 i 1))], [(448, 1, .arr 5 i fun j => eItm (rd j))]⟩ (cov_of ?_ ?_ ?_) ?_
    · cbv
    · cbv
      exact ⟨fun q hq => congrArg (fun x => eItm x) (hrm q hq), trivial⟩
    · cbv
    · cbv
      repeat' first | apply And.intro | refine br_of hA (fun _ => ?_) (fun _ => ?_)
      all_goals first | exact True.intro | with_reducible rfl | exact same_of hA rfl | skip
def st_eqItmS (n : Nat) (rd : Nat → ItmT) (i : Nat) : St := ⟨[(5, .c (.d (eI i))), (0, .c (.d (.sl 5 n fun i => eItm (rd i)))), (1, .c (.d (.sl 5 n fun i => eItm (rd i))))], []⟩
set_option maxRecDepth 100000 in
theorem eq_ItmS (n : Nat) (hn : n ≤ maxLen) (rd : Nat → ItmT) : Meets Tryz.prog 162 [.c (.d (.sl 5 n fun i => eItm (rd i))), .c (.d (.sl 5 n fun i => eItm (rd i)))] ⟨.one (.c (.d (eB true))), [none, none]⟩ := by
  refine meets_of (H := []) (EX := EXA) ttok mixed Tryz.func162 rfl (by kernel_rfl) (by decide) ?_
  generalize hA : real = A
  generalize hM : MeetsB Tryz.prog = M
  cbv
  repeat' first
    | apply And.intro
    | exact True.intro
    | with_reducible rfl
    | exact same_of hA rfl
    | refine br_of hA (fun _ => ?_) (fun _ => ?_)
    | (refine ind_of hA ?_; decide +kernel)
    | (exfalso; rename_i h; subst hA; simp [real] at h; done)
  refine loop_of hA (α := { i : Nat // i ≤ n }) (fun x => st_eqItmS n rd x.1) (fun x => n - x.1) ⟨0, Nat.zero_le _⟩ ?_ ?_
  · refine cov_of ?_ ?_ ?_
    · cbv; exact ⟨rfl, trivial⟩
    · cbv
    · cbv
  rintro ⟨i, hi⟩
  cbv
  repeat' first
    | apply And.intro
    | exact True.intro
    | with_reducible rfl
    | exact same_of hA rfl
    | refine br_of hA (fun _ => ?_) (fun _ => ?_)
    | (refine ind_of hA ?_; decide +kernel)
    | (refine call_of hA hM _ (eq_Itm (rd (A.nat (Int.ofNat i)))) ?_; cbv)
    | (exfalso; rename_i h; subst hA; simp [real] at h; done)
    | (refine inb_of hA fun _ => ?_; subst hA; simp only [real, decide_eq_true_eq, Int.ofNat_eq_natCast] at *; omega)
  have hlt' : i < n := by
    subst hA
    simp only [real, decide_eq_true_eq, Int.ofNat_eq_natCast] at *
    omega
  refine ⟨⟨i + 1, by omega⟩, by simp only; omega, cov_of ?_ ?_ ?_⟩
  · cbv
    subst hA
    exact ⟨congrArg (fun x => DV.v (.int .i64 x)) (up64 hlt' hn), trivial⟩
  · cbv
  · cbv
set_option maxRecDepth 100000 in
theorem sz_ItmS (n : Nat) (hn : n ≤ maxLen) (rd : Nat → ItmT) (l : Int) (h0 : 0 ≤ l) (h1 : l ≤ 1048576) (y : Int) (hy : y = szN n l) : Meets Tryz.prog 137 [.c (.d (.sl 5 n fun i => eItm (rd i))), .c (.d (eI l))] ⟨.one (.c (.d (eI y))), [none, none]⟩ := by
  have hm : maxLen = 9223372036854775807 := by decide
  have hw : IntKind.i64.wrap (l - (n : Int)) = l - n := IntWalk.i64_in _ (by omega)
  refine meets_of (H := []) (EX := EXA) ttok mixed Tryz.func137 rfl (by kernel_rfl) (by decide) ?_
  generalize hA : real = A
  generalize hM : MeetsB Tryz.prog = M
  cbv
  repeat' first
    | apply And.intro
    | exact True.intro
    | with_reducible rfl
    | exact same_of hA rfl
    | refine br_of hA (fun _ => ?_) (fun _ => ?_)
    | (refine ind_of hA ?_; decide +kernel)
  all_goals rename_i hlt
  all_goals subst hA
  · refine congrArg (fun x => XA.one (.c (.d (eI x)))) ?_
    have hlt : IntKind.i64.wrap (l - (n : Int)) < 0 := of_decide_eq_true hlt
    rw [hw] at hlt
    rw [hy]; unfold szN; rw [if_pos hlt]
  · refine congrArg (fun x => XA.one (.c (.d (eI x)))) ?_
    have hlt : ¬ IntKind.i64.wrap (l - (n : Int)) < 0 := of_decide_eq_false hlt
    rw [hw] at hlt
    rw [hy]; unfold szN; rw [if_neg hlt]
    exact hw
set_option maxRecDepth 100000 in
theorem to_Win (x : WinT) : Meets Tryz.prog 179 [xd (eWin x)] ⟨.one (xd (eWin x)), [none]⟩ := by
  refine meets_of (H := []) (EX := EXA) ttok mixed Tryz.func179 rfl (by kernel_rfl) (by decide) ?_
  generalize hA : real = A
  generalize hM : MeetsB Tryz.prog = M
  cbv
  repeat' first
    | apply And.intro
    | exact True.intro
    | with_reducible rfl
    | exact same_of hA rfl
    | refine br_of hA (fun _ => ?_) (fun _ => ?_)
    | (refine ind_of hA ?_; decide +kernel)
set_option maxRecDepth 100000 in
theorem eq_Win (x : WinT) : Meets Tryz.prog 196 [xd (eWin x), xd (eWin x)] ⟨.one (.c (.d (eB true))), [none, none]⟩ := by
  refine meets_of (H := []) (EX := EXA) ttok mixed Tryz.func196 rfl (by kernel_rfl) (by decide) ?_
  generalize hA : real = A
  generalize hM : MeetsB Tryz.prog = M
  cbv
  repeat' first
    | apply And.intro
    | exact True.intro
    | with_reducible rfl
    | exact same_of hA rfl
    | refine br_of hA (fun _ => ?_) (fun _ => ?_)
    | (refine ind_of hA ?_; decide +kernel)
    | (exfalso; rename_i h; subst hA; simp [real] at h; done)
set_option maxRecDepth 100000 in
theorem to_Agg (x : AggT) : Meets Tryz.prog 180 [xd (eAgg x)] ⟨.one (xd (eAgg x)), [none]⟩ := by
  refine meets_of (H := []) (EX := EXA) ttok mixed Tryz.func180 rfl (by kernel_rfl) (by decide) ?_
  generalize hA : real = A
  generalize hM : MeetsB Tryz.prog = M
  cbv
  repeat' first
    | apply And.intro
    | exact True.intro
    | with_reducible rfl
    | exact same_of hA rfl
    | refine br_of hA (fun _ => ?_) (fun _ => ?_)
    | (refine ind_of hA ?_; decide +kernel)
set_option maxRecDepth 100000 in
theorem eq_Agg (x : AggT) : Meets Tryz.prog 197 [xd (eAgg x), xd (eAgg x)] ⟨.one (.c (.d (eB true))), [none, none]⟩ := by
  refine meets_of (H := []) (EX := EXA) ttok mixed Tryz.func197 rfl (by kernel_rfl) (by decide) ?_
  generalize hA : real = A
  generalize hM : MeetsB Tryz.prog = M
  cbv
  repeat' first
    | apply And.intro
    | exact True.intro
    | with_reducible rfl
    | exact same_of hA rfl
    | refine br_of hA (fun _ => ?_) (fun _ => ?_)
    | (refine ind_of hA ?_; decide +kernel)
    | (exfalso; rename_i h; subst hA; simp [real] at h; done)
set_option maxRecDepth 100000 in
theorem to_Row (x : RowT) : Meets Tryz.prog 144 [xd (eRow x)] ⟨.one (xd (eRow x)), [none]⟩ := by
  refine meets_of (H := []) (EX := EXA) ttok mixed Tryz.func144 rfl (by kernel_rfl) (by decide) ?_
  generalize hA : real = A
  generalize hM : MeetsB Tryz.prog = M
  cbv
  repeat' first
    | apply And.intro
    | exact True.intro
    | with_reducible rfl
    | exact same_of hA rfl
    | refine br_of hA (fun _ => ?_) (fun _ => ?_)
    | (refine ind_of hA ?_; decide +kernel)
    | (refine call_of hA hM _ (to_Win x.win) ?_; cbv)
    | (refine call_of hA hM _ (to_Agg x.all) ?_; cbv)
    | (refine call_of hA hM _ (to_Agg x.fresh) ?_; cbv)
set_option maxRecDepth 100000 in
theorem eq_Row (x : RowT) : Meets Tryz.prog 163 [xd (eRow x), xd (eRow x)] ⟨.one (.c (.d (eB true))), [none, none]⟩ := by
  refine meets_of (H := []) (EX := EXA) ttok mixed Tryz.func163 rfl (by kernel_rfl) (by decide) ?_
  generalize hA : real = A
  generalize hM : MeetsB Tryz.prog = M
  cbv
  repeat' first
    | apply And.intro
    | exact True.intro
    | with_reducible rfl
    | exact same_of hA rfl
    | refine br_of hA (fun _ => ?_) (fun _ => ?_)
    | (refine ind_of hA ?_; decide +kernel)
    | (refine call_of hA hM _ (eq_Win x.win) ?_; cbv)
    | (refine call_of hA hM _ (eq_Agg x.all) ?_; cbv)
    | (refine call_of hA hM _ (eq_Agg x.fresh) ?_; cbv)
    | (exfalso; rename_i h; subst hA; simp [real] at h; done)
def st_toRowS (n : Nat) (rd : Nat → RowT) (i : Nat) (rm : Nat → RowT) : St :=
  ⟨[(4, .c (.d (eI i))), (0, .c (.d (.sl 13 n fun i => eRow (rd i)))), (3, .c (.own 448 0 n 1))], [(448, 1, .arr 13 n fun i => eRow (rm i))]⟩
set_option maxRecDepth 100000 in
theorem to_RowS (n : Nat) (hn : n ≤ 1048576) (rd : Nat → RowT) : Meets Tryz.prog 94 [.c (.d (.sl 13 n fun i => eRow (rd i)))] ⟨.one (.c (.own 13 n fun i => eRow (rd i))), [none]⟩ := by
  have hn2 : n ≤ maxLen := Nat.le_trans hn (by decide)
  refine meets_of (H := [6]) (EX := EXA) ttok mixed Tryz.func94 rfl (by kernel_rfl) (by decide) ?_
  generalize hA : real = A
  generalize hM : MeetsB Tryz.prog = M
  cbv
  repeat' first
    | apply And.intro
    | exact True.intro
    | with_reducible rfl
    | exact same_of hA rfl
    | refine br_of hA (fun _ => ?_) (fun _ => ?_)
    | (refine ind_of hA ?_; decide +kernel)
    | exact made_n hA hn (by decide)
  refine loop_of hA (α := { p : Nat × (Nat → RowT) // p.1 ≤ n ∧ ∀ j, j < p.1 → p.2 j = rd j }) (fun x => st_toRowS n rd x.1.1 x.1.2) (fun x => n - x.1.1) ⟨(0, fun _ => ⟨0, ⟨0, 0⟩, ⟨0, 0, 0, 0⟩, ⟨0, 0, 0, 0⟩, 0, false⟩), Nat.zero_le _, fun j h => absurd h (Nat.not_lt_zero _)⟩ ?_ ?_
  · refine cov_of ?_ ?_ ?_
    · cbv
      subst hA
      exact ⟨rfl, ⟨rfl, trivial⟩, trivial⟩
    · cbv
      subst hA
      exact ⟨⟨rfl, fun _ _ => rfl⟩, trivial⟩
    · cbv
  rintro ⟨⟨i, rm⟩, hi, hrm⟩
  cbv
  repeat' first
    | apply And.intro
    | exact True.intro
    | with_reducible rfl
    | exact same_of hA rfl
    | refine br_of hA (fun _ => ?_) (fun _ => ?_)
    | (refine ind_of hA ?_; decide +kernel)
    | (refine call_of hA hM _ (to_Row (rd (A.nat (Int.ofNat i)))) ?_; cbv)
    | (refine inb_of hA fun _ => ?_; subst hA; simp only [real, decide_eq_true_eq, Int.ofNat_eq_natCast] at *; omega)
  · rename_i hlt
    have hlt' : i < n := by subst hA; simp only [real, decide_eq_true_eq, Int.ofNat_eq_natCast] at hlt; omega
    refine ⟨⟨(i + 1, fun j => if j = i then rd i else rm j), by simp only; omega, fun j hj => ?_⟩, by simp only; omega, cov_of ?_ ?_ ?_⟩
    · simp only at hj ⊢
      by_cases e : j = i
      · simp [e]
      · rw [if_neg e]; exact hrm j (by simp only; omega)
    · cbv
      subst hA
      exact ⟨congrArg (fun x => DV.v (.int .i64 x)) (up64 hlt' hn2), trivial⟩
    · cbv
      refine ⟨fun q _ => ?_, trivial⟩
      subst hA
      by_cases e : q = i
      · subst e; show (if q = 0 + q then eRow (rd q) else eRow (rm q)) = _; simp only [Nat.zero_add, if_pos, if_true] <;> rfl
      · show (if q = 0 + i then eRow (rd i) else eRow (rm q)) = _; simp only [Nat.zero_add, e, if_false] <;> rfl
    · cbv
  · rename_i hge
    have hin : i = n := by
      subst hA
      have : ¬ ((i : Int) < (n : Int)) := of_decide_eq_false hge
      simp only at hi
      omega
    subst hin
    refine stop_of hA ⟨[(3, .c (.own 448 0 i 1))], [(448, 1, .arr 13 i fun j => eRow (rd j))]⟩ (cov_of ?_ ?_ ?_) ?_
    · cbv
    · cbv
      exact ⟨fun q hq => congrArg (fun x => eRow x) (hrm q hq), trivial⟩
    · cbv
    · cbv
      repeat' first | apply And.intro | refine br_of hA (fun _ => ?_) (fun _ => ?_)
      all_goals first | exact True.intro | with_reducible rfl | exact same_of hA rfl | skip
def st_eqRowS (n : Nat) (rd : Nat → RowT) (i : Nat) : St := ⟨[(5, .c (.d (eI i))), (0, .c (.d (.sl 13 n fun i => eRow (rd i)))), (1, .c (.d (.sl 13 n fun i => eRow (rd i))))], []⟩
set_option maxRecDepth 100000 in
theorem eq_RowS (n : Nat) (hn : n ≤ maxLen) (rd : Nat → RowT) : Meets Tryz.prog 109 [.c (.d (.sl 13 n fun i => eRow (rd i))), .c (.d (.sl 13 n fun i => eRow (rd i)))] ⟨.one (.c (.d (eB true))), [none, none]⟩ := by
  refine meets_of (H := []) (EX := EXA) ttok mixed Tryz.func109 rfl (by kernel_rfl) (by decide) ?_
  generalize hA : real = A
  generalize hM : MeetsB Tryz.prog = M
  cbv
  repeat' first
    | apply And.intro
    | exact True.intro
    | with_reducible rfl
    | exact same_of hA rfl
    | refine br_of hA (fun _ => ?_) (fun _ => ?_)
    | (refine ind_of hA ?_; decide +kernel)
    | (exfalso; rename_i h; subst hA; simp [real] at h; done)
  refine loop_of hA (α := { i : Nat // i ≤ n }) (fun x => st_eqRowS n rd x.1) (fun x => n - x.1) ⟨0, Nat.zero_le _⟩ ?_ ?_
  · refine cov_of ?_ ?_ ?_
    · cbv; exact ⟨rfl, trivial⟩
    · cbv
    · cbv
  rintro ⟨i, hi⟩
  cbv
  repeat' first
    | apply And.intro
    | exact True.intro
    | with_reducible rfl
    | exact same_of hA rfl
    | refine br_of hA (fun _ => ?_) (fun _ => ?_)
    | (refine ind_of hA ?_; decide +kernel)
    | (refine call_of hA hM _ (eq_Row (rd (A.nat (Int.ofNat i)))) ?_; cbv)
    | (exfalso; rename_i h; subst hA; simp [real] at h; done)
    | (refine inb_of hA fun _ => ?_; subst hA; simp only [real, decide_eq_true_eq, Int.ofNat_eq_natCast] at *; omega)
  have hlt' : i < n := by
    subst hA
    simp only [real, decide_eq_true_eq, Int.ofNat_eq_natCast] at *
    omega
  refine ⟨⟨i + 1, by omega⟩, by simp only; omega, cov_of ?_ ?_ ?_⟩
  · cbv
    subst hA
    exact ⟨congrArg (fun x => DV.v (.int .i64 x)) (up64 hlt' hn), trivial⟩
  · cbv
  · cbv
set_option maxRecDepth 100000 in
theorem sz_RowS (n : Nat) (hn : n ≤ maxLen) (rd : Nat → RowT) (l : Int) (h0 : 0 ≤ l) (h1 : l ≤ 1048576) (y : Int) (hy : y = szN n l) : Meets Tryz.prog 83 [.c (.d (.sl 13 n fun i => eRow (rd i))), .c (.d (eI l))] ⟨.one (.c (.d (eI y))), [none, none]⟩ := by
  have hm : maxLen = 9223372036854775807 := by decide
  have hw : IntKind.i64.wrap (l - (n : Int)) = l - n := IntWalk.i64_in _ (by omega)
  refine meets_of (H := []) (EX := EXA) ttok mixed Tryz.func83 rfl (by kernel_rfl) (by decide) ?_
  generalize hA : real = A
  generalize hM : MeetsB Tryz.prog = M
  cbv
  repeat' first
    | apply And.intro
    | exact True.intro
    | with_reducible rfl
    | exact same_of hA rfl
    | refine br_of hA (fun _ => ?_) (fun _ => ?_)
    | (refine ind_of hA ?_; decide +kernel)
  all_goals rename_i hlt
  all_goals subst hA
  · refine congrArg (fun x => XA.one (.c (.d (eI x)))) ?_
    have hlt : IntKind.i64.wrap (l - (n : Int)) < 0 := of_decide_eq_true hlt
    rw [hw] at hlt
    rw [hy]; unfold szN; rw [if_pos hlt]
  · refine congrArg (fun x => XA.one (.c (.d (eI x)))) ?_
    have hlt : ¬ IntKind.i64.wrap (l - (n : Int)) < 0 := of_decide_eq_false hlt
    rw [hw] at hlt
    rw [hy]; unfold szN; rw [if_neg hlt]
    exact hw
set_option maxRecDepth 100000 in
theorem eq_OpSt (x : OpStT) : Meets Tryz.prog 44 [xd (eOpSt x), xd (eOpSt x)] ⟨.one (.c (.d (eB true))), [none, none]⟩ := by
  refine meets_of (H := []) (EX := EXA) ttok mixed Tryz.func44 rfl (by kernel_rfl) (by decide) ?_
  generalize hA : real = A
  generalize hM : MeetsB Tryz.prog = M
  cbv
  repeat' first
    | apply And.intro
    | exact True.intro
    | with_reducible rfl
    | exact same_of hA rfl
    | refine br_of hA (fun _ => ?_) (fun _ => ?_)
    | (refine ind_of hA ?_; decide +kernel)
    | (refine call_of hA hM _ (eq_RowS x.rows.n x.rows.hn x.rows.g) ?_; cbv)
    | (exfalso; rename_i h; subst hA; simp [real] at h; done)
set_option maxRecDepth 100000 in
theorem sz_OpSt (x : OpStT) (l0 : Int) (h0 : 0 ≤ l0) (h1 : l0 ≤ 1048576) (y : Int) (hy : y = szOpSt x l0) : Meets Tryz.prog 28 [xd (eOpSt x), .c (.d (eI l0))] ⟨.one (.c (.d (eI y))), [none, none]⟩ := by
  refine meets_of (H := []) (EX := EXA) ttok mixed Tryz.func28 rfl (by kernel_rfl) (by decide) ?_
  generalize hA : real = A
  generalize hM : MeetsB Tryz.prog = M
  cbv
  repeat' first
    | apply And.intro
    | exact True.intro
    | with_reducible rfl
    | exact same_of hA rfl
    | refine br_of hA (fun _ => ?_) (fun _ => ?_)
    | (refine ind_of hA ?_; decide +kernel)
  unfold szOpSt at hy
  obtain ⟨l1, e1⟩ : ∃ z : Int, z = szN x.rows.n l0 := ⟨_, rfl⟩
  have s1 := szN_spec (n := x.rows.n) h0 h1
  rw [← e1] at s1 hy
  refine call_of hA hM _ (sz_RowS x.rows.n x.rows.hn x.rows.g l0 h0 h1 l1 e1) ?_
  cbv
  repeat' first
    | apply And.intro
    | exact True.intro
    | with_reducible rfl
    | exact same_of hA rfl
    | refine br_of hA (fun _ => ?_) (fun _ => ?_)
    | (refine ind_of hA ?_; decide +kernel)
  · rename_i hlt
    refine congrArg (fun x => XA.one (.c (.d (eI x)))) ?_
    subst hA
    have hlt : l1 < 0 := of_decide_eq_true hlt
    omega
  rename_i hge1
  have hge1 : ¬ l1 < 0 := by subst hA; exact of_decide_eq_false hge1
  exact congrArg (fun x => XA.one (.c (.d (eI x)))) hy.symm
set_option maxRecDepth 100000 in
theorem to_Pane (x : PaneT) : Meets Tryz.prog 145 [xd (ePane x)] ⟨.one (xd (ePane x)), [none]⟩ := by
  refine meets_of (H := []) (EX := EXA) ttok mixed Tryz.func145 rfl (by kernel_rfl) (by decide) ?_
  generalize hA : real = A
  generalize hM : MeetsB Tryz.prog = M
  cbv
  repeat' first
    | apply And.intro
    | exact True.intro
    | with_reducible rfl
    | exact same_of hA rfl
    | refine br_of hA (fun _ => ?_) (fun _ => ?_)
    | (refine ind_of hA ?_; decide +kernel)
    | (refine call_of hA hM _ (to_Win x.win) ?_; cbv)
    | (refine call_of hA hM _ (to_Agg x.agg) ?_; cbv)
set_option maxRecDepth 100000 in
theorem eq_Pane (x : PaneT) : Meets Tryz.prog 164 [xd (ePane x), xd (ePane x)] ⟨.one (.c (.d (eB true))), [none, none]⟩ := by
  refine meets_of (H := []) (EX := EXA) ttok mixed Tryz.func164 rfl (by kernel_rfl) (by decide) ?_
  generalize hA : real = A
  generalize hM : MeetsB Tryz.prog = M
  cbv
  repeat' first
    | apply And.intro
    | exact True.intro
    | with_reducible rfl
    | exact same_of hA rfl
    | refine br_of hA (fun _ => ?_) (fun _ => ?_)
    | (refine ind_of hA ?_; decide +kernel)
    | (refine call_of hA hM _ (eq_Win x.win) ?_; cbv)
    | (refine call_of hA hM _ (eq_Agg x.agg) ?_; cbv)
    | (exfalso; rename_i h; subst hA; simp [real] at h; done)
def st_toPaneS (n : Nat) (rd : Nat → PaneT) (i : Nat) (rm : Nat → PaneT) : St :=
  ⟨[(4, .c (.d (eI i))), (0, .c (.d (.sl 9 n fun i => ePane (rd i)))), (3, .c (.own 448 0 n 1))], [(448, 1, .arr 9 n fun i => ePane (rm i))]⟩
set_option maxRecDepth 100000 in
theorem to_PaneS (n : Nat) (hn : n ≤ 1048576) (rd : Nat → PaneT) : Meets Tryz.prog 95 [.c (.d (.sl 9 n fun i => ePane (rd i)))] ⟨.one (.c (.own 9 n fun i => ePane (rd i))), [none]⟩ := by
  have hn2 : n ≤ maxLen := Nat.le_trans hn (by decide)
  refine meets_of (H := [6]) (EX := EXA) ttok mixed Tryz.func95 rfl (by kernel_rfl) (by decide) ?_
  generalize hA : real = A
  generalize hM : MeetsB Tryz.prog = M
  cbv
  repeat' first
    | apply And.intro
    | exact True.intro
    | with_reducible rfl
    | exact same_of hA rfl
    | refine br_of hA (fun _ => ?_) (fun _ => ?_)
    | (refine ind_of hA ?_; decide +kernel)
    | exact made_n hA hn (by decide)
  refine loop_of hA (α := { p : Nat × (Nat → PaneT) // p.1 ≤ n ∧ ∀ j, j < p.1 → p.2 j = rd j }) (fun x => st_toPaneS n rd x.1.1 x.1.2) (fun x => n - x.1.1) ⟨(0, fun _ => ⟨0, ⟨0, 0⟩, 0, 0, ⟨0, 0, 0, 0⟩⟩), Nat.zero_le _, fun j h => absurd h (Nat.not_lt_zero _)⟩ ?_ ?_
  · refine cov_of ?_ ?_ ?_
    · cbv
      subst hA
      exact ⟨rfl, ⟨rfl, trivial⟩, trivial⟩
    · cbv
      subst hA
      exact ⟨⟨rfl, fun _ _ => rfl⟩, trivial⟩
    · cbv
  rintro ⟨⟨i, rm⟩, hi, hrm⟩
  cbv
  repeat' first
    | apply And.intro
    | exact True.intro
    | with_reducible rfl
    | exact same_of hA rfl
    | refine br_of hA (fun _ => ?_) (fun _ => ?_)
    | (refine ind_of hA ?_; decide +kernel)
    | (refine call_of hA hM _ (to_Pane (rd (A.nat (Int.ofNat i)))) ?_; cbv)
    | (refine inb_of hA fun _ => ?_; subst hA; simp only [real, decide_eq_true_eq, Int.ofNat_eq_natCast] at *; omega)
  · rename_i hlt
    have hlt' : i < n := by subst hA; simp only [real, decide_eq_true_eq, Int.ofNat_eq_natCast] at hlt; omega
    refine ⟨⟨(i + 1, fun j => if j = i then rd i else rm j), by simp only; omega, fun j hj => ?_⟩, by simp only; omega, cov_of ?_ ?_ ?_⟩
    · simp only at hj ⊢
      by_cases e : j = i
      · simp [e]
      · rw [if_neg e]; exact hrm j (by simp only; omega)
    · cbv
      subst hA
      exact ⟨congrArg (fun x => DV.v (.int .i64 x)) (up64 hlt' hn2), trivial⟩
    · cbv
      refine ⟨fun q _ => ?_, trivial⟩
      subst hA
      by_cases e : q = i
      · subst e; show (if q = 0 + q then ePane (rd q) else ePane (rm q)) = _; simp only [Nat.zero_add, if_pos, if_true] <;> rfl
      · show (if q = 0 + i then ePane (rd i) else ePane (rm q)) = _; simp only [Nat.zero_add, e, if_false] <;> rfl
    · cbv
  · rename_i hge
    have hin : i = n := by
      subst hA
      have : ¬ ((i : Int) < (n : Int)) := of_decide_eq_false hge
      simp only at hi
      omega
    subst hin
    refine stop_of hA ⟨[(3, .c (.own 448 0 i 1))], [(448, 1, .arr 9 i fun j => ePane (rd j))]⟩ (cov_of ?_ ?_ ?_) ?_
    · cbv
    · cbv
      exact ⟨fun q hq => congrArg (fun x => ePane x) (hrm q hq), trivial⟩
    · cbv
    · cbv
      repeat' first | apply And.intro | refine br_of hA (fun _ => ?_) (fun _ => ?_)
      all_goals first | exact True.intro | with_reducible rfl | exact same_of hA rfl | skip
def st_eqPaneS (n : Nat) (rd : Nat → PaneT) (i : Nat) : St := ⟨[(5, .c (.d (eI i))), (0, .c (.d (.sl 9 n fun i => ePane (rd i)))), (1, .c (.d (.sl 9 n fun i => ePane (rd i))))], []⟩
set_option maxRecDepth 100000 in
theorem eq_PaneS (n : Nat) (hn : n ≤ maxLen) (rd : Nat → PaneT) : Meets Tryz.prog 110 [.c (.d (.sl 9 n fun i => ePane (rd i))), .c (.d (.sl 9 n fun i => ePane (rd i)))] ⟨.one (.c (.d (eB true))), [none, none]⟩ := by
  refine meets_of (H := []) (EX := EXA) ttok mixed Tryz.func110 rfl (by kernel_rfl) (by decide) ?_
  generalize hA : real = A
  generalize hM : MeetsB Tryz.prog = M
  cbv
  repeat' first
    | apply And.intro
    | exact True.intro
    | with_reducible rfl
    | exact same_of hA rfl
    | refine br_of hA (fun _ => ?_) (fun _ => ?_)
    | (refine ind_of hA ?_; decide +kernel)
    | (exfalso; rename_i h; subst hA; simp [real] at h; done)
  refine loop_of hA (α := { i : Nat // i ≤ n }) (fun x => st_eqPaneS n rd x.1) (fun x => n - x.1) ⟨0, Nat.zero_le _⟩ ?_ ?_
  · refine cov_of ?_ ?_ ?_
    · cbv; exact ⟨rfl, trivial⟩
    · cbv
    · cbv
  rintro ⟨i, hi⟩
  cbv
  repeat' first
    | apply And.intro
    | exact True.intro
    | with_reducible rfl
    | exact same_of hA rfl
    | refine br_of hA (fun _ => ?_) (fun _ => ?_)
    | (refine ind_of hA ?_; decide +kernel)
    | (refine call_of hA hM _ (eq_Pane (rd (A.nat (Int.ofNat i)))) ?_; cbv)
    | (exfalso; rename_i h; subst hA; simp [real] at h; done)
    | (refine inb_of hA fun _ => ?_; subst hA; simp only [real, decide_eq_true_eq, Int.ofNat_eq_natCast] at *; omega)
  have hlt' : i < n := by
    subst hA
    simp only [real, decide_eq_true_eq, Int.ofNat_eq_natCast] at *
    omega
  refine ⟨⟨i + 1, by omega⟩, by simp only; omega, cov_of ?_ ?_ ?_⟩
  · cbv
    subst hA
    exact ⟨congrArg (fun x => DV.v (.int .i64 x)) (up64 hlt' hn), trivial⟩
  · cbv
  · cbv
set_option maxRecDepth 100000 in
theorem sz_PaneS (n : Nat) (hn : n ≤ maxLen) (rd : Nat → PaneT) (l : Int) (h0 : 0 ≤ l) (h1 : l ≤ 1048576) (y : Int) (hy : y = szN n l) : Meets Tryz.prog 84 [.c (.d (.sl 9 n fun i => ePane (rd i))), .c (.d (eI l))] ⟨.one (.c (.d (eI y))), [none, none]⟩ := by
  have hm : maxLen = 9223372036854775807 := by decide
  have hw : IntKind.i64.wrap (l - (n : Int)) = l - n := IntWalk.i64_in _ (by omega)
  refine meets_of (H := []) (EX := EXA) ttok mixed Tryz.func84 rfl (by kernel_rfl) (by decide) ?_
  generalize hA : real = A
  generalize hM : MeetsB Tryz.prog = M
  cbv
  repeat' first
    | apply And.intro
    | exact True.intro
    | with_reducible rfl
    | exact same_of hA rfl
    | refine br_of hA (fun _ => ?_) (fun _ => ?_)
    | (refine ind_of hA ?_; decide +kernel)
  all_goals rename_i hlt
  all_goals subst hA
  · refine congrArg (fun x => XA.one (.c (.d (eI x)))) ?_
    have hlt : IntKind.i64.wrap (l - (n : Int)) < 0 := of_decide_eq_true hlt
    rw [hw] at hlt
    rw [hy]; unfold szN; rw [if_pos hlt]
  · refine congrArg (fun x => XA.one (.c (.d (eI x)))) ?_
    have hlt : ¬ IntKind.i64.wrap (l - (n : Int)) < 0 := of_decide_eq_false hlt
    rw [hw] at hlt
    rw [hy]; unfold szN; rw [if_neg hlt]
    exact hw
set_option maxRecDepth 100000 in
theorem to_Lat (x : LatT) : Meets Tryz.prog 146 [xd (eLat x)] ⟨.one (xd (eLat x)), [none]⟩ := by
  refine meets_of (H := []) (EX := EXA) ttok mixed Tryz.func146 rfl (by kernel_rfl) (by decide) ?_
  generalize hA : real = A
  generalize hM : MeetsB Tryz.prog = M
  cbv
  repeat' first
    | apply And.intro
    | exact True.intro
    | with_reducible rfl
    | exact same_of hA rfl
    | refine br_of hA (fun _ => ?_) (fun _ => ?_)
    | (refine ind_of hA ?_; decide +kernel)
    | (refine call_of hA hM _ (to_Itm x.itm) ?_; cbv)
    | (refine call_of hA hM _ (to_Win x.win) ?_; cbv)
set_option maxRecDepth 100000 in
theorem eq_Lat (x : LatT) : Meets Tryz.prog 165 [xd (eLat x), xd (eLat x)] ⟨.one (.c (.d (eB true))), [none, none]⟩ := by
  refine meets_of (H := []) (EX := EXA) ttok mixed Tryz.func165 rfl (by kernel_rfl) (by decide) ?_
  generalize hA : real = A
  generalize hM : MeetsB Tryz.prog = M
  cbv
  repeat' first
    | apply And.intro
    | exact True.intro
    | with_reducible rfl
    | exact same_of hA rfl
    | refine br_of hA (fun _ => ?_) (fun _ => ?_)
    | (refine ind_of hA ?_; decide +kernel)
    | (refine call_of hA hM _ (eq_Itm x.itm) ?_; cbv)
    | (refine call_of hA hM _ (eq_Win x.win) ?_; cbv)
    | (exfalso; rename_i h; subst hA; simp [real] at h; done)
def st_toLatS (n : Nat) (rd : Nat → LatT) (i : Nat) (rm : Nat → LatT) : St :=
  ⟨[(4, .c (.d (eI i))), (0, .c (.d (.sl 7 n fun i => eLat (rd i)))), (3, .c (.own 448 0 n 1))], [(448, 1, .arr 7 n fun i => eLat (rm i))]⟩
set_option maxRecDepth 100000 in
theorem to_LatS (n : Nat) (hn : n ≤ 1048576) (rd : Nat → LatT) : Meets Tryz.prog 96 [.c (.d (.sl 7 n fun i => eLat (rd i)))] ⟨.one (.c (.own 7 n fun i => eLat (rd i))), [none]⟩ := by
  have hn2 : n ≤ maxLen := Nat.le_trans hn (by decide)
  refine meets_of (H := [6]) (EX := EXA) ttok mixed Tryz.func96 rfl (by kernel_rfl) (by decide) ?_
  generalize hA : real = A
  generalize hM : MeetsB Tryz.prog = M
  cbv
  repeat' first
    | apply And.intro
    | exact True.intro
    | with_reducible rfl
    | exact same_of hA rfl
    | refine br_of hA (fun _ => ?_) (fun _ => ?_)
    | (refine ind_of hA ?_; decide +kernel)
    | exact made_n hA hn (by decide)
  refine loop_of hA (α := { p : Nat × (Nat → LatT) // p.1 ≤ n ∧ ∀ j, j < p.1 → p.2 j = rd j }) (fun x => st_toLatS n rd x.1.1 x.1.2) (fun x => n - x.1.1) ⟨(0, fun _ => ⟨⟨0, 0, 0, 0, 0⟩, ⟨0, 0⟩⟩), Nat.zero_le _, fun j h => absurd h (Nat.not_lt_zero _)⟩ ?_ ?_
  · refine cov_of ?_ ?_ ?_
    · cbv
      subst hA
      exact ⟨rfl, ⟨rfl, trivial⟩, trivial⟩
    · cbv
      subst hA
      exact ⟨⟨rfl, fun _ _ => rfl⟩, trivial⟩
    · cbv
  rintro ⟨⟨i, rm⟩, hi, hrm⟩
  cbv
  repeat' first
    | apply And.intro
    | exact True.intro
    | with_reducible rfl
    | exact same_of hA rfl
    | refine br_of hA (fun _ => ?_) (fun _ => ?_)
    | (refine ind_of hA ?_; decide +kernel)
    | (refine call_of hA hM _ (to_Lat (rd (A.nat (Int.ofNat i)))) ?_; cbv)
    | (refine inb_of hA fun _ => ?_; subst hA; simp only [real, decide_eq_true_eq, Int.ofNat_eq_natCast] at *; omega)
  · rename_i hlt
    have hlt' : i < n := by subst hA; simp only [real, decide_eq_true_eq, Int.ofNat_eq_natCast] at hlt; omega
    refine ⟨⟨(i + 1, fun j => if j = i then rd i else rm j), by simp only; omega, fun j hj => ?_⟩, by simp only; omega, cov_of ?_ ?_ ?_⟩
    · simp only at hj ⊢
      by_cases e : j = i
      · simp [e]
      · rw [if_neg e]; exact hrm j (by simp only; omega)
    · cbv
      subst hA
      exact ⟨congrArg (fun x => DV.v (.int .i64 x)) (up64 hlt' hn2), trivial⟩
    · cbv
      refine ⟨fun q _ => ?_, trivial⟩
      subst hA
      by_cases e : q = i
      · subst e; show (if q = 0 + q then eLat (rd q) else eLat (rm q)) = _; simp only [Nat.zero_add, if_pos, if_true] <;> rfl
      · show (if q = 0 + i then eLat (rd i) else eLat (rm q)) = _; simp only [Nat.zero_add, e, if_false] <;> rfl
    · cbv
  · rename_i hge
    have hin : i = n := by
      subst hA
      have : ¬ ((i : Int) < (n : Int)) := of_decide_eq_false hge
      simp only at hi
      omega
    subst hin
    refine stop_of hA ⟨[(3, .c (.own 448 0 i 1))], [(448, 1, .arr 7 i fun j => eLat (rd j))]⟩ (cov_of ?_ ?_ ?_) ?_
    · cbv
    · cbv
      exact ⟨fun q hq => congrArg (fun x => eLat x) (hrm q hq), trivial⟩
    · cbv
    · cbv
      repeat' first | apply And.intro | refine br_of hA (fun _ => ?_) (fun _ => ?_)
      all_goals first | exact True.intro | with_reducible rfl | exact same_of hA rfl | skip
def st_eqLatS (n : Nat) (rd : Nat → LatT) (i : Nat) : St := ⟨[(5, .c (.d (eI i))), (0, .c (.d (.sl 7 n fun i => eLat (rd i)))), (1, .c (.d (.sl 7 n fun i => eLat (rd i))))], []⟩
set_option maxRecDepth 100000 in
theorem eq_LatS (n : Nat) (hn : n ≤ maxLen) (rd : Nat → LatT) : Meets Tryz.prog 111 [.c (.d (.sl 7 n fun i => eLat (rd i))), .c (.d (.sl 7 n fun i => eLat (rd i)))] ⟨.one (.c (.d (eB true))), [none, none]⟩ := by
  refine meets_of (H := []) (EX := EXA) ttok mixed Tryz.func111 rfl (by kernel_rfl) (by decide) ?_
  generalize hA : real = A
  generalize hM : MeetsB Tryz.prog = M
  cbv
  repeat' first
    | apply And.intro
    | exact True.intro
    | with_reducible rfl
    | exact same_of hA rfl
    | refine br_of hA (fun _ => ?_) (fun _ => ?_)
    | (refine ind_of hA ?_; decide +kernel)
    | (exfalso; rename_i h; subst hA; simp [real] at h; done)
  refine loop_of hA (α := { i : Nat // i ≤ n }) (fun x => st_eqLatS n rd x.1) (fun x => n - x.1) ⟨0, Nat.zero_le _⟩ ?_ ?_
  · refine cov_of ?_ ?_ ?_
    · cbv; exact ⟨rfl, trivial⟩
    · cbv
    · cbv
  rintro ⟨i, hi⟩
  cbv
  repeat' first
    | apply And.intro
    | exact True.intro
    | with_reducible rfl
    | exact same_of hA rfl
    | refine br_of hA (fun _ => ?_) (fun _ => ?_)
    | (refine ind_of hA ?_; decide +kernel)
    | (refine call_of hA hM _ (eq_Lat (rd (A.nat (Int.ofNat i)))) ?_; cbv)
    | (exfalso; rename_i h; subst hA; simp [real] at h; done)
    | (refine inb_of hA fun _ => ?_; subst hA; simp only [real, decide_eq_true_eq, Int.ofNat_eq_natCast] at *; omega)
  have hlt' : i < n := by
    subst hA
    simp only [real, decide_eq_true_eq, Int.ofNat_eq_natCast] at *
    omega
  refine ⟨⟨i + 1, by omega⟩, by simp only; omega, cov_of ?_ ?_ ?_⟩
  · cbv
    subst hA
    exact ⟨congrArg (fun x => DV.v (.int .i64 x)) (up64 hlt' hn), trivial⟩
  · cbv
  · cbv
set_option maxRecDepth 100000 in
theorem sz_LatS (n : Nat) (hn : n ≤ maxLen) (rd : Nat → LatT) (l : Int) (h0 : 0 ≤ l) (h1 : l ≤ 1048576) (y : Int) (hy : y = szN n l) : Meets Tryz.prog 85 [.c (.d (.sl 7 n fun i => eLat (rd i))), .c (.d (eI l))] ⟨.one (.c (.d (eI y))), [none, none]⟩ := by
  have hm : maxLen = 9223372036854775807 := by decide
  have hw : IntKind.i64.wrap (l - (n : Int)) = l - n := IntWalk.i64_in _ (by omega)
  refine meets_of (H := []) (EX := EXA) ttok mixed Tryz.func85 rfl (by kernel_rfl) (by decide) ?_
  generalize hA : real = A
  generalize hM : MeetsB Tryz.prog = M
  cbv
  repeat' first
    | apply And.intro
    | exact True.intro
    | with_reducible rfl
    | exact same_of hA rfl
    | refine br_of hA (fun _ => ?_) (fun _ => ?_)
    | (refine ind_of hA ?_; decide +kernel)
  all_goals rename_i hlt
  all_goals subst hA
  · refine congrArg (fun x => XA.one (.c (.d (eI x)))) ?_
    have hlt : IntKind.i64.wrap (l - (n : Int)) < 0 := of_decide_eq_true hlt
    rw [hw] at hlt
    rw [hy]; unfold szN; rw [if_pos hlt]
  · refine congrArg (fun x => XA.one (.c (.d (eI x)))) ?_
    have hlt : ¬ IntKind.i64.wrap (l - (n : Int)) < 0 := of_decide_eq_false hlt
    rw [hw] at hlt
    rw [hy]; unfold szN; rw [if_neg hlt]
    exact hw
set_option maxRecDepth 100000 in
theorem eq_TskIn (x : TskInT) : Meets Tryz.prog 108 [xd (eTskIn x), xd (eTskIn x)] ⟨.one (.c (.d (eB true))), [none, none]⟩ := by
  refine meets_of (H := []) (EX := EXA) ttok mixed Tryz.func108 rfl (by kernel_rfl) (by decide) ?_
  generalize hA : real = A
  generalize hM : MeetsB Tryz.prog = M
  cbv
  repeat' first
    | apply And.intro
    | exact True.intro
    | with_reducible rfl
    | exact same_of hA rfl
    | refine br_of hA (fun _ => ?_) (fun _ => ?_)
    | (refine ind_of hA ?_; decide +kernel)
    | (refine call_of hA hM _ (eq_ItmS x.queue.n x.queue.hn x.queue.g) ?_; cbv)
    | (exfalso; rename_i h; subst hA; simp [real] at h; done)
set_option maxRecDepth 100000 in
theorem sz_TskIn (x : TskInT) (l0 : Int) (h0 : 0 ≤ l0) (h1 : l0 ≤ 1048576) (y : Int) (hy : y = szTskIn x l0) : Meets Tryz.prog 82 [xd (eTskIn x), .c (.d (eI l0))] ⟨.one (.c (.d (eI y))), [none, none]⟩ := by
  refine meets_of (H := []) (EX := EXA) ttok mixed Tryz.func82 rfl (by kernel_rfl) (by decide) ?_
  generalize hA : real = A
  generalize hM : MeetsB Tryz.prog = M
  cbv
  repeat' first
    | apply And.intro
    | exact True.intro
    | with_reducible rfl
    | exact same_of hA rfl
    | refine br_of hA (fun _ => ?_) (fun _ => ?_)
    | (refine ind_of hA ?_; decide +kernel)
  unfold szTskIn at hy
  obtain ⟨l1, e1⟩ : ∃ z : Int, z = szN x.queue.n l0 := ⟨_, rfl⟩
  have s1 := szN_spec (n := x.queue.n) h0 h1
  rw [← e1] at s1 hy
  refine call_of hA hM _ (sz_ItmS x.queue.n x.queue.hn x.queue.g l0 h0 h1 l1 e1) ?_
  cbv
  repeat' first
    | apply And.intro
    | exact True.intro
    | with_reducible rfl
    | exact same_of hA rfl
    | refine br_of hA (fun _ => ?_) (fun _ => ?_)
    | (refine ind_of hA ?_; decide +kernel)
  · rename_i hlt
    refine congrArg (fun x => XA.one (.c (.d (eI x)))) ?_
    subst hA
    have hlt : l1 < 0 := of_decide_eq_true hlt
    omega
  rename_i hge1
  have hge1 : ¬ l1 < 0 := by subst hA; exact of_decide_eq_false hge1
  exact congrArg (fun x => XA.one (.c (.d (eI x)))) hy.symm
def st_eqTskInS (n : Nat) (rd : Nat → TskInT) (i : Nat) : St := ⟨[(5, .c (.d (eI i))), (0, .c (.d (.sl 3 n fun i => eTskIn (rd i)))), (1, .c (.d (.sl 3 n fun i => eTskIn (rd i))))], []⟩
set_option maxRecDepth 100000 in
theorem eq_TskInS (n : Nat) (hn : n ≤ maxLen) (rd : Nat → TskInT) : Meets Tryz.prog 43 [.c (.d (.sl 3 n fun i => eTskIn (rd i))), .c (.d (.sl 3 n fun i => eTskIn (rd i)))] ⟨.one (.c (.d (eB true))), [none, none]⟩ := by
  refine meets_of (H := []) (EX := EXA) ttok mixed Tryz.func43 rfl (by kernel_rfl) (by decide) ?_
  generalize hA : real = A
  generalize hM : MeetsB Tryz.prog = M
  cbv
  repeat' first
    | apply And.intro
    | exact True.intro
    | with_reducible rfl
    | exact same_of hA rfl
    | refine br_of hA (fun _ => ?_) (fun _ => ?_)
    | (refine ind_of hA ?_; decide +kernel)
    | (exfalso; rename_i h; subst hA; simp [real] at h; done)
  refine loop_of hA (α := { i : Nat // i ≤ n }) (fun x => st_eqTskInS n rd x.1) (fun x => n - x.1) ⟨0, Nat.zero_le _⟩ ?_ ?_
  · refine cov_of ?_ ?_ ?_
    · cbv; exact ⟨rfl, trivial⟩
    · cbv
    · cbv
  rintro ⟨i, hi⟩
  cbv
  repeat' first
    | apply And.intro
    | exact True.intro
    | with_reducible rfl
    | exact same_of hA rfl
    | refine br_of hA (fun _ => ?_) (fun _ => ?_)
    | (refine ind_of hA ?_; decide +kernel)
    | (refine call_of hA hM _ (eq_TskIn (rd (A.nat (Int.ofNat i)))) ?_; cbv)
    | (exfalso; rename_i h; subst hA; simp [real] at h; done)
    | (refine inb_of hA fun _ => ?_; subst hA; simp only [real, decide_eq_true_eq, Int.ofNat_eq_natCast] at *; omega)
  have hlt' : i < n := by
    subst hA
    simp only [real, decide_eq_true_eq, Int.ofNat_eq_natCast] at *
    omega
  refine ⟨⟨i + 1, by omega⟩, by simp only; omega, cov_of ?_ ?_ ?_⟩
  · cbv
    subst hA
    exact ⟨congrArg (fun x => DV.v (.int .i64 x)) (up64 hlt' hn), trivial⟩
  · cbv
  · cbv
def st_szTskInS (n : Nat) (rd : Nat → TskInT) (i : Nat) (v : Int) : St := ⟨[(5, .c (.d (eI i))), (0, .c (.d (.sl 3 n fun i => eTskIn (rd i)))), (1, .c (.d (eI v)))], []⟩
set_option maxRecDepth 100000 in
theorem sz_TskInS (n : Nat) (hn : n ≤ maxLen) (rd : Nat → TskInT) (l : Int) (h0 : 0 ≤ l) (h1 : l ≤ 1048576) (y : Int) (hy : y = szS (fun i l => szTskIn (rd i) l) n l) : Meets Tryz.prog 27 [.c (.d (.sl 3 n fun i => eTskIn (rd i))), .c (.d (eI l))] ⟨.one (.c (.d (eI y))), [none, none]⟩ := by
  have hm : maxLen = 9223372036854775807 := by decide
  have hw : IntKind.i64.wrap (l - (n : Int)) = l - n := IntWalk.i64_in _ (by omega)
  refine meets_of (H := []) (EX := EXA) ttok mixed Tryz.func27 rfl (by kernel_rfl) (by decide) ?_
  generalize hA : real = A
  generalize hM : MeetsB Tryz.prog = M
  cbv
  repeat' first
    | apply And.intro
    | exact True.intro
    | with_reducible rfl
    | exact same_of hA rfl
    | refine br_of hA (fun _ => ?_) (fun _ => ?_)
    | (refine ind_of hA ?_; decide +kernel)
  · rename_i hlt
    refine congrArg (fun x => XA.one (.c (.d (eI x)))) ?_
    subst hA
    have hlt : IntKind.i64.wrap (l - (n : Int)) < 0 := of_decide_eq_true hlt
    rw [hw] at hlt
    rw [hy]; unfold szS szN; simp [hlt]
  rename_i hge
  have hge' : ¬ l - (n : Int) < 0 := by
    subst hA
    have h : ¬ IntKind.i64.wrap (l - (n : Int)) < 0 := of_decide_eq_false hge
    rw [hw] at h; exact h
  have hN : szN n l = l - n := if_neg hge'
  have hy' : y = szLoop (fun i l => szTskIn (rd i) l) (l - n) n := by rw [hy]; unfold szS; rw [hN, if_neg hge']
  have hs := szLoop_spec (f := (fun i l => szTskIn (rd i) l)) (B := fun i => bdTskIn (rd i)) (n := n) (fun i _ l h0 h1 => by simpa using szTskIn_spec (rd i) h0 h1) (l := l - n) (by omega) (by omega)
  have hs1 : ∀ k, k ≤ n → -1 ≤ szLoop (fun i l => szTskIn (rd i) l) (l - n) k := fun k hk => (hs k hk).1
  refine loop_of hA (α := { p : Nat × Int // p.1 ≤ n ∧ p.2 = szLoop (fun i l => szTskIn (rd i) l) (l - n) p.1 ∧ 0 ≤ p.2 }) (fun x => st_szTskInS n rd x.1.1 x.1.2) (fun x => n - x.1.1) ⟨(0, l - n), Nat.zero_le _, rfl, by simp only; omega⟩ ?_ ?_
  · refine cov_of ?_ ?_ ?_
    · cbv; subst hA; exact ⟨rfl, congrArg (fun x => DV.v (.int .i64 x)) hw, trivial⟩
    · cbv
    · cbv
  rintro ⟨⟨i, v⟩, hi, hv, hv0⟩
  have hv1 : v ≤ 1048576 := by have := (hs i hi).2.1; simp only at hv; omega
  obtain ⟨z, hz⟩ : ∃ z : Int, z = szTskIn (rd (A.nat (Int.ofNat i))) v := ⟨_, rfl⟩
  have hc := sz_TskIn (rd (A.nat (Int.ofNat i))) v hv0 hv1 z hz
  cbv
  repeat' first
    | apply And.intro
    | exact True.intro
    | with_reducible rfl
    | exact same_of hA rfl
    | refine br_of hA (fun _ => ?_) (fun _ => ?_)
    | (refine ind_of hA ?_; decide +kernel)
    | (refine call_of hA hM _ hc ?_; cbv)
    | (refine inb_of hA fun _ => ?_; subst hA; simp only [real, decide_eq_true_eq, Int.ofNat_eq_natCast] at *; omega)
  · rename_i hlt hz0
    refine congrArg (fun x => XA.one (.c (.d (eI x)))) ?_
    subst hA
    simp only [real, decide_eq_true_eq, Int.ofNat_eq_natCast, Int.toNat_natCast] at *
    have e1 : szLoop (fun i l => szTskIn (rd i) l) (l - n) (i + 1) = z := by unfold szLoop; rw [← hv, if_neg (by omega)]; exact hz.symm
    have e2 := szLoop_neg hs1 (k := i + 1) (by rw [e1]; exact hz0) (n - (i + 1)) (by omega)
    rw [Nat.add_sub_cancel' (by omega)] at e2
    rw [hy', e2]
  · rename_i hlt hz0
    have hz0 : ¬ z < 0 := by subst hA; exact of_decide_eq_false hz0
    have hlt' : i < n := by subst hA; simp only [real, decide_eq_true_eq, Int.ofNat_eq_natCast] at hlt; omega
    have e1 : szLoop (fun i l => szTskIn (rd i) l) (l - n) (i + 1) = z := by
      subst hA
      simp only at hv
      unfold szLoop; rw [← hv, if_neg (by omega)]; exact hz.symm
    refine ⟨⟨(i + 1, z), by simp only; omega, e1.symm, by simp only; omega⟩, by simp only; omega, cov_of ?_ ?_ ?_⟩
    · cbv
      subst hA
      exact ⟨congrArg (fun x => DV.v (.int .i64 x)) (up64 hlt' hn), trivial⟩
    · cbv
    · cbv
  · rename_i hge2
    refine congrArg (fun x => XA.one (.c (.d (eI x)))) ?_
    have : i = n := by
      subst hA
      have : ¬ ((i : Int) < (n : Int)) := of_decide_eq_false hge2
      simp only at hi
      omega
    subst this
    simp only at hv
    omega
set_option maxRecDepth 100000 in
theorem eq_Txn (x : TxnT) : Meets Tryz.prog 45 [xd (eTxn x), xd (eTxn x)] ⟨.one (.c (.d (eB true))), [none, none]⟩ := by
  refine meets_of (H := []) (EX := EXA) ttok mixed Tryz.func45 rfl (by kernel_rfl) (by decide) ?_
  generalize hA : real = A
  generalize hM : MeetsB Tryz.prog = M
  cbv
  repeat' first
    | apply And.intro
    | exact True.intro
    | with_reducible rfl
    | exact same_of hA rfl
    | refine br_of hA (fun _ => ?_) (fun _ => ?_)
    | (refine ind_of hA ?_; decide +kernel)
    | (refine call_of hA hM _ (eq_PaneS x.panes.n x.panes.hn x.panes.g) ?_; cbv)
    | (refine call_of hA hM _ (eq_LatS x.lates.n x.lates.hn x.lates.g) ?_; cbv)
    | (exfalso; rename_i h; subst hA; simp [real] at h; done)
set_option maxRecDepth 100000 in
theorem sz_Txn (x : TxnT) (l0 : Int) (h0 : 0 ≤ l0) (h1 : l0 ≤ 1048576) (y : Int) (hy : y = szTxn x l0) : Meets Tryz.prog 29 [xd (eTxn x), .c (.d (eI l0))] ⟨.one (.c (.d (eI y))), [none, none]⟩ := by
  refine meets_of (H := []) (EX := EXA) ttok mixed Tryz.func29 rfl (by kernel_rfl) (by decide) ?_
  generalize hA : real = A
  generalize hM : MeetsB Tryz.prog = M
  cbv
  repeat' first
    | apply And.intro
    | exact True.intro
    | with_reducible rfl
    | exact same_of hA rfl
    | refine br_of hA (fun _ => ?_) (fun _ => ?_)
    | (refine ind_of hA ?_; decide +kernel)
  unfold szTxn at hy
  obtain ⟨l1, e1⟩ : ∃ z : Int, z = szN x.panes.n l0 := ⟨_, rfl⟩
  have s1 := szN_spec (n := x.panes.n) h0 h1
  rw [← e1] at s1 hy
  refine call_of hA hM _ (sz_PaneS x.panes.n x.panes.hn x.panes.g l0 h0 h1 l1 e1) ?_
  cbv
  repeat' first
    | apply And.intro
    | exact True.intro
    | with_reducible rfl
    | exact same_of hA rfl
    | refine br_of hA (fun _ => ?_) (fun _ => ?_)
    | (refine ind_of hA ?_; decide +kernel)
  · rename_i hlt
    refine congrArg (fun x => XA.one (.c (.d (eI x)))) ?_
    subst hA
    have hlt : l1 < 0 := of_decide_eq_true hlt
    simp only [hlt, if_true] at hy; omega
  rename_i hge1
  have hge1 : ¬ l1 < 0 := by subst hA; exact of_decide_eq_false hge1
  simp only [hge1, if_false] at hy
  obtain ⟨l2, e2⟩ : ∃ z : Int, z = szN x.lates.n l1 := ⟨_, rfl⟩
  have s2 := szN_spec (n := x.lates.n) (by omega) s1.2.1
  rw [← e2] at s2 hy
  refine call_of hA hM _ (sz_LatS x.lates.n x.lates.hn x.lates.g l1 (by omega) s1.2.1 l2 e2) ?_
  cbv
  repeat' first
    | apply And.intro
    | exact True.intro
    | with_reducible rfl
    | exact same_of hA rfl
    | refine br_of hA (fun _ => ?_) (fun _ => ?_)
    | (refine ind_of hA ?_; decide +kernel)
  · rename_i hlt
    refine congrArg (fun x => XA.one (.c (.d (eI x)))) ?_
    subst hA
    have hlt : l2 < 0 := of_decide_eq_true hlt
    omega
  rename_i hge2
  have hge2 : ¬ l2 < 0 := by subst hA; exact of_decide_eq_false hge2
  exact congrArg (fun x => XA.one (.c (.d (eI x)))) hy.symm
set_option maxRecDepth 100000 in
theorem eq_Tsk (x : TskT) : Meets Tryz.prog 13 [xd (eTsk x), xd (eTsk x)] ⟨.one (.c (.d (eB true))), [none, none]⟩ := by
  refine meets_of (H := []) (EX := EXA) ttok mixed Tryz.func13 rfl (by kernel_rfl) (by decide) ?_
  generalize hA : real = A
  generalize hM : MeetsB Tryz.prog = M
  cbv
  repeat' first
    | apply And.intro
    | exact True.intro
    | with_reducible rfl
    | exact same_of hA rfl
    | refine br_of hA (fun _ => ?_) (fun _ => ?_)
    | (refine ind_of hA ?_; decide +kernel)
    | (refine call_of hA hM _ (eq_TskInS x.ins.n x.ins.hn x.ins.g) ?_; cbv)
    | (refine call_of hA hM _ (eq_OpSt x.op) ?_; cbv)
    | (refine call_of hA hM _ (eq_Txn x.pend) ?_; cbv)
    | (exfalso; rename_i h; subst hA; simp [real] at h; done)
set_option maxRecDepth 100000 in
theorem sz_Tsk (x : TskT) (l0 : Int) (h0 : 0 ≤ l0) (h1 : l0 ≤ 1048576) (y : Int) (hy : y = szTsk x l0) : Meets Tryz.prog 7 [xd (eTsk x), .c (.d (eI l0))] ⟨.one (.c (.d (eI y))), [none, none]⟩ := by
  refine meets_of (H := []) (EX := EXA) ttok mixed Tryz.func7 rfl (by kernel_rfl) (by decide) ?_
  generalize hA : real = A
  generalize hM : MeetsB Tryz.prog = M
  cbv
  repeat' first
    | apply And.intro
    | exact True.intro
    | with_reducible rfl
    | exact same_of hA rfl
    | refine br_of hA (fun _ => ?_) (fun _ => ?_)
    | (refine ind_of hA ?_; decide +kernel)
  unfold szTsk at hy
  obtain ⟨l1, e1⟩ : ∃ z : Int, z = szS (fun i l => szTskIn (x.ins.g i) l) x.ins.n l0 := ⟨_, rfl⟩
  have s1 := (szS_spec (n := x.ins.n) (B := fun i => bdTskIn (x.ins.g i)) (fun i _ l h0 h1 => by simpa using szTskIn_spec (x.ins.g i) h0 h1) h0 h1)
  rw [← e1] at s1 hy
  refine call_of hA hM _ (sz_TskInS x.ins.n x.ins.hn x.ins.g l0 h0 h1 l1 e1) ?_
  cbv
  repeat' first
    | apply And.intro
    | exact True.intro
    | with_reducible rfl
    | exact same_of hA rfl
    | refine br_of hA (fun _ => ?_) (fun _ => ?_)
    | (refine ind_of hA ?_; decide +kernel)
  · rename_i hlt
    refine congrArg (fun x => XA.one (.c (.d (eI x)))) ?_
    subst hA
    have hlt : l1 < 0 := of_decide_eq_true hlt
    simp only [hlt, if_true] at hy; omega
  rename_i hge1
  have hge1 : ¬ l1 < 0 := by subst hA; exact of_decide_eq_false hge1
  simp only [hge1, if_false] at hy
  obtain ⟨l2, e2⟩ : ∃ z : Int, z = szOpSt x.op l1 := ⟨_, rfl⟩
  have s2 := szOpSt_spec x.op (by omega) s1.2.1
  rw [← e2] at s2 hy
  refine call_of hA hM _ (sz_OpSt x.op l1 (by omega) s1.2.1 l2 e2) ?_
  cbv
  repeat' first
    | apply And.intro
    | exact True.intro
    | with_reducible rfl
    | exact same_of hA rfl
    | refine br_of hA (fun _ => ?_) (fun _ => ?_)
    | (refine ind_of hA ?_; decide +kernel)
  · rename_i hlt
    refine congrArg (fun x => XA.one (.c (.d (eI x)))) ?_
    subst hA
    have hlt : l2 < 0 := of_decide_eq_true hlt
    simp only [hlt, if_true] at hy; omega
  rename_i hge2
  have hge2 : ¬ l2 < 0 := by subst hA; exact of_decide_eq_false hge2
  simp only [hge2, if_false] at hy
  obtain ⟨l3, e3⟩ : ∃ z : Int, z = szTxn x.pend l2 := ⟨_, rfl⟩
  have s3 := szTxn_spec x.pend (by omega) s2.2.1
  rw [← e3] at s3 hy
  refine call_of hA hM _ (sz_Txn x.pend l2 (by omega) s2.2.1 l3 e3) ?_
  cbv
  repeat' first
    | apply And.intro
    | exact True.intro
    | with_reducible rfl
    | exact same_of hA rfl
    | refine br_of hA (fun _ => ?_) (fun _ => ?_)
    | (refine ind_of hA ?_; decide +kernel)
  · rename_i hlt
    refine congrArg (fun x => XA.one (.c (.d (eI x)))) ?_
    subst hA
    have hlt : l3 < 0 := of_decide_eq_true hlt
    omega
  rename_i hge3
  have hge3 : ¬ l3 < 0 := by subst hA; exact of_decide_eq_false hge3
  exact congrArg (fun x => XA.one (.c (.d (eI x)))) hy.symm
end Go.Rk
/- Small functions: what they answer. -/
namespace Go.Rk
set_option linter.unusedSimpArgs false
set_option linter.unusedVariables false
open Go.Proofs
set_option maxRecDepth 100000 in
theorem c_in (n lo hi : Int) : ∃ b, b = decide (lo ≤ n ∧ n ≤ hi) ∧ Meets Tryz.prog 102 [.c (.d (eI n)), .c (.d (eI lo)), .c (.d (eI hi))] ⟨.one (.c (.d (eB b))), [none, none, none]⟩ := by
  obtain ⟨b, hb⟩ : ∃ b, b = decide (lo ≤ n ∧ n ≤ hi) := ⟨_, rfl⟩
  refine ⟨b, hb, ?_⟩
  refine meets_of (H := []) (EX := EXA) ttok mixed Tryz.func102 rfl (by kernel_rfl) (by decide) ?_
  generalize hA : real = A
  generalize hM : MeetsB Tryz.prog = M
  cbv
  repeat' first
    | apply And.intro
    | exact True.intro
    | with_reducible rfl
    | exact same_of hA rfl
    | refine br_of hA (fun _ => ?_) (fun _ => ?_)
    | exact imp_of hA id
    | (refine imp_of hA ?_; subst hA; simp only [real, Bool.true_and]; exact id)
    | (refine ind_of hA ?_; decide +kernel)
    | fail
  all_goals subst hA
  all_goals refine congrArg (fun b => XA.one (.c (.d (eB b)))) (Bool.eq_iff_iff.2 ?_)
  all_goals subst_vars
  all_goals try simp only [real, bifA, bifB, bifC, bifD, decide_eq_true_eq, decide_eq_false_iff_not, beq_iff_eq, bne_iff_ne, beq_eq_false_iff_ne, bne_eq_false_iff_eq, ne_eq, Bool.and_eq_true, Bool.or_eq_true, Bool.not_eq_true', Bool.not_eq_false', Bool.and_eq_false_iff, Bool.or_eq_false_iff, Bool.false_eq_true, and_false, false_and, or_false, false_or, and_true, true_and, not_true_eq_false, not_false_eq_true, true_iff, false_iff, IntKind.wrap_i64] at *
  all_goals first
    | omega
    | skip
set_option maxRecDepth 100000 in
theorem c_l1In (n lo hi : Int) : ∃ b, b = decide (lo ≤ n ∧ n ≤ hi) ∧ Meets Tryz.prog 31 [.c (.d (eI n)), .c (.d (eI lo)), .c (.d (eI hi))] ⟨.one (.c (.d (eB b))), [none, none, none]⟩ := by
  obtain ⟨b, hb⟩ : ∃ b, b = decide (lo ≤ n ∧ n ≤ hi) := ⟨_, rfl⟩
  refine ⟨b, hb, ?_⟩
  refine meets_of (H := []) (EX := EXA) ttok mixed Tryz.func31 rfl (by kernel_rfl) (by decide) ?_
  generalize hA : real = A
  generalize hM : MeetsB Tryz.prog = M
  cbv
  repeat' first
    | apply And.intro
    | exact True.intro
    | with_reducible rfl
    | exact same_of hA rfl
    | refine br_of hA (fun _ => ?_) (fun _ => ?_)
    | exact imp_of hA id
    | (refine imp_of hA ?_; subst hA; simp only [real, Bool.true_and]; exact id)
    | (refine ind_of hA ?_; decide +kernel)
    | fail
  all_goals subst hA
  all_goals refine congrArg (fun b => XA.one (.c (.d (eB b)))) (Bool.eq_iff_iff.2 ?_)
  all_goals subst_vars
  all_goals try simp only [real, bifA, bifB, bifC, bifD, decide_eq_true_eq, decide_eq_false_iff_not, beq_iff_eq, bne_iff_ne, beq_eq_false_iff_ne, bne_eq_false_iff_eq, ne_eq, Bool.and_eq_true, Bool.or_eq_true, Bool.not_eq_true', Bool.not_eq_false', Bool.and_eq_false_iff, Bool.or_eq_false_iff, Bool.false_eq_true, and_false, false_and, or_false, false_or, and_true, true_and, not_true_eq_false, not_false_eq_true, true_iff, false_iff, IntKind.wrap_i64] at *
  all_goals first
    | omega
    | skip
set_option maxRecDepth 100000 in
theorem c_WinOk (s e : Int) : ∃ b, b = decide ((0 ≤ s ∧ s ≤ 60) ∧ IntKind.i64.wrap (s + 1) ≤ e ∧ e ≤ 120) ∧ Meets Tryz.prog 182 [.agg [.d (eI s), .d (eI e)]] ⟨.one (.c (.d (eB b))), [none]⟩ := by
  obtain ⟨b, hb⟩ : ∃ b, b = decide ((0 ≤ s ∧ s ≤ 60) ∧ IntKind.i64.wrap (s + 1) ≤ e ∧ e ≤ 120) := ⟨_, rfl⟩
  refine ⟨b, hb, ?_⟩
  refine meets_of (H := []) (EX := EXA) ttok mixed Tryz.func182 rfl (by kernel_rfl) (by decide) ?_
  generalize hA : real = A
  generalize hM : MeetsB Tryz.prog = M
  cbv
  repeat' first
    | apply And.intro
    | exact True.intro
    | with_reducible rfl
    | exact same_of hA rfl
    | refine br_of hA (fun _ => ?_) (fun _ => ?_)
    | exact imp_of hA id
    | (refine imp_of hA ?_; subst hA; simp only [real, Bool.true_and]; exact id)
    | (refine ind_of hA ?_; decide +kernel)
    | (refine call_ex hA hM (c_in _ _ _) (fun _ _ => ?_); cbv)
    | fail
  all_goals subst hA
  all_goals refine congrArg (fun b => XA.one (.c (.d (eB b)))) (Bool.eq_iff_iff.2 ?_)
  all_goals subst_vars
  all_goals try simp only [real, bifA, bifB, bifC, bifD, decide_eq_true_eq, decide_eq_false_iff_not, beq_iff_eq, bne_iff_ne, beq_eq_false_iff_ne, bne_eq_false_iff_eq, ne_eq, Bool.and_eq_true, Bool.or_eq_true, Bool.not_eq_true', Bool.not_eq_false', Bool.and_eq_false_iff, Bool.or_eq_false_iff, Bool.false_eq_true, and_false, false_and, or_false, false_or, and_true, true_and, not_true_eq_false, not_false_eq_true, true_iff, false_iff, IntKind.wrap_i64] at *
  all_goals first
    | omega
    | skip
set_option maxRecDepth 100000 in
theorem c_sWinOk (s e : Int) : ∃ b, b = decide ((0 ≤ s ∧ s ≤ 60) ∧ IntKind.i64.wrap (s + 1) ≤ e ∧ e ≤ 120) ∧ Meets Tryz.prog 176 [.agg [.d (eI s), .d (eI e)]] ⟨.one (.c (.d (eB b))), [none]⟩ := by
  obtain ⟨b, hb⟩ : ∃ b, b = decide ((0 ≤ s ∧ s ≤ 60) ∧ IntKind.i64.wrap (s + 1) ≤ e ∧ e ≤ 120) := ⟨_, rfl⟩
  refine ⟨b, hb, ?_⟩
  refine meets_of (H := []) (EX := EXA) ttok mixed Tryz.func176 rfl (by kernel_rfl) (by decide) ?_
  generalize hA : real = A
  generalize hM : MeetsB Tryz.prog = M
  cbv
  repeat' first
    | apply And.intro
    | exact True.intro
    | with_reducible rfl
    | exact same_of hA rfl
    | refine br_of hA (fun _ => ?_) (fun _ => ?_)
    | exact imp_of hA id
    | (refine imp_of hA ?_; subst hA; simp only [real, Bool.true_and]; exact id)
    | (refine ind_of hA ?_; decide +kernel)
    | (refine call_ex hA hM (c_l1In _ _ _) (fun _ _ => ?_); cbv)
    | fail
  all_goals subst hA
  all_goals refine congrArg (fun b => XA.one (.c (.d (eB b)))) (Bool.eq_iff_iff.2 ?_)
  all_goals subst_vars
  all_goals try simp only [real, bifA, bifB, bifC, bifD, decide_eq_true_eq, decide_eq_false_iff_not, beq_iff_eq, bne_iff_ne, beq_eq_false_iff_ne, bne_eq_false_iff_eq, ne_eq, Bool.and_eq_true, Bool.or_eq_true, Bool.not_eq_true', Bool.not_eq_false', Bool.and_eq_false_iff, Bool.or_eq_false_iff, Bool.false_eq_true, and_false, false_and, or_false, false_or, and_true, true_and, not_true_eq_false, not_false_eq_true, true_iff, false_iff, IntKind.wrap_i64] at *
  all_goals first
    | omega
    | skip
set_option maxRecDepth 100000 in
theorem c_tells (n : Int) : ∃ b, b = decide (1 ≤ n ∧ n ≤ 4) ∧ Meets Tryz.prog 166 [.c (.d (eI n))] ⟨.one (.c (.d (eB b))), [none]⟩ := by
  obtain ⟨b, hb⟩ : ∃ b, b = decide (1 ≤ n ∧ n ≤ 4) := ⟨_, rfl⟩
  refine ⟨b, hb, ?_⟩
  refine meets_of (H := []) (EX := EXA) ttok mixed Tryz.func166 rfl (by kernel_rfl) (by decide) ?_
  generalize hA : real = A
  generalize hM : MeetsB Tryz.prog = M
  cbv
  repeat' first
    | apply And.intro
    | exact True.intro
    | with_reducible rfl
    | exact same_of hA rfl
    | refine br_of hA (fun _ => ?_) (fun _ => ?_)
    | exact imp_of hA id
    | (refine imp_of hA ?_; subst hA; simp only [real, Bool.true_and]; exact id)
    | (refine ind_of hA ?_; decide +kernel)
    | (refine call_ex hA hM (c_in _ _ _) (fun _ _ => ?_); cbv)
    | fail
  all_goals subst hA
  all_goals refine congrArg (fun b => XA.one (.c (.d (eB b)))) (Bool.eq_iff_iff.2 ?_)
  all_goals subst_vars
  all_goals try simp only [real, bifA, bifB, bifC, bifD, decide_eq_true_eq, decide_eq_false_iff_not, beq_iff_eq, bne_iff_ne, beq_eq_false_iff_ne, bne_eq_false_iff_eq, ne_eq, Bool.and_eq_true, Bool.or_eq_true, Bool.not_eq_true', Bool.not_eq_false', Bool.and_eq_false_iff, Bool.or_eq_false_iff, Bool.false_eq_true, and_false, false_and, or_false, false_or, and_true, true_and, not_true_eq_false, not_false_eq_true, true_iff, false_iff, IntKind.wrap_i64] at *
  all_goals first
    | omega
    | skip
set_option maxRecDepth 100000 in
theorem c_ItmOk (kind t key v n : Int) : ∃ b, b = decide ((kind = 1 ∧ (0 ≤ t ∧ t ≤ 60) ∧ (0 ≤ key ∧ key ≤ 3) ∧ (-9 ≤ v ∧ v ≤ 9) ∧ n = 0) ∨ (kind = 2 ∧ ((1 ≤ t ∧ t ≤ 60) ∨ t = 1000) ∧ key = 0 ∧ v = 0 ∧ n = 0) ∨ (kind = 3 ∧ t = 0 ∧ key = 0 ∧ v = 0 ∧ (1 ≤ n ∧ n ≤ 900))) ∧ Meets Tryz.prog 38 [.agg [.d (eI kind), .d (eI t), .d (eI key), .d (eI v), .d (eI n)]] ⟨.one (.c (.d (eB b))), [none]⟩ := by
  obtain ⟨b, hb⟩ : ∃ b, b = decide ((kind = 1 ∧ (0 ≤ t ∧ t ≤ 60) ∧ (0 ≤ key ∧ key ≤ 3) ∧ (-9 ≤ v ∧ v ≤ 9) ∧ n = 0) ∨ (kind = 2 ∧ ((1 ≤ t ∧ t ≤ 60) ∨ t = 1000) ∧ key = 0 ∧ v = 0 ∧ n = 0) ∨ (kind = 3 ∧ t = 0 ∧ key = 0 ∧ v = 0 ∧ (1 ≤ n ∧ n ≤ 900))) := ⟨_, rfl⟩
  refine ⟨b, hb, ?_⟩
  refine meets_of (H := []) (EX := EXA) ttok mixed Tryz.func38 rfl (by kernel_rfl) (by decide) ?_
  generalize hA : real = A
  generalize hM : MeetsB Tryz.prog = M
  cbv
  repeat' first
    | apply And.intro
    | exact True.intro
    | with_reducible rfl
    | exact same_of hA rfl
    | refine br_of hA (fun _ => ?_) (fun _ => ?_)
    | exact imp_of hA id
    | (refine imp_of hA ?_; subst hA; simp only [real, Bool.true_and]; exact id)
    | (refine ind_of hA ?_; decide +kernel)
    | (refine call_ex hA hM (c_in _ _ _) (fun _ _ => ?_); cbv)
    | fail
  all_goals subst hA
  all_goals refine congrArg (fun b => XA.one (.c (.d (eB b)))) (Bool.eq_iff_iff.2 ?_)
  all_goals subst_vars
  all_goals try simp only [real, bifA, bifB, bifC, bifD, decide_eq_true_eq, decide_eq_false_iff_not, beq_iff_eq, bne_iff_ne, beq_eq_false_iff_ne, bne_eq_false_iff_eq, ne_eq, Bool.and_eq_true, Bool.or_eq_true, Bool.not_eq_true', Bool.not_eq_false', Bool.and_eq_false_iff, Bool.or_eq_false_iff, Bool.false_eq_true, and_false, false_and, or_false, false_or, and_true, true_and, not_true_eq_false, not_false_eq_true, true_iff, false_iff, IntKind.wrap_i64] at *
  all_goals first
    | omega
    | skip
set_option maxRecDepth 100000 in
theorem c_sItmOk (kind t key v n : Int) : ∃ b, b = decide ((kind = 1 ∧ (0 ≤ t ∧ t ≤ 60) ∧ (0 ≤ key ∧ key ≤ 3) ∧ (-9 ≤ v ∧ v ≤ 9) ∧ n = 0) ∨ (kind = 2 ∧ ((1 ≤ t ∧ t ≤ 60) ∨ t = 1000) ∧ key = 0 ∧ v = 0 ∧ n = 0) ∨ (kind = 3 ∧ t = 0 ∧ key = 0 ∧ v = 0 ∧ (1 ≤ n ∧ n ≤ 900))) ∧ Meets Tryz.prog 32 [.agg [.d (eI kind), .d (eI t), .d (eI key), .d (eI v), .d (eI n)]] ⟨.one (.c (.d (eB b))), [none]⟩ := by
  obtain ⟨b, hb⟩ : ∃ b, b = decide ((kind = 1 ∧ (0 ≤ t ∧ t ≤ 60) ∧ (0 ≤ key ∧ key ≤ 3) ∧ (-9 ≤ v ∧ v ≤ 9) ∧ n = 0) ∨ (kind = 2 ∧ ((1 ≤ t ∧ t ≤ 60) ∨ t = 1000) ∧ key = 0 ∧ v = 0 ∧ n = 0) ∨ (kind = 3 ∧ t = 0 ∧ key = 0 ∧ v = 0 ∧ (1 ≤ n ∧ n ≤ 900))) := ⟨_, rfl⟩
  refine ⟨b, hb, ?_⟩
  refine meets_of (H := []) (EX := EXA) ttok mixed Tryz.func32 rfl (by kernel_rfl) (by decide) ?_
  generalize hA : real = A
  generalize hM : MeetsB Tryz.prog = M
  cbv
  repeat' first
    | apply And.intro
    | exact True.intro
    | with_reducible rfl
    | exact same_of hA rfl
    | refine br_of hA (fun _ => ?_) (fun _ => ?_)
    | exact imp_of hA id
    | (refine imp_of hA ?_; subst hA; simp only [real, Bool.true_and]; exact id)
    | (refine ind_of hA ?_; decide +kernel)
    | (refine call_ex hA hM (c_l1In _ _ _) (fun _ _ => ?_); cbv)
    | fail
  all_goals subst hA
  all_goals refine congrArg (fun b => XA.one (.c (.d (eB b)))) (Bool.eq_iff_iff.2 ?_)
  all_goals subst_vars
  all_goals try simp only [real, bifA, bifB, bifC, bifD, decide_eq_true_eq, decide_eq_false_iff_not, beq_iff_eq, bne_iff_ne, beq_eq_false_iff_ne, bne_eq_false_iff_eq, ne_eq, Bool.and_eq_true, Bool.or_eq_true, Bool.not_eq_true', Bool.not_eq_false', Bool.and_eq_false_iff, Bool.or_eq_false_iff, Bool.false_eq_true, and_false, false_and, or_false, false_or, and_true, true_and, not_true_eq_false, not_false_eq_true, true_iff, false_iff, IntKind.wrap_i64] at *
  all_goals first
    | omega
    | skip
set_option maxRecDepth 100000 in
theorem c_JobOk (a b1 kind size step late tell : Int) (p : Bool) (least room : Int) : ∃ b, b = decide ((1 ≤ a ∧ a ≤ 3) ∧ (1 ≤ b1 ∧ b1 ≤ 2) ∧ (1 ≤ kind ∧ kind ≤ 3) ∧ (1 ≤ size ∧ size ≤ 20) ∧ ((kind = 2 ∧ (1 ≤ step ∧ step ≤ size) ∧ size ≤ 4 * step) ∨ (kind ≠ 2 ∧ step = 0)) ∧ (0 ≤ late ∧ late ≤ 20) ∧ (1 ≤ tell ∧ tell ≤ 4) ∧ (-9 ≤ least ∧ least ≤ 9) ∧ (1 ≤ room ∧ room ≤ 4)) ∧ Meets Tryz.prog 125 [.agg [.d (eI a), .d (eI b1), .d (eI kind), .d (eI size), .d (eI step), .d (eI late), .d (eI tell), .d (eB p), .d (eI least), .d (eI room)]] ⟨.one (.c (.d (eB b))), [none]⟩ := by
  obtain ⟨b, hb⟩ : ∃ b, b = decide ((1 ≤ a ∧ a ≤ 3) ∧ (1 ≤ b1 ∧ b1 ≤ 2) ∧ (1 ≤ kind ∧ kind ≤ 3) ∧ (1 ≤ size ∧ size ≤ 20) ∧ ((kind = 2 ∧ (1 ≤ step ∧ step ≤ size) ∧ size ≤ 4 * step) ∨ (kind ≠ 2 ∧ step = 0)) ∧ (0 ≤ late ∧ late ≤ 20) ∧ (1 ≤ tell ∧ tell ≤ 4) ∧ (-9 ≤ least ∧ least ≤ 9) ∧ (1 ≤ room ∧ room ≤ 4)) := ⟨_, rfl⟩
  refine ⟨b, hb, ?_⟩
  refine meets_of (H := []) (EX := EXA) ttok mixed Tryz.func125 rfl (by kernel_rfl) (by decide) ?_
  generalize hA : real = A
  generalize hM : MeetsB Tryz.prog = M
  cbv
  repeat' first
    | apply And.intro
    | exact True.intro
    | with_reducible rfl
    | exact same_of hA rfl
    | refine br_of hA (fun _ => ?_) (fun _ => ?_)
    | exact imp_of hA id
    | (refine imp_of hA ?_; subst hA; simp only [real, Bool.true_and]; exact id)
    | (refine ind_of hA ?_; decide +kernel)
    | (refine call_ex hA hM (c_in _ _ _) (fun _ _ => ?_); cbv)
    | (refine call_ex hA hM (c_tells _) (fun _ _ => ?_); cbv)
    | fail
  all_goals subst hA
  all_goals refine congrArg (fun b => XA.one (.c (.d (eB b)))) (Bool.eq_iff_iff.2 ?_)
  all_goals subst_vars
  all_goals try simp only [real, bifA, bifB, bifC, bifD, decide_eq_true_eq, decide_eq_false_iff_not, beq_iff_eq, bne_iff_ne, beq_eq_false_iff_ne, bne_eq_false_iff_eq, ne_eq, Bool.and_eq_true, Bool.or_eq_true, Bool.not_eq_true', Bool.not_eq_false', Bool.and_eq_false_iff, Bool.or_eq_false_iff, Bool.false_eq_true, and_false, false_and, or_false, false_or, and_true, true_and, not_true_eq_false, not_false_eq_true, true_iff, false_iff, IntKind.wrap_i64] at *
  all_goals first
    | omega
    | skip
set_option maxRecDepth 100000 in
theorem c_sJobOk (a b1 kind size step late tell : Int) (p : Bool) (least room : Int) : ∃ b, b = decide ((1 ≤ a ∧ a ≤ 3) ∧ (1 ≤ b1 ∧ b1 ≤ 2) ∧ (1 ≤ kind ∧ kind ≤ 3) ∧ (1 ≤ size ∧ size ≤ 20) ∧ ((kind = 2 ∧ (1 ≤ step ∧ step ≤ size) ∧ size ≤ 4 * step) ∨ (kind ≠ 2 ∧ step = 0)) ∧ (0 ≤ late ∧ late ≤ 20) ∧ (1 ≤ tell ∧ tell ≤ 4) ∧ (-9 ≤ least ∧ least ≤ 9) ∧ (1 ≤ room ∧ room ≤ 4)) ∧ Meets Tryz.prog 121 [.agg [.d (eI a), .d (eI b1), .d (eI kind), .d (eI size), .d (eI step), .d (eI late), .d (eI tell), .d (eB p), .d (eI least), .d (eI room)]] ⟨.one (.c (.d (eB b))), [none]⟩ := by
  obtain ⟨b, hb⟩ : ∃ b, b = decide ((1 ≤ a ∧ a ≤ 3) ∧ (1 ≤ b1 ∧ b1 ≤ 2) ∧ (1 ≤ kind ∧ kind ≤ 3) ∧ (1 ≤ size ∧ size ≤ 20) ∧ ((kind = 2 ∧ (1 ≤ step ∧ step ≤ size) ∧ size ≤ 4 * step) ∨ (kind ≠ 2 ∧ step = 0)) ∧ (0 ≤ late ∧ late ≤ 20) ∧ (1 ≤ tell ∧ tell ≤ 4) ∧ (-9 ≤ least ∧ least ≤ 9) ∧ (1 ≤ room ∧ room ≤ 4)) := ⟨_, rfl⟩
  refine ⟨b, hb, ?_⟩
  refine meets_of (H := []) (EX := EXA) ttok mixed Tryz.func121 rfl (by kernel_rfl) (by decide) ?_
  generalize hA : real = A
  generalize hM : MeetsB Tryz.prog = M
  cbv
  repeat' first
    | apply And.intro
    | exact True.intro
    | with_reducible rfl
    | exact same_of hA rfl
    | refine br_of hA (fun _ => ?_) (fun _ => ?_)
    | exact imp_of hA id
    | (refine imp_of hA ?_; subst hA; simp only [real, Bool.true_and]; exact id)
    | (refine ind_of hA ?_; decide +kernel)
    | (refine call_ex hA hM (c_l1In _ _ _) (fun _ _ => ?_); cbv)
    | fail
  all_goals subst hA
  all_goals refine congrArg (fun b => XA.one (.c (.d (eB b)))) (Bool.eq_iff_iff.2 ?_)
  all_goals subst_vars
  all_goals try simp only [real, bifA, bifB, bifC, bifD, decide_eq_true_eq, decide_eq_false_iff_not, beq_iff_eq, bne_iff_ne, beq_eq_false_iff_ne, bne_eq_false_iff_eq, ne_eq, Bool.and_eq_true, Bool.or_eq_true, Bool.not_eq_true', Bool.not_eq_false', Bool.and_eq_false_iff, Bool.or_eq_false_iff, Bool.false_eq_true, and_false, false_and, or_false, false_or, and_true, true_and, not_true_eq_false, not_false_eq_true, true_iff, false_iff, IntKind.wrap_i64] at *
  all_goals first
    | omega
    | skip
set_option maxRecDepth 100000 in
theorem c_isTime (n : Int) : ∃ b, b = decide (0 ≤ n ∧ n ≤ 1000) ∧ Meets Tryz.prog 147 [.c (.d (eI n))] ⟨.one (.c (.d (eB b))), [none]⟩ := by
  obtain ⟨b, hb⟩ : ∃ b, b = decide (0 ≤ n ∧ n ≤ 1000) := ⟨_, rfl⟩
  refine ⟨b, hb, ?_⟩
  refine meets_of (H := []) (EX := EXA) ttok mixed Tryz.func147 rfl (by kernel_rfl) (by decide) ?_
  generalize hA : real = A
  generalize hM : MeetsB Tryz.prog = M
  cbv
  repeat' first
    | apply And.intro
    | exact True.intro
    | with_reducible rfl
    | exact same_of hA rfl
    | refine br_of hA (fun _ => ?_) (fun _ => ?_)
    | exact imp_of hA id
    | (refine imp_of hA ?_; subst hA; simp only [real, Bool.true_and]; exact id)
    | (refine ind_of hA ?_; decide +kernel)
    | (refine call_ex hA hM (c_in _ _ _) (fun _ _ => ?_); cbv)
    | fail
  all_goals subst hA
  all_goals refine congrArg (fun b => XA.one (.c (.d (eB b)))) (Bool.eq_iff_iff.2 ?_)
  all_goals subst_vars
  all_goals try simp only [real, bifA, bifB, bifC, bifD, decide_eq_true_eq, decide_eq_false_iff_not, beq_iff_eq, bne_iff_ne, beq_eq_false_iff_ne, bne_eq_false_iff_eq, ne_eq, Bool.and_eq_true, Bool.or_eq_true, Bool.not_eq_true', Bool.not_eq_false', Bool.and_eq_false_iff, Bool.or_eq_false_iff, Bool.false_eq_true, and_false, false_and, or_false, false_or, and_true, true_and, not_true_eq_false, not_false_eq_true, true_iff, false_iff, IntKind.wrap_i64] at *
  all_goals first
    | omega
    | skip
set_option maxRecDepth 100000 in
theorem c_isKey (n : Int) : ∃ b, b = decide (0 ≤ n ∧ n ≤ 3) ∧ Meets Tryz.prog 181 [.c (.d (eI n))] ⟨.one (.c (.d (eB b))), [none]⟩ := by
  obtain ⟨b, hb⟩ : ∃ b, b = decide (0 ≤ n ∧ n ≤ 3) := ⟨_, rfl⟩
  refine ⟨b, hb, ?_⟩
  refine meets_of (H := []) (EX := EXA) ttok mixed Tryz.func181 rfl (by kernel_rfl) (by decide) ?_
  generalize hA : real = A
  generalize hM : MeetsB Tryz.prog = M
  cbv
  repeat' first
    | apply And.intro
    | exact True.intro
    | with_reducible rfl
    | exact same_of hA rfl
    | refine br_of hA (fun _ => ?_) (fun _ => ?_)
    | exact imp_of hA id
    | (refine imp_of hA ?_; subst hA; simp only [real, Bool.true_and]; exact id)
    | (refine ind_of hA ?_; decide +kernel)
    | (refine call_ex hA hM (c_in _ _ _) (fun _ _ => ?_); cbv)
    | fail
  all_goals subst hA
  all_goals refine congrArg (fun b => XA.one (.c (.d (eB b)))) (Bool.eq_iff_iff.2 ?_)
  all_goals subst_vars
  all_goals try simp only [real, bifA, bifB, bifC, bifD, decide_eq_true_eq, decide_eq_false_iff_not, beq_iff_eq, bne_iff_ne, beq_eq_false_iff_ne, bne_eq_false_iff_eq, ne_eq, Bool.and_eq_true, Bool.or_eq_true, Bool.not_eq_true', Bool.not_eq_false', Bool.and_eq_false_iff, Bool.or_eq_false_iff, Bool.false_eq_true, and_false, false_and, or_false, false_or, and_true, true_and, not_true_eq_false, not_false_eq_true, true_iff, false_iff, IntKind.wrap_i64] at *
  all_goals first
    | omega
    | skip
end Go.Rk
