/- The walk over this seat's functions, part 5: what each of them answers, at all data. -/
import Derived.Test.YtmgeaomdilinnaaM1
import Derived.Test.YtmgeaomdilinnaaM2
import Derived.Test.YtmgeaomdilinnaaM3
import Derived.Test.YtmgeaomdilinnaaM4
import Derived.Test.YtmgeaomdilinnaaProg
import Derived.KernelRfl
import Derived.IntWalk
import Derived.Test.YtmgeaomdilinnaaChecked
/- Closing, as a step from state to state. -/
namespace Go.Rk
set_option linter.unusedSimpArgs false
set_option linter.unusedVariables false
def ownAs (so : Nat → Nat × HO) (l v sz n : Nat) (rw : Nat → List DV) : Prop := match so l with
  | (v', .arr sz' n' rw') => v = v' ∧ sz = sz' ∧ n = n' ∧ (∀ i, i < n → rw' i = rw i) ∧ FlatR n rw
  | _ => False
def nestAs (so : Nat → Nat × HO) (l v sz n : Nat) (rw : Nat → List DV) : Prop := match so l with
  | (v', .nest sz' n' rw' none) => v = v' ∧ sz = sz' ∧ n = n' ∧ ∀ i, i < n → NsLe (rw' i) (rw i)
  | _ => False
def dvOk (u : Value) : DV → Prop
  | .v u' => u = u'
  | .sl _ n _ => u = nilS ∧ n = 0
  | _ => False
def zcOk : DV → Prop
  | .sl _ n _ => n = 0
  | _ => False
/-- Cells as a row that owns what they lead to, and the labels that are gone by that. -/
def closeOk (so : Nat → Nat × HO) : List CV → List DV → List (Nat × Nat) → Prop
  | [], [], [] => True
  | x :: r, y :: s, ls => match x with
    | .d (.v u) => dvOk u y ∧ closeOk so r s ls
    | .zc => zcOk y ∧ closeOk so r s ls
    | .own l off len v => match y, ls with
      | .sl sz n rw, p :: ls => (p = (l, v) ∧ off = 0 ∧ len = n ∧ ownAs so l v sz n rw) ∧ closeOk so r s ls
      | _, _ => False
    | .nown l len v => match y, ls with
      | .sl sz n rw, p :: ls => (p = (l, v) ∧ len = n ∧ nestAs so l v sz n rw) ∧ closeOk so r s ls
      | _, _ => False
    | _ => False
  | _, _, _ => False
def deadT (ls : List (Nat × Nat)) : Turns := ls.map fun p => (p.1, (p.2 + 1, .dead), none, [])
def deadO (ls : List (Nat × Nat)) : List (Nat × Nat × HO) := ls.map fun p => (p.1, p.2 + 1, .dead)
theorem usOf_deadT (ls : List (Nat × Nat)) : usOf (deadT ls) = deadO ls := by simp [usOf, deadT, deadO]
theorem blkT_deadT : ∀ ls : List (Nat × Nat), blkT (deadT ls) = []
  | [] => rfl
  | p :: r => by
    show blkP none [] ++ blkT (deadT r) = []
    rw [blkT_deadT r]; rfl
theorem hasLab_deadO {ls : List (Nat × Nat)} {l : Nat} (h : hasLab (deadO ls) l = true) : ∃ p ∈ ls, p.1 = l := by
  obtain ⟨q, hq, e⟩ := hasLab_iff.1 h
  obtain ⟨p, hp, rfl⟩ := List.mem_map.1 hq
  exact ⟨p, hp, e⟩
theorem nodup_deadO : ∀ {ls : List (Nat × Nat)}, (ls.map (·.1)).Nodup → nodupL (deadO ls) = true
  | [], _ => rfl
  | p :: r, h => by
    simp only [List.map_cons, List.nodup_cons] at h
    show nodupL ((p.1, p.2 + 1, HO.dead) :: deadO r) = true
    unfold nodupL
    cases hb : hasLab (deadO r) p.1 with
    | true => obtain ⟨q, hq, e⟩ := hasLab_deadO hb; exact (h.1 (List.mem_map.2 ⟨q, hq, e⟩)).elim
    | false => exact nodup_deadO h.2
section
variable {w0 : World} {S : Sets} {nt : Nat} {slots : List (Nat × AV)} {σ : Objs} {a : Act} {w : World} {μ : Place}
theorem close_rep (R : RelM w0 S nt (lookS slots) σ a w μ) : ∀ {cells : List CV} {ds : List DV} {ls : List (Nat × Nat)} {vs : List Value}, closeOk σ cells ds ls → CsRep σ μ w (Nof S σ μ w) cells vs → (ls.map (·.1)).Nodup →
    ds.length = cells.length ∧ (∀ p ∈ ls, Valid σ p) ∧ ∃ G : Nat → Nat → Prop, (∀ (j : Nat) y u, ds[j]? = some y → vs[j]? = some u → NRep w y u (G j)) ∧ (∀ k, k ∈ blk μ ls ↔ ∃ j, j < ds.length ∧ G j k) ∧
      ∀ j j' k, j < ds.length → j' < ds.length → G j k → G j' k → j = j'
  | [], [], [], [], _, _, _ => ⟨rfl, fun p hp => by simp at hp, fun _ _ => False, fun j y u h => by simp at h, fun k => ⟨fun h => by simp [blk] at h, fun ⟨_, h, _⟩ => by simp at h⟩, fun _ _ _ h => by simp at h⟩
  | [], [], [], _ :: _, _, h, _ => h.elim
  | [], [], _ :: _, _, h, _, _ => h.elim
  | [], _ :: _, _, _, h, _, _ => h.elim
  | _ :: _, [], _, _, h, _, _ => h.elim
  | _ :: _, _ :: _, _, [], _, h, _ => h.elim
  | x :: r, y :: s, ls, v :: vs, hc, hv, hn => by
    -- the head owns nothing
    have data : closeOk σ r s ls → NRep w y v (fun _ => False) → (y :: s).length = (x :: r).length ∧ (∀ p ∈ ls, Valid σ p) ∧ ∃ G : Nat → Nat → Prop, (∀ (j : Nat) z u, (y :: s)[j]? = some z → (v :: vs)[j]? = some u → NRep w z u (G j)) ∧ (∀ k, k ∈ blk μ ls ↔ ∃ j, j < (y :: s).length ∧ G j k) ∧
        ∀ j j' k, j < (y :: s).length → j' < (y :: s).length → G j k → G j' k → j = j' := fun h0 hy => by
      obtain ⟨g0, g1, G, g2, g3, g4⟩ := close_rep R h0 hv.2 hn
      refine ⟨by simp [g0], g1, fun j k => match j with | 0 => False | j + 1 => G j k, fun j z u hz hu => ?_, fun k => (g3 k).trans ⟨fun ⟨j, h1, h2⟩ => ⟨j + 1, by simp; omega, h2⟩, fun ⟨j, h1, h2⟩ => ?_⟩, fun j j' k h1 h2 h3 h4 => ?_⟩
      · cases j with
        | zero => simp at hz hu; subst hz hu; exact hy
        | succ j => exact g2 j z u (by simpa using hz) (by simpa using hu)
      · cases j with
        | zero => exact h2.elim
        | succ j => exact ⟨j, by simp at h1; omega, h2⟩
      · cases j with
        | zero => exact h3.elim
        | succ j => cases j' with
          | zero => exact h4.elim
          | succ j' => rw [g4 j j' k (by simp at h1; omega) (by simp at h2; omega) h3 h4]
    -- the head is a label's
    have lab : ∀ (p : Nat × Nat) (ls' : List (Nat × Nat)), ls = p :: ls' → closeOk σ r s ls' → Valid σ p → NRep w y v (fun k => k ∈ blk μ [p]) → (y :: s).length = (x :: r).length ∧ (∀ p ∈ ls, Valid σ p) ∧ ∃ G : Nat → Nat → Prop, (∀ (j : Nat) z u, (y :: s)[j]? = some z → (v :: vs)[j]? = some u → NRep w z u (G j)) ∧ (∀ k, k ∈ blk μ ls ↔ ∃ j, j < (y :: s).length ∧ G j k) ∧
        ∀ j j' k, j < (y :: s).length → j' < (y :: s).length → G j k → G j' k → j = j' := fun p ls' e h0 hp hy => by
      subst e
      simp only [List.map_cons, List.nodup_cons] at hn
      obtain ⟨g0, g1, G, g2, g3, g4⟩ := close_rep R h0 hv.2 hn.2
      have hsep : ∀ k, k ∈ blk μ [p] → k ∈ blk μ ls' → False := fun k h1 h2 => by
        obtain ⟨q1, hq1, hm1⟩ := blk_mem h1
        obtain ⟨q2, hq2, hm2⟩ := blk_mem h2
        simp at hq1; subst hq1
        have := R.injH q1.1 q2.1 k hp.1 (g1 q2 hq2).1 hm1 hm2
        exact hn.1 (List.mem_map.2 ⟨q2, hq2, this.symm⟩)
      refine ⟨by simp [g0], fun q hq => ?_, fun j k => match j with | 0 => k ∈ blk μ [p] | j + 1 => G j k, fun j z u hz hu => ?_, fun k => ?_, fun j j' k h1 h2 h3 h4 => ?_⟩
      · rcases List.mem_cons.1 hq with rfl | hq
        · exact hp
        · exact g1 q hq
      · cases j with
        | zero => simp at hz hu; subst hz hu; exact hy
        | succ j => exact g2 j z u (by simpa using hz) (by simpa using hu)
      · have e : blk μ (p :: ls') = blk μ [p] ++ blk μ ls' := blk_append μ [p] ls'
        rw [e, List.mem_append, g3]
        constructor
        · rintro (h | ⟨j, h1, h2⟩)
          · exact ⟨0, by simp, h⟩
          · exact ⟨j + 1, by simp; omega, h2⟩
        · rintro ⟨j, h1, h2⟩
          cases j with
          | zero => exact .inl h2
          | succ j => exact .inr ⟨j, by simp at h1; omega, h2⟩
      · cases j with
        | zero => cases j' with
          | zero => rfl
          | succ j' => exact (hsep k h3 ((g3 k).2 ⟨j', by simp at h2; omega, h4⟩)).elim
        | succ j => cases j' with
          | zero => exact (hsep k h4 ((g3 k).2 ⟨j, by simp at h1; omega, h3⟩)).elim
          | succ j' => rw [g4 j j' k (by simp at h1; omega) (by simp at h2; omega) h3 h4]
    have hv1 := hv.1
    cases x with
    | d d =>
      cases d with
      | v u =>
        obtain ⟨h1, h2⟩ : dvOk u y ∧ closeOk σ r s ls := hc
        refine data h2 ?_
        cases hv1 with
        | v _ hone =>
          cases y with
          | v u' => have h1 : _ = u' := h1; subst h1; exact .v _ _ hone fun _ h => h
          | sl sz n rw => obtain ⟨e1, e2⟩ : v = nilS ∧ n = 0 := h1; subst e1; subst e2; exact .nil _ _ _ _ fun _ h => h
          | p _ => exact h1.elim
          | fn _ _ => exact h1.elim
      | _ => exact (show False from hc).elim
    | zc =>
      obtain ⟨h1, h2⟩ : zcOk y ∧ closeOk σ r s ls := hc
      refine data h2 ?_
      obtain ⟨ad, rfl⟩ := hv1
      cases y with
      | sl sz n rw => have h1 : n = 0 := h1; subst h1; exact .nil _ _ _ _ fun _ h => h
      | _ => exact h1.elim
    | own l off len ver =>
      cases y with
      | sl sz n rw =>
        cases ls with
        | nil => exact (show False from hc).elim
        | cons p ls' =>
          obtain ⟨⟨rfl, rfl, rfl, h3⟩, h2⟩ : (p = (l, ver) ∧ off = 0 ∧ len = n ∧ ownAs σ l ver sz n rw) ∧ closeOk σ r s ls' := hc
          unfold ownAs at h3
          split at h3
          · rename_i v' sz' n' rw' hσ
            obtain ⟨rfl, rfl, rfl, hrw, hfl⟩ := h3
            refine lab _ _ rfl h2 ⟨by simp [live, hσ], by simp [hσ]⟩ ?_
            have := own_whole R hσ hv1 (N := Nof S σ μ w) fun _ h => h
            exact (this.rows hrw).nrep hfl
          · exact h3.elim
      | _ => exact (show False from hc).elim
    | nown l len ver =>
      cases y with
      | sl sz n rw =>
        cases ls with
        | nil => exact (show False from hc).elim
        | cons p ls' =>
          obtain ⟨⟨rfl, rfl, h3⟩, h2⟩ : (p = (l, ver) ∧ len = n ∧ nestAs σ l ver sz n rw) ∧ closeOk σ r s ls' := hc
          unfold nestAs at h3
          split at h3
          · rename_i v' sz' n' rw' hσ
            obtain ⟨rfl, rfl, rfl, hrw⟩ := h3
            refine lab _ _ rfl h2 ⟨by simp [live, hσ], by simp [hσ]⟩ ?_
            exact nle_sl hrw _ _ _ (nest_whole R hσ hv1).2.1
          · exact h3.elim
      | _ => exact (show False from hc).elim
    | _ => exact (show False from hc).elim
end
theorem cov_close {fr : Bool} {nt : Nat} {σ τ : St} (l : Nat) (row' : Nat → List DV) (ds : List DV) (ls : List (Nat × Nat)) {ver sz n x : Nat} {row : Nat → List DV} {cells : List CV} (ho : lookO σ.objs l = (ver, .nest sz n row (some (x, cells))))
    (hc : closeOk σ.o cells ds ls) (hd : exOk ((l, ver) :: ls) [] = true) (h1 : row' x = ds) (h2 : ∀ i, i < n → i ≠ x → row' i = row i)
    (h : CovG fr nt ⟨σ.slots, ((l, ver, .nest sz n row' none) :: deadO ls) ++ σ.objs⟩ τ) : CovG fr nt σ τ := by
  refine cov_trans ?_ h
  rintro w0 S a w hfo ⟨μ, R⟩
  have hσ : σ.o l = (ver, .nest sz n row (some (x, cells))) := ho
  have hlv : live σ.o l := by simp [live, hσ]
  have ob := R.objs l
  rw [hσ] at ob
  rcases ob with ⟨_, _, h0, _⟩ | ⟨b, base, cs, e, hμ, hb, hsz, ⟨k0, G, k1, k2, k3⟩, hkb, hknd, hfoc⟩
  · cases h0
  have k2 : ∀ k, k ∈ μ.k l ↔ ∃ i j, i < n ∧ ¬ isFoc (some (x, cells)) i ∧ j < sz ∧ G i j k := k2
  obtain ⟨hx, hcl, hcs⟩ := hfoc _ _ rfl
  obtain ⟨hnd0, _⟩ := exOk_spec hd
  have hnd0 : (l :: ls.map (·.1)).Nodup := hnd0
  rw [List.nodup_cons] at hnd0
  have hff : ∀ i, isFoc (some (x, cells)) i ↔ i = x := fun i => ⟨fun ⟨c, hc⟩ => by simp at hc; exact hc.1.symm, fun e => ⟨cells, by rw [e]⟩⟩
  have hnf : ∀ k, ¬ isFoc none k := fun k ⟨c, hc⟩ => by cases hc
  let us : List Value := (List.range sz).map fun j => cs.getD (base + x * sz + j) undef
  have husg : ∀ (j : Nat) y, cells[j]? = some y → ∃ u, us[j]? = some u ∧ CRep σ.o μ w (Nof S σ.o μ w) y u := fun j y hj => by
    obtain ⟨u, hu, hc⟩ := hcs j y hj
    have hjl : j < sz := by rw [← hcl]; exact (List.getElem?_eq_some_iff.1 hj).1
    exact ⟨u, by simp [us, hjl, Array.getD_eq_getD_getElem?, hu], hc⟩
  have hus : CsRep σ.o μ w (Nof S σ.o μ w) cells us := CsRep.of_get (by simp [us, hcl]) husg
  obtain ⟨c0, c1, Gx, c2, c3, c4⟩ := close_rep R hc hus hnd0.2
  have hdl : ds.length = sz := by rw [c0, hcl]
  have husv : ∀ j, j < sz → ∃ u, us[j]? = some u ∧ cs[base + x * sz + j]? = some u := fun j hj => by
    obtain ⟨u, hu, _⟩ := hcs j _ (List.getElem?_eq_getElem (by omega))
    exact ⟨u, by simp [us, hj, Array.getD_eq_getD_getElem?, hu], hu⟩
  have hsepl : ∀ k, k ∈ blk μ ls → k ≠ b ∧ k ∉ μ.k l := fun k hk => by
    obtain ⟨p, hp, hm⟩ := blk_mem hk
    have hno : ¬ Has μ l k := fun hm' => by
      have := R.injH p.1 l k (c1 p hp).1 hlv hm hm'
      exact hnd0.1 (List.mem_map.2 ⟨p, hp, this⟩)
    exact ⟨fun e => hno (.inl ⟨base, by rw [e]; exact hμ⟩), fun h => hno (.inr h)⟩
  let ks : List Nat := μ.k l ++ blk μ ls
  let t0 : Nat × (Nat × HO) × Option (Nat × Nat) × List Nat := (l, (ver, .nest sz n row' none), some (b, base), ks)
  have hus' : usOf (t0 :: deadT ls) = (l, ver, .nest sz n row' none) :: deadO ls := by rw [← usOf_deadT]; rfl
  have hnd : nodupL (usOf (t0 :: deadT ls)) = true := by
    rw [hus']
    unfold nodupL
    cases hb : hasLab (deadO ls) l with
    | true => obtain ⟨q, hq, e⟩ := hasLab_deadO hb; exact (hnd0.1 (List.mem_map.2 ⟨q, hq, e⟩)).elim
    | false => exact nodup_deadO hnd0.2
  have hblk0 : ∀ k, k ∈ blk μ ((l, ver) :: ls) ↔ (k = b ∨ k ∈ μ.k l) ∨ k ∈ blk μ ls := fun k => by
    have e : blk μ ((l, ver) :: ls) = blk μ [(l, ver)] ++ blk μ ls := blk_append μ [(l, ver)] ls
    rw [e, List.mem_append, blk_one]
    show k ∈ blkP (μ l) (μ.k l) ∨ _ ↔ _
    rw [mem_blkP, hμ]
    constructor
    · rintro ((⟨_, e⟩ | h) | h)
      · simp at e; exact .inl (.inl e.1.symm)
      · exact .inl (.inr h)
      · exact .inr h
    · rintro ((rfl | h) | h)
      · exact .inl (.inl ⟨base, rfl⟩)
      · exact .inl (.inr h)
      · exact .inr h
  have hblkT : blkT (t0 :: deadT ls) = b :: ks := by
    have : blkT (t0 :: deadT ls) = blkP (some (b, base)) ks ++ blkT (deadT ls) := rfl
    rw [this, blkT_deadT]; simp [blkP]
  have hvex : ∀ p ∈ (l, ver) :: ls, Valid σ.o p := fun p hp => by
    rcases List.mem_cons.1 hp with rfl | hp
    · exact ⟨hlv, by rw [hσ]⟩
    · exact c1 p hp
  have hksn : ks.Nodup := List.nodup_append.2 ⟨hknd, blk_nodup R hnd0.2 c1, fun k hk k' hk' e => by subst e; exact (hsepl k hk').2 hk⟩
  obtain ⟨q1, q2, q3⟩ := R.turned (w' := w) (τ := t0 :: deadT ls) (ex := (l, ver) :: ls) (gone := []) (F' := b :: ks) hnd hvex
    (fun t ht => by
      rcases List.mem_cons.1 ht with rfl | ht
      · exact ⟨fun h => (nomatch h), .inr ⟨by rw [hσ], hμ.symm, fun _ h => (nomatch h), fun _ _ _ h => (nomatch h), fun sz' n' r' foc' h => by simp [t0] at h; obtain ⟨rfl, rfl, _⟩ := h; exact ⟨row, _, by rw [hσ]⟩⟩⟩
      · obtain ⟨p, hp, rfl⟩ := List.mem_map.1 ht
        refine ⟨fun _ => rfl, .inl ?_⟩
        have := (c1 p hp).2
        simp only
        omega)
    (fun p hp => by
      rw [List.append_nil] at hp
      rcases List.mem_cons.1 hp with rfl | hp
      · exact ⟨t0, by simp, rfl⟩
      · exact ⟨(p.1, (p.2 + 1, .dead), none, []), List.mem_cons_of_mem _ (List.mem_map.2 ⟨p, hp, rfl⟩), rfl⟩)
    ⟨rfl, rfl, rfl⟩ (Nat.le_refl _) (fun _ _ _ => rfl) (fun b cs e fr hb => ⟨cs, hb, rfl⟩)
    (fun k hk => by
      have hin : k ∈ blk μ ((l, ver) :: ls) := by
        rw [hblk0]
        simp only [List.mem_cons, ks, List.mem_append] at hk
        rcases hk with rfl | hk | hk
        · exact .inl (.inl rfl)
        · exact .inl (.inr hk)
        · exact .inr hk
      obtain ⟨p, hp, hm⟩ := blk_mem hin
      exact ⟨(R.ownH p.1 k (hvex p hp).1 hm).1, .inl hin⟩)
    (by
      rw [List.nodup_cons]
      refine ⟨fun hm => ?_, hksn⟩
      rcases List.mem_append.1 hm with hm | hm
      · exact hkb hm
      · exact (hsepl b hm).1 rfl)
    hblkT
    (fun N' hN' hf t ht => by
      rcases List.mem_cons.1 ht with rfl | ht
      · obtain ⟨f1, f2, f3⟩ := hf t0 (by simp)
        let G' : Nat → Nat → Nat → Prop := fun i j k => (i = x ∧ Gx j k) ∨ (i ≠ x ∧ G i j k)
        have hrow : ∀ i, i < n → (row' i).length = sz := fun i hi => by
          by_cases ei : i = x
          · rw [ei, h1, hdl]
          · rw [h2 i hi ei]; exact k0 i hi fun h => ei ((hff i).1 h)
        refine .inr ⟨b, base, cs, e, f2, hb, hsz, ⟨fun i hi _ => hrow i hi, G', fun i j y hi _ hj => ?_, fun k => ?_, fun i j i' j' k g1 _ g3 g4 _ g6 g7 g8 => ?_⟩, by
            rw [f3]
            intro hm
            rcases List.mem_append.1 hm with hm | hm
            · exact hkb hm
            · exact (hsepl b hm).1 rfl, by rw [f3]; exact hksn, fun i cells hfc => by cases hfc⟩
        · by_cases ei : i = x
          · subst ei
            rw [h1] at hj
            have hjl : j < sz := by rw [← hdl]; exact (List.getElem?_eq_some_iff.1 hj).1
            obtain ⟨u, hu1, hu2⟩ := husv j hjl
            exact ⟨u, hu2, (c2 j y u hj hu1).eqv fun k => ⟨fun h => h.elim (fun h => h.2) fun h => (h.1 rfl).elim, fun h => .inl ⟨rfl, h⟩⟩⟩
          · rw [h2 i hi ei] at hj
            obtain ⟨u, hu, hd⟩ := k1 i j y hi (fun h => ei ((hff i).1 h)) hj
            exact ⟨u, hu, hd.eqv fun k => ⟨fun h => h.elim (fun h => (ei h.1).elim) fun h => h.2, fun h => .inr ⟨ei, h⟩⟩⟩
        · show k ∈ (placeT μ (t0 :: deadT ls)).k l ↔ _
          rw [f3]
          show k ∈ μ.k l ++ blk μ ls ↔ _
          rw [List.mem_append, k2, c3]
          constructor
          · rintro (⟨i, j, g1, g0, g2, g3⟩ | ⟨j, g1, g2⟩)
            · exact ⟨i, j, g1, hnf i, g2, .inr ⟨fun e => g0 ((hff i).2 e), g3⟩⟩
            · exact ⟨x, j, hx, hnf x, by omega, .inl ⟨rfl, g2⟩⟩
          · rintro ⟨i, j, g1, _, g2, ⟨rfl, g3⟩ | ⟨g3, g4⟩⟩
            · exact .inr ⟨j, by omega, g3⟩
            · exact .inl ⟨i, j, g1, fun h => g3 ((hff i).1 h), g2, g4⟩
        · rcases g7 with ⟨rfl, g7⟩ | ⟨n7, g7⟩ <;> rcases g8 with ⟨rfl, g8⟩ | ⟨n8, g8⟩
          · exact ⟨rfl, c4 j j' k (by omega) (by omega) g7 g8⟩
          · exact ((hsepl k ((c3 k).2 ⟨j, by omega, g7⟩)).2 ((k2 k).2 ⟨i', j', g4, fun h => n8 ((hff i').1 h), g6, g8⟩)).elim
          · exact ((hsepl k ((c3 k).2 ⟨j', by omega, g8⟩)).2 ((k2 k).2 ⟨i, j, g1, fun h => n7 ((hff i).1 h), g3, g7⟩)).elim
          · exact k3 i j i' j' k g1 (fun h => n7 ((hff i).1 h)) g3 g4 (fun h => n8 ((hff i').1 h)) g6 g7 g8
      · obtain ⟨p, hp, rfl⟩ := List.mem_map.1 ht
        trivial)
  refine ⟨placeT μ (t0 :: deadT ls), ?_⟩
  have eo : St.o ⟨σ.slots, ((l, ver, .nest sz n row' none) :: deadO ls) ++ σ.objs⟩ = putO σ.o (usOf (t0 :: deadT ls)) := by
    show lookO (_ ++ σ.objs) = _
    rw [lookO_app, hus']; rfl
  rw [eo]
  exact q3
end Go.Rk
/- A slice with no room, taken as a nest from here on. -/
namespace Go.Rk
set_option linter.unusedSimpArgs false
set_option linter.unusedVariables false
theorem cov_promCN {fr : Bool} {nt : Nat} {σ τ : St} (l L ver sz : Nat) (row : Nat → List DV) {v : Nat} (xs ys : List CV) (ho : lookO σ.objs l = (v, .box (xs ++ .d (.v nilS) :: ys))) (hne : nbeq L l = false) (hv : nblt (σ.o L).1 ver = true)
    (h : CovG fr nt ⟨σ.slots, (l, v, .box (xs ++ .nown L 0 ver :: ys)) :: (L, ver, .nest sz 0 row none) :: σ.objs⟩ τ) : CovG fr nt σ τ := by
  refine cov_trans ?_ h
  rintro w0 S a w hfo ⟨μ, R⟩
  have hne : L ≠ l := fun e => by subst e; simp at hne
  obtain ⟨st, R'⟩ := R.bare L ver (by simpa [nblt_eq] using hv) (.nest sz 0 row none) (.inr (.inr ⟨_, _, rfl⟩))
  have eo : St.o ⟨σ.slots, (l, v, .box (xs ++ .nown L 0 ver :: ys)) :: (L, ver, .nest sz 0 row none) :: σ.objs⟩ = updO (updO σ.o L (ver, .nest sz 0 row none)) l (v, .box (xs ++ .nown L 0 ver :: ys)) := by
    show lookO ((l, v, .box (xs ++ .nown L 0 ver :: ys)) :: (L, ver, .nest sz 0 row none) :: σ.objs) = _
    rw [lookO_upd, lookO_upd]; rfl
  refine ⟨updP μ L none, ?_⟩
  rw [eo]
  generalize hσ' : updO σ.o L (ver, .nest sz 0 row none) = σ' at R' st ⊢
  generalize hμ' : updP μ L none = μ' at R' st ⊢
  have hl : σ' l = (v, .box (xs ++ .d (.v nilS) :: ys)) := by rw [← hσ', updO_ne _ _ hne.symm]; exact ho
  have hL : σ' L = (ver, .nest sz 0 row none) := by rw [← hσ']; exact updO_same _ _ _
  have hlive : ∀ k, live (updO σ' l (v, .box (xs ++ .nown L 0 ver :: ys))) k → live σ' k := fun k hk => by
    by_cases e : k = l
    · subst e; unfold live; rw [hl]; exact HO.noConfusion
    · unfold live at hk ⊢; rwa [updO_ne _ _ e] at hk
  have hst : Step S σ' (updO σ' l (v, .box (xs ++ .nown L 0 ver :: ys))) μ' μ' w w := by
    refine ⟨Nat.le_refl _, fun b hb => ⟨rfl, hb.1, hb.2.1, fun k hk => hb.2.2 k (hlive k hk)⟩, fun k => ?_⟩
    right
    by_cases e : k = l
    · subst e
      rw [updO_same]
      exact ⟨by rw [hl], rfl, fun c _ => ⟨_, by rw [hl]⟩, fun sz n row hr => (nomatch hr), fun sz n row foc hr => (nomatch hr), fun b base cs e' hm hex hb => ⟨cs, hb, rfl⟩⟩
    · rw [updO_ne _ _ e]
      exact ⟨rfl, rfl, fun c hc => ⟨c, hc⟩, fun sz n row hr => ⟨n, row, hr, Nat.le_refl _⟩, fun sz n row foc hr => ⟨row, foc, hr⟩, fun b base cs' e' hm _ hb => ⟨cs', hb, rfl⟩⟩
  refine R'.carry hst ⟨rfl, rfl, rfl⟩ (fun _ _ _ => rfl) (fun b cs e fr hb => ⟨cs, hb, rfl⟩) (fun k b hk hm => R'.ownH k b (hlive k hk) hm) (fun k k' b hk hk' hm hm' => R'.injH k k' b (hlive k hk) (hlive k' hk') hm hm') (fun k hk hn => R'.kz k (hlive k hk) ?_) (fun k => ?_)
  · by_cases e : k = l
    · subst e; rw [hl]; rfl
    · rw [updO_ne _ _ e] at hn; exact hn
  by_cases e : k = l
  · right
    subst e
    rw [updO_same]
    have hr := R'.objs k
    rw [hl] at hr
    obtain ⟨b, cs, e, h1, h2, h3⟩ := hr
    refine ⟨b, cs, e, h1, h2, CsRep.mid (fun u hu => ?_) (h3.step hst)⟩
    have hu : DRep w _ (.v nilS) u := hu
    cases hu
    refine ⟨rfl, by rw [updO_ne _ _ hne, hL]; exact Nat.le_refl _, fun sz' n row' foc' e => ?_⟩
    rw [updO_ne _ _ hne, hL] at e
    cases e
    exact ⟨rfl, .inl ⟨by rw [← hμ']; exact updP_same _ _ _, rfl, _, rfl⟩⟩
  · left
    exact ⟨updO_ne _ _ e, rfl, rfl, fun _ _ _ => rfl⟩
end Go.Rk
/- Small helps for nests: how a row's cells close; rows of values. -/
namespace Go.Rk
set_option linter.unusedSimpArgs false
set_option linter.unusedVariables false
theorem close_end {so : Nat → Nat × HO} : closeOk so [] [] [] := trivial
theorem close_v {so : Nat → Nat × HO} {u : Value} {r : List CV} {s : List DV} {ls : List (Nat × Nat)} (h : closeOk so r s ls) : closeOk so (.d (.v u) :: r) (.v u :: s) ls := ⟨rfl, h⟩
theorem close_nil {so : Nat → Nat × HO} {sz : Nat} {rw : Nat → List DV} {r : List CV} {s : List DV} {ls : List (Nat × Nat)} (h : closeOk so r s ls) : closeOk so (.d (.v nilS) :: r) (.sl sz 0 rw :: s) ls := ⟨⟨rfl, rfl⟩, h⟩
theorem close_own {so : Nat → Nat × HO} {l v sz n : Nat} {rw rw' : Nat → List DV} {r : List CV} {s : List DV} {ls : List (Nat × Nat)} (ho : so l = (v, .arr sz n rw')) (he : ∀ i, i < n → rw' i = rw i) (hf : FlatR n rw) (h : closeOk so r s ls) :
    closeOk so (.own l 0 n v :: r) (.sl sz n rw :: s) ((l, v) :: ls) := by
  refine ⟨⟨rfl, rfl, rfl, ?_⟩, h⟩
  unfold ownAs
  rw [ho]
  exact ⟨rfl, rfl, rfl, he, hf⟩
def FlatL : List DV → Prop
  | [] => True
  | x :: r => (∃ u, x = .v u) ∧ FlatL r
theorem flatL {l : List DV} (h : FlatL l) : ∀ x, x ∈ l → ∃ u, x = .v u := by
  induction l with
  | nil => intro x hx; simp at hx
  | cons y r ih =>
    intro x hx
    rcases List.mem_cons.1 hx with rfl | hx
    · exact h.1
    · exact ih h.2 x hx
theorem flatR {n : Nat} {row : Nat → List DV} (h : ∀ i, FlatL (row i)) : FlatR n row := fun i _ => flatL (h i)
end Go.Rk
/- The types of this program, as the walk asks them. -/
namespace Go.Rk
set_option linter.unusedSimpArgs false
set_option linter.unusedVariables false
open Go.Proofs
def ti3 : TI := { desc := TypeDesc.int IntKind.i64, size := 1, bytes := 8, zero := [Value.int IntKind.i64 0], eqk := false }
def ti4 : TI := { desc := TypeDesc.bool, size := 1, bytes := 1, zero := [Value.bool false], eqk := false }
def ti5 : TI := { desc := TypeDesc.int IntKind.u8, size := 1, bytes := 1, zero := [Value.int IntKind.u8 0], eqk := false }
def ti23 : TI := { desc := TypeDesc.struct #[{ name := "Sources", type := 3, offset := 0, embedded := false, tag := "", pkgPath := "", byteOffset := 0 }, { name := "Tasks", type := 3, offset := 1, embedded := false, tag := "", pkgPath := "", byteOffset := 8 }, { name := "Kind", type := 3, offset := 2, embedded := false, tag := "", pkgPath := "", byteOffset := 16 }, { name := "Size", type := 3, offset := 3, embedded := false, tag := "", pkgPath := "", byteOffset := 24 }, { name := "Step", type := 3, offset := 4, embedded := false, tag := "", pkgPath := "", byteOffset := 32 }, { name := "Late", type := 3, offset := 5, embedded := false, tag := "", pkgPath := "", byteOffset := 40 }, { name := "Tell", type := 3, offset := 6, embedded := false, tag := "", pkgPath := "", byteOffset := 48 }, { name := "Piece", type := 4, offset := 7, embedded := false, tag := "", pkgPath := "", byteOffset := 56 }, { name := "Least", type := 3, offset := 8, embedded := false, tag := "", pkgPath := "", byteOffset := 64 }, { name := "Room", type := 3, offset := 9, embedded := false, tag := "", pkgPath := "", byteOffset := 72 }], size := 10, bytes := 80, zero := [Value.int IntKind.i64 0, Value.int IntKind.i64 0, Value.int IntKind.i64 0, Value.int IntKind.i64 0, Value.int IntKind.i64 0, Value.int IntKind.i64 0, Value.int IntKind.i64 0, Value.bool false, Value.int IntKind.i64 0, Value.int IntKind.i64 0], eqk := true }
def ti24 : TI := { desc := TypeDesc.slice 114, size := 1, bytes := 24, zero := [Value.slice none 0 0], eqk := false }
def ti26 : TI := { desc := TypeDesc.struct #[{ name := "Mark", type := 3, offset := 0, embedded := false, tag := "", pkgPath := "", byteOffset := 0 }, { name := "Rows", type := 24, offset := 1, embedded := false, tag := "", pkgPath := "", byteOffset := 8 }], size := 2, bytes := 32, zero := [Value.int IntKind.i64 0, Value.slice none 0 0], eqk := false }
def ti27 : TI := { desc := TypeDesc.slice 3, size := 1, bytes := 24, zero := [Value.slice none 0 0], eqk := false }
def ti29 : TI := { desc := TypeDesc.slice 75, size := 1, bytes := 24, zero := [Value.slice none 0 0], eqk := false }
def ti30 : TI := { desc := TypeDesc.slice 106, size := 1, bytes := 24, zero := [Value.slice none 0 0], eqk := false }
def ti32 : TI := { desc := TypeDesc.struct #[{ name := "Mark", type := 3, offset := 0, embedded := false, tag := "", pkgPath := "", byteOffset := 0 }, { name := "Rows", type := 30, offset := 1, embedded := false, tag := "", pkgPath := "", byteOffset := 8 }], size := 2, bytes := 32, zero := [Value.int IntKind.i64 0, Value.slice none 0 0], eqk := false }
def ti33 : TI := { desc := TypeDesc.slice 154, size := 1, bytes := 24, zero := [Value.slice none 0 0], eqk := false }
def ti34 : TI := { desc := TypeDesc.slice 159, size := 1, bytes := 24, zero := [Value.slice none 0 0], eqk := false }
def ti36 : TI := { desc := TypeDesc.struct #[{ name := "N", type := 3, offset := 0, embedded := false, tag := "", pkgPath := "", byteOffset := 0 }, { name := "Panes", type := 33, offset := 1, embedded := false, tag := "", pkgPath := "", byteOffset := 8 }, { name := "Lates", type := 34, offset := 2, embedded := false, tag := "", pkgPath := "", byteOffset := 32 }], size := 3, bytes := 56, zero := [Value.int IntKind.i64 0, Value.slice none 0 0, Value.slice none 0 0], eqk := false }
def ti38 : TI := { desc := TypeDesc.struct #[{ name := "Ins", type := 29, offset := 0, embedded := false, tag := "", pkgPath := "", byteOffset := 0 }, { name := "Op", type := 32, offset := 1, embedded := false, tag := "", pkgPath := "", byteOffset := 24 }, { name := "Wall", type := 3, offset := 3, embedded := false, tag := "", pkgPath := "", byteOffset := 56 }, { name := "Pend", type := 36, offset := 4, embedded := false, tag := "", pkgPath := "", byteOffset := 64 }], size := 7, bytes := 120, zero := [Value.slice none 0 0, Value.int IntKind.i64 0, Value.slice none 0 0, Value.int IntKind.i64 0, Value.int IntKind.i64 0, Value.slice none 0 0, Value.slice none 0 0], eqk := false }
def ti40 : TI := { desc := TypeDesc.struct #[{ name := "Sources", type := 3, offset := 0, embedded := false, tag := "", pkgPath := "", byteOffset := 0 }, { name := "Tasks", type := 3, offset := 1, embedded := false, tag := "", pkgPath := "", byteOffset := 8 }, { name := "Kind", type := 3, offset := 2, embedded := false, tag := "", pkgPath := "", byteOffset := 16 }, { name := "Size", type := 3, offset := 3, embedded := false, tag := "", pkgPath := "", byteOffset := 24 }, { name := "Step", type := 3, offset := 4, embedded := false, tag := "", pkgPath := "", byteOffset := 32 }, { name := "Late", type := 3, offset := 5, embedded := false, tag := "", pkgPath := "", byteOffset := 40 }, { name := "Tell", type := 3, offset := 6, embedded := false, tag := "", pkgPath := "", byteOffset := 48 }, { name := "Piece", type := 4, offset := 7, embedded := false, tag := "", pkgPath := "", byteOffset := 56 }, { name := "Least", type := 3, offset := 8, embedded := false, tag := "", pkgPath := "", byteOffset := 64 }, { name := "Room", type := 3, offset := 9, embedded := false, tag := "", pkgPath := "", byteOffset := 72 }], size := 10, bytes := 80, zero := [Value.int IntKind.i64 0, Value.int IntKind.i64 0, Value.int IntKind.i64 0, Value.int IntKind.i64 0, Value.int IntKind.i64 0, Value.int IntKind.i64 0, Value.int IntKind.i64 0, Value.bool false, Value.int IntKind.i64 0, Value.int IntKind.i64 0], eqk := true }
def ti51 : TI := { desc := TypeDesc.slice 5, size := 1, bytes := 24, zero := [Value.slice none 0 0], eqk := false }
def ti53 : TI := { desc := TypeDesc.slice 4, size := 1, bytes := 24, zero := [Value.slice none 0 0], eqk := false }
def ti54 : TI := { desc := TypeDesc.slice 90, size := 1, bytes := 24, zero := [Value.slice none 0 0], eqk := false }
def ti56 : TI := { desc := TypeDesc.struct #[{ name := "N", type := 3, offset := 0, embedded := false, tag := "", pkgPath := "", byteOffset := 0 }, { name := "At", type := 27, offset := 1, embedded := false, tag := "", pkgPath := "", byteOffset := 8 }, { name := "Snaps", type := 54, offset := 2, embedded := false, tag := "", pkgPath := "", byteOffset := 32 }], size := 3, bytes := 56, zero := [Value.int IntKind.i64 0, Value.slice none 0 0, Value.slice none 0 0], eqk := false }
def ti58 : TI := { desc := TypeDesc.struct #[{ name := "N", type := 3, offset := 0, embedded := false, tag := "", pkgPath := "", byteOffset := 0 }, { name := "Open", type := 4, offset := 1, embedded := false, tag := "", pkgPath := "", byteOffset := 8 }, { name := "Src", type := 27, offset := 2, embedded := false, tag := "", pkgPath := "", byteOffset := 16 }, { name := "Tsk", type := 53, offset := 3, embedded := false, tag := "", pkgPath := "", byteOffset := 40 }, { name := "Snaps", type := 54, offset := 4, embedded := false, tag := "", pkgPath := "", byteOffset := 64 }, { name := "Safe", type := 56, offset := 5, embedded := false, tag := "", pkgPath := "", byteOffset := 88 }], size := 8, bytes := 144, zero := [Value.int IntKind.i64 0, Value.bool false, Value.slice none 0 0, Value.slice none 0 0, Value.slice none 0 0, Value.int IntKind.i64 0, Value.slice none 0 0, Value.slice none 0 0], eqk := false }
def ti73 : TI := { desc := TypeDesc.slice 157, size := 1, bytes := 24, zero := [Value.slice none 0 0], eqk := false }
def ti75 : TI := { desc := TypeDesc.struct #[{ name := "Queue", type := 73, offset := 0, embedded := false, tag := "", pkgPath := "", byteOffset := 0 }, { name := "Mark", type := 3, offset := 1, embedded := false, tag := "", pkgPath := "", byteOffset := 24 }, { name := "Held", type := 4, offset := 2, embedded := false, tag := "", pkgPath := "", byteOffset := 32 }], size := 3, bytes := 40, zero := [Value.slice none 0 0, Value.int IntKind.i64 0, Value.bool false], eqk := false }
def ti90 : TI := { desc := TypeDesc.struct #[{ name := "Op", type := 32, offset := 0, embedded := false, tag := "", pkgPath := "", byteOffset := 0 }, { name := "Marks", type := 27, offset := 2, embedded := false, tag := "", pkgPath := "", byteOffset := 32 }], size := 3, bytes := 56, zero := [Value.int IntKind.i64 0, Value.slice none 0 0, Value.slice none 0 0], eqk := false }
def ti96 : TI := { desc := TypeDesc.struct #[{ name := "Start", type := 3, offset := 0, embedded := false, tag := "", pkgPath := "", byteOffset := 0 }, { name := "End", type := 3, offset := 1, embedded := false, tag := "", pkgPath := "", byteOffset := 8 }], size := 2, bytes := 16, zero := [Value.int IntKind.i64 0, Value.int IntKind.i64 0], eqk := true }
def ti104 : TI := { desc := TypeDesc.struct #[{ name := "N", type := 3, offset := 0, embedded := false, tag := "", pkgPath := "", byteOffset := 0 }, { name := "Sum", type := 3, offset := 1, embedded := false, tag := "", pkgPath := "", byteOffset := 8 }, { name := "Least", type := 3, offset := 2, embedded := false, tag := "", pkgPath := "", byteOffset := 16 }, { name := "Most", type := 3, offset := 3, embedded := false, tag := "", pkgPath := "", byteOffset := 24 }], size := 4, bytes := 32, zero := [Value.int IntKind.i64 0, Value.int IntKind.i64 0, Value.int IntKind.i64 0, Value.int IntKind.i64 0], eqk := true }
def ti106 : TI := { desc := TypeDesc.struct #[{ name := "Key", type := 3, offset := 0, embedded := false, tag := "", pkgPath := "", byteOffset := 0 }, { name := "Win", type := 96, offset := 1, embedded := false, tag := "", pkgPath := "", byteOffset := 8 }, { name := "All", type := 104, offset := 3, embedded := false, tag := "", pkgPath := "", byteOffset := 24 }, { name := "Fresh", type := 104, offset := 7, embedded := false, tag := "", pkgPath := "", byteOffset := 56 }, { name := "Told", type := 3, offset := 11, embedded := false, tag := "", pkgPath := "", byteOffset := 88 }, { name := "Timely", type := 4, offset := 12, embedded := false, tag := "", pkgPath := "", byteOffset := 96 }], size := 13, bytes := 104, zero := [Value.int IntKind.i64 0, Value.int IntKind.i64 0, Value.int IntKind.i64 0, Value.int IntKind.i64 0, Value.int IntKind.i64 0, Value.int IntKind.i64 0, Value.int IntKind.i64 0, Value.int IntKind.i64 0, Value.int IntKind.i64 0, Value.int IntKind.i64 0, Value.int IntKind.i64 0, Value.int IntKind.i64 0, Value.bool false], eqk := true }
def ti111 : TI := { desc := TypeDesc.struct #[{ name := "Start", type := 3, offset := 0, embedded := false, tag := "", pkgPath := "", byteOffset := 0 }, { name := "End", type := 3, offset := 1, embedded := false, tag := "", pkgPath := "", byteOffset := 8 }], size := 2, bytes := 16, zero := [Value.int IntKind.i64 0, Value.int IntKind.i64 0], eqk := true }
def ti112 : TI := { desc := TypeDesc.struct #[{ name := "N", type := 3, offset := 0, embedded := false, tag := "", pkgPath := "", byteOffset := 0 }, { name := "Sum", type := 3, offset := 1, embedded := false, tag := "", pkgPath := "", byteOffset := 8 }, { name := "Least", type := 3, offset := 2, embedded := false, tag := "", pkgPath := "", byteOffset := 16 }, { name := "Most", type := 3, offset := 3, embedded := false, tag := "", pkgPath := "", byteOffset := 24 }], size := 4, bytes := 32, zero := [Value.int IntKind.i64 0, Value.int IntKind.i64 0, Value.int IntKind.i64 0, Value.int IntKind.i64 0], eqk := true }
def ti114 : TI := { desc := TypeDesc.struct #[{ name := "Key", type := 3, offset := 0, embedded := false, tag := "", pkgPath := "", byteOffset := 0 }, { name := "Win", type := 111, offset := 1, embedded := false, tag := "", pkgPath := "", byteOffset := 8 }, { name := "All", type := 112, offset := 3, embedded := false, tag := "", pkgPath := "", byteOffset := 24 }, { name := "Fresh", type := 112, offset := 7, embedded := false, tag := "", pkgPath := "", byteOffset := 56 }, { name := "Told", type := 3, offset := 11, embedded := false, tag := "", pkgPath := "", byteOffset := 88 }, { name := "Timely", type := 4, offset := 12, embedded := false, tag := "", pkgPath := "", byteOffset := 96 }], size := 13, bytes := 104, zero := [Value.int IntKind.i64 0, Value.int IntKind.i64 0, Value.int IntKind.i64 0, Value.int IntKind.i64 0, Value.int IntKind.i64 0, Value.int IntKind.i64 0, Value.int IntKind.i64 0, Value.int IntKind.i64 0, Value.int IntKind.i64 0, Value.int IntKind.i64 0, Value.int IntKind.i64 0, Value.int IntKind.i64 0, Value.bool false], eqk := true }
def ti132 : TI := { desc := TypeDesc.struct #[{ name := "b", type := 51, offset := 0, embedded := false, tag := "", pkgPath := "loop.example/freshet/spec", byteOffset := 0 }, { name := "p", type := 3, offset := 1, embedded := false, tag := "", pkgPath := "loop.example/freshet/spec", byteOffset := 24 }], size := 2, bytes := 32, zero := [Value.slice none 0 0, Value.int IntKind.i64 0], eqk := false }
def ti154 : TI := { desc := TypeDesc.struct #[{ name := "Key", type := 3, offset := 0, embedded := false, tag := "", pkgPath := "", byteOffset := 0 }, { name := "Win", type := 96, offset := 1, embedded := false, tag := "", pkgPath := "", byteOffset := 8 }, { name := "No", type := 3, offset := 3, embedded := false, tag := "", pkgPath := "", byteOffset := 24 }, { name := "Kind", type := 3, offset := 4, embedded := false, tag := "", pkgPath := "", byteOffset := 32 }, { name := "Agg", type := 104, offset := 5, embedded := false, tag := "", pkgPath := "", byteOffset := 40 }], size := 9, bytes := 72, zero := [Value.int IntKind.i64 0, Value.int IntKind.i64 0, Value.int IntKind.i64 0, Value.int IntKind.i64 0, Value.int IntKind.i64 0, Value.int IntKind.i64 0, Value.int IntKind.i64 0, Value.int IntKind.i64 0, Value.int IntKind.i64 0], eqk := true }
def ti157 : TI := { desc := TypeDesc.struct #[{ name := "Kind", type := 3, offset := 0, embedded := false, tag := "", pkgPath := "", byteOffset := 0 }, { name := "T", type := 3, offset := 1, embedded := false, tag := "", pkgPath := "", byteOffset := 8 }, { name := "Key", type := 3, offset := 2, embedded := false, tag := "", pkgPath := "", byteOffset := 16 }, { name := "V", type := 3, offset := 3, embedded := false, tag := "", pkgPath := "", byteOffset := 24 }, { name := "N", type := 3, offset := 4, embedded := false, tag := "", pkgPath := "", byteOffset := 32 }], size := 5, bytes := 40, zero := [Value.int IntKind.i64 0, Value.int IntKind.i64 0, Value.int IntKind.i64 0, Value.int IntKind.i64 0, Value.int IntKind.i64 0], eqk := true }
def ti159 : TI := { desc := TypeDesc.struct #[{ name := "Rec", type := 157, offset := 0, embedded := false, tag := "", pkgPath := "", byteOffset := 0 }, { name := "Win", type := 96, offset := 5, embedded := false, tag := "", pkgPath := "", byteOffset := 40 }], size := 7, bytes := 56, zero := [Value.int IntKind.i64 0, Value.int IntKind.i64 0, Value.int IntKind.i64 0, Value.int IntKind.i64 0, Value.int IntKind.i64 0, Value.int IntKind.i64 0, Value.int IntKind.i64 0], eqk := true }
def ti161 : TI := { desc := TypeDesc.int IntKind.u64, size := 1, bytes := 8, zero := [Value.int IntKind.u64 0], eqk := false }
def tab : List (Nat × TI) := [(3, ti3), (4, ti4), (5, ti5), (23, ti23), (24, ti24), (26, ti26), (27, ti27), (29, ti29), (30, ti30), (32, ti32), (33, ti33), (34, ti34), (36, ti36), (38, ti38), (40, ti40), (51, ti51), (53, ti53), (54, ti54), (56, ti56), (58, ti58), (73, ti73), (75, ti75), (90, ti90), (96, ti96), (104, ti104), (106, ti106), (111, ti111), (112, ti112), (114, ti114), (132, ti132), (154, ti154), (157, ti157), (159, ti159), (161, ti161)]
theorem row3 : TRow Try.prog 3 ti3 := ⟨Try.underlying3, ⟨Try.t3, Value.int IntKind.i64 0, by kernel_rfl, rfl, rfl, rfl, rfl, rfl, rfl⟩, fun h => by cases h⟩
theorem row4 : TRow Try.prog 4 ti4 := ⟨Try.underlying4, ⟨Try.t4, Value.bool false, by kernel_rfl, rfl, rfl, rfl, rfl, rfl, rfl⟩, fun h => by cases h⟩
theorem row5 : TRow Try.prog 5 ti5 := ⟨Try.underlying5, ⟨Try.t5, Value.int IntKind.u8 0, by kernel_rfl, rfl, rfl, rfl, rfl, rfl, rfl⟩, fun h => by cases h⟩
theorem row23 : TRow Try.prog 23 ti23 := ⟨Try.underlying23, ⟨Try.t23, Value.agg #[Value.int IntKind.i64 0, Value.int IntKind.i64 0, Value.int IntKind.i64 0, Value.int IntKind.i64 0, Value.int IntKind.i64 0, Value.int IntKind.i64 0, Value.int IntKind.i64 0, Value.bool false, Value.int IntKind.i64 0, Value.int IntKind.i64 0], by kernel_rfl, rfl, rfl, rfl, rfl, rfl, rfl⟩, fun _ => ⟨Try.stoodInHeld23, Try.eqGuardType23⟩⟩
theorem row24 : TRow Try.prog 24 ti24 := ⟨Try.underlying24, ⟨Try.t24, Value.slice none 0 0, by kernel_rfl, rfl, rfl, rfl, rfl, rfl, rfl⟩, fun h => by cases h⟩
theorem row26 : TRow Try.prog 26 ti26 := ⟨Try.underlying26, ⟨Try.t26, Value.agg #[Value.int IntKind.i64 0, Value.slice none 0 0], by kernel_rfl, rfl, rfl, rfl, rfl, rfl, rfl⟩, fun h => by cases h⟩
theorem row27 : TRow Try.prog 27 ti27 := ⟨Try.underlying27, ⟨Try.t27, Value.slice none 0 0, by kernel_rfl, rfl, rfl, rfl, rfl, rfl, rfl⟩, fun h => by cases h⟩
theorem row29 : TRow Try.prog 29 ti29 := ⟨Try.underlying29, ⟨Try.t29, Value.slice none 0 0, by kernel_rfl, rfl, rfl, rfl, rfl, rfl, rfl⟩, fun h => by cases h⟩
theorem row30 : TRow Try.prog 30 ti30 := ⟨Try.underlying30, ⟨Try.t30, Value.slice none 0 0, by kernel_rfl, rfl, rfl, rfl, rfl, rfl, rfl⟩, fun h => by cases h⟩
theorem row32 : TRow Try.prog 32 ti32 := ⟨Try.underlying32, ⟨Try.t32, Value.agg #[Value.int IntKind.i64 0, Value.slice none 0 0], by kernel_rfl, rfl, rfl, rfl, rfl, rfl, rfl⟩, fun h => by cases h⟩
theorem row33 : TRow Try.prog 33 ti33 := ⟨Try.underlying33, ⟨Try.t33, Value.slice none 0 0, by kernel_rfl, rfl, rfl, rfl, rfl, rfl, rfl⟩, fun h => by cases h⟩
theorem row34 : TRow Try.prog 34 ti34 := ⟨Try.underlying34, ⟨Try.t34, Value.slice none 0 0, by kernel_rfl, rfl, rfl, rfl, rfl, rfl, rfl⟩, fun h => by cases h⟩
theorem row36 : TRow Try.prog 36 ti36 := ⟨Try.underlying36, ⟨Try.t36, Value.agg #[Value.int IntKind.i64 0, Value.slice none 0 0, Value.slice none 0 0], by kernel_rfl, rfl, rfl, rfl, rfl, rfl, rfl⟩, fun h => by cases h⟩
theorem row38 : TRow Try.prog 38 ti38 := ⟨Try.underlying38, ⟨Try.t38, Value.agg #[Value.slice none 0 0, Value.int IntKind.i64 0, Value.slice none 0 0, Value.int IntKind.i64 0, Value.int IntKind.i64 0, Value.slice none 0 0, Value.slice none 0 0], by kernel_rfl, rfl, rfl, rfl, rfl, rfl, rfl⟩, fun h => by cases h⟩
theorem row40 : TRow Try.prog 40 ti40 := ⟨Try.underlying40, ⟨Try.t40, Value.agg #[Value.int IntKind.i64 0, Value.int IntKind.i64 0, Value.int IntKind.i64 0, Value.int IntKind.i64 0, Value.int IntKind.i64 0, Value.int IntKind.i64 0, Value.int IntKind.i64 0, Value.bool false, Value.int IntKind.i64 0, Value.int IntKind.i64 0], by kernel_rfl, rfl, rfl, rfl, rfl, rfl, rfl⟩, fun _ => ⟨Try.stoodInHeld40, Try.eqGuardType40⟩⟩
theorem row51 : TRow Try.prog 51 ti51 := ⟨Try.underlying51, ⟨Try.t51, Value.slice none 0 0, by kernel_rfl, rfl, rfl, rfl, rfl, rfl, rfl⟩, fun h => by cases h⟩
theorem row53 : TRow Try.prog 53 ti53 := ⟨Try.underlying53, ⟨Try.t53, Value.slice none 0 0, by kernel_rfl, rfl, rfl, rfl, rfl, rfl, rfl⟩, fun h => by cases h⟩
theorem row54 : TRow Try.prog 54 ti54 := ⟨Try.underlying54, ⟨Try.t54, Value.slice none 0 0, by kernel_rfl, rfl, rfl, rfl, rfl, rfl, rfl⟩, fun h => by cases h⟩
theorem row56 : TRow Try.prog 56 ti56 := ⟨Try.underlying56, ⟨Try.t56, Value.agg #[Value.int IntKind.i64 0, Value.slice none 0 0, Value.slice none 0 0], by kernel_rfl, rfl, rfl, rfl, rfl, rfl, rfl⟩, fun h => by cases h⟩
theorem row58 : TRow Try.prog 58 ti58 := ⟨Try.underlying58, ⟨Try.t58, Value.agg #[Value.int IntKind.i64 0, Value.bool false, Value.slice none 0 0, Value.slice none 0 0, Value.slice none 0 0, Value.int IntKind.i64 0, Value.slice none 0 0, Value.slice none 0 0], by kernel_rfl, rfl, rfl, rfl, rfl, rfl, rfl⟩, fun h => by cases h⟩
theorem row73 : TRow Try.prog 73 ti73 := ⟨Try.underlying73, ⟨Try.t73, Value.slice none 0 0, by kernel_rfl, rfl, rfl, rfl, rfl, rfl, rfl⟩, fun h => by cases h⟩
theorem row75 : TRow Try.prog 75 ti75 := ⟨Try.underlying75, ⟨Try.t75, Value.agg #[Value.slice none 0 0, Value.int IntKind.i64 0, Value.bool false], by kernel_rfl, rfl, rfl, rfl, rfl, rfl, rfl⟩, fun h => by cases h⟩
theorem row90 : TRow Try.prog 90 ti90 := ⟨Try.underlying90, ⟨Try.t90, Value.agg #[Value.int IntKind.i64 0, Value.slice none 0 0, Value.slice none 0 0], by kernel_rfl, rfl, rfl, rfl, rfl, rfl, rfl⟩, fun h => by cases h⟩
theorem row96 : TRow Try.prog 96 ti96 := ⟨Try.underlying96, ⟨Try.t96, Value.agg #[Value.int IntKind.i64 0, Value.int IntKind.i64 0], by kernel_rfl, rfl, rfl, rfl, rfl, rfl, rfl⟩, fun _ => ⟨Try.stoodInHeld96, Try.eqGuardType96⟩⟩
theorem row104 : TRow Try.prog 104 ti104 := ⟨Try.underlying104, ⟨Try.t104, Value.agg #[Value.int IntKind.i64 0, Value.int IntKind.i64 0, Value.int IntKind.i64 0, Value.int IntKind.i64 0], by kernel_rfl, rfl, rfl, rfl, rfl, rfl, rfl⟩, fun _ => ⟨Try.stoodInHeld104, Try.eqGuardType104⟩⟩
theorem row106 : TRow Try.prog 106 ti106 := ⟨Try.underlying106, ⟨Try.t106, Value.agg #[Value.int IntKind.i64 0, Value.int IntKind.i64 0, Value.int IntKind.i64 0, Value.int IntKind.i64 0, Value.int IntKind.i64 0, Value.int IntKind.i64 0, Value.int IntKind.i64 0, Value.int IntKind.i64 0, Value.int IntKind.i64 0, Value.int IntKind.i64 0, Value.int IntKind.i64 0, Value.int IntKind.i64 0, Value.bool false], by kernel_rfl, rfl, rfl, rfl, rfl, rfl, rfl⟩, fun _ => ⟨Try.stoodInHeld106, Try.eqGuardType106⟩⟩
theorem row111 : TRow Try.prog 111 ti111 := ⟨Try.underlying111, ⟨Try.t111, Value.agg #[Value.int IntKind.i64 0, Value.int IntKind.i64 0], by kernel_rfl, rfl, rfl, rfl, rfl, rfl, rfl⟩, fun _ => ⟨Try.stoodInHeld111, Try.eqGuardType111⟩⟩
theorem row112 : TRow Try.prog 112 ti112 := ⟨Try.underlying112, ⟨Try.t112, Value.agg #[Value.int IntKind.i64 0, Value.int IntKind.i64 0, Value.int IntKind.i64 0, Value.int IntKind.i64 0], by kernel_rfl, rfl, rfl, rfl, rfl, rfl, rfl⟩, fun _ => ⟨Try.stoodInHeld112, Try.eqGuardType112⟩⟩
theorem row114 : TRow Try.prog 114 ti114 := ⟨Try.underlying114, ⟨Try.t114, Value.agg #[Value.int IntKind.i64 0, Value.int IntKind.i64 0, Value.int IntKind.i64 0, Value.int IntKind.i64 0, Value.int IntKind.i64 0, Value.int IntKind.i64 0, Value.int IntKind.i64 0, Value.int IntKind.i64 0, Value.int IntKind.i64 0, Value.int IntKind.i64 0, Value.int IntKind.i64 0, Value.int IntKind.i64 0, Value.bool false], by kernel_rfl, rfl, rfl, rfl, rfl, rfl, rfl⟩, fun _ => ⟨Try.stoodInHeld114, Try.eqGuardType114⟩⟩
theorem row132 : TRow Try.prog 132 ti132 := ⟨Try.underlying132, ⟨Try.t132, Value.agg #[Value.slice none 0 0, Value.int IntKind.i64 0], by kernel_rfl, rfl, rfl, rfl, rfl, rfl, rfl⟩, fun h => by cases h⟩
theorem row154 : TRow Try.prog 154 ti154 := ⟨Try.underlying154, ⟨Try.t154, Value.agg #[Value.int IntKind.i64 0, Value.int IntKind.i64 0, Value.int IntKind.i64 0, Value.int IntKind.i64 0, Value.int IntKind.i64 0, Value.int IntKind.i64 0, Value.int IntKind.i64 0, Value.int IntKind.i64 0, Value.int IntKind.i64 0], by kernel_rfl, rfl, rfl, rfl, rfl, rfl, rfl⟩, fun _ => ⟨Try.stoodInHeld154, Try.eqGuardType154⟩⟩
theorem row157 : TRow Try.prog 157 ti157 := ⟨Try.underlying157, ⟨Try.t157, Value.agg #[Value.int IntKind.i64 0, Value.int IntKind.i64 0, Value.int IntKind.i64 0, Value.int IntKind.i64 0, Value.int IntKind.i64 0], by kernel_rfl, rfl, rfl, rfl, rfl, rfl, rfl⟩, fun _ => ⟨Try.stoodInHeld157, Try.eqGuardType157⟩⟩
theorem row159 : TRow Try.prog 159 ti159 := ⟨Try.underlying159, ⟨Try.t159, Value.agg #[Value.int IntKind.i64 0, Value.int IntKind.i64 0, Value.int IntKind.i64 0, Value.int IntKind.i64 0, Value.int IntKind.i64 0, Value.int IntKind.i64 0, Value.int IntKind.i64 0], by kernel_rfl, rfl, rfl, rfl, rfl, rfl, rfl⟩, fun _ => ⟨Try.stoodInHeld159, Try.eqGuardType159⟩⟩
theorem row161 : TRow Try.prog 161 ti161 := ⟨Try.underlying161, ⟨Try.t161, Value.int IntKind.u64 0, by kernel_rfl, rfl, rfl, rfl, rfl, rfl, rfl⟩, fun h => by cases h⟩
theorem rows : TRows Try.prog tab := ⟨row3, row4, row5, row23, row24, row26, row27, row29, row30, row32, row33, row34, row36, row38, row40, row51, row53, row54, row56, row58, row73, row75, row90, row96, row104, row106, row111, row112, row114, row132, row154, row157, row159, row161, trivial⟩
abbrev TT : TypeId → Option TI := tabT tab
theorem ttok : TTok Try.prog TT := ttok_of rows (by decide +kernel)
end Go.Rk
/- The data of this program, by shapes. -/
namespace Go.Rk
set_option linter.unusedSimpArgs false
set_option linter.unusedVariables false
abbrev eI (n : Int) : DV := .v (.int .i64 n)
abbrev eB (n : Bool) : DV := .v (.bool n)
def xd (l : List DV) : XT := .agg (l.map .d)
/-- Rows. -/
structure Sl (α : Type) where
  n : Nat
  g : Nat → α
  hn : n ≤ maxLen
structure JobT where
  srcs : Int
  tsks : Int
  kind : Int
  size : Int
  step : Int
  late : Int
  tell : Int
  piece : Bool
  least : Int
  room : Int
structure ItmT where
  kind : Int
  t : Int
  key : Int
  v : Int
  n : Int
structure WinT where
  s : Int
  e : Int
structure AggT where
  n : Int
  sum : Int
  least : Int
  most : Int
structure RowT where
  key : Int
  win : WinT
  all : AggT
  fresh : AggT
  told : Int
  timely : Bool
structure OpStT where
  mark : Int
  rows : Sl RowT
structure PaneT where
  key : Int
  win : WinT
  no : Int
  kind : Int
  agg : AggT
structure LatT where
  itm : ItmT
  win : WinT
structure TabT where
  key : Int
  win : WinT
  agg : AggT
structure TskInT where
  queue : Sl ItmT
  mark : Int
  held : Bool
structure TxnT where
  n : Int
  panes : Sl PaneT
  lates : Sl LatT
structure TskT where
  ins : Sl TskInT
  op : OpStT
  wall : Int
  pend : TxnT
structure SnapT where
  op : OpStT
  marks : Sl Int
structure SafeT where
  n : Int
  at_ : Sl Int
  snaps : Sl SnapT
structure CkpT where
  n : Int
  opn : Bool
  src : Sl Int
  tsk : Sl Bool
  snaps : Sl SnapT
  safe : SafeT
structure SrcT where
  at_ : Int
  wall : Int
structure SinkT where
  ready : Sl TxnT
  n : Int
  panes : Sl PaneT
  lates : Sl LatT
structure FloT where
  job : JobT
  logs : Sl (Sl ItmT)
  srcs : Sl SrcT
  tasks : Sl TskT
  sinks : Sl SinkT
  ckp : CkpT
def eJob (x : JobT) : List DV := [eI x.srcs, eI x.tsks, eI x.kind, eI x.size, eI x.step, eI x.late, eI x.tell, eB x.piece, eI x.least, eI x.room]
def eWin (x : WinT) : List DV := [eI x.s, eI x.e]
def eAgg (x : AggT) : List DV := [eI x.n, eI x.sum, eI x.least, eI x.most]
def eRow (x : RowT) : List DV := [eI x.key, eI x.win.s, eI x.win.e, eI x.all.n, eI x.all.sum, eI x.all.least, eI x.all.most, eI x.fresh.n, eI x.fresh.sum, eI x.fresh.least, eI x.fresh.most, eI x.told, eB x.timely]
def eOpSt (x : OpStT) : List DV := [eI x.mark, (.sl 13 x.rows.n fun i => eRow (x.rows.g i))]
def bdOpSt (x : OpStT) : Prop := x.rows.n ≤ 1048576
def eSnap (x : SnapT) : List DV := [eI x.op.mark, (.sl 13 x.op.rows.n fun i => eRow (x.op.rows.g i)), (.sl 1 x.marks.n fun i => [eI (x.marks.g i)])]
def bdSnap (x : SnapT) : Prop := bdOpSt x.op ∧ x.marks.n ≤ 1048576
def eSafe (x : SafeT) : List DV := [eI x.n, (.sl 1 x.at_.n fun i => [eI (x.at_.g i)]), (.sl 3 x.snaps.n fun i => eSnap (x.snaps.g i))]
def bdSafe (x : SafeT) : Prop := x.at_.n ≤ 1048576 ∧ x.snaps.n ≤ 1048576 ∧ (∀ i, i < x.snaps.n → bdSnap (x.snaps.g i))
def eCkp (x : CkpT) : List DV := [eI x.n, eB x.opn, (.sl 1 x.src.n fun i => [eI (x.src.g i)]), (.sl 1 x.tsk.n fun i => [eB (x.tsk.g i)]), (.sl 3 x.snaps.n fun i => eSnap (x.snaps.g i)), eI x.safe.n, (.sl 1 x.safe.at_.n fun i => [eI (x.safe.at_.g i)]), (.sl 3 x.safe.snaps.n fun i => eSnap (x.safe.snaps.g i))]
def bdCkp (x : CkpT) : Prop := x.src.n ≤ 1048576 ∧ x.tsk.n ≤ 1048576 ∧ x.snaps.n ≤ 1048576 ∧ (∀ i, i < x.snaps.n → bdSnap (x.snaps.g i)) ∧ bdSafe x.safe
end Go.Rk
/- What the program's small functions say, in words of numbers; sizes. -/
namespace Go.Rk
set_option linter.unusedSimpArgs false
set_option linter.unusedVariables false
theorem bifA (b x : Bool) : (bif b then x else false) = (b && x) := by cases b <;> rfl
theorem bifB (b x : Bool) : (bif b then true else x) = (b || x) := by cases b <;> rfl
theorem bifC (b x : Bool) : (bif b then false else x) = (!b && x) := by cases b <;> rfl
theorem bifD (b x : Bool) : (bif b then x else true) = (!b || x) := by cases b <;> rfl
/-- The first place, or -1. -/
inductive FirstIx (n : Nat) (p : Nat → Prop) : Int → Prop
  | at (i : Nat) (h : i < n) (hi : p i) (hb : ∀ j, j < i → ¬ p j) : FirstIx n p i
  | none (hb : ∀ j, j < n → ¬ p j) : FirstIx n p (-1)
def JobOkP (j : JobT) : Prop := (1 ≤ j.srcs ∧ j.srcs ≤ 3) ∧ (1 ≤ j.tsks ∧ j.tsks ≤ 2) ∧ (1 ≤ j.kind ∧ j.kind ≤ 3) ∧ (1 ≤ j.size ∧ j.size ≤ 20) ∧
  ((j.kind = 2 ∧ (1 ≤ j.step ∧ j.step ≤ j.size) ∧ j.size ≤ 4 * j.step) ∨ (j.kind ≠ 2 ∧ j.step = 0)) ∧
  (0 ≤ j.late ∧ j.late ≤ 20) ∧ (1 ≤ j.tell ∧ j.tell ≤ 4) ∧ (-9 ≤ j.least ∧ j.least ≤ 9) ∧ (1 ≤ j.room ∧ j.room ≤ 4)
def WinLt (a b : WinT) : Prop := a.s < b.s ∨ (a.s = b.s ∧ a.e < b.e)
def AheadP (ak : Int) (aw : WinT) (bk : Int) (bw : WinT) : Prop := ak < bk ∨ (ak = bk ∧ WinLt aw bw)
end Go.Rk
/- Sizes: what is left when the rows of something are taken off. -/
namespace Go.Rk
set_option linter.unusedSimpArgs false
set_option linter.unusedVariables false
theorem up64 {i n : Nat} (h : i < n) (hn : n ≤ maxLen) : IntKind.i64.wrap ((i : Int) + 1) = ((i + 1 : Nat) : Int) := by
  have hm : maxLen = 9223372036854775807 := by decide
  rw [hm] at hn
  rw [IntWalk.i64_in _ (by omega)]
  simp
end Go.Rk
/- Mirrors, comparisons and sizes: what these functions of the laws do. -/
namespace Go.Rk
set_option linter.unusedSimpArgs false
set_option linter.unusedVariables false
open Go.Proofs
def EXA : FuncId → List Nat × Bool := fun _ => ([], false)
theorem mixed : Try.prog.follows .mixedOrders = true := by kernel_rfl
def st_eqIntS (n : Nat) (rd : Nat → Int) (i : Nat) : St := ⟨[(5, .c (.d (eI i))), (0, .c (.d (.sl 1 n fun i => [eI (rd i)]))), (1, .c (.d (.sl 1 n fun i => [eI (rd i)])))], []⟩
set_option maxRecDepth 100000 in
theorem eq_IntS (n : Nat) (hn : n ≤ maxLen) (rd : Nat → Int) : Meets Try.prog 14 [.c (.d (.sl 1 n fun i => [eI (rd i)])), .c (.d (.sl 1 n fun i => [eI (rd i)]))] ⟨.one (.c (.d (eB true))), [none, none]⟩ := by
  refine meets_of (H := []) (EX := EXA) ttok mixed Try.func14 rfl (by kernel_rfl) (by decide) ?_
  generalize hA : real = A
  generalize hM : MeetsB Try.prog = M
  cbv
  repeat' first
    | apply And.intro
    | exact True.intro
    | with_reducible rfl
    | exact same_of hA rfl
    | refine br_of hA (fun _ => ?_) (fun _ => ?_)
    | (refine ind_of hA ?_; decide +kernel)
    | (exfalso; rename_i h; subst hA; simp [real] at h; done)
  refine loop_of hA (α := { i : Nat // i ≤ n }) (fun x => st_eqIntS n rd x.1) (fun x => n - x.1) ⟨0, Nat.zero_le _⟩ ?_ ?_
  · refine cov_of ?_ ?_ ?_
    · cbv; exact ⟨rfl, trivial⟩
    · cbv
    · cbv
  rintro ⟨i, hi⟩
  cbv
  repeat' first
    | apply And.intro
    | exact True.intro
    | with_reducible rfl
    | exact same_of hA rfl
    | refine br_of hA (fun _ => ?_) (fun _ => ?_)
    | (refine ind_of hA ?_; decide +kernel)
    | (exfalso; rename_i h; subst hA; simp [real] at h; done)
    | (refine inb_of hA fun _ => ?_; subst hA; simp only [real, decide_eq_true_eq, Int.ofNat_eq_natCast] at *; omega)
  have hlt' : i < n := by
    subst hA
    simp only [real, decide_eq_true_eq, Int.ofNat_eq_natCast] at *
    omega
  refine ⟨⟨i + 1, by omega⟩, by simp only; omega, cov_of ?_ ?_ ?_⟩
  · cbv
    subst hA
    exact ⟨congrArg (fun x => DV.v (.int .i64 x)) (up64 hlt' hn), trivial⟩
  · cbv
  · cbv
def st_eqBoolS (n : Nat) (rd : Nat → Bool) (i : Nat) : St := ⟨[(5, .c (.d (eI i))), (0, .c (.d (.sl 1 n fun i => [eB (rd i)]))), (1, .c (.d (.sl 1 n fun i => [eB (rd i)])))], []⟩
set_option maxRecDepth 100000 in
theorem eq_BoolS (n : Nat) (hn : n ≤ maxLen) (rd : Nat → Bool) : Meets Try.prog 63 [.c (.d (.sl 1 n fun i => [eB (rd i)])), .c (.d (.sl 1 n fun i => [eB (rd i)]))] ⟨.one (.c (.d (eB true))), [none, none]⟩ := by
  refine meets_of (H := []) (EX := EXA) ttok mixed Try.func63 rfl (by kernel_rfl) (by decide) ?_
  generalize hA : real = A
  generalize hM : MeetsB Try.prog = M
  cbv
  repeat' first
    | apply And.intro
    | exact True.intro
    | with_reducible rfl
    | exact same_of hA rfl
    | refine br_of hA (fun _ => ?_) (fun _ => ?_)
    | (refine ind_of hA ?_; decide +kernel)
    | (exfalso; rename_i h; subst hA; simp [real] at h; done)
  refine loop_of hA (α := { i : Nat // i ≤ n }) (fun x => st_eqBoolS n rd x.1) (fun x => n - x.1) ⟨0, Nat.zero_le _⟩ ?_ ?_
  · refine cov_of ?_ ?_ ?_
    · cbv; exact ⟨rfl, trivial⟩
    · cbv
    · cbv
  rintro ⟨i, hi⟩
  cbv
  repeat' first
    | apply And.intro
    | exact True.intro
    | with_reducible rfl
    | exact same_of hA rfl
    | refine br_of hA (fun _ => ?_) (fun _ => ?_)
    | (refine ind_of hA ?_; decide +kernel)
    | (exfalso; rename_i h; subst hA; simp [real] at h; done)
    | (refine inb_of hA fun _ => ?_; subst hA; simp only [real, decide_eq_true_eq, Int.ofNat_eq_natCast] at *; omega)
  have hlt' : i < n := by
    subst hA
    simp only [real, decide_eq_true_eq, Int.ofNat_eq_natCast] at *
    omega
  refine ⟨⟨i + 1, by omega⟩, by simp only; omega, cov_of ?_ ?_ ?_⟩
  · cbv
    subst hA
    exact ⟨congrArg (fun x => DV.v (.int .i64 x)) (up64 hlt' hn), trivial⟩
  · cbv
  · cbv
set_option maxRecDepth 100000 in
theorem to_Job (x : JobT) : Meets Try.prog 8 [xd (eJob x)] ⟨.one (xd (eJob x)), [none]⟩ := by
  refine meets_of (H := []) (EX := EXA) ttok mixed Try.func8 rfl (by kernel_rfl) (by decide) ?_
  generalize hA : real = A
  generalize hM : MeetsB Try.prog = M
  cbv
  repeat' first
    | apply And.intro
    | exact True.intro
    | with_reducible rfl
    | exact same_of hA rfl
    | refine br_of hA (fun _ => ?_) (fun _ => ?_)
    | (refine ind_of hA ?_; decide +kernel)
set_option maxRecDepth 100000 in
theorem eq_Win (x : WinT) : Meets Try.prog 127 [xd (eWin x), xd (eWin x)] ⟨.one (.c (.d (eB true))), [none, none]⟩ := by
  refine meets_of (H := []) (EX := EXA) ttok mixed Try.func127 rfl (by kernel_rfl) (by decide) ?_
  generalize hA : real = A
  generalize hM : MeetsB Try.prog = M
  cbv
  repeat' first
    | apply And.intro
    | exact True.intro
    | with_reducible rfl
    | exact same_of hA rfl
    | refine br_of hA (fun _ => ?_) (fun _ => ?_)
    | (refine ind_of hA ?_; decide +kernel)
    | (exfalso; rename_i h; subst hA; simp [real] at h; done)
set_option maxRecDepth 100000 in
theorem eq_Agg (x : AggT) : Meets Try.prog 128 [xd (eAgg x), xd (eAgg x)] ⟨.one (.c (.d (eB true))), [none, none]⟩ := by
  refine meets_of (H := []) (EX := EXA) ttok mixed Try.func128 rfl (by kernel_rfl) (by decide) ?_
  generalize hA : real = A
  generalize hM : MeetsB Try.prog = M
  cbv
  repeat' first
    | apply And.intro
    | exact True.intro
    | with_reducible rfl
    | exact same_of hA rfl
    | refine br_of hA (fun _ => ?_) (fun _ => ?_)
    | (refine ind_of hA ?_; decide +kernel)
    | (exfalso; rename_i h; subst hA; simp [real] at h; done)
set_option maxRecDepth 100000 in
theorem eq_Row (x : RowT) : Meets Try.prog 89 [xd (eRow x), xd (eRow x)] ⟨.one (.c (.d (eB true))), [none, none]⟩ := by
  refine meets_of (H := []) (EX := EXA) ttok mixed Try.func89 rfl (by kernel_rfl) (by decide) ?_
  generalize hA : real = A
  generalize hM : MeetsB Try.prog = M
  cbv
  repeat' first
    | apply And.intro
    | exact True.intro
    | with_reducible rfl
    | exact same_of hA rfl
    | refine br_of hA (fun _ => ?_) (fun _ => ?_)
    | (refine ind_of hA ?_; decide +kernel)
    | (refine call_of hA hM _ (eq_Win x.win) ?_; cbv)
    | (refine call_of hA hM _ (eq_Agg x.all) ?_; cbv)
    | (refine call_of hA hM _ (eq_Agg x.fresh) ?_; cbv)
    | (exfalso; rename_i h; subst hA; simp [real] at h; done)
def st_eqRowS (n : Nat) (rd : Nat → RowT) (i : Nat) : St := ⟨[(5, .c (.d (eI i))), (0, .c (.d (.sl 13 n fun i => eRow (rd i)))), (1, .c (.d (.sl 13 n fun i => eRow (rd i))))], []⟩
set_option maxRecDepth 100000 in
theorem eq_RowS (n : Nat) (hn : n ≤ maxLen) (rd : Nat → RowT) : Meets Try.prog 41 [.c (.d (.sl 13 n fun i => eRow (rd i))), .c (.d (.sl 13 n fun i => eRow (rd i)))] ⟨.one (.c (.d (eB true))), [none, none]⟩ := by
  refine meets_of (H := []) (EX := EXA) ttok mixed Try.func41 rfl (by kernel_rfl) (by decide) ?_
  generalize hA : real = A
  generalize hM : MeetsB Try.prog = M
  cbv
  repeat' first
    | apply And.intro
    | exact True.intro
    | with_reducible rfl
    | exact same_of hA rfl
    | refine br_of hA (fun _ => ?_) (fun _ => ?_)
    | (refine ind_of hA ?_; decide +kernel)
    | (exfalso; rename_i h; subst hA; simp [real] at h; done)
  refine loop_of hA (α := { i : Nat // i ≤ n }) (fun x => st_eqRowS n rd x.1) (fun x => n - x.1) ⟨0, Nat.zero_le _⟩ ?_ ?_
  · refine cov_of ?_ ?_ ?_
    · cbv; exact ⟨rfl, trivial⟩
    · cbv
    · cbv
  rintro ⟨i, hi⟩
  cbv
  repeat' first
    | apply And.intro
    | exact True.intro
    | with_reducible rfl
    | exact same_of hA rfl
    | refine br_of hA (fun _ => ?_) (fun _ => ?_)
    | (refine ind_of hA ?_; decide +kernel)
    | (refine call_of hA hM _ (eq_Row (rd (A.nat (Int.ofNat i)))) ?_; cbv)
    | (exfalso; rename_i h; subst hA; simp [real] at h; done)
    | (refine inb_of hA fun _ => ?_; subst hA; simp only [real, decide_eq_true_eq, Int.ofNat_eq_natCast] at *; omega)
  have hlt' : i < n := by
    subst hA
    simp only [real, decide_eq_true_eq, Int.ofNat_eq_natCast] at *
    omega
  refine ⟨⟨i + 1, by omega⟩, by simp only; omega, cov_of ?_ ?_ ?_⟩
  · cbv
    subst hA
    exact ⟨congrArg (fun x => DV.v (.int .i64 x)) (up64 hlt' hn), trivial⟩
  · cbv
  · cbv
set_option maxRecDepth 100000 in
theorem eq_OpSt (x : OpStT) : Meets Try.prog 13 [xd (eOpSt x), xd (eOpSt x)] ⟨.one (.c (.d (eB true))), [none, none]⟩ := by
  refine meets_of (H := []) (EX := EXA) ttok mixed Try.func13 rfl (by kernel_rfl) (by decide) ?_
  generalize hA : real = A
  generalize hM : MeetsB Try.prog = M
  cbv
  repeat' first
    | apply And.intro
    | exact True.intro
    | with_reducible rfl
    | exact same_of hA rfl
    | refine br_of hA (fun _ => ?_) (fun _ => ?_)
    | (refine ind_of hA ?_; decide +kernel)
    | (refine call_of hA hM _ (eq_RowS x.rows.n x.rows.hn x.rows.g) ?_; cbv)
    | (exfalso; rename_i h; subst hA; simp [real] at h; done)
set_option maxRecDepth 100000 in
theorem eq_Snap (x : SnapT) : Meets Try.prog 111 [xd (eSnap x), xd (eSnap x)] ⟨.one (.c (.d (eB true))), [none, none]⟩ := by
  refine meets_of (H := []) (EX := EXA) ttok mixed Try.func111 rfl (by kernel_rfl) (by decide) ?_
  generalize hA : real = A
  generalize hM : MeetsB Try.prog = M
  cbv
  repeat' first
    | apply And.intro
    | exact True.intro
    | with_reducible rfl
    | exact same_of hA rfl
    | refine br_of hA (fun _ => ?_) (fun _ => ?_)
    | (refine ind_of hA ?_; decide +kernel)
    | (refine call_of hA hM _ (eq_OpSt x.op) ?_; cbv)
    | (refine call_of hA hM _ (eq_IntS x.marks.n x.marks.hn x.marks.g) ?_; cbv)
    | (exfalso; rename_i h; subst hA; simp [real] at h; done)
def st_eqSnapS (n : Nat) (rd : Nat → SnapT) (i : Nat) : St := ⟨[(5, .c (.d (eI i))), (0, .c (.d (.sl 3 n fun i => eSnap (rd i)))), (1, .c (.d (.sl 3 n fun i => eSnap (rd i))))], []⟩
set_option maxRecDepth 100000 in
theorem eq_SnapS (n : Nat) (hn : n ≤ maxLen) (rd : Nat → SnapT) : Meets Try.prog 64 [.c (.d (.sl 3 n fun i => eSnap (rd i))), .c (.d (.sl 3 n fun i => eSnap (rd i)))] ⟨.one (.c (.d (eB true))), [none, none]⟩ := by
  refine meets_of (H := []) (EX := EXA) ttok mixed Try.func64 rfl (by kernel_rfl) (by decide) ?_
  generalize hA : real = A
  generalize hM : MeetsB Try.prog = M
  cbv
  repeat' first
    | apply And.intro
    | exact True.intro
    | with_reducible rfl
    | exact same_of hA rfl
    | refine br_of hA (fun _ => ?_) (fun _ => ?_)
    | (refine ind_of hA ?_; decide +kernel)
    | (exfalso; rename_i h; subst hA; simp [real] at h; done)
  refine loop_of hA (α := { i : Nat // i ≤ n }) (fun x => st_eqSnapS n rd x.1) (fun x => n - x.1) ⟨0, Nat.zero_le _⟩ ?_ ?_
  · refine cov_of ?_ ?_ ?_
    · cbv; exact ⟨rfl, trivial⟩
    · cbv
    · cbv
  rintro ⟨i, hi⟩
  cbv
  repeat' first
    | apply And.intro
    | exact True.intro
    | with_reducible rfl
    | exact same_of hA rfl
    | refine br_of hA (fun _ => ?_) (fun _ => ?_)
    | (refine ind_of hA ?_; decide +kernel)
    | (refine call_of hA hM _ (eq_Snap (rd (A.nat (Int.ofNat i)))) ?_; cbv)
    | (exfalso; rename_i h; subst hA; simp [real] at h; done)
    | (refine inb_of hA fun _ => ?_; subst hA; simp only [real, decide_eq_true_eq, Int.ofNat_eq_natCast] at *; omega)
  have hlt' : i < n := by
    subst hA
    simp only [real, decide_eq_true_eq, Int.ofNat_eq_natCast] at *
    omega
  refine ⟨⟨i + 1, by omega⟩, by simp only; omega, cov_of ?_ ?_ ?_⟩
  · cbv
    subst hA
    exact ⟨congrArg (fun x => DV.v (.int .i64 x)) (up64 hlt' hn), trivial⟩
  · cbv
  · cbv
set_option maxRecDepth 100000 in
theorem eq_Safe (x : SafeT) : Meets Try.prog 65 [xd (eSafe x), xd (eSafe x)] ⟨.one (.c (.d (eB true))), [none, none]⟩ := by
  refine meets_of (H := []) (EX := EXA) ttok mixed Try.func65 rfl (by kernel_rfl) (by decide) ?_
  generalize hA : real = A
  generalize hM : MeetsB Try.prog = M
  cbv
  repeat' first
    | apply And.intro
    | exact True.intro
    | with_reducible rfl
    | exact same_of hA rfl
    | refine br_of hA (fun _ => ?_) (fun _ => ?_)
    | (refine ind_of hA ?_; decide +kernel)
    | (refine call_of hA hM _ (eq_IntS x.at_.n x.at_.hn x.at_.g) ?_; cbv)
    | (refine call_of hA hM _ (eq_SnapS x.snaps.n x.snaps.hn x.snaps.g) ?_; cbv)
    | (exfalso; rename_i h; subst hA; simp [real] at h; done)
set_option maxRecDepth 100000 in
theorem eq_Ckp (x : CkpT) : Meets Try.prog 28 [xd (eCkp x), xd (eCkp x)] ⟨.one (.c (.d (eB true))), [none, none]⟩ := by
  refine meets_of (H := []) (EX := EXA) ttok mixed Try.func28 rfl (by kernel_rfl) (by decide) ?_
  generalize hA : real = A
  generalize hM : MeetsB Try.prog = M
  cbv
  repeat' first
    | apply And.intro
    | exact True.intro
    | with_reducible rfl
    | exact same_of hA rfl
    | refine br_of hA (fun _ => ?_) (fun _ => ?_)
    | (refine ind_of hA ?_; decide +kernel)
    | (refine call_of hA hM _ (eq_IntS x.src.n x.src.hn x.src.g) ?_; cbv)
    | (refine call_of hA hM _ (eq_BoolS x.tsk.n x.tsk.hn x.tsk.g) ?_; cbv)
    | (refine call_of hA hM _ (eq_SnapS x.snaps.n x.snaps.hn x.snaps.g) ?_; cbv)
    | (refine call_of hA hM _ (eq_Safe x.safe) ?_; cbv)
    | (exfalso; rename_i h; subst hA; simp [real] at h; done)
end Go.Rk
/- Small functions: what they answer. -/
namespace Go.Rk
set_option linter.unusedSimpArgs false
set_option linter.unusedVariables false
open Go.Proofs
set_option maxRecDepth 100000 in
theorem c_in (n lo hi : Int) : ∃ b, b = decide (lo ≤ n ∧ n ≤ hi) ∧ Meets Try.prog 56 [.c (.d (eI n)), .c (.d (eI lo)), .c (.d (eI hi))] ⟨.one (.c (.d (eB b))), [none, none, none]⟩ := by
  obtain ⟨b, hb⟩ : ∃ b, b = decide (lo ≤ n ∧ n ≤ hi) := ⟨_, rfl⟩
  refine ⟨b, hb, ?_⟩
  refine meets_of (H := []) (EX := EXA) ttok mixed Try.func56 rfl (by kernel_rfl) (by decide) ?_
  generalize hA : real = A
  generalize hM : MeetsB Try.prog = M
  cbv
  repeat' first
    | apply And.intro
    | exact True.intro
    | with_reducible rfl
    | exact same_of hA rfl
    | refine br_of hA (fun _ => ?_) (fun _ => ?_)
    | exact imp_of hA id
    | (refine imp_of hA ?_; subst hA; simp only [real, Bool.true_and]; exact id)
    | (refine ind_of hA ?_; decide +kernel)
    | fail
  all_goals subst hA
  all_goals refine congrArg (fun b => XA.one (.c (.d (eB b)))) (Bool.eq_iff_iff.2 ?_)
  all_goals subst_vars
  all_goals try simp only [real, bifA, bifB, bifC, bifD, decide_eq_true_eq, decide_eq_false_iff_not, beq_iff_eq, bne_iff_ne, beq_eq_false_iff_ne, bne_eq_false_iff_eq, ne_eq, Bool.and_eq_true, Bool.or_eq_true, Bool.not_eq_true', Bool.not_eq_false', Bool.and_eq_false_iff, Bool.or_eq_false_iff, Bool.false_eq_true, and_false, false_and, or_false, false_or, and_true, true_and, not_true_eq_false, not_false_eq_true, true_iff, false_iff, IntKind.wrap_i64] at *
  all_goals first
    | omega
    | skip
set_option maxRecDepth 100000 in
theorem c_l1In (n lo hi : Int) : ∃ b, b = decide (lo ≤ n ∧ n ≤ hi) ∧ Meets Try.prog 34 [.c (.d (eI n)), .c (.d (eI lo)), .c (.d (eI hi))] ⟨.one (.c (.d (eB b))), [none, none, none]⟩ := by
  obtain ⟨b, hb⟩ : ∃ b, b = decide (lo ≤ n ∧ n ≤ hi) := ⟨_, rfl⟩
  refine ⟨b, hb, ?_⟩
  refine meets_of (H := []) (EX := EXA) ttok mixed Try.func34 rfl (by kernel_rfl) (by decide) ?_
  generalize hA : real = A
  generalize hM : MeetsB Try.prog = M
  cbv
  repeat' first
    | apply And.intro
    | exact True.intro
    | with_reducible rfl
    | exact same_of hA rfl
    | refine br_of hA (fun _ => ?_) (fun _ => ?_)
    | exact imp_of hA id
    | (refine imp_of hA ?_; subst hA; simp only [real, Bool.true_and]; exact id)
    | (refine ind_of hA ?_; decide +kernel)
    | fail
  all_goals subst hA
  all_goals refine congrArg (fun b => XA.one (.c (.d (eB b)))) (Bool.eq_iff_iff.2 ?_)
  all_goals subst_vars
  all_goals try simp only [real, bifA, bifB, bifC, bifD, decide_eq_true_eq, decide_eq_false_iff_not, beq_iff_eq, bne_iff_ne, beq_eq_false_iff_ne, bne_eq_false_iff_eq, ne_eq, Bool.and_eq_true, Bool.or_eq_true, Bool.not_eq_true', Bool.not_eq_false', Bool.and_eq_false_iff, Bool.or_eq_false_iff, Bool.false_eq_true, and_false, false_and, or_false, false_or, and_true, true_and, not_true_eq_false, not_false_eq_true, true_iff, false_iff, IntKind.wrap_i64] at *
  all_goals first
    | omega
    | skip
set_option maxRecDepth 100000 in
theorem c_tells (n : Int) : ∃ b, b = decide (1 ≤ n ∧ n ≤ 4) ∧ Meets Try.prog 99 [.c (.d (eI n))] ⟨.one (.c (.d (eB b))), [none]⟩ := by
  obtain ⟨b, hb⟩ : ∃ b, b = decide (1 ≤ n ∧ n ≤ 4) := ⟨_, rfl⟩
  refine ⟨b, hb, ?_⟩
  refine meets_of (H := []) (EX := EXA) ttok mixed Try.func99 rfl (by kernel_rfl) (by decide) ?_
  generalize hA : real = A
  generalize hM : MeetsB Try.prog = M
  cbv
  repeat' first
    | apply And.intro
    | exact True.intro
    | with_reducible rfl
    | exact same_of hA rfl
    | refine br_of hA (fun _ => ?_) (fun _ => ?_)
    | exact imp_of hA id
    | (refine imp_of hA ?_; subst hA; simp only [real, Bool.true_and]; exact id)
    | (refine ind_of hA ?_; decide +kernel)
    | (refine call_ex hA hM (c_in _ _ _) (fun _ _ => ?_); cbv)
    | fail
  all_goals subst hA
  all_goals refine congrArg (fun b => XA.one (.c (.d (eB b)))) (Bool.eq_iff_iff.2 ?_)
  all_goals subst_vars
  all_goals try simp only [real, bifA, bifB, bifC, bifD, decide_eq_true_eq, decide_eq_false_iff_not, beq_iff_eq, bne_iff_ne, beq_eq_false_iff_ne, bne_eq_false_iff_eq, ne_eq, Bool.and_eq_true, Bool.or_eq_true, Bool.not_eq_true', Bool.not_eq_false', Bool.and_eq_false_iff, Bool.or_eq_false_iff, Bool.false_eq_true, and_false, false_and, or_false, false_or, and_true, true_and, not_true_eq_false, not_false_eq_true, true_iff, false_iff, IntKind.wrap_i64] at *
  all_goals first
    | omega
    | skip
set_option maxRecDepth 100000 in
theorem c_JobOk (a b1 kind size step late tell : Int) (p : Bool) (least room : Int) : ∃ b, b = decide ((1 ≤ a ∧ a ≤ 3) ∧ (1 ≤ b1 ∧ b1 ≤ 2) ∧ (1 ≤ kind ∧ kind ≤ 3) ∧ (1 ≤ size ∧ size ≤ 20) ∧ ((kind = 2 ∧ (1 ≤ step ∧ step ≤ size) ∧ size ≤ 4 * step) ∨ (kind ≠ 2 ∧ step = 0)) ∧ (0 ≤ late ∧ late ≤ 20) ∧ (1 ≤ tell ∧ tell ≤ 4) ∧ (-9 ≤ least ∧ least ≤ 9) ∧ (1 ≤ room ∧ room ≤ 4)) ∧ Meets Try.prog 50 [.agg [.d (eI a), .d (eI b1), .d (eI kind), .d (eI size), .d (eI step), .d (eI late), .d (eI tell), .d (eB p), .d (eI least), .d (eI room)]] ⟨.one (.c (.d (eB b))), [none]⟩ := by
  obtain ⟨b, hb⟩ : ∃ b, b = decide ((1 ≤ a ∧ a ≤ 3) ∧ (1 ≤ b1 ∧ b1 ≤ 2) ∧ (1 ≤ kind ∧ kind ≤ 3) ∧ (1 ≤ size ∧ size ≤ 20) ∧ ((kind = 2 ∧ (1 ≤ step ∧ step ≤ size) ∧ size ≤ 4 * step) ∨ (kind ≠ 2 ∧ step = 0)) ∧ (0 ≤ late ∧ late ≤ 20) ∧ (1 ≤ tell ∧ tell ≤ 4) ∧ (-9 ≤ least ∧ least ≤ 9) ∧ (1 ≤ room ∧ room ≤ 4)) := ⟨_, rfl⟩
  refine ⟨b, hb, ?_⟩
  refine meets_of (H := []) (EX := EXA) ttok mixed Try.func50 rfl (by kernel_rfl) (by decide) ?_
  generalize hA : real = A
  generalize hM : MeetsB Try.prog = M
  cbv
  repeat' first
    | apply And.intro
    | exact True.intro
    | with_reducible rfl
    | exact same_of hA rfl
    | refine br_of hA (fun _ => ?_) (fun _ => ?_)
    | exact imp_of hA id
    | (refine imp_of hA ?_; subst hA; simp only [real, Bool.true_and]; exact id)
    | (refine ind_of hA ?_; decide +kernel)
    | (refine call_ex hA hM (c_in _ _ _) (fun _ _ => ?_); cbv)
    | (refine call_ex hA hM (c_tells _) (fun _ _ => ?_); cbv)
    | fail
  all_goals subst hA
  all_goals refine congrArg (fun b => XA.one (.c (.d (eB b)))) (Bool.eq_iff_iff.2 ?_)
  all_goals subst_vars
  all_goals try simp only [real, bifA, bifB, bifC, bifD, decide_eq_true_eq, decide_eq_false_iff_not, beq_iff_eq, bne_iff_ne, beq_eq_false_iff_ne, bne_eq_false_iff_eq, ne_eq, Bool.and_eq_true, Bool.or_eq_true, Bool.not_eq_true', Bool.not_eq_false', Bool.and_eq_false_iff, Bool.or_eq_false_iff, Bool.false_eq_true, and_false, false_and, or_false, false_or, and_true, true_and, not_true_eq_false, not_false_eq_true, true_iff, false_iff, IntKind.wrap_i64] at *
  all_goals first
    | omega
    | skip
set_option maxRecDepth 100000 in
theorem c_sJobOk (a b1 kind size step late tell : Int) (p : Bool) (least room : Int) : ∃ b, b = decide ((1 ≤ a ∧ a ≤ 3) ∧ (1 ≤ b1 ∧ b1 ≤ 2) ∧ (1 ≤ kind ∧ kind ≤ 3) ∧ (1 ≤ size ∧ size ≤ 20) ∧ ((kind = 2 ∧ (1 ≤ step ∧ step ≤ size) ∧ size ≤ 4 * step) ∨ (kind ≠ 2 ∧ step = 0)) ∧ (0 ≤ late ∧ late ≤ 20) ∧ (1 ≤ tell ∧ tell ≤ 4) ∧ (-9 ≤ least ∧ least ≤ 9) ∧ (1 ≤ room ∧ room ≤ 4)) ∧ Meets Try.prog 23 [.agg [.d (eI a), .d (eI b1), .d (eI kind), .d (eI size), .d (eI step), .d (eI late), .d (eI tell), .d (eB p), .d (eI least), .d (eI room)]] ⟨.one (.c (.d (eB b))), [none]⟩ := by
  obtain ⟨b, hb⟩ : ∃ b, b = decide ((1 ≤ a ∧ a ≤ 3) ∧ (1 ≤ b1 ∧ b1 ≤ 2) ∧ (1 ≤ kind ∧ kind ≤ 3) ∧ (1 ≤ size ∧ size ≤ 20) ∧ ((kind = 2 ∧ (1 ≤ step ∧ step ≤ size) ∧ size ≤ 4 * step) ∨ (kind ≠ 2 ∧ step = 0)) ∧ (0 ≤ late ∧ late ≤ 20) ∧ (1 ≤ tell ∧ tell ≤ 4) ∧ (-9 ≤ least ∧ least ≤ 9) ∧ (1 ≤ room ∧ room ≤ 4)) := ⟨_, rfl⟩
  refine ⟨b, hb, ?_⟩
  refine meets_of (H := []) (EX := EXA) ttok mixed Try.func23 rfl (by kernel_rfl) (by decide) ?_
  generalize hA : real = A
  generalize hM : MeetsB Try.prog = M
  cbv
  repeat' first
    | apply And.intro
    | exact True.intro
    | with_reducible rfl
    | exact same_of hA rfl
    | refine br_of hA (fun _ => ?_) (fun _ => ?_)
    | exact imp_of hA id
    | (refine imp_of hA ?_; subst hA; simp only [real, Bool.true_and]; exact id)
    | (refine ind_of hA ?_; decide +kernel)
    | (refine call_ex hA hM (c_l1In _ _ _) (fun _ _ => ?_); cbv)
    | fail
  all_goals subst hA
  all_goals refine congrArg (fun b => XA.one (.c (.d (eB b)))) (Bool.eq_iff_iff.2 ?_)
  all_goals subst_vars
  all_goals try simp only [real, bifA, bifB, bifC, bifD, decide_eq_true_eq, decide_eq_false_iff_not, beq_iff_eq, bne_iff_ne, beq_eq_false_iff_ne, bne_eq_false_iff_eq, ne_eq, Bool.and_eq_true, Bool.or_eq_true, Bool.not_eq_true', Bool.not_eq_false', Bool.and_eq_false_iff, Bool.or_eq_false_iff, Bool.false_eq_true, and_false, false_and, or_false, false_or, and_true, true_and, not_true_eq_false, not_false_eq_true, true_iff, false_iff, IntKind.wrap_i64] at *
  all_goals first
    | omega
    | skip
end Go.Rk
/- Small functions: what they answer. -/
namespace Go.Rk
set_option linter.unusedSimpArgs false
set_option linter.unusedVariables false
open Go.Proofs
/-- The first that is not 0. -/
inductive FirstNz (n : Nat) (g : Nat → Int) : Int → Prop
  | at (i : Nat) (h : i < n) (hi : g i ≠ 0) (hb : ∀ j, j < i → g j = 0) : FirstNz n g (g i)
  | none (hb : ∀ j, j < n → g j = 0) : FirstNz n g 0
end Go.Rk
/- Counts and least numbers. -/
namespace Go.Rk
set_option linter.unusedSimpArgs false
set_option linter.unusedVariables false
/-- One row more at the end. -/
theorem push_at {A : Ar} (hA : real = A) (n : Nat) (row : Nat → List DV) (x : List DV) (z : Nat → List DV) (k : Nat) (hk : k < n + 1) : A.app n row (A.sub 0 (A.app 1 (A.rep x) z)) k = if k < n then row k else x := by
  subst hA
  show (if k < n then row k else (if 0 + (k - n) < 1 then x else z (0 + (k - n) - 1))) = _
  split
  · rfl
  · rw [if_pos (by omega)]
end Go.Rk
/- Checkpoints, as the reference has them. -/
namespace Go.Rk
set_option linter.unusedSimpArgs false
set_option linter.unusedVariables false
open Go.Proofs
theorem c_JobOkP (j : JobT) : ∃ b, (b = true ↔ JobOkP j) ∧ Meets Try.prog 50 [xd (eJob j)] ⟨.one (.c (.d (eB b))), [none]⟩ := by
  obtain ⟨b, hb, hm⟩ := c_JobOk j.srcs j.tsks j.kind j.size j.step j.late j.tell j.piece j.least j.room
  exact ⟨b, by rw [hb, decide_eq_true_eq]; exact Iff.rfl, hm⟩
theorem c_sJobOkP (j : JobT) : ∃ b, (b = true ↔ JobOkP j) ∧ Meets Try.prog 23 [xd (eJob j)] ⟨.one (.c (.d (eB b))), [none]⟩ := by
  obtain ⟨b, hb, hm⟩ := c_sJobOk j.srcs j.tsks j.kind j.size j.step j.late j.tell j.piece j.least j.room
  exact ⟨b, by rw [hb, decide_eq_true_eq]; exact Iff.rfl, hm⟩
end Go.Rk
/- Rows of values are flat. -/
namespace Go.Rk
set_option linter.unusedSimpArgs false
set_option linter.unusedVariables false
theorem flat_int (x : Int) : FlatL [eI x] := ⟨⟨_, rfl⟩, trivial⟩
theorem flat_bool (x : Bool) : FlatL [eB x] := ⟨⟨_, rfl⟩, trivial⟩
theorem flat_Row (x : RowT) : FlatL (eRow x) := by repeat' first | exact True.intro | exact ⟨_, rfl⟩ | apply And.intro
end Go.Rk
/- Rows of a table, as lists. -/
namespace Go.Rk
set_option linter.unusedSimpArgs false
set_option linter.unusedVariables false
def IsRow (key : Int) (w : WinT) (r : TabT) : Prop := r.key = key ∧ (r.win.s = w.s ∧ r.win.e = w.e)
instance (key : Int) (w : WinT) (r : TabT) : Decidable (IsRow key w r) := inferInstanceAs (Decidable (_ ∧ _))
def Ahead (r q : TabT) : Prop := r.key < q.key ∨ (r.key = q.key ∧ (r.win.s < q.win.s ∨ (r.win.s = q.win.s ∧ r.win.e < q.win.e)))
instance (r q : TabT) : Decidable (Ahead r q) := inferInstanceAs (Decidable (_ ∨ _))
theorem room_add2 {A : Ar} (hA : real = A) {n m b : Nat} (hn : n + m ≤ 2000000) (hb : b ≤ 100000) : A.room (A.add n m) b := by
  subst hA
  have h1 : (n + m) * b ≤ 2000000 * 100000 := Nat.mul_le_mul hn hb
  exact ⟨Nat.le_trans h1 (by omega), Nat.le_trans hn (by omega)⟩
def zAgg : AggT := ⟨0, 0, 0, 0⟩
end Go.Rk
/- What is known of values, by lists; tables that records lead to. -/
namespace Go.Rk
set_option linter.unusedSimpArgs false
set_option linter.unusedVariables false
def sumI : List Int → Int
  | [] => 0
  | x :: l => x + sumI l
/-- What is known of just these values. -/
structure AggIs (a : AggT) (L : List Int) : Prop where
  n : a.n = (L.length : Int)
  sum : a.sum = sumI L
  z : L = [] → a = zAgg
  nz : L ≠ [] → a.least ∈ L ∧ a.most ∈ L ∧ ∀ x, x ∈ L → a.least ≤ x ∧ x ≤ a.most
abbrev Rise (l : List TabT) : Prop := l.Pairwise Ahead
end Go.Rk
/- Tables of pairs of records and windows: what they say, and that they hang on no order. -/
namespace Go.Rk
set_option linter.unusedSimpArgs false
set_option linter.unusedVariables false
def valsW (k : Int) (w : WinT) (P : List LatT) : List Int := (P.filter fun l => decide (l.itm.key = k ∧ l.win.s = w.s ∧ l.win.e = w.e)).map (·.itm.v)
def valsS (k : Int) (w : WinT) (P : List LatT) : List Int := (P.filter fun l => decide (l.itm.key = k ∧ w.s ≤ l.win.s ∧ l.win.s < w.e)).map (·.itm.v)
/-! ## Windows that do not grow -/
structure InvW (P : List LatT) (T : List TabT) : Prop where
  rise : Rise T
  row : ∀ r, r ∈ T → valsW r.key r.win P ≠ [] ∧ AggIs r.agg (valsW r.key r.win P)
  has : ∀ l, l ∈ P → ∃ r, r ∈ T ∧ IsRow l.itm.key l.win r
/-! ## Sessions -/
def CovP (P : List LatT) (k p : Int) : Prop := ∃ l, l ∈ P ∧ l.itm.key = k ∧ l.win.s < p ∧ p < l.win.e
structure SessP (P : List LatT) (r : TabT) : Prop where
  lt : r.win.s < r.win.e
  fst : ∃ l, l ∈ P ∧ l.itm.key = r.key ∧ l.win.s = r.win.s
  lst : ∃ l, l ∈ P ∧ l.itm.key = r.key ∧ l.win.e = r.win.e
  mid : ∀ p, r.win.s < p → p < r.win.e → CovP P r.key p
  low : ¬ CovP P r.key r.win.s
  top : ¬ CovP P r.key r.win.e
  agg : AggIs r.agg (valsS r.key r.win P)
structure InvS (P : List LatT) (T : List TabT) : Prop where
  rise : Rise T
  row : ∀ r, r ∈ T → SessP P r
  has : ∀ l, l ∈ P → ∃ r, r ∈ T ∧ r.key = l.itm.key ∧ r.win.s ≤ l.win.s ∧ l.win.e ≤ r.win.e
end Go.Rk
/- Tables of panes. -/
namespace Go.Rk
set_option linter.unusedSimpArgs false
set_option linter.unusedVariables false
theorem sub0r (f : Nat → List DV) : real.sub 0 f = f := sub0 rfl f
end Go.Rk
/- What a mark does to rows, in plain words. -/
namespace Go.Rk
set_option linter.unusedSimpArgs false
set_option linter.unusedVariables false
def mkRow (k : Int) : RowT := ⟨k, ⟨k + 1, k + 2⟩, ⟨k + 3, k + 4, k + 5, k + 6⟩, ⟨k + 7, k + 8, k + 9, k + 10⟩, k + 11, ((k + 12).tmod 3 == 0)⟩
theorem wr1 (k : Int) (h : 0 ≤ k ∧ k ≤ 150000000) : IntKind.i64.wrap (k + 1) = k + 1 := IntWalk.i64_in _ (by omega)
theorem wrn (k c d : Int) (h : 0 ≤ k ∧ k ≤ 150000000) (hc : 0 ≤ c ∧ c ≤ 1000) (hd : c + 1 = d) : IntKind.i64.wrap (k + c + 1) = k + d := by
  rw [IntWalk.i64_in _ (by omega)]; omega
end Go.Rk
/- What a record does to rows, in plain words. -/
namespace Go.Rk
set_option linter.unusedSimpArgs false
set_option linter.unusedVariables false
def IsR (k : Int) (w : WinT) (r : RowT) : Prop := r.key = k ∧ (r.win.s = w.s ∧ r.win.e = w.e)
instance (k : Int) (w : WinT) (r : RowT) : Decidable (IsR k w r) := inferInstanceAs (Decidable (_ ∧ _))
def RA (r q : RowT) : Prop := AheadP r.key r.win q.key q.win
instance (r q : RowT) : Decidable (RA r q) := inferInstanceAs (Decidable (_ ∨ (_ ∧ (_ ∨ (_ ∧ _)))))
end Go.Rk
/- Marks, in plain words. -/
namespace Go.Rk
set_option linter.unusedSimpArgs false
set_option linter.unusedVariables false
abbrev intT := Int
abbrev boolT := Bool
abbrev eint (x : Int) : List DV := [eI x]
abbrev ebool (x : Bool) : List DV := [eB x]
def mkint (k : Int) : Int := k
def mkbool (k : Int) : Bool := k.tmod 3 == 0
/-- Where the marks of a row's parts begin, one behind the other. -/
def posS (len : Nat → Int) (s : Int) : Nat → Int
  | 0 => s
  | i + 1 => posS len s i + len i
theorem posS_mono {len : Nat → Int} {s : Int} {n : Nat} (h : ∀ i, i < n → 0 ≤ len i) : ∀ {i j : Nat}, i ≤ j → j ≤ n → posS len s i ≤ posS len s j := by
  intro i j hij hj
  induction j with
  | zero => have : i = 0 := by omega
            subst this; exact Int.le_refl _
  | succ j ih =>
    by_cases e : i = j + 1
    · subst e; exact Int.le_refl _
    · have h1 := ih (by omega) (by omega)
      have h2 := h j (by omega)
      show _ ≤ posS len s j + len j
      omega
def lenSnap (x : SnapT) : Int := 1 + 13 * (x.op.rows.n : Int) + (x.marks.n : Int)
def mkSnap (p : Int) (x : SnapT) : SnapT := ⟨⟨p, ⟨x.op.rows.n, fun i => mkRow (p + 1 + 13 * (i : Int)), x.op.rows.hn⟩⟩, ⟨x.marks.n, fun i => p + 1 + 13 * (x.op.rows.n : Int) + (i : Int), x.marks.hn⟩⟩
end Go.Rk
/- Marks. -/
namespace Go.Rk
set_option linter.unusedSimpArgs false
set_option linter.unusedVariables false
open Go.Proofs
def st_msint (n i : Nat) (k : Int) (rm : Nat → intT) : St := ⟨[(5, .c (.d (eI i))), (1, .c (.d (eI k))), (0, .c (.own 0 0 n 1))], [(0, 1, .arr 1 n fun i => eint (rm i))]⟩
set_option maxRecDepth 100000 in
set_option maxHeartbeats 1000000 in
theorem marks_int (s : Int) (hs : 0 ≤ s ∧ s ≤ 100000000) (n : Nat) (hn : n ≤ 1100000) (rd : Nat → intT) (x : Int) (hx : x = s + 1 * (n : Int)) (GM : Nat → intT) (hGM : ∀ i, GM i = mkint (s + 1 * (i : Int))) : Meets Try.prog 16 [.c (.own 1 n fun i => eint (rd i)), .c (.d (eI s))] ⟨.one (.c (.d (eI x))), [some (.own 1 n fun i => eint (GM i)), none]⟩ := by
  have hn2 : n ≤ maxLen := Nat.le_trans hn (by decide)
  refine meets_of (H := [6]) (EX := EXA) ttok mixed Try.func16 rfl (by kernel_rfl) (by decide) ?_
  generalize hA : real = A
  generalize hM : MeetsB Try.prog = M
  cbv
  repeat' first
    | apply And.intro
    | exact True.intro
    | with_reducible rfl
    | exact same_of hA rfl
    | refine br_of hA (fun _ => ?_) (fun _ => ?_)
    | exact imp_of hA id
    | (refine imp_of hA ?_; subst hA; simp only [real, Bool.true_and]; exact id)
    | (refine ind_of hA ?_; decide +kernel)
    | fail
  refine loop_of hA (α := { q : Nat × Int × (Nat → intT) // q.1 ≤ n ∧ q.2.1 = s + 1 * (q.1 : Int) ∧ ∀ j, j < q.1 → q.2.2 j = GM j }) (fun y => st_msint n y.1.1 y.1.2.1 y.1.2.2) (fun y => n - y.1.1) ⟨(0, s, rd), Nat.zero_le _, by simp, fun j h => absurd h (Nat.not_lt_zero j)⟩ ?_ ?_
  · refine cov_of ?_ ?_ ?_
    · cbv; try (subst hA; repeat' first | apply And.intro | exact True.intro | rfl)
    · cbv; try (subst hA; repeat' first | apply And.intro | exact True.intro | rfl | (intro _ _; rfl))
    · cbv; try (subst hA; repeat' first | apply And.intro | exact True.intro | rfl | exact .inr trivial | exact .inr (Nat.le_refl _))
  rintro ⟨⟨i, k, rm⟩, hi, hkk, hr⟩
  have hi : i ≤ n := hi
  have hkk : k = s + 1 * (i : Int) := hkk
  have hr : ∀ j, j < i → rm j = GM j := hr
  obtain ⟨k1, hk1⟩ : ∃ z : Int, z = k + 1 := ⟨_, rfl⟩
  have w1 : IntKind.i64.wrap (k + 1) = k1 := by rw [IntWalk.i64_in _ (by omega)]; omega
  obtain ⟨r1, hr1⟩ : ∃ r : Nat → intT, r = fun q => if q = i then (k : intT) else rm q := ⟨_, rfl⟩
  cbv
  repeat' first
    | apply And.intro
    | exact True.intro
    | with_reducible rfl
    | exact same_of hA rfl
    | refine br_of hA (fun _ => ?_) (fun _ => ?_)
    | exact imp_of hA id
    | (refine imp_of hA ?_; subst hA; simp only [real, Bool.true_and]; exact id)
    | (refine ind_of hA ?_; decide +kernel)
    | (refine inb_of hA fun _ => ?_; subst hA; simp only [real, Bool.and_eq_true, Bool.not_eq_true', Bool.not_eq_false', decide_eq_true_eq, Int.ofNat_eq_natCast, IntKind.wrap_i64] at *; omega)
    | (subst hA; exact fun _ => (by decide : (3 : Int) ≠ 0))
    | fail
  · rename_i hlt
    have hlt' : i < n := by subst hA; simp only [real, decide_eq_true_eq, Int.ofNat_eq_natCast] at hlt; omega
    have h9 : ((i + 1 : Nat) : Int) = (i : Int) + 1 := rfl
    refine ⟨⟨(i + 1, k1, r1), by simp only; omega, by (show k1 = s + 1 * ((i + 1 : Nat) : Int)); rw [h9, hk1, hkk, Int.mul_add]; exact Int.add_assoc _ _ _, fun j hj => ?_⟩, by simp only; omega, cov_of ?_ ?_ ?_⟩
    · simp only at hj ⊢
      by_cases e : j = i
      · rw [hr1]; simp only [e, if_true]
        rw [hGM, ← hkk]
        simp only [mkint, ]
      · rw [hr1]; simp only [e, if_false]; exact hr j (by omega)
    · cbv
      subst hA
      repeat' first | apply And.intro | exact True.intro | exact congrArg (fun x => DV.v (.int .i64 x)) w1 | exact congrArg (fun x => DV.v (.int .i64 x)) (up64 hlt' hn2) | rfl
    · cbv
      subst hA
      refine ⟨fun q _ => ?_, trivial⟩
      have e0 : real.add 0 (real.nat (Int.ofNat i)) = i := Nat.zero_add i
      simp only [e0]
      first
        | (show (if q = i then _ else eint (rm q)) = eint (r1 q))
        | (show (if q = 0 + i then _ else eint (rm q)) = eint (r1 q); rw [Nat.zero_add])
      simp only [hr1]
      by_cases e : q = i
      · subst e; first | (simp; done) | (simp; rfl)
      · simp [e]
    · cbv; try (subst hA; repeat' first | apply And.intro | exact True.intro | rfl | exact .inr trivial | exact .inr (Nat.le_refl _))
  · rename_i hge
    have hin : i = n := by
      subst hA
      simp only [real, decide_eq_false_iff_not, Int.ofNat_eq_natCast] at hge
      omega
    subst hin
    have hkx : k = x := by rw [hkk, hx]
    subst hkx
    refine stop_of hA ⟨[(1, .c (.d (eI k)))], [(0, 1, .arr 1 i fun q => eint (GM q))]⟩ (cov_of ?_ ?_ ?_) ?_
    · cbv
    · cbv
      exact ⟨fun q hq => congrArg (fun y => eint y) (hr q hq), trivial⟩
    · cbv; try (subst hA; repeat' first | apply And.intro | exact True.intro | rfl | exact .inr trivial | exact .inr (Nat.le_refl _))
    · cbv
      repeat' first
        | apply And.intro
        | exact True.intro
        | with_reducible rfl
        | exact same_of hA rfl
        | refine br_of hA (fun _ => ?_) (fun _ => ?_)
        | exact imp_of hA id
        | (refine imp_of hA ?_; subst hA; simp only [real, Bool.true_and]; exact id)
        | (refine ind_of hA ?_; decide +kernel)
        | fail
def st_hsint (n : Nat) (rd : Nat → intT) (i : Nat) (k : Int) : St := ⟨[(5, .c (.d (eI i))), (1, .c (.d (eI k))), (0, .c (.d (.sl 1 n fun i => eint (rd i))))], []⟩
set_option maxRecDepth 100000 in
set_option maxHeartbeats 2000000 in
theorem helds_int (s : Int) (hs : 0 ≤ s ∧ s ≤ 100000000) (n : Nat) (hn : n ≤ 1100000) (x : Int) (hx : x = s + 1 * (n : Int)) (GM : Nat → intT) (hGM : ∀ i, GM i = mkint (s + 1 * (i : Int))) : Meets Try.prog 69 [.c (.d (.sl 1 n fun i => eint (GM i))), .c (.d (eI s))] ⟨.one (.c (.d (eI x))), [none, none]⟩ := by
  have hn2 : n ≤ maxLen := Nat.le_trans hn (by decide)
  refine meets_of (H := []) (EX := EXA) ttok mixed Try.func69 rfl (by kernel_rfl) (by decide) ?_
  generalize hA : real = A
  generalize hM : MeetsB Try.prog = M
  cbv
  repeat' first
    | apply And.intro
    | exact True.intro
    | with_reducible rfl
    | exact same_of hA rfl
    | refine br_of hA (fun _ => ?_) (fun _ => ?_)
    | exact imp_of hA id
    | (refine imp_of hA ?_; subst hA; simp only [real, Bool.true_and]; exact id)
    | (refine ind_of hA ?_; decide +kernel)
    | fail
  refine loop_of hA (α := { q : Nat × Int // q.1 ≤ n ∧ q.2 = s + 1 * (q.1 : Int) }) (fun y => st_hsint n GM y.1.1 y.1.2) (fun y => n - y.1.1) ⟨(0, s), Nat.zero_le _, by simp⟩ ?_ ?_
  · refine cov_of ?_ ?_ ?_
    · cbv; try (subst hA; repeat' first | apply And.intro | exact True.intro | rfl)
    · cbv; try (subst hA; repeat' first | apply And.intro | exact True.intro | rfl)
    · cbv
  rintro ⟨⟨i, k⟩, hi, hkk⟩
  have hi : i ≤ n := hi
  have hkk : k = s + 1 * (i : Int) := hkk
  have hkb : 0 ≤ k ∧ k ≤ 150000000 := by omega
  have e := hGM i
  rw [← hkk] at e
  have w1 : IntKind.i64.wrap (k + 1) = k + 1 := wr1 k hkb
  cbv
  repeat' first
    | apply And.intro
    | exact True.intro
    | with_reducible rfl
    | exact same_of hA rfl
    | refine br_of hA (fun _ => ?_) (fun _ => ?_)
    | exact imp_of hA id
    | (refine imp_of hA ?_; subst hA; simp only [real, Bool.true_and]; exact id)
    | (refine ind_of hA ?_; decide +kernel)
    | (refine inb_of hA fun _ => ?_; subst hA; simp only [real, Bool.and_eq_true, Bool.not_eq_true', Bool.not_eq_false', decide_eq_true_eq, Int.ofNat_eq_natCast, IntKind.wrap_i64] at *; omega)
    | (subst hA; exact fun _ => (by decide : (3 : Int) ≠ 0))
    | fail
  · exfalso
    rename_i hlt h0
    have h : ((GM i) != k) = true := by subst hA; exact h0
    rw [e] at h
    simp [mkint] at h
  · rename_i hlt h0
    have hlt' : i < n := by subst hA; simp only [real, decide_eq_true_eq, Int.ofNat_eq_natCast] at hlt; omega
    have h9 : ((i + 1 : Nat) : Int) = (i : Int) + 1 := rfl
    obtain ⟨kk, hkk2⟩ : ∃ z : Int, z = k + 1 := ⟨_, rfl⟩
    replace w1 := w1.trans hkk2.symm
    refine ⟨⟨(i + 1, kk), by simp only; omega, by (show kk = s + 1 * ((i + 1 : Nat) : Int)); rw [h9, hkk2, hkk, Int.mul_add]; exact Int.add_assoc _ _ _⟩, by simp only; omega, cov_of ?_ ?_ ?_⟩
    · cbv
      subst hA
      repeat' first | apply And.intro | exact True.intro | exact congrArg (fun x => DV.v (.int .i64 x)) (up64 hlt' hn2) | exact congrArg (fun x => DV.v (.int .i64 x)) w1 | rfl
    · cbv
    · cbv
  · rename_i hge
    have hin : i = n := by
      subst hA
      simp only [real, decide_eq_false_iff_not, Int.ofNat_eq_natCast] at hge
      omega
    subst hin
    exact congrArg (fun x => XA.one (.c (.d (eI x)))) (by rw [hkk, hx])
def st_msbool (n i : Nat) (k : Int) (rm : Nat → boolT) : St := ⟨[(5, .c (.d (eI i))), (1, .c (.d (eI k))), (0, .c (.own 0 0 n 1))], [(0, 1, .arr 1 n fun i => ebool (rm i))]⟩
set_option maxRecDepth 100000 in
set_option maxHeartbeats 1000000 in
theorem marks_bool (s : Int) (hs : 0 ≤ s ∧ s ≤ 100000000) (n : Nat) (hn : n ≤ 1100000) (rd : Nat → boolT) (x : Int) (hx : x = s + 1 * (n : Int)) (GM : Nat → boolT) (hGM : ∀ i, GM i = mkbool (s + 1 * (i : Int))) : Meets Try.prog 66 [.c (.own 1 n fun i => ebool (rd i)), .c (.d (eI s))] ⟨.one (.c (.d (eI x))), [some (.own 1 n fun i => ebool (GM i)), none]⟩ := by
  have hn2 : n ≤ maxLen := Nat.le_trans hn (by decide)
  refine meets_of (H := [6]) (EX := EXA) ttok mixed Try.func66 rfl (by kernel_rfl) (by decide) ?_
  generalize hA : real = A
  generalize hM : MeetsB Try.prog = M
  cbv
  repeat' first
    | apply And.intro
    | exact True.intro
    | with_reducible rfl
    | exact same_of hA rfl
    | refine br_of hA (fun _ => ?_) (fun _ => ?_)
    | exact imp_of hA id
    | (refine imp_of hA ?_; subst hA; simp only [real, Bool.true_and]; exact id)
    | (refine ind_of hA ?_; decide +kernel)
    | fail
  refine loop_of hA (α := { q : Nat × Int × (Nat → boolT) // q.1 ≤ n ∧ q.2.1 = s + 1 * (q.1 : Int) ∧ ∀ j, j < q.1 → q.2.2 j = GM j }) (fun y => st_msbool n y.1.1 y.1.2.1 y.1.2.2) (fun y => n - y.1.1) ⟨(0, s, rd), Nat.zero_le _, by simp, fun j h => absurd h (Nat.not_lt_zero j)⟩ ?_ ?_
  · refine cov_of ?_ ?_ ?_
    · cbv; try (subst hA; repeat' first | apply And.intro | exact True.intro | rfl)
    · cbv; try (subst hA; repeat' first | apply And.intro | exact True.intro | rfl | (intro _ _; rfl))
    · cbv; try (subst hA; repeat' first | apply And.intro | exact True.intro | rfl | exact .inr trivial | exact .inr (Nat.le_refl _))
  rintro ⟨⟨i, k, rm⟩, hi, hkk, hr⟩
  have hi : i ≤ n := hi
  have hkk : k = s + 1 * (i : Int) := hkk
  have hr : ∀ j, j < i → rm j = GM j := hr
  obtain ⟨k1, hk1⟩ : ∃ z : Int, z = k + 1 := ⟨_, rfl⟩
  have w1 : IntKind.i64.wrap (k + 1) = k1 := by rw [IntWalk.i64_in _ (by omega)]; omega
  obtain ⟨r1, hr1⟩ : ∃ r : Nat → boolT, r = fun q => if q = i then ((k.tmod 3 == 0) : boolT) else rm q := ⟨_, rfl⟩
  cbv
  repeat' first
    | apply And.intro
    | exact True.intro
    | with_reducible rfl
    | exact same_of hA rfl
    | refine br_of hA (fun _ => ?_) (fun _ => ?_)
    | exact imp_of hA id
    | (refine imp_of hA ?_; subst hA; simp only [real, Bool.true_and]; exact id)
    | (refine ind_of hA ?_; decide +kernel)
    | (refine inb_of hA fun _ => ?_; subst hA; simp only [real, Bool.and_eq_true, Bool.not_eq_true', Bool.not_eq_false', decide_eq_true_eq, Int.ofNat_eq_natCast, IntKind.wrap_i64] at *; omega)
    | (subst hA; exact fun _ => (by decide : (3 : Int) ≠ 0))
    | fail
  · rename_i hlt
    have hlt' : i < n := by subst hA; simp only [real, decide_eq_true_eq, Int.ofNat_eq_natCast] at hlt; omega
    have h9 : ((i + 1 : Nat) : Int) = (i : Int) + 1 := rfl
    refine ⟨⟨(i + 1, k1, r1), by simp only; omega, by (show k1 = s + 1 * ((i + 1 : Nat) : Int)); rw [h9, hk1, hkk, Int.mul_add]; exact Int.add_assoc _ _ _, fun j hj => ?_⟩, by simp only; omega, cov_of ?_ ?_ ?_⟩
    · simp only at hj ⊢
      by_cases e : j = i
      · rw [hr1]; simp only [e, if_true]
        rw [hGM, ← hkk]
        simp only [mkbool, ]
      · rw [hr1]; simp only [e, if_false]; exact hr j (by omega)
    · cbv
      subst hA
      repeat' first | apply And.intro | exact True.intro | exact congrArg (fun x => DV.v (.int .i64 x)) w1 | exact congrArg (fun x => DV.v (.int .i64 x)) (up64 hlt' hn2) | rfl
    · cbv
      subst hA
      refine ⟨fun q _ => ?_, trivial⟩
      have e0 : real.add 0 (real.nat (Int.ofNat i)) = i := Nat.zero_add i
      simp only [e0]
      first
        | (show (if q = i then _ else ebool (rm q)) = ebool (r1 q))
        | (show (if q = 0 + i then _ else ebool (rm q)) = ebool (r1 q); rw [Nat.zero_add])
      simp only [hr1]
      by_cases e : q = i
      · subst e; first | (simp; done) | (simp; rfl)
      · simp [e]
    · cbv; try (subst hA; repeat' first | apply And.intro | exact True.intro | rfl | exact .inr trivial | exact .inr (Nat.le_refl _))
  · rename_i hge
    have hin : i = n := by
      subst hA
      simp only [real, decide_eq_false_iff_not, Int.ofNat_eq_natCast] at hge
      omega
    subst hin
    have hkx : k = x := by rw [hkk, hx]
    subst hkx
    refine stop_of hA ⟨[(1, .c (.d (eI k)))], [(0, 1, .arr 1 i fun q => ebool (GM q))]⟩ (cov_of ?_ ?_ ?_) ?_
    · cbv
    · cbv
      exact ⟨fun q hq => congrArg (fun y => ebool y) (hr q hq), trivial⟩
    · cbv; try (subst hA; repeat' first | apply And.intro | exact True.intro | rfl | exact .inr trivial | exact .inr (Nat.le_refl _))
    · cbv
      repeat' first
        | apply And.intro
        | exact True.intro
        | with_reducible rfl
        | exact same_of hA rfl
        | refine br_of hA (fun _ => ?_) (fun _ => ?_)
        | exact imp_of hA id
        | (refine imp_of hA ?_; subst hA; simp only [real, Bool.true_and]; exact id)
        | (refine ind_of hA ?_; decide +kernel)
        | fail
def st_hsbool (n : Nat) (rd : Nat → boolT) (i : Nat) (k : Int) : St := ⟨[(5, .c (.d (eI i))), (1, .c (.d (eI k))), (0, .c (.d (.sl 1 n fun i => ebool (rd i))))], []⟩
set_option maxRecDepth 100000 in
set_option maxHeartbeats 2000000 in
theorem helds_bool (s : Int) (hs : 0 ≤ s ∧ s ≤ 100000000) (n : Nat) (hn : n ≤ 1100000) (x : Int) (hx : x = s + 1 * (n : Int)) (GM : Nat → boolT) (hGM : ∀ i, GM i = mkbool (s + 1 * (i : Int))) : Meets Try.prog 70 [.c (.d (.sl 1 n fun i => ebool (GM i))), .c (.d (eI s))] ⟨.one (.c (.d (eI x))), [none, none]⟩ := by
  have hn2 : n ≤ maxLen := Nat.le_trans hn (by decide)
  refine meets_of (H := []) (EX := EXA) ttok mixed Try.func70 rfl (by kernel_rfl) (by decide) ?_
  generalize hA : real = A
  generalize hM : MeetsB Try.prog = M
  cbv
  repeat' first
    | apply And.intro
    | exact True.intro
    | with_reducible rfl
    | exact same_of hA rfl
    | refine br_of hA (fun _ => ?_) (fun _ => ?_)
    | exact imp_of hA id
    | (refine imp_of hA ?_; subst hA; simp only [real, Bool.true_and]; exact id)
    | (refine ind_of hA ?_; decide +kernel)
    | fail
  refine loop_of hA (α := { q : Nat × Int // q.1 ≤ n ∧ q.2 = s + 1 * (q.1 : Int) }) (fun y => st_hsbool n GM y.1.1 y.1.2) (fun y => n - y.1.1) ⟨(0, s), Nat.zero_le _, by simp⟩ ?_ ?_
  · refine cov_of ?_ ?_ ?_
    · cbv; try (subst hA; repeat' first | apply And.intro | exact True.intro | rfl)
    · cbv; try (subst hA; repeat' first | apply And.intro | exact True.intro | rfl)
    · cbv
  rintro ⟨⟨i, k⟩, hi, hkk⟩
  have hi : i ≤ n := hi
  have hkk : k = s + 1 * (i : Int) := hkk
  have hkb : 0 ≤ k ∧ k ≤ 150000000 := by omega
  have e := hGM i
  rw [← hkk] at e
  have w1 : IntKind.i64.wrap (k + 1) = k + 1 := wr1 k hkb
  cbv
  repeat' first
    | apply And.intro
    | exact True.intro
    | with_reducible rfl
    | exact same_of hA rfl
    | refine br_of hA (fun _ => ?_) (fun _ => ?_)
    | exact imp_of hA id
    | (refine imp_of hA ?_; subst hA; simp only [real, Bool.true_and]; exact id)
    | (refine ind_of hA ?_; decide +kernel)
    | (refine inb_of hA fun _ => ?_; subst hA; simp only [real, Bool.and_eq_true, Bool.not_eq_true', Bool.not_eq_false', decide_eq_true_eq, Int.ofNat_eq_natCast, IntKind.wrap_i64] at *; omega)
    | (subst hA; exact fun _ => (by decide : (3 : Int) ≠ 0))
    | fail
  · exfalso
    rename_i hlt h0
    have h : (!((GM i) == ((k).tmod 3 == 0))) = true := by subst hA; exact h0
    rw [e] at h
    simp [mkbool] at h
  · rename_i hlt h0
    have hlt' : i < n := by subst hA; simp only [real, decide_eq_true_eq, Int.ofNat_eq_natCast] at hlt; omega
    have h9 : ((i + 1 : Nat) : Int) = (i : Int) + 1 := rfl
    obtain ⟨kk, hkk2⟩ : ∃ z : Int, z = k + 1 := ⟨_, rfl⟩
    replace w1 := w1.trans hkk2.symm
    refine ⟨⟨(i + 1, kk), by simp only; omega, by (show kk = s + 1 * ((i + 1 : Nat) : Int)); rw [h9, hkk2, hkk, Int.mul_add]; exact Int.add_assoc _ _ _⟩, by simp only; omega, cov_of ?_ ?_ ?_⟩
    · cbv
      subst hA
      repeat' first | apply And.intro | exact True.intro | exact congrArg (fun x => DV.v (.int .i64 x)) (up64 hlt' hn2) | exact congrArg (fun x => DV.v (.int .i64 x)) w1 | rfl
    · cbv
    · cbv
  · rename_i hge
    have hin : i = n := by
      subst hA
      simp only [real, decide_eq_false_iff_not, Int.ofNat_eq_natCast] at hge
      omega
    subst hin
    exact congrArg (fun x => XA.one (.c (.d (eI x)))) (by rw [hkk, hx])
end Go.Rk
/- Marks. -/
namespace Go.Rk
set_option linter.unusedSimpArgs false
set_option linter.unusedVariables false
open Go.Proofs
def st_msRow (n i : Nat) (k : Int) (rm : Nat → RowT) : St := ⟨[(5, .c (.d (eI i))), (1, .c (.d (eI k))), (0, .c (.own 0 0 n 1))], [(0, 1, .arr 13 n fun i => eRow (rm i))]⟩
set_option maxRecDepth 100000 in
set_option maxHeartbeats 1000000 in
theorem marks_Row (s : Int) (hs : 0 ≤ s ∧ s ≤ 100000000) (n : Nat) (hn : n ≤ 1100000) (rd : Nat → RowT) (x : Int) (hx : x = s + 13 * (n : Int)) (GM : Nat → RowT) (hGM : ∀ i, GM i = mkRow (s + 13 * (i : Int))) : Meets Try.prog 42 [.c (.own 13 n fun i => eRow (rd i)), .c (.d (eI s))] ⟨.one (.c (.d (eI x))), [some (.own 13 n fun i => eRow (GM i)), none]⟩ := by
  have hn2 : n ≤ maxLen := Nat.le_trans hn (by decide)
  refine meets_of (H := [6, 8, 10, 12, 14, 16, 18, 20, 22, 24, 26, 28, 30]) (EX := EXA) ttok mixed Try.func42 rfl (by kernel_rfl) (by decide) ?_
  generalize hA : real = A
  generalize hM : MeetsB Try.prog = M
  cbv
  repeat' first
    | apply And.intro
    | exact True.intro
    | with_reducible rfl
    | exact same_of hA rfl
    | refine br_of hA (fun _ => ?_) (fun _ => ?_)
    | exact imp_of hA id
    | (refine imp_of hA ?_; subst hA; simp only [real, Bool.true_and]; exact id)
    | (refine ind_of hA ?_; decide +kernel)
    | fail
  refine loop_of hA (α := { q : Nat × Int × (Nat → RowT) // q.1 ≤ n ∧ q.2.1 = s + 13 * (q.1 : Int) ∧ ∀ j, j < q.1 → q.2.2 j = GM j }) (fun y => st_msRow n y.1.1 y.1.2.1 y.1.2.2) (fun y => n - y.1.1) ⟨(0, s, rd), Nat.zero_le _, by simp, fun j h => absurd h (Nat.not_lt_zero j)⟩ ?_ ?_
  · refine cov_of ?_ ?_ ?_
    · cbv; try (subst hA; repeat' first | apply And.intro | exact True.intro | rfl)
    · cbv; try (subst hA; repeat' first | apply And.intro | exact True.intro | rfl | (intro _ _; rfl))
    · cbv; try (subst hA; repeat' first | apply And.intro | exact True.intro | rfl | exact .inr trivial | exact .inr (Nat.le_refl _))
  rintro ⟨⟨i, k, rm⟩, hi, hkk, hr⟩
  have hi : i ≤ n := hi
  have hkk : k = s + 13 * (i : Int) := hkk
  have hr : ∀ j, j < i → rm j = GM j := hr
  obtain ⟨k1, hk1⟩ : ∃ z : Int, z = k + 1 := ⟨_, rfl⟩
  have w1 : IntKind.i64.wrap (k + 1) = k1 := by rw [IntWalk.i64_in _ (by omega)]; omega
  obtain ⟨r1, hr1⟩ : ∃ r : Nat → RowT, r = fun q => if q = i then (⟨k, ⟨(rm i).win.s, (rm i).win.e⟩, ⟨(rm i).all.n, (rm i).all.sum, (rm i).all.least, (rm i).all.most⟩, ⟨(rm i).fresh.n, (rm i).fresh.sum, (rm i).fresh.least, (rm i).fresh.most⟩, (rm i).told, (rm i).timely⟩ : RowT) else rm q := ⟨_, rfl⟩
  obtain ⟨k2, hk2⟩ : ∃ z : Int, z = k + 2 := ⟨_, rfl⟩
  have w2 : IntKind.i64.wrap (k1 + 1) = k2 := by rw [IntWalk.i64_in _ (by omega)]; omega
  obtain ⟨r2, hr2⟩ : ∃ r : Nat → RowT, r = fun q => if q = i then (⟨k, ⟨k1, (rm i).win.e⟩, ⟨(rm i).all.n, (rm i).all.sum, (rm i).all.least, (rm i).all.most⟩, ⟨(rm i).fresh.n, (rm i).fresh.sum, (rm i).fresh.least, (rm i).fresh.most⟩, (rm i).told, (rm i).timely⟩ : RowT) else rm q := ⟨_, rfl⟩
  obtain ⟨k3, hk3⟩ : ∃ z : Int, z = k + 3 := ⟨_, rfl⟩
  have w3 : IntKind.i64.wrap (k2 + 1) = k3 := by rw [IntWalk.i64_in _ (by omega)]; omega
  obtain ⟨r3, hr3⟩ : ∃ r : Nat → RowT, r = fun q => if q = i then (⟨k, ⟨k1, k2⟩, ⟨(rm i).all.n, (rm i).all.sum, (rm i).all.least, (rm i).all.most⟩, ⟨(rm i).fresh.n, (rm i).fresh.sum, (rm i).fresh.least, (rm i).fresh.most⟩, (rm i).told, (rm i).timely⟩ : RowT) else rm q := ⟨_, rfl⟩
  obtain ⟨k4, hk4⟩ : ∃ z : Int, z = k + 4 := ⟨_, rfl⟩
  have w4 : IntKind.i64.wrap (k3 + 1) = k4 := by rw [IntWalk.i64_in _ (by omega)]; omega
  obtain ⟨r4, hr4⟩ : ∃ r : Nat → RowT, r = fun q => if q = i then (⟨k, ⟨k1, k2⟩, ⟨k3, (rm i).all.sum, (rm i).all.least, (rm i).all.most⟩, ⟨(rm i).fresh.n, (rm i).fresh.sum, (rm i).fresh.least, (rm i).fresh.most⟩, (rm i).told, (rm i).timely⟩ : RowT) else rm q := ⟨_, rfl⟩
  obtain ⟨k5, hk5⟩ : ∃ z : Int, z = k + 5 := ⟨_, rfl⟩
  have w5 : IntKind.i64.wrap (k4 + 1) = k5 := by rw [IntWalk.i64_in _ (by omega)]; omega
  obtain ⟨r5, hr5⟩ : ∃ r : Nat → RowT, r = fun q => if q = i then (⟨k, ⟨k1, k2⟩, ⟨k3, k4, (rm i).all.least, (rm i).all.most⟩, ⟨(rm i).fresh.n, (rm i).fresh.sum, (rm i).fresh.least, (rm i).fresh.most⟩, (rm i).told, (rm i).timely⟩ : RowT) else rm q := ⟨_, rfl⟩
  obtain ⟨k6, hk6⟩ : ∃ z : Int, z = k + 6 := ⟨_, rfl⟩
  have w6 : IntKind.i64.wrap (k5 + 1) = k6 := by rw [IntWalk.i64_in _ (by omega)]; omega
  obtain ⟨r6, hr6⟩ : ∃ r : Nat → RowT, r = fun q => if q = i then (⟨k, ⟨k1, k2⟩, ⟨k3, k4, k5, (rm i).all.most⟩, ⟨(rm i).fresh.n, (rm i).fresh.sum, (rm i).fresh.least, (rm i).fresh.most⟩, (rm i).told, (rm i).timely⟩ : RowT) else rm q := ⟨_, rfl⟩
  obtain ⟨k7, hk7⟩ : ∃ z : Int, z = k + 7 := ⟨_, rfl⟩
  have w7 : IntKind.i64.wrap (k6 + 1) = k7 := by rw [IntWalk.i64_in _ (by omega)]; omega
  obtain ⟨r7, hr7⟩ : ∃ r : Nat → RowT, r = fun q => if q = i then (⟨k, ⟨k1, k2⟩, ⟨k3, k4, k5, k6⟩, ⟨(rm i).fresh.n, (rm i).fresh.sum, (rm i).fresh.least, (rm i).fresh.most⟩, (rm i).told, (rm i).timely⟩ : RowT) else rm q := ⟨_, rfl⟩
  obtain ⟨k8, hk8⟩ : ∃ z : Int, z = k + 8 := ⟨_, rfl⟩
  have w8 : IntKind.i64.wrap (k7 + 1) = k8 := by rw [IntWalk.i64_in _ (by omega)]; omega
  obtain ⟨r8, hr8⟩ : ∃ r : Nat → RowT, r = fun q => if q = i then (⟨k, ⟨k1, k2⟩, ⟨k3, k4, k5, k6⟩, ⟨k7, (rm i).fresh.sum, (rm i).fresh.least, (rm i).fresh.most⟩, (rm i).told, (rm i).timely⟩ : RowT) else rm q := ⟨_, rfl⟩
  obtain ⟨k9, hk9⟩ : ∃ z : Int, z = k + 9 := ⟨_, rfl⟩
  have w9 : IntKind.i64.wrap (k8 + 1) = k9 := by rw [IntWalk.i64_in _ (by omega)]; omega
  obtain ⟨r9, hr9⟩ : ∃ r : Nat → RowT, r = fun q => if q = i then (⟨k, ⟨k1, k2⟩, ⟨k3, k4, k5, k6⟩, ⟨k7, k8, (rm i).fresh.least, (rm i).fresh.most⟩, (rm i).told, (rm i).timely⟩ : RowT) else rm q := ⟨_, rfl⟩
  obtain ⟨k10, hk10⟩ : ∃ z : Int, z = k + 10 := ⟨_, rfl⟩
  have w10 : IntKind.i64.wrap (k9 + 1) = k10 := by rw [IntWalk.i64_in _ (by omega)]; omega
  obtain ⟨r10, hr10⟩ : ∃ r : Nat → RowT, r = fun q => if q = i then (⟨k, ⟨k1, k2⟩, ⟨k3, k4, k5, k6⟩, ⟨k7, k8, k9, (rm i).fresh.most⟩, (rm i).told, (rm i).timely⟩ : RowT) else rm q := ⟨_, rfl⟩
  obtain ⟨k11, hk11⟩ : ∃ z : Int, z = k + 11 := ⟨_, rfl⟩
  have w11 : IntKind.i64.wrap (k10 + 1) = k11 := by rw [IntWalk.i64_in _ (by omega)]; omega
  obtain ⟨r11, hr11⟩ : ∃ r : Nat → RowT, r = fun q => if q = i then (⟨k, ⟨k1, k2⟩, ⟨k3, k4, k5, k6⟩, ⟨k7, k8, k9, k10⟩, (rm i).told, (rm i).timely⟩ : RowT) else rm q := ⟨_, rfl⟩
  obtain ⟨k12, hk12⟩ : ∃ z : Int, z = k + 12 := ⟨_, rfl⟩
  have w12 : IntKind.i64.wrap (k11 + 1) = k12 := by rw [IntWalk.i64_in _ (by omega)]; omega
  obtain ⟨r12, hr12⟩ : ∃ r : Nat → RowT, r = fun q => if q = i then (⟨k, ⟨k1, k2⟩, ⟨k3, k4, k5, k6⟩, ⟨k7, k8, k9, k10⟩, k11, (rm i).timely⟩ : RowT) else rm q := ⟨_, rfl⟩
  obtain ⟨k13, hk13⟩ : ∃ z : Int, z = k + 13 := ⟨_, rfl⟩
  have w13 : IntKind.i64.wrap (k12 + 1) = k13 := by rw [IntWalk.i64_in _ (by omega)]; omega
  obtain ⟨r13, hr13⟩ : ∃ r : Nat → RowT, r = fun q => if q = i then (⟨k, ⟨k1, k2⟩, ⟨k3, k4, k5, k6⟩, ⟨k7, k8, k9, k10⟩, k11, (k12.tmod 3 == 0)⟩ : RowT) else rm q := ⟨_, rfl⟩
  cbv
  repeat' first
    | apply And.intro
    | exact True.intro
    | with_reducible rfl
    | exact same_of hA rfl
    | refine br_of hA (fun _ => ?_) (fun _ => ?_)
    | exact imp_of hA id
    | (refine imp_of hA ?_; subst hA; simp only [real, Bool.true_and]; exact id)
    | (refine ind_of hA ?_; decide +kernel)
    | (refine inb_of hA fun _ => ?_; subst hA; simp only [real, Bool.and_eq_true, Bool.not_eq_true', Bool.not_eq_false', decide_eq_true_eq, Int.ofNat_eq_natCast, IntKind.wrap_i64] at *; omega)
    | (subst hA; exact fun _ => (by decide : (3 : Int) ≠ 0))
    | fail
  · rename_i hlt
    have hlt' : i < n := by subst hA; simp only [real, decide_eq_true_eq, Int.ofNat_eq_natCast] at hlt; omega
    refine stop_of hA (st_msRow n i k1 r1) (cov_of ?_ ?_ ?_) ?_
    · cbv
      subst hA
      repeat' first | apply And.intro | exact True.intro | exact congrArg (fun x => DV.v (.int .i64 x)) w1 | rfl
    · cbv
      subst hA
      refine ⟨fun q _ => ?_, trivial⟩
      have e0 : real.add 0 (real.nat (Int.ofNat i)) = i := Nat.zero_add i
      simp only [e0]
      first
        | (show (if q = i then _ else eRow (rm q)) = eRow (r1 q))
        | (show (if q = 0 + i then _ else eRow (rm q)) = eRow (r1 q); rw [Nat.zero_add])
      simp only [hr1]
      by_cases e : q = i
      · subst e; first | (simp; done) | (simp; rfl)
      · simp [e]
    · cbv; try (subst hA; repeat' first | apply And.intro | exact True.intro | rfl | exact .inr trivial | exact .inr (Nat.le_refl _))
    cbv
    repeat' first
      | apply And.intro
      | exact True.intro
      | with_reducible rfl
      | exact same_of hA rfl
      | refine br_of hA (fun _ => ?_) (fun _ => ?_)
      | exact imp_of hA id
      | (refine imp_of hA ?_; subst hA; simp only [real, Bool.true_and]; exact id)
      | (refine ind_of hA ?_; decide +kernel)
      | (refine inb_of hA fun _ => ?_; subst hA; simp only [real, Bool.and_eq_true, Bool.not_eq_true', Bool.not_eq_false', decide_eq_true_eq, Int.ofNat_eq_natCast, IntKind.wrap_i64] at *; omega)
      | (subst hA; exact fun _ => (by decide : (3 : Int) ≠ 0))
      | fail
    refine stop_of hA (st_msRow n i k2 r2) (cov_of ?_ ?_ ?_) ?_
    · cbv
      subst hA
      repeat' first | apply And.intro | exact True.intro | exact congrArg (fun x => DV.v (.int .i64 x)) w2 | rfl
    · cbv
      subst hA
      refine ⟨fun q _ => ?_, trivial⟩
      have e0 : real.add 0 (real.nat (Int.ofNat i)) = i := Nat.zero_add i
      simp only [e0]
      first
        | (show (if q = i then _ else eRow (r1 q)) = eRow (r2 q))
        | (show (if q = 0 + i then _ else eRow (r1 q)) = eRow (r2 q); rw [Nat.zero_add])
      simp only [hr2, hr1]
      by_cases e : q = i
      · subst e; first | (simp; done) | (simp; rfl)
      · simp [e]
    · cbv; try (subst hA; repeat' first | apply And.intro | exact True.intro | rfl | exact .inr trivial | exact .inr (Nat.le_refl _))
    cbv
    repeat' first
      | apply And.intro
      | exact True.intro
      | with_reducible rfl
      | exact same_of hA rfl
      | refine br_of hA (fun _ => ?_) (fun _ => ?_)
      | exact imp_of hA id
      | (refine imp_of hA ?_; subst hA; simp only [real, Bool.true_and]; exact id)
      | (refine ind_of hA ?_; decide +kernel)
      | (refine inb_of hA fun _ => ?_; subst hA; simp only [real, Bool.and_eq_true, Bool.not_eq_true', Bool.not_eq_false', decide_eq_true_eq, Int.ofNat_eq_natCast, IntKind.wrap_i64] at *; omega)
      | (subst hA; exact fun _ => (by decide : (3 : Int) ≠ 0))
      | fail
    refine stop_of hA (st_msRow n i k3 r3) (cov_of ?_ ?_ ?_) ?_
    · cbv
      subst hA
      repeat' first | apply And.intro | exact True.intro | exact congrArg (fun x => DV.v (.int .i64 x)) w3 | rfl
    · cbv
      subst hA
      refine ⟨fun q _ => ?_, trivial⟩
      have e0 : real.add 0 (real.nat (Int.ofNat i)) = i := Nat.zero_add i
      simp only [e0]
      first
        | (show (if q = i then _ else eRow (r2 q)) = eRow (r3 q))
        | (show (if q = 0 + i then _ else eRow (r2 q)) = eRow (r3 q); rw [Nat.zero_add])
      simp only [hr3, hr2]
      by_cases e : q = i
      · subst e; first | (simp; done) | (simp; rfl)
      · simp [e]
    · cbv; try (subst hA; repeat' first | apply And.intro | exact True.intro | rfl | exact .inr trivial | exact .inr (Nat.le_refl _))
    cbv
    repeat' first
      | apply And.intro
      | exact True.intro
      | with_reducible rfl
      | exact same_of hA rfl
      | refine br_of hA (fun _ => ?_) (fun _ => ?_)
      | exact imp_of hA id
      | (refine imp_of hA ?_; subst hA; simp only [real, Bool.true_and]; exact id)
      | (refine ind_of hA ?_; decide +kernel)
      | (refine inb_of hA fun _ => ?_; subst hA; simp only [real, Bool.and_eq_true, Bool.not_eq_true', Bool.not_eq_false', decide_eq_true_eq, Int.ofNat_eq_natCast, IntKind.wrap_i64] at *; omega)
      | (subst hA; exact fun _ => (by decide : (3 : Int) ≠ 0))
      | fail
    refine stop_of hA (st_msRow n i k4 r4) (cov_of ?_ ?_ ?_) ?_
    · cbv
      subst hA
      repeat' first | apply And.intro | exact True.intro | exact congrArg (fun x => DV.v (.int .i64 x)) w4 | rfl
    · cbv
      subst hA
      refine ⟨fun q _ => ?_, trivial⟩
      have e0 : real.add 0 (real.nat (Int.ofNat i)) = i := Nat.zero_add i
      simp only [e0]
      first
        | (show (if q = i then _ else eRow (r3 q)) = eRow (r4 q))
        | (show (if q = 0 + i then _ else eRow (r3 q)) = eRow (r4 q); rw [Nat.zero_add])
      simp only [hr4, hr3]
      by_cases e : q = i
      · subst e; first | (simp; done) | (simp; rfl)
      · simp [e]
    · cbv; try (subst hA; repeat' first | apply And.intro | exact True.intro | rfl | exact .inr trivial | exact .inr (Nat.le_refl _))
    cbv
    repeat' first
      | apply And.intro
      | exact True.intro
      | with_reducible rfl
      | exact same_of hA rfl
      | refine br_of hA (fun _ => ?_) (fun _ => ?_)
      | exact imp_of hA id
      | (refine imp_of hA ?_; subst hA; simp only [real, Bool.true_and]; exact id)
      | (refine ind_of hA ?_; decide +kernel)
      | (refine inb_of hA fun _ => ?_; subst hA; simp only [real, Bool.and_eq_true, Bool.not_eq_true', Bool.not_eq_false', decide_eq_true_eq, Int.ofNat_eq_natCast, IntKind.wrap_i64] at *; omega)
      | (subst hA; exact fun _ => (by decide : (3 : Int) ≠ 0))
      | fail
    refine stop_of hA (st_msRow n i k5 r5) (cov_of ?_ ?_ ?_) ?_
    · cbv
      subst hA
      repeat' first | apply And.intro | exact True.intro | exact congrArg (fun x => DV.v (.int .i64 x)) w5 | rfl
    · cbv
      subst hA
      refine ⟨fun q _ => ?_, trivial⟩
      have e0 : real.add 0 (real.nat (Int.ofNat i)) = i := Nat.zero_add i
      simp only [e0]
      first
        | (show (if q = i then _ else eRow (r4 q)) = eRow (r5 q))
        | (show (if q = 0 + i then _ else eRow (r4 q)) = eRow (r5 q); rw [Nat.zero_add])
      simp only [hr5, hr4]
      by_cases e : q = i
      · subst e; first | (simp; done) | (simp; rfl)
      · simp [e]
    · cbv; try (subst hA; repeat' first | apply And.intro | exact True.intro | rfl | exact .inr trivial | exact .inr (Nat.le_refl _))
    cbv
    repeat' first
      | apply And.intro
      | exact True.intro
      | with_reducible rfl
      | exact same_of hA rfl
      | refine br_of hA (fun _ => ?_) (fun _ => ?_)
      | exact imp_of hA id
      | (refine imp_of hA ?_; subst hA; simp only [real, Bool.true_and]; exact id)
      | (refine ind_of hA ?_; decide +kernel)
      | (refine inb_of hA fun _ => ?_; subst hA; simp only [real, Bool.and_eq_true, Bool.not_eq_true', Bool.not_eq_false', decide_eq_true_eq, Int.ofNat_eq_natCast, IntKind.wrap_i64] at *; omega)
      | (subst hA; exact fun _ => (by decide : (3 : Int) ≠ 0))
      | fail
    refine stop_of hA (st_msRow n i k6 r6) (cov_of ?_ ?_ ?_) ?_
    · cbv
      subst hA
      repeat' first | apply And.intro | exact True.intro | exact congrArg (fun x => DV.v (.int .i64 x)) w6 | rfl
    · cbv
      subst hA
      refine ⟨fun q _ => ?_, trivial⟩
      have e0 : real.add 0 (real.nat (Int.ofNat i)) = i := Nat.zero_add i
      simp only [e0]
      first
        | (show (if q = i then _ else eRow (r5 q)) = eRow (r6 q))
        | (show (if q = 0 + i then _ else eRow (r5 q)) = eRow (r6 q); rw [Nat.zero_add])
      simp only [hr6, hr5]
      by_cases e : q = i
      · subst e; first | (simp; done) | (simp; rfl)
      · simp [e]
    · cbv; try (subst hA; repeat' first | apply And.intro | exact True.intro | rfl | exact .inr trivial | exact .inr (Nat.le_refl _))
    cbv
    repeat' first
      | apply And.intro
      | exact True.intro
      | with_reducible rfl
      | exact same_of hA rfl
      | refine br_of hA (fun _ => ?_) (fun _ => ?_)
      | exact imp_of hA id
      | (refine imp_of hA ?_; subst hA; simp only [real, Bool.true_and]; exact id)
      | (refine ind_of hA ?_; decide +kernel)
      | (refine inb_of hA fun _ => ?_; subst hA; simp only [real, Bool.and_eq_true, Bool.not_eq_true', Bool.not_eq_false', decide_eq_true_eq, Int.ofNat_eq_natCast, IntKind.wrap_i64] at *; omega)
      | (subst hA; exact fun _ => (by decide : (3 : Int) ≠ 0))
      | fail
    refine stop_of hA (st_msRow n i k7 r7) (cov_of ?_ ?_ ?_) ?_
    · cbv
      subst hA
      repeat' first | apply And.intro | exact True.intro | exact congrArg (fun x => DV.v (.int .i64 x)) w7 | rfl
    · cbv
      subst hA
      refine ⟨fun q _ => ?_, trivial⟩
      have e0 : real.add 0 (real.nat (Int.ofNat i)) = i := Nat.zero_add i
      simp only [e0]
      first
        | (show (if q = i then _ else eRow (r6 q)) = eRow (r7 q))
        | (show (if q = 0 + i then _ else eRow (r6 q)) = eRow (r7 q); rw [Nat.zero_add])
      simp only [hr7, hr6]
      by_cases e : q = i
      · subst e; first | (simp; done) | (simp; rfl)
      · simp [e]
    · cbv; try (subst hA; repeat' first | apply And.intro | exact True.intro | rfl | exact .inr trivial | exact .inr (Nat.le_refl _))
    cbv
    repeat' first
      | apply And.intro
      | exact True.intro
      | with_reducible rfl
      | exact same_of hA rfl
      | refine br_of hA (fun _ => ?_) (fun _ => ?_)
      | exact imp_of hA id
      | (refine imp_of hA ?_; subst hA; simp only [real, Bool.true_and]; exact id)
      | (refine ind_of hA ?_; decide +kernel)
      | (refine inb_of hA fun _ => ?_; subst hA; simp only [real, Bool.and_eq_true, Bool.not_eq_true', Bool.not_eq_false', decide_eq_true_eq, Int.ofNat_eq_natCast, IntKind.wrap_i64] at *; omega)
      | (subst hA; exact fun _ => (by decide : (3 : Int) ≠ 0))
      | fail
    refine stop_of hA (st_msRow n i k8 r8) (cov_of ?_ ?_ ?_) ?_
    · cbv
      subst hA
      repeat' first | apply And.intro | exact True.intro | exact congrArg (fun x => DV.v (.int .i64 x)) w8 | rfl
    · cbv
      subst hA
      refine ⟨fun q _ => ?_, trivial⟩
      have e0 : real.add 0 (real.nat (Int.ofNat i)) = i := Nat.zero_add i
      simp only [e0]
      first
        | (show (if q = i then _ else eRow (r7 q)) = eRow (r8 q))
        | (show (if q = 0 + i then _ else eRow (r7 q)) = eRow (r8 q); rw [Nat.zero_add])
      simp only [hr8, hr7]
      by_cases e : q = i
      · subst e; first | (simp; done) | (simp; rfl)
      · simp [e]
    · cbv; try (subst hA; repeat' first | apply And.intro | exact True.intro | rfl | exact .inr trivial | exact .inr (Nat.le_refl _))
    cbv
    repeat' first
      | apply And.intro
      | exact True.intro
      | with_reducible rfl
      | exact same_of hA rfl
      | refine br_of hA (fun _ => ?_) (fun _ => ?_)
      | exact imp_of hA id
      | (refine imp_of hA ?_; subst hA; simp only [real, Bool.true_and]; exact id)
      | (refine ind_of hA ?_; decide +kernel)
      | (refine inb_of hA fun _ => ?_; subst hA; simp only [real, Bool.and_eq_true, Bool.not_eq_true', Bool.not_eq_false', decide_eq_true_eq, Int.ofNat_eq_natCast, IntKind.wrap_i64] at *; omega)
      | (subst hA; exact fun _ => (by decide : (3 : Int) ≠ 0))
      | fail
    refine stop_of hA (st_msRow n i k9 r9) (cov_of ?_ ?_ ?_) ?_
    · cbv
      subst hA
      repeat' first | apply And.intro | exact True.intro | exact congrArg (fun x => DV.v (.int .i64 x)) w9 | rfl
    · cbv
      subst hA
      refine ⟨fun q _ => ?_, trivial⟩
      have e0 : real.add 0 (real.nat (Int.ofNat i)) = i := Nat.zero_add i
      simp only [e0]
      first
        | (show (if q = i then _ else eRow (r8 q)) = eRow (r9 q))
        | (show (if q = 0 + i then _ else eRow (r8 q)) = eRow (r9 q); rw [Nat.zero_add])
      simp only [hr9, hr8]
      by_cases e : q = i
      · subst e; first | (simp; done) | (simp; rfl)
      · simp [e]
    · cbv; try (subst hA; repeat' first | apply And.intro | exact True.intro | rfl | exact .inr trivial | exact .inr (Nat.le_refl _))
    cbv
    repeat' first
      | apply And.intro
      | exact True.intro
      | with_reducible rfl
      | exact same_of hA rfl
      | refine br_of hA (fun _ => ?_) (fun _ => ?_)
      | exact imp_of hA id
      | (refine imp_of hA ?_; subst hA; simp only [real, Bool.true_and]; exact id)
      | (refine ind_of hA ?_; decide +kernel)
      | (refine inb_of hA fun _ => ?_; subst hA; simp only [real, Bool.and_eq_true, Bool.not_eq_true', Bool.not_eq_false', decide_eq_true_eq, Int.ofNat_eq_natCast, IntKind.wrap_i64] at *; omega)
      | (subst hA; exact fun _ => (by decide : (3 : Int) ≠ 0))
      | fail
    refine stop_of hA (st_msRow n i k10 r10) (cov_of ?_ ?_ ?_) ?_
    · cbv
      subst hA
      repeat' first | apply And.intro | exact True.intro | exact congrArg (fun x => DV.v (.int .i64 x)) w10 | rfl
    · cbv
      subst hA
      refine ⟨fun q _ => ?_, trivial⟩
      have e0 : real.add 0 (real.nat (Int.ofNat i)) = i := Nat.zero_add i
      simp only [e0]
      first
        | (show (if q = i then _ else eRow (r9 q)) = eRow (r10 q))
        | (show (if q = 0 + i then _ else eRow (r9 q)) = eRow (r10 q); rw [Nat.zero_add])
      simp only [hr10, hr9]
      by_cases e : q = i
      · subst e; first | (simp; done) | (simp; rfl)
      · simp [e]
    · cbv; try (subst hA; repeat' first | apply And.intro | exact True.intro | rfl | exact .inr trivial | exact .inr (Nat.le_refl _))
    cbv
    repeat' first
      | apply And.intro
      | exact True.intro
      | with_reducible rfl
      | exact same_of hA rfl
      | refine br_of hA (fun _ => ?_) (fun _ => ?_)
      | exact imp_of hA id
      | (refine imp_of hA ?_; subst hA; simp only [real, Bool.true_and]; exact id)
      | (refine ind_of hA ?_; decide +kernel)
      | (refine inb_of hA fun _ => ?_; subst hA; simp only [real, Bool.and_eq_true, Bool.not_eq_true', Bool.not_eq_false', decide_eq_true_eq, Int.ofNat_eq_natCast, IntKind.wrap_i64] at *; omega)
      | (subst hA; exact fun _ => (by decide : (3 : Int) ≠ 0))
      | fail
    refine stop_of hA (st_msRow n i k11 r11) (cov_of ?_ ?_ ?_) ?_
    · cbv
      subst hA
      repeat' first | apply And.intro | exact True.intro | exact congrArg (fun x => DV.v (.int .i64 x)) w11 | rfl
    · cbv
      subst hA
      refine ⟨fun q _ => ?_, trivial⟩
      have e0 : real.add 0 (real.nat (Int.ofNat i)) = i := Nat.zero_add i
      simp only [e0]
      first
        | (show (if q = i then _ else eRow (r10 q)) = eRow (r11 q))
        | (show (if q = 0 + i then _ else eRow (r10 q)) = eRow (r11 q); rw [Nat.zero_add])
      simp only [hr11, hr10]
      by_cases e : q = i
      · subst e; first | (simp; done) | (simp; rfl)
      · simp [e]
    · cbv; try (subst hA; repeat' first | apply And.intro | exact True.intro | rfl | exact .inr trivial | exact .inr (Nat.le_refl _))
    cbv
    repeat' first
      | apply And.intro
      | exact True.intro
      | with_reducible rfl
      | exact same_of hA rfl
      | refine br_of hA (fun _ => ?_) (fun _ => ?_)
      | exact imp_of hA id
      | (refine imp_of hA ?_; subst hA; simp only [real, Bool.true_and]; exact id)
      | (refine ind_of hA ?_; decide +kernel)
      | (refine inb_of hA fun _ => ?_; subst hA; simp only [real, Bool.and_eq_true, Bool.not_eq_true', Bool.not_eq_false', decide_eq_true_eq, Int.ofNat_eq_natCast, IntKind.wrap_i64] at *; omega)
      | (subst hA; exact fun _ => (by decide : (3 : Int) ≠ 0))
      | fail
    refine stop_of hA (st_msRow n i k12 r12) (cov_of ?_ ?_ ?_) ?_
    · cbv
      subst hA
      repeat' first | apply And.intro | exact True.intro | exact congrArg (fun x => DV.v (.int .i64 x)) w12 | rfl
    · cbv
      subst hA
      refine ⟨fun q _ => ?_, trivial⟩
      have e0 : real.add 0 (real.nat (Int.ofNat i)) = i := Nat.zero_add i
      simp only [e0]
      first
        | (show (if q = i then _ else eRow (r11 q)) = eRow (r12 q))
        | (show (if q = 0 + i then _ else eRow (r11 q)) = eRow (r12 q); rw [Nat.zero_add])
      simp only [hr12, hr11]
      by_cases e : q = i
      · subst e; first | (simp; done) | (simp; rfl)
      · simp [e]
    · cbv; try (subst hA; repeat' first | apply And.intro | exact True.intro | rfl | exact .inr trivial | exact .inr (Nat.le_refl _))
    cbv
    repeat' first
      | apply And.intro
      | exact True.intro
      | with_reducible rfl
      | exact same_of hA rfl
      | refine br_of hA (fun _ => ?_) (fun _ => ?_)
      | exact imp_of hA id
      | (refine imp_of hA ?_; subst hA; simp only [real, Bool.true_and]; exact id)
      | (refine ind_of hA ?_; decide +kernel)
      | (refine inb_of hA fun _ => ?_; subst hA; simp only [real, Bool.and_eq_true, Bool.not_eq_true', Bool.not_eq_false', decide_eq_true_eq, Int.ofNat_eq_natCast, IntKind.wrap_i64] at *; omega)
      | (subst hA; exact fun _ => (by decide : (3 : Int) ≠ 0))
      | fail
    have h9 : ((i + 1 : Nat) : Int) = (i : Int) + 1 := rfl
    refine ⟨⟨(i + 1, k13, r13), by simp only; omega, by (show k13 = s + 13 * ((i + 1 : Nat) : Int)); rw [h9, hk13, hkk, Int.mul_add]; exact Int.add_assoc _ _ _, fun j hj => ?_⟩, by simp only; omega, cov_of ?_ ?_ ?_⟩
    · simp only at hj ⊢
      by_cases e : j = i
      · rw [hr13]; simp only [e, if_true]
        rw [hGM, ← hkk]
        simp only [mkRow, hk1, hk2, hk3, hk4, hk5, hk6, hk7, hk8, hk9, hk10, hk11, hk12]
      · rw [hr13]; simp only [e, if_false]; exact hr j (by omega)
    · cbv
      subst hA
      repeat' first | apply And.intro | exact True.intro | exact congrArg (fun x => DV.v (.int .i64 x)) w13 | exact congrArg (fun x => DV.v (.int .i64 x)) (up64 hlt' hn2) | rfl
    · cbv
      subst hA
      refine ⟨fun q _ => ?_, trivial⟩
      have e0 : real.add 0 (real.nat (Int.ofNat i)) = i := Nat.zero_add i
      simp only [e0]
      first
        | (show (if q = i then _ else eRow (r12 q)) = eRow (r13 q))
        | (show (if q = 0 + i then _ else eRow (r12 q)) = eRow (r13 q); rw [Nat.zero_add])
      simp only [hr13, hr12]
      by_cases e : q = i
      · subst e; first | (simp; done) | (simp; rfl)
      · simp [e]
    · cbv; try (subst hA; repeat' first | apply And.intro | exact True.intro | rfl | exact .inr trivial | exact .inr (Nat.le_refl _))
  · rename_i hge
    have hin : i = n := by
      subst hA
      simp only [real, decide_eq_false_iff_not, Int.ofNat_eq_natCast] at hge
      omega
    subst hin
    have hkx : k = x := by rw [hkk, hx]
    subst hkx
    refine stop_of hA ⟨[(1, .c (.d (eI k)))], [(0, 1, .arr 13 i fun q => eRow (GM q))]⟩ (cov_of ?_ ?_ ?_) ?_
    · cbv
    · cbv
      exact ⟨fun q hq => congrArg (fun y => eRow y) (hr q hq), trivial⟩
    · cbv; try (subst hA; repeat' first | apply And.intro | exact True.intro | rfl | exact .inr trivial | exact .inr (Nat.le_refl _))
    · cbv
      repeat' first
        | apply And.intro
        | exact True.intro
        | with_reducible rfl
        | exact same_of hA rfl
        | refine br_of hA (fun _ => ?_) (fun _ => ?_)
        | exact imp_of hA id
        | (refine imp_of hA ?_; subst hA; simp only [real, Bool.true_and]; exact id)
        | (refine ind_of hA ?_; decide +kernel)
        | fail
def st_hsRow (n : Nat) (rd : Nat → RowT) (i : Nat) (k : Int) : St := ⟨[(5, .c (.d (eI i))), (1, .c (.d (eI k))), (0, .c (.d (.sl 13 n fun i => eRow (rd i))))], []⟩
set_option maxRecDepth 100000 in
set_option maxHeartbeats 2000000 in
theorem helds_Row (s : Int) (hs : 0 ≤ s ∧ s ≤ 100000000) (n : Nat) (hn : n ≤ 1100000) (x : Int) (hx : x = s + 13 * (n : Int)) (GM : Nat → RowT) (hGM : ∀ i, GM i = mkRow (s + 13 * (i : Int))) : Meets Try.prog 94 [.c (.d (.sl 13 n fun i => eRow (GM i))), .c (.d (eI s))] ⟨.one (.c (.d (eI x))), [none, none]⟩ := by
  have hn2 : n ≤ maxLen := Nat.le_trans hn (by decide)
  refine meets_of (H := []) (EX := EXA) ttok mixed Try.func94 rfl (by kernel_rfl) (by decide) ?_
  generalize hA : real = A
  generalize hM : MeetsB Try.prog = M
  cbv
  repeat' first
    | apply And.intro
    | exact True.intro
    | with_reducible rfl
    | exact same_of hA rfl
    | refine br_of hA (fun _ => ?_) (fun _ => ?_)
    | exact imp_of hA id
    | (refine imp_of hA ?_; subst hA; simp only [real, Bool.true_and]; exact id)
    | (refine ind_of hA ?_; decide +kernel)
    | fail
  refine loop_of hA (α := { q : Nat × Int // q.1 ≤ n ∧ q.2 = s + 13 * (q.1 : Int) }) (fun y => st_hsRow n GM y.1.1 y.1.2) (fun y => n - y.1.1) ⟨(0, s), Nat.zero_le _, by simp⟩ ?_ ?_
  · refine cov_of ?_ ?_ ?_
    · cbv; try (subst hA; repeat' first | apply And.intro | exact True.intro | rfl)
    · cbv; try (subst hA; repeat' first | apply And.intro | exact True.intro | rfl)
    · cbv
  rintro ⟨⟨i, k⟩, hi, hkk⟩
  have hi : i ≤ n := hi
  have hkk : k = s + 13 * (i : Int) := hkk
  have hkb : 0 ≤ k ∧ k ≤ 150000000 := by omega
  have e := hGM i
  rw [← hkk] at e
  have w1 : IntKind.i64.wrap (k + 1) = k + 1 := wr1 k hkb
  have w2 : IntKind.i64.wrap (IntKind.i64.wrap (k + 1) + 1) = k + 2 := by rw [w1]; exact wrn k 1 2 hkb (by decide) (by decide)
  have w3 : IntKind.i64.wrap (IntKind.i64.wrap (IntKind.i64.wrap (k + 1) + 1) + 1) = k + 3 := by rw [w2]; exact wrn k 2 3 hkb (by decide) (by decide)
  have w4 : IntKind.i64.wrap (IntKind.i64.wrap (IntKind.i64.wrap (IntKind.i64.wrap (k + 1) + 1) + 1) + 1) = k + 4 := by rw [w3]; exact wrn k 3 4 hkb (by decide) (by decide)
  have w5 : IntKind.i64.wrap (IntKind.i64.wrap (IntKind.i64.wrap (IntKind.i64.wrap (IntKind.i64.wrap (k + 1) + 1) + 1) + 1) + 1) = k + 5 := by rw [w4]; exact wrn k 4 5 hkb (by decide) (by decide)
  have w6 : IntKind.i64.wrap (IntKind.i64.wrap (IntKind.i64.wrap (IntKind.i64.wrap (IntKind.i64.wrap (IntKind.i64.wrap (k + 1) + 1) + 1) + 1) + 1) + 1) = k + 6 := by rw [w5]; exact wrn k 5 6 hkb (by decide) (by decide)
  have w7 : IntKind.i64.wrap (IntKind.i64.wrap (IntKind.i64.wrap (IntKind.i64.wrap (IntKind.i64.wrap (IntKind.i64.wrap (IntKind.i64.wrap (k + 1) + 1) + 1) + 1) + 1) + 1) + 1) = k + 7 := by rw [w6]; exact wrn k 6 7 hkb (by decide) (by decide)
  have w8 : IntKind.i64.wrap (IntKind.i64.wrap (IntKind.i64.wrap (IntKind.i64.wrap (IntKind.i64.wrap (IntKind.i64.wrap (IntKind.i64.wrap (IntKind.i64.wrap (k + 1) + 1) + 1) + 1) + 1) + 1) + 1) + 1) = k + 8 := by rw [w7]; exact wrn k 7 8 hkb (by decide) (by decide)
  have w9 : IntKind.i64.wrap (IntKind.i64.wrap (IntKind.i64.wrap (IntKind.i64.wrap (IntKind.i64.wrap (IntKind.i64.wrap (IntKind.i64.wrap (IntKind.i64.wrap (IntKind.i64.wrap (k + 1) + 1) + 1) + 1) + 1) + 1) + 1) + 1) + 1) = k + 9 := by rw [w8]; exact wrn k 8 9 hkb (by decide) (by decide)
  have w10 : IntKind.i64.wrap (IntKind.i64.wrap (IntKind.i64.wrap (IntKind.i64.wrap (IntKind.i64.wrap (IntKind.i64.wrap (IntKind.i64.wrap (IntKind.i64.wrap (IntKind.i64.wrap (IntKind.i64.wrap (k + 1) + 1) + 1) + 1) + 1) + 1) + 1) + 1) + 1) + 1) = k + 10 := by rw [w9]; exact wrn k 9 10 hkb (by decide) (by decide)
  have w11 : IntKind.i64.wrap (IntKind.i64.wrap (IntKind.i64.wrap (IntKind.i64.wrap (IntKind.i64.wrap (IntKind.i64.wrap (IntKind.i64.wrap (IntKind.i64.wrap (IntKind.i64.wrap (IntKind.i64.wrap (IntKind.i64.wrap (k + 1) + 1) + 1) + 1) + 1) + 1) + 1) + 1) + 1) + 1) + 1) = k + 11 := by rw [w10]; exact wrn k 10 11 hkb (by decide) (by decide)
  have w12 : IntKind.i64.wrap (IntKind.i64.wrap (IntKind.i64.wrap (IntKind.i64.wrap (IntKind.i64.wrap (IntKind.i64.wrap (IntKind.i64.wrap (IntKind.i64.wrap (IntKind.i64.wrap (IntKind.i64.wrap (IntKind.i64.wrap (IntKind.i64.wrap (k + 1) + 1) + 1) + 1) + 1) + 1) + 1) + 1) + 1) + 1) + 1) + 1) = k + 12 := by rw [w11]; exact wrn k 11 12 hkb (by decide) (by decide)
  have w13 : IntKind.i64.wrap (IntKind.i64.wrap (IntKind.i64.wrap (IntKind.i64.wrap (IntKind.i64.wrap (IntKind.i64.wrap (IntKind.i64.wrap (IntKind.i64.wrap (IntKind.i64.wrap (IntKind.i64.wrap (IntKind.i64.wrap (IntKind.i64.wrap (IntKind.i64.wrap (k + 1) + 1) + 1) + 1) + 1) + 1) + 1) + 1) + 1) + 1) + 1) + 1) + 1) = k + 13 := by rw [w12]; exact wrn k 12 13 hkb (by decide) (by decide)
  cbv
  repeat' first
    | apply And.intro
    | exact True.intro
    | with_reducible rfl
    | exact same_of hA rfl
    | refine br_of hA (fun _ => ?_) (fun _ => ?_)
    | exact imp_of hA id
    | (refine imp_of hA ?_; subst hA; simp only [real, Bool.true_and]; exact id)
    | (refine ind_of hA ?_; decide +kernel)
    | (refine inb_of hA fun _ => ?_; subst hA; simp only [real, Bool.and_eq_true, Bool.not_eq_true', Bool.not_eq_false', decide_eq_true_eq, Int.ofNat_eq_natCast, IntKind.wrap_i64] at *; omega)
    | (subst hA; exact fun _ => (by decide : (3 : Int) ≠ 0))
    | fail
  · exfalso
    rename_i hlt h0
    have h : ((GM i).key != k) = true := by subst hA; exact h0
    rw [e] at h
    simp [mkRow] at h
  · exfalso
    rename_i hlt h0 h1
    have h : ((GM i).win.s != IntKind.i64.wrap (k + 1)) = true := by subst hA; exact h1
    rw [e, w1] at h
    simp [mkRow] at h
  · exfalso
    rename_i hlt h0 h1 h2
    have h : ((GM i).win.e != IntKind.i64.wrap (IntKind.i64.wrap (k + 1) + 1)) = true := by subst hA; exact h2
    rw [e, w2] at h
    simp [mkRow] at h
  · exfalso
    rename_i hlt h0 h1 h2 h3
    have h : ((GM i).all.n != IntKind.i64.wrap (IntKind.i64.wrap (IntKind.i64.wrap (k + 1) + 1) + 1)) = true := by subst hA; exact h3
    rw [e, w3] at h
    simp [mkRow] at h
  · exfalso
    rename_i hlt h0 h1 h2 h3 h4
    have h : ((GM i).all.sum != IntKind.i64.wrap (IntKind.i64.wrap (IntKind.i64.wrap (IntKind.i64.wrap (k + 1) + 1) + 1) + 1)) = true := by subst hA; exact h4
    rw [e, w4] at h
    simp [mkRow] at h
  · exfalso
    rename_i hlt h0 h1 h2 h3 h4 h5
    have h : ((GM i).all.least != IntKind.i64.wrap (IntKind.i64.wrap (IntKind.i64.wrap (IntKind.i64.wrap (IntKind.i64.wrap (k + 1) + 1) + 1) + 1) + 1)) = true := by subst hA; exact h5
    rw [e, w5] at h
    simp [mkRow] at h
  · exfalso
    rename_i hlt h0 h1 h2 h3 h4 h5 h6
    have h : ((GM i).all.most != IntKind.i64.wrap (IntKind.i64.wrap (IntKind.i64.wrap (IntKind.i64.wrap (IntKind.i64.wrap (IntKind.i64.wrap (k + 1) + 1) + 1) + 1) + 1) + 1)) = true := by subst hA; exact h6
    rw [e, w6] at h
    simp [mkRow] at h
  · exfalso
    rename_i hlt h0 h1 h2 h3 h4 h5 h6 h7
    have h : ((GM i).fresh.n != IntKind.i64.wrap (IntKind.i64.wrap (IntKind.i64.wrap (IntKind.i64.wrap (IntKind.i64.wrap (IntKind.i64.wrap (IntKind.i64.wrap (k + 1) + 1) + 1) + 1) + 1) + 1) + 1)) = true := by subst hA; exact h7
    rw [e, w7] at h
    simp [mkRow] at h
  · exfalso
    rename_i hlt h0 h1 h2 h3 h4 h5 h6 h7 h8
    have h : ((GM i).fresh.sum != IntKind.i64.wrap (IntKind.i64.wrap (IntKind.i64.wrap (IntKind.i64.wrap (IntKind.i64.wrap (IntKind.i64.wrap (IntKind.i64.wrap (IntKind.i64.wrap (k + 1) + 1) + 1) + 1) + 1) + 1) + 1) + 1)) = true := by subst hA; exact h8
    rw [e, w8] at h
    simp [mkRow] at h
  · exfalso
    rename_i hlt h0 h1 h2 h3 h4 h5 h6 h7 h8 h9
    have h : ((GM i).fresh.least != IntKind.i64.wrap (IntKind.i64.wrap (IntKind.i64.wrap (IntKind.i64.wrap (IntKind.i64.wrap (IntKind.i64.wrap (IntKind.i64.wrap (IntKind.i64.wrap (IntKind.i64.wrap (k + 1) + 1) + 1) + 1) + 1) + 1) + 1) + 1) + 1)) = true := by subst hA; exact h9
    rw [e, w9] at h
    simp [mkRow] at h
  · exfalso
    rename_i hlt h0 h1 h2 h3 h4 h5 h6 h7 h8 h9 h10
    have h : ((GM i).fresh.most != IntKind.i64.wrap (IntKind.i64.wrap (IntKind.i64.wrap (IntKind.i64.wrap (IntKind.i64.wrap (IntKind.i64.wrap (IntKind.i64.wrap (IntKind.i64.wrap (IntKind.i64.wrap (IntKind.i64.wrap (k + 1) + 1) + 1) + 1) + 1) + 1) + 1) + 1) + 1) + 1)) = true := by subst hA; exact h10
    rw [e, w10] at h
    simp [mkRow] at h
  · exfalso
    rename_i hlt h0 h1 h2 h3 h4 h5 h6 h7 h8 h9 h10 h11
    have h : ((GM i).told != IntKind.i64.wrap (IntKind.i64.wrap (IntKind.i64.wrap (IntKind.i64.wrap (IntKind.i64.wrap (IntKind.i64.wrap (IntKind.i64.wrap (IntKind.i64.wrap (IntKind.i64.wrap (IntKind.i64.wrap (IntKind.i64.wrap (k + 1) + 1) + 1) + 1) + 1) + 1) + 1) + 1) + 1) + 1) + 1)) = true := by subst hA; exact h11
    rw [e, w11] at h
    simp [mkRow] at h
  · exfalso
    rename_i hlt h0 h1 h2 h3 h4 h5 h6 h7 h8 h9 h10 h11 h12
    have h : (!((GM i).timely == ((IntKind.i64.wrap (IntKind.i64.wrap (IntKind.i64.wrap (IntKind.i64.wrap (IntKind.i64.wrap (IntKind.i64.wrap (IntKind.i64.wrap (IntKind.i64.wrap (IntKind.i64.wrap (IntKind.i64.wrap (IntKind.i64.wrap (IntKind.i64.wrap (k + 1) + 1) + 1) + 1) + 1) + 1) + 1) + 1) + 1) + 1) + 1) + 1)).tmod 3 == 0))) = true := by subst hA; exact h12
    rw [e, w12] at h
    simp [mkRow] at h
  · rename_i hlt h0 h1 h2 h3 h4 h5 h6 h7 h8 h9 h10 h11 h12
    have hlt' : i < n := by subst hA; simp only [real, decide_eq_true_eq, Int.ofNat_eq_natCast] at hlt; omega
    have h9 : ((i + 1 : Nat) : Int) = (i : Int) + 1 := rfl
    obtain ⟨kk, hkk2⟩ : ∃ z : Int, z = k + 13 := ⟨_, rfl⟩
    replace w13 := w13.trans hkk2.symm
    refine ⟨⟨(i + 1, kk), by simp only; omega, by (show kk = s + 13 * ((i + 1 : Nat) : Int)); rw [h9, hkk2, hkk, Int.mul_add]; exact Int.add_assoc _ _ _⟩, by simp only; omega, cov_of ?_ ?_ ?_⟩
    · cbv
      subst hA
      repeat' first | apply And.intro | exact True.intro | exact congrArg (fun x => DV.v (.int .i64 x)) (up64 hlt' hn2) | exact congrArg (fun x => DV.v (.int .i64 x)) w13 | rfl
    · cbv
    · cbv
  · rename_i hge
    have hin : i = n := by
      subst hA
      simp only [real, decide_eq_false_iff_not, Int.ofNat_eq_natCast] at hge
      omega
    subst hin
    exact congrArg (fun x => XA.one (.c (.d (eI x)))) (by rw [hkk, hx])
end Go.Rk
/- Marks of nests: msnap. -/
namespace Go.Rk
set_option linter.unusedSimpArgs false
set_option linter.unusedVariables false
open Go.Proofs
set_option maxRecDepth 100000
set_option maxHeartbeats 2000000
def st_mSnap (n i : Nat) (k : Int) (R : Nat → List DV) : St := ⟨[(5, .c (.d (eI i))), (1, .c (.d (eI k))), (0, .c (.nown 0 n 1))], [(0, 1, .nest 3 n R none)]⟩
def EXMSnap : FuncId → List Nat × Bool := fun f => bif nbeq f 42 then ([0], false) else bif nbeq f 16 then ([0], false) else ([], false)
theorem marks_Snap (s : Int) (n : Nat) (hn : n ≤ 1048576) (rd : Nat → SnapT) (hbd : ∀ i, i < n → bdSnap (rd i)) (pos : Nat → Int) (hp0 : pos 0 = s) (hps : ∀ i, i < n → pos (i + 1) = pos i + lenSnap (rd i)) (hpb : ∀ i, i ≤ n → 0 ≤ pos i ∧ pos i ≤ 50000000) (x : Int) (hx : x = pos n) (GM : Nat → SnapT) (hGM : ∀ i, GM i = mkSnap (pos i) (rd i)) :
    Meets Try.prog 67 [.c (.nown 3 n fun i => eSnap (rd i)), .c (.d (eI s))] ⟨.one (.c (.d (eI x))), [some (.nown 3 n fun i => eSnap (GM i)), none]⟩ := by
  have hn2 : n ≤ maxLen := Nat.le_trans hn (by decide)
  refine meets_of (H := [4, 6, 8]) (EX := EXMSnap) ttok mixed Try.func67 rfl (by kernel_rfl) (by decide) ?_
  generalize hA : real = A
  generalize hM : MeetsB Try.prog = M
  cbv
  repeat' first
    | apply And.intro
    | exact True.intro
    | with_reducible rfl
    | exact same_of hA rfl
    | refine br_of hA (fun _ => ?_) (fun _ => ?_)
    | exact imp_of hA id
    | (refine imp_of hA ?_; subst hA; simp only [real, Bool.true_and]; exact id)
    | (refine ind_of hA ?_; decide +kernel)
    | fail
  refine loop_of hA (α := { q : Nat × Int × (Nat → List DV) // q.1 ≤ n ∧ q.2.1 = pos q.1 ∧ (∀ j, j < q.1 → q.2.2 j = eSnap (GM j)) ∧ ∀ j, q.1 ≤ j → q.2.2 j = eSnap (rd j) }) (fun y => st_mSnap n y.1.1 y.1.2.1 y.1.2.2) (fun y => n - y.1.1) ⟨(0, s, fun i => eSnap (rd i)), Nat.zero_le _, hp0.symm, fun j h => absurd h (Nat.not_lt_zero j), fun _ _ => rfl⟩ ?_ ?_
  · refine cov_of ?_ ?_ ?_
    · (subst hA; repeat' first | exact True.intro | exact rfl |  apply And.intro | (intro _ _; rfl) | (intro _ _ _; rfl) | exact .inr (le_of_nble rfl) | exact .inl rfl | exact .inr (Nat.le_refl _))
    · (subst hA; repeat' first | exact True.intro | exact rfl |  apply And.intro | (intro _ _; rfl) | (intro _ _ _; rfl) | exact .inr (le_of_nble rfl) | exact .inl rfl | exact .inr (Nat.le_refl _))
    · (subst hA; repeat' first | exact True.intro | exact rfl |  apply And.intro | (intro _ _; rfl) | (intro _ _ _; rfl) | exact .inr (le_of_nble rfl) | exact .inl rfl | exact .inr (Nat.le_refl _))
  rintro ⟨⟨i, k, R⟩, hi, hk, hR, hS⟩
  have hi : i ≤ n := hi
  have hk : k = pos i := hk
  have hR : ∀ j, j < i → R j = eSnap (GM j) := hR
  have hS : ∀ j, i ≤ j → R j = eSnap (rd j) := hS
  have hkb := hpb i hi
  rw [← hk] at hkb
  cbv
  repeat' first
    | apply And.intro
    | exact True.intro
    | with_reducible rfl
    | exact same_of hA rfl
    | refine br_of hA (fun _ => ?_) (fun _ => ?_)
    | exact imp_of hA id
    | (refine imp_of hA ?_; subst hA; simp only [real, Bool.true_and]; exact id)
    | (refine ind_of hA ?_; decide +kernel)
    | fail
  · rename_i hlt
    have hlt' : i < n := by subst hA; simp only [real, decide_eq_true_eq, Int.ofNat_eq_natCast] at hlt; omega
    obtain ⟨hb1, hb2⟩ : (rd i).op.rows.n ≤ 1048576 ∧ (rd i).marks.n ≤ 1048576 := hbd i hlt'
    have hnext := hps i hlt'
    have hkb2 := hpb (i + 1) hlt'
    have hgm := hGM i
    rw [← hk] at hgm hnext
    have hb3 : (maxLen : Nat) = 9223372036854775807 := by decide
    unfold lenSnap at hnext
    obtain ⟨k1, hk1⟩ : ∃ z : Int, z = k + 1 := ⟨_, rfl⟩
    have w1 : IntKind.i64.wrap (k + 1) = k1 := by rw [IntWalk.i64_in _ (by omega)]; omega
    obtain ⟨k2, hk2⟩ : ∃ z : Int, z = k1 + 13 * ((rd i).op.rows.n : Int) := ⟨_, rfl⟩
    obtain ⟨k3, hk3⟩ : ∃ z : Int, z = k2 + 1 * ((rd i).marks.n : Int) := ⟨_, rfl⟩
    obtain ⟨G1, hG1⟩ : ∃ r : Nat → RowT, r = fun (q : Nat) => mkRow (k1 + 13 * (q : Int)) := ⟨_, rfl⟩
    obtain ⟨G2, hG2⟩ : ∃ r : Nat → Int, r = fun (q : Nat) => mkint (k2 + 1 * (q : Int)) := ⟨_, rfl⟩
    have m1 := marks_Row k1 (by omega) (rd i).op.rows.n (by omega) (rd i).op.rows.g k2 hk2 G1 (fun q => by rw [hG1])
    have m2 := marks_int k2 (by omega) (rd i).marks.n (by omega) (rd i).marks.g k3 hk3 G2 (fun q => by rw [hG2])
    have hnew : eSnap (GM i) = [eI k, .sl 13 (rd i).op.rows.n fun q => eRow (G1 q), .sl 1 (rd i).marks.n fun q => [eI (G2 q)]] := by
      rw [hgm, hG1, hG2, hk2, hk1]
      simp only [mkSnap, mkint, Int.one_mul]
      rfl
    refine stop_of hA ⟨[(5, .c (.d (eI i))), (1, .c (.d (eI k))), (0, .c (.nown 0 n 1))], [(0, 1, .nest 3 n R (some (i, [.d (eI (rd i).op.mark), .own 9001 0 (rd i).op.rows.n 1, .own 9002 0 (rd i).marks.n 1]))), (9001, 1, .arr 13 (rd i).op.rows.n fun q => eRow ((rd i).op.rows.g q)), (9002, 1, .arr 1 (rd i).marks.n fun q => [eI ((rd i).marks.g q)])]⟩
      (cov_open 0 9000 1 i (fun _ => false) [eI (rd i).op.mark, .sl 13 (rd i).op.rows.n fun q => eRow ((rd i).op.rows.g q), .sl 1 (rd i).marks.n fun q => [eI ((rd i).marks.g q)]] rfl hlt' (hS i (Nat.le_refl _)) ⟨trivial, .inr (flatR fun _ => flat_Row _), .inr (flatR fun _ => flat_int _), trivial⟩ rfl (cov_of ?_ ?_ ?_)) ?_
    · (subst hA; repeat' first | exact True.intro | exact rfl |  apply And.intro | (intro _ _; rfl) | (intro _ _ _; rfl) | exact .inr (le_of_nble rfl) | exact .inl rfl | exact .inr (Nat.le_refl _))
    · (subst hA; repeat' first | exact True.intro | exact rfl |  apply And.intro | (intro _ _; rfl) | (intro _ _ _; rfl) | exact .inr (le_of_nble rfl) | exact .inl rfl | exact .inr (Nat.le_refl _))
    · (subst hA; repeat' first | exact True.intro | exact rfl |  apply And.intro | (intro _ _; rfl) | (intro _ _ _; rfl) | exact .inr (le_of_nble rfl) | exact .inl rfl | exact .inr (Nat.le_refl _))
    cbv
    repeat' first
      | apply And.intro
      | exact True.intro
      | with_reducible rfl
      | exact same_of hA rfl
      | refine br_of hA (fun _ => ?_) (fun _ => ?_)
      | exact imp_of hA id
      | (refine imp_of hA ?_; subst hA; simp only [real, Bool.true_and]; exact id)
      | (refine ind_of hA ?_; decide +kernel)
      | (refine inb_of hA fun _ => ?_; subst hA; simp only [real, decide_eq_true_eq, Int.ofNat_eq_natCast] at *; omega)
      | (refine same_of hA ?_; subst hA; rfl)
      | fail
    refine stop_of hA ⟨[(5, .c (.d (eI i))), (1, .c (.d (eI k1))), (0, .c (.nown 0 n 1))], [(0, 1, .nest 3 n R (some (i, [.d (eI k), .own 9001 0 (rd i).op.rows.n 1, .own 9002 0 (rd i).marks.n 1]))), (9001, 1, .arr 13 (rd i).op.rows.n fun q => eRow ((rd i).op.rows.g q)), (9002, 1, .arr 1 (rd i).marks.n fun q => [eI ((rd i).marks.g q)])]⟩ (cov_of ?_ ?_ ?_) ?_
    · (subst hA; repeat' first | exact True.intro | exact rfl | exact congrArg (fun x => DV.v (.int .i64 x)) w1 |  apply And.intro | (intro _ _; rfl) | (intro _ _ _; rfl) | exact .inr (le_of_nble rfl) | exact .inl rfl | exact .inr (Nat.le_refl _))
    · (subst hA; repeat' first | exact True.intro | exact rfl | exact congrArg (fun x => DV.v (.int .i64 x)) w1 |  apply And.intro | (intro _ _; rfl) | (intro _ _ _; rfl) | exact .inr (le_of_nble rfl) | exact .inl rfl | exact .inr (Nat.le_refl _))
    · (subst hA; repeat' first | exact True.intro | exact rfl | exact congrArg (fun x => DV.v (.int .i64 x)) w1 |  apply And.intro | (intro _ _; rfl) | (intro _ _ _; rfl) | exact .inr (le_of_nble rfl) | exact .inl rfl | exact .inr (Nat.le_refl _))
    cbv
    repeat' first
      | apply And.intro
      | exact True.intro
      | with_reducible rfl
      | exact same_of hA rfl
      | refine br_of hA (fun _ => ?_) (fun _ => ?_)
      | exact imp_of hA id
      | (refine imp_of hA ?_; subst hA; simp only [real, Bool.true_and]; exact id)
      | (refine ind_of hA ?_; decide +kernel)
      | (refine inb_of hA fun _ => ?_; subst hA; simp only [real, decide_eq_true_eq, Int.ofNat_eq_natCast] at *; omega)
      | (refine same_of hA ?_; subst hA; rfl)
      | (refine call_of2 hA hM _ m1 (by subst hA; rfl) ?_; cbv)
      | (refine call_of2 hA hM _ m2 (by subst hA; rfl) ?_; cbv)
      | fail
    refine ⟨⟨(i + 1, k3, fun j => if j = i then [eI k, .sl 13 (rd i).op.rows.n fun q => eRow (G1 q), .sl 1 (rd i).marks.n fun q => [eI (G2 q)]] else R j), hlt', by (show k3 = pos (i + 1)); omega, fun j hj => ?_, fun j hj => ?_⟩, by simp only; omega,
      cov_close 0 (fun j => if j = i then [eI k, .sl 13 (rd i).op.rows.n fun q => eRow (G1 q), .sl 1 (rd i).marks.n fun q => [eI (G2 q)]] else R j) [eI k, .sl 13 (rd i).op.rows.n fun q => eRow (G1 q), .sl 1 (rd i).marks.n fun q => [eI (G2 q)]] [(9001, 1), (9002, 1)] rfl ?_ rfl (if_pos rfl) (fun _ _ hq => if_neg hq) (cov_of ?_ ?_ ?_)⟩
    · simp only at hj ⊢
      by_cases e : j = i
      · rw [if_pos e, e, hnew]
      · rw [if_neg e]; exact hR j (by omega)
    · simp only at hj ⊢
      rw [if_neg (by omega)]; exact hS j (by omega)
    · subst hA; exact (close_v (close_own rfl (fun _ _ => rfl) (flatR fun _ => flat_Row _) (close_own rfl (fun _ _ => rfl) (flatR fun _ => flat_int _) close_end)))
    · (subst hA; repeat' first | exact True.intro | exact rfl | exact congrArg (fun x => DV.v (.int .i64 x)) (up64 hlt' hn2) |  apply And.intro | (intro _ _; rfl) | (intro _ _ _; rfl) | exact .inr (le_of_nble rfl) | exact .inl rfl | exact .inr (Nat.le_refl _))
    · (subst hA; repeat' first | exact True.intro | exact rfl | exact congrArg (fun x => DV.v (.int .i64 x)) (up64 hlt' hn2) |  apply And.intro | (intro _ _; rfl) | (intro _ _ _; rfl) | exact .inr (le_of_nble rfl) | exact .inl rfl | exact .inr (Nat.le_refl _))
    · (subst hA; repeat' first | exact True.intro | exact rfl | exact congrArg (fun x => DV.v (.int .i64 x)) (up64 hlt' hn2) |  apply And.intro | (intro _ _; rfl) | (intro _ _ _; rfl) | exact .inr (le_of_nble rfl) | exact .inl rfl | exact .inr (Nat.le_refl _))
  · rename_i hge
    have hin : i = n := by
      subst hA
      have : ¬ ((i : Int) < (n : Int)) := of_decide_eq_false hge
      omega
    subst hin
    have hkx : k = x := by rw [hk, hx]
    subst hkx
    refine stop_of hA ⟨[(1, .c (.d (eI k)))], [(0, 1, .nest 3 i (fun q => eSnap (GM q)) none)]⟩ (cov_of ?_ ?_ ?_) ?_
    · cbv
    · cbv
      first
        | exact ⟨fun q hq _ => hR q hq, trivial⟩
        | exact ⟨fun q hq => hR q hq, trivial⟩
    · (subst hA; repeat' first | exact True.intro | exact rfl |  apply And.intro | (intro _ _; rfl) | (intro _ _ _; rfl) | exact .inr (le_of_nble rfl) | exact .inl rfl | exact .inr (Nat.le_refl _))
    · cbv
      repeat' first
        | apply And.intro
        | exact True.intro
        | with_reducible rfl
        | exact same_of hA rfl
        | refine br_of hA (fun _ => ?_) (fun _ => ?_)
        | exact imp_of hA id
        | (refine imp_of hA ?_; subst hA; simp only [real, Bool.true_and]; exact id)
        | (refine ind_of hA ?_; decide +kernel)
        | fail
end Go.Rk
