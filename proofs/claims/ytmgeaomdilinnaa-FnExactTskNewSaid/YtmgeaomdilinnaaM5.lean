/- The walk over this seat's functions, part 5: what each of them answers, at all data. -/
import Derived.Test.YtmgeaomdilinnaaM1
import Derived.Test.YtmgeaomdilinnaaM2
import Derived.Test.YtmgeaomdilinnaaM3
import Derived.Test.YtmgeaomdilinnaaM4
import Derived.Test.YtmgeaomdilinnaaProg
import Derived.KernelRfl
import Derived.IntWalk
import Derived.Test.YtmgeaomdilinnaaChecked
/- Closing, as a step from state to state. -/
namespace Go.Rk
set_option linter.unusedSimpArgs false
set_option linter.unusedVariables false
def ownAs (so : Nat → Nat × HO) (l v sz n : Nat) (rw : Nat → List DV) : Prop := match so l with
  | (v', .arr sz' n' rw') => v = v' ∧ sz = sz' ∧ n = n' ∧ (∀ i, i < n → rw' i = rw i) ∧ FlatR n rw
  | _ => False
def nestAs (so : Nat → Nat × HO) (l v sz n : Nat) (rw : Nat → List DV) : Prop := match so l with
  | (v', .nest sz' n' rw' none) => v = v' ∧ sz = sz' ∧ n = n' ∧ ∀ i, i < n → NsLe (rw' i) (rw i)
  | _ => False
def dvOk (u : Value) : DV → Prop
  | .v u' => u = u'
  | .sl _ n _ => u = nilS ∧ n = 0
  | _ => False
def zcOk : DV → Prop
  | .sl _ n _ => n = 0
  | _ => False
/-- Cells as a row that owns what they lead to, and the labels that are gone by that. -/
def closeOk (so : Nat → Nat × HO) : List CV → List DV → List (Nat × Nat) → Prop
  | [], [], [] => True
  | x :: r, y :: s, ls => match x with
    | .d (.v u) => dvOk u y ∧ closeOk so r s ls
    | .zc => zcOk y ∧ closeOk so r s ls
    | .own l off len v => match y, ls with
      | .sl sz n rw, p :: ls => (p = (l, v) ∧ off = 0 ∧ len = n ∧ ownAs so l v sz n rw) ∧ closeOk so r s ls
      | _, _ => False
    | .nown l len v => match y, ls with
      | .sl sz n rw, p :: ls => (p = (l, v) ∧ len = n ∧ nestAs so l v sz n rw) ∧ closeOk so r s ls
      | _, _ => False
    | _ => False
  | _, _, _ => False
def deadT (ls : List (Nat × Nat)) : Turns := ls.map fun p => (p.1, (p.2 + 1, .dead), none, [])
def deadO (ls : List (Nat × Nat)) : List (Nat × Nat × HO) := ls.map fun p => (p.1, p.2 + 1, .dead)
theorem usOf_deadT (ls : List (Nat × Nat)) : usOf (deadT ls) = deadO ls := by simp [usOf, deadT, deadO]
theorem blkT_deadT : ∀ ls : List (Nat × Nat), blkT (deadT ls) = []
  | [] => rfl
  | p :: r => by
    show blkP none [] ++ blkT (deadT r) = []
    rw [blkT_deadT r]; rfl
theorem hasLab_deadO {ls : List (Nat × Nat)} {l : Nat} (h : hasLab (deadO ls) l = true) : ∃ p ∈ ls, p.1 = l := by
  obtain ⟨q, hq, e⟩ := hasLab_iff.1 h
  obtain ⟨p, hp, rfl⟩ := List.mem_map.1 hq
  exact ⟨p, hp, e⟩
theorem nodup_deadO : ∀ {ls : List (Nat × Nat)}, (ls.map (·.1)).Nodup → nodupL (deadO ls) = true
  | [], _ => rfl
  | p :: r, h => by
    simp only [List.map_cons, List.nodup_cons] at h
    show nodupL ((p.1, p.2 + 1, HO.dead) :: deadO r) = true
    unfold nodupL
    cases hb : hasLab (deadO r) p.1 with
    | true => obtain ⟨q, hq, e⟩ := hasLab_deadO hb; exact (h.1 (List.mem_map.2 ⟨q, hq, e⟩)).elim
    | false => exact nodup_deadO h.2
section
variable {w0 : World} {S : Sets} {nt : Nat} {slots : List (Nat × AV)} {σ : Objs} {a : Act} {w : World} {μ : Place}
theorem close_rep (R : RelM w0 S nt (lookS slots) σ a w μ) : ∀ {cells : List CV} {ds : List DV} {ls : List (Nat × Nat)} {vs : List Value}, closeOk σ cells ds ls → CsRep σ μ w (Nof S σ μ w) cells vs → (ls.map (·.1)).Nodup →
    ds.length = cells.length ∧ (∀ p ∈ ls, Valid σ p) ∧ ∃ G : Nat → Nat → Prop, (∀ (j : Nat) y u, ds[j]? = some y → vs[j]? = some u → NRep w y u (G j)) ∧ (∀ k, k ∈ blk μ ls ↔ ∃ j, j < ds.length ∧ G j k) ∧
      ∀ j j' k, j < ds.length → j' < ds.length → G j k → G j' k → j = j'
  | [], [], [], [], _, _, _ => ⟨rfl, fun p hp => by simp at hp, fun _ _ => False, fun j y u h => by simp at h, fun k => ⟨fun h => by simp [blk] at h, fun ⟨_, h, _⟩ => by simp at h⟩, fun _ _ _ h => by simp at h⟩
  | [], [], [], _ :: _, _, h, _ => h.elim
  | [], [], _ :: _, _, h, _, _ => h.elim
  | [], _ :: _, _, _, h, _, _ => h.elim
  | _ :: _, [], _, _, h, _, _ => h.elim
  | _ :: _, _ :: _, _, [], _, h, _ => h.elim
  | x :: r, y :: s, ls, v :: vs, hc, hv, hn => by
    -- the head owns nothing
    have data : closeOk σ r s ls → NRep w y v (fun _ => False) → (y :: s).length = (x :: r).length ∧ (∀ p ∈ ls, Valid σ p) ∧ ∃ G : Nat → Nat → Prop, (∀ (j : Nat) z u, (y :: s)[j]? = some z → (v :: vs)[j]? = some u → NRep w z u (G j)) ∧ (∀ k, k ∈ blk μ ls ↔ ∃ j, j < (y :: s).length ∧ G j k) ∧
        ∀ j j' k, j < (y :: s).length → j' < (y :: s).length → G j k → G j' k → j = j' := fun h0 hy => by
      obtain ⟨g0, g1, G, g2, g3, g4⟩ := close_rep R h0 hv.2 hn
      refine ⟨by simp [g0], g1, fun j k => match j with | 0 => False | j + 1 => G j k, fun j z u hz hu => ?_, fun k => (g3 k).trans ⟨fun ⟨j, h1, h2⟩ => ⟨j + 1, by simp; omega, h2⟩, fun ⟨j, h1, h2⟩ => ?_⟩, fun j j' k h1 h2 h3 h4 => ?_⟩
      · cases j with
        | zero => simp at hz hu; subst hz hu; exact hy
        | succ j => exact g2 j z u (by simpa using hz) (by simpa using hu)
      · cases j with
        | zero => exact h2.elim
        | succ j => exact ⟨j, by simp at h1; omega, h2⟩
      · cases j with
        | zero => exact h3.elim
        | succ j => cases j' with
          | zero => exact h4.elim
          | succ j' => rw [g4 j j' k (by simp at h1; omega) (by simp at h2; omega) h3 h4]
    -- the head is a label's
    have lab : ∀ (p : Nat × Nat) (ls' : List (Nat × Nat)), ls = p :: ls' → closeOk σ r s ls' → Valid σ p → NRep w y v (fun k => k ∈ blk μ [p]) → (y :: s).length = (x :: r).length ∧ (∀ p ∈ ls, Valid σ p) ∧ ∃ G : Nat → Nat → Prop, (∀ (j : Nat) z u, (y :: s)[j]? = some z → (v :: vs)[j]? = some u → NRep w z u (G j)) ∧ (∀ k, k ∈ blk μ ls ↔ ∃ j, j < (y :: s).length ∧ G j k) ∧
        ∀ j j' k, j < (y :: s).length → j' < (y :: s).length → G j k → G j' k → j = j' := fun p ls' e h0 hp hy => by
      subst e
      simp only [List.map_cons, List.nodup_cons] at hn
      obtain ⟨g0, g1, G, g2, g3, g4⟩ := close_rep R h0 hv.2 hn.2
      have hsep : ∀ k, k ∈ blk μ [p] → k ∈ blk μ ls' → False := fun k h1 h2 => by
        obtain ⟨q1, hq1, hm1⟩ := blk_mem h1
        obtain ⟨q2, hq2, hm2⟩ := blk_mem h2
        simp at hq1; subst hq1
        have := R.injH q1.1 q2.1 k hp.1 (g1 q2 hq2).1 hm1 hm2
        exact hn.1 (List.mem_map.2 ⟨q2, hq2, this.symm⟩)
      refine ⟨by simp [g0], fun q hq => ?_, fun j k => match j with | 0 => k ∈ blk μ [p] | j + 1 => G j k, fun j z u hz hu => ?_, fun k => ?_, fun j j' k h1 h2 h3 h4 => ?_⟩
      · rcases List.mem_cons.1 hq with rfl | hq
        · exact hp
        · exact g1 q hq
      · cases j with
        | zero => simp at hz hu; subst hz hu; exact hy
        | succ j => exact g2 j z u (by simpa using hz) (by simpa using hu)
      · have e : blk μ (p :: ls') = blk μ [p] ++ blk μ ls' := blk_append μ [p] ls'
        rw [e, List.mem_append, g3]
        constructor
        · rintro (h | ⟨j, h1, h2⟩)
          · exact ⟨0, by simp, h⟩
          · exact ⟨j + 1, by simp; omega, h2⟩
        · rintro ⟨j, h1, h2⟩
          cases j with
          | zero => exact .inl h2
          | succ j => exact .inr ⟨j, by simp at h1; omega, h2⟩
      · cases j with
        | zero => cases j' with
          | zero => rfl
          | succ j' => exact (hsep k h3 ((g3 k).2 ⟨j', by simp at h2; omega, h4⟩)).elim
        | succ j => cases j' with
          | zero => exact (hsep k h4 ((g3 k).2 ⟨j, by simp at h1; omega, h3⟩)).elim
          | succ j' => rw [g4 j j' k (by simp at h1; omega) (by simp at h2; omega) h3 h4]
    have hv1 := hv.1
    cases x with
    | d d =>
      cases d with
      | v u =>
        obtain ⟨h1, h2⟩ : dvOk u y ∧ closeOk σ r s ls := hc
        refine data h2 ?_
        cases hv1 with
        | v _ hone =>
          cases y with
          | v u' => have h1 : _ = u' := h1; subst h1; exact .v _ _ hone fun _ h => h
          | sl sz n rw => obtain ⟨e1, e2⟩ : v = nilS ∧ n = 0 := h1; subst e1; subst e2; exact .nil _ _ _ _ fun _ h => h
          | p _ => exact h1.elim
          | fn _ _ => exact h1.elim
      | _ => exact (show False from hc).elim
    | zc =>
      obtain ⟨h1, h2⟩ : zcOk y ∧ closeOk σ r s ls := hc
      refine data h2 ?_
      obtain ⟨ad, rfl⟩ := hv1
      cases y with
      | sl sz n rw => have h1 : n = 0 := h1; subst h1; exact .nil _ _ _ _ fun _ h => h
      | _ => exact h1.elim
    | own l off len ver =>
      cases y with
      | sl sz n rw =>
        cases ls with
        | nil => exact (show False from hc).elim
        | cons p ls' =>
          obtain ⟨⟨rfl, rfl, rfl, h3⟩, h2⟩ : (p = (l, ver) ∧ off = 0 ∧ len = n ∧ ownAs σ l ver sz n rw) ∧ closeOk σ r s ls' := hc
          unfold ownAs at h3
          split at h3
          · rename_i v' sz' n' rw' hσ
            obtain ⟨rfl, rfl, rfl, hrw, hfl⟩ := h3
            refine lab _ _ rfl h2 ⟨by simp [live, hσ], by simp [hσ]⟩ ?_
            have := own_whole R hσ hv1 (N := Nof S σ μ w) fun _ h => h
            exact (this.rows hrw).nrep hfl
          · exact h3.elim
      | _ => exact (show False from hc).elim
    | nown l len ver =>
      cases y with
      | sl sz n rw =>
        cases ls with
        | nil => exact (show False from hc).elim
        | cons p ls' =>
          obtain ⟨⟨rfl, rfl, h3⟩, h2⟩ : (p = (l, ver) ∧ len = n ∧ nestAs σ l ver sz n rw) ∧ closeOk σ r s ls' := hc
          unfold nestAs at h3
          split at h3
          · rename_i v' sz' n' rw' hσ
            obtain ⟨rfl, rfl, rfl, hrw⟩ := h3
            refine lab _ _ rfl h2 ⟨by simp [live, hσ], by simp [hσ]⟩ ?_
            exact nle_sl hrw _ _ _ (nest_whole R hσ hv1).2.1
          · exact h3.elim
      | _ => exact (show False from hc).elim
    | _ => exact (show False from hc).elim
end
theorem cov_close {fr : Bool} {nt : Nat} {σ τ : St} (l : Nat) (row' : Nat → List DV) (ds : List DV) (ls : List (Nat × Nat)) {ver sz n x : Nat} {row : Nat → List DV} {cells : List CV} (ho : lookO σ.objs l = (ver, .nest sz n row (some (x, cells))))
    (hc : closeOk σ.o cells ds ls) (hd : exOk ((l, ver) :: ls) [] = true) (h1 : row' x = ds) (h2 : ∀ i, i < n → i ≠ x → row' i = row i)
    (h : CovG fr nt ⟨σ.slots, ((l, ver, .nest sz n row' none) :: deadO ls) ++ σ.objs⟩ τ) : CovG fr nt σ τ := by
  refine cov_trans ?_ h
  rintro w0 S a w hfo ⟨μ, R⟩
  have hσ : σ.o l = (ver, .nest sz n row (some (x, cells))) := ho
  have hlv : live σ.o l := by simp [live, hσ]
  have ob := R.objs l
  rw [hσ] at ob
  rcases ob with ⟨_, _, h0, _⟩ | ⟨b, base, cs, e, hμ, hb, hsz, ⟨k0, G, k1, k2, k3⟩, hkb, hknd, hfoc⟩
  · cases h0
  have k2 : ∀ k, k ∈ μ.k l ↔ ∃ i j, i < n ∧ ¬ isFoc (some (x, cells)) i ∧ j < sz ∧ G i j k := k2
  obtain ⟨hx, hcl, hcs⟩ := hfoc _ _ rfl
  obtain ⟨hnd0, _⟩ := exOk_spec hd
  have hnd0 : (l :: ls.map (·.1)).Nodup := hnd0
  rw [List.nodup_cons] at hnd0
  have hff : ∀ i, isFoc (some (x, cells)) i ↔ i = x := fun i => ⟨fun ⟨c, hc⟩ => by simp at hc; exact hc.1.symm, fun e => ⟨cells, by rw [e]⟩⟩
  have hnf : ∀ k, ¬ isFoc none k := fun k ⟨c, hc⟩ => by cases hc
  let us : List Value := (List.range sz).map fun j => cs.getD (base + x * sz + j) undef
  have husg : ∀ (j : Nat) y, cells[j]? = some y → ∃ u, us[j]? = some u ∧ CRep σ.o μ w (Nof S σ.o μ w) y u := fun j y hj => by
    obtain ⟨u, hu, hc⟩ := hcs j y hj
    have hjl : j < sz := by rw [← hcl]; exact (List.getElem?_eq_some_iff.1 hj).1
    exact ⟨u, by simp [us, hjl, Array.getD_eq_getD_getElem?, hu], hc⟩
  have hus : CsRep σ.o μ w (Nof S σ.o μ w) cells us := CsRep.of_get (by simp [us, hcl]) husg
  obtain ⟨c0, c1, Gx, c2, c3, c4⟩ := close_rep R hc hus hnd0.2
  have hdl : ds.length = sz := by rw [c0, hcl]
  have husv : ∀ j, j < sz → ∃ u, us[j]? = some u ∧ cs[base + x * sz + j]? = some u := fun j hj => by
    obtain ⟨u, hu, _⟩ := hcs j _ (List.getElem?_eq_getElem (by omega))
    exact ⟨u, by simp [us, hj, Array.getD_eq_getD_getElem?, hu], hu⟩
  have hsepl : ∀ k, k ∈ blk μ ls → k ≠ b ∧ k ∉ μ.k l := fun k hk => by
    obtain ⟨p, hp, hm⟩ := blk_mem hk
    have hno : ¬ Has μ l k := fun hm' => by
      have := R.injH p.1 l k (c1 p hp).1 hlv hm hm'
      exact hnd0.1 (List.mem_map.2 ⟨p, hp, this⟩)
    exact ⟨fun e => hno (.inl ⟨base, by rw [e]; exact hμ⟩), fun h => hno (.inr h)⟩
  let ks : List Nat := μ.k l ++ blk μ ls
  let t0 : Nat × (Nat × HO) × Option (Nat × Nat) × List Nat := (l, (ver, .nest sz n row' none), some (b, base), ks)
  have hus' : usOf (t0 :: deadT ls) = (l, ver, .nest sz n row' none) :: deadO ls := by rw [← usOf_deadT]; rfl
  have hnd : nodupL (usOf (t0 :: deadT ls)) = true := by
    rw [hus']
    unfold nodupL
    cases hb : hasLab (deadO ls) l with
    | true => obtain ⟨q, hq, e⟩ := hasLab_deadO hb; exact (hnd0.1 (List.mem_map.2 ⟨q, hq, e⟩)).elim
    | false => exact nodup_deadO hnd0.2
  have hblk0 : ∀ k, k ∈ blk μ ((l, ver) :: ls) ↔ (k = b ∨ k ∈ μ.k l) ∨ k ∈ blk μ ls := fun k => by
    have e : blk μ ((l, ver) :: ls) = blk μ [(l, ver)] ++ blk μ ls := blk_append μ [(l, ver)] ls
    rw [e, List.mem_append, blk_one]
    show k ∈ blkP (μ l) (μ.k l) ∨ _ ↔ _
    rw [mem_blkP, hμ]
    constructor
    · rintro ((⟨_, e⟩ | h) | h)
      · simp at e; exact .inl (.inl e.1.symm)
      · exact .inl (.inr h)
      · exact .inr h
    · rintro ((rfl | h) | h)
      · exact .inl (.inl ⟨base, rfl⟩)
      · exact .inl (.inr h)
      · exact .inr h
  have hblkT : blkT (t0 :: deadT ls) = b :: ks := by
    have : blkT (t0 :: deadT ls) = blkP (some (b, base)) ks ++ blkT (deadT ls) := rfl
    rw [this, blkT_deadT]; simp [blkP]
  have hvex : ∀ p ∈ (l, ver) :: ls, Valid σ.o p := fun p hp => by
    rcases List.mem_cons.1 hp with rfl | hp
    · exact ⟨hlv, by rw [hσ]⟩
    · exact c1 p hp
  have hksn : ks.Nodup := List.nodup_append.2 ⟨hknd, blk_nodup R hnd0.2 c1, fun k hk k' hk' e => by subst e; exact (hsepl k hk').2 hk⟩
  obtain ⟨q1, q2, q3⟩ := R.turned (w' := w) (τ := t0 :: deadT ls) (ex := (l, ver) :: ls) (gone := []) (F' := b :: ks) hnd hvex
    (fun t ht => by
      rcases List.mem_cons.1 ht with rfl | ht
      · exact ⟨fun h => (nomatch h), .inr ⟨by rw [hσ], hμ.symm, fun _ h => (nomatch h), fun _ _ _ h => (nomatch h), fun sz' n' r' foc' h => by simp [t0] at h; obtain ⟨rfl, rfl, _⟩ := h; exact ⟨row, _, by rw [hσ]⟩⟩⟩
      · obtain ⟨p, hp, rfl⟩ := List.mem_map.1 ht
        refine ⟨fun _ => rfl, .inl ?_⟩
        have := (c1 p hp).2
        simp only
        omega)
    (fun p hp => by
      rw [List.append_nil] at hp
      rcases List.mem_cons.1 hp with rfl | hp
      · exact ⟨t0, by simp, rfl⟩
      · exact ⟨(p.1, (p.2 + 1, .dead), none, []), List.mem_cons_of_mem _ (List.mem_map.2 ⟨p, hp, rfl⟩), rfl⟩)
    ⟨rfl, rfl, rfl⟩ (Nat.le_refl _) (fun _ _ _ => rfl) (fun b cs e fr hb => ⟨cs, hb, rfl⟩)
    (fun k hk => by
      have hin : k ∈ blk μ ((l, ver) :: ls) := by
        rw [hblk0]
        simp only [List.mem_cons, ks, List.mem_append] at hk
        rcases hk with rfl | hk | hk
        · exact .inl (.inl rfl)
        · exact .inl (.inr hk)
        · exact .inr hk
      obtain ⟨p, hp, hm⟩ := blk_mem hin
      exact ⟨(R.ownH p.1 k (hvex p hp).1 hm).1, .inl hin⟩)
    (by
      rw [List.nodup_cons]
      refine ⟨fun hm => ?_, hksn⟩
      rcases List.mem_append.1 hm with hm | hm
      · exact hkb hm
      · exact (hsepl b hm).1 rfl)
    hblkT
    (fun N' hN' hf t ht => by
      rcases List.mem_cons.1 ht with rfl | ht
      · obtain ⟨f1, f2, f3⟩ := hf t0 (by simp)
        let G' : Nat → Nat → Nat → Prop := fun i j k => (i = x ∧ Gx j k) ∨ (i ≠ x ∧ G i j k)
        have hrow : ∀ i, i < n → (row' i).length = sz := fun i hi => by
          by_cases ei : i = x
          · rw [ei, h1, hdl]
          · rw [h2 i hi ei]; exact k0 i hi fun h => ei ((hff i).1 h)
        refine .inr ⟨b, base, cs, e, f2, hb, hsz, ⟨fun i hi _ => hrow i hi, G', fun i j y hi _ hj => ?_, fun k => ?_, fun i j i' j' k g1 _ g3 g4 _ g6 g7 g8 => ?_⟩, by
            rw [f3]
            intro hm
            rcases List.mem_append.1 hm with hm | hm
            · exact hkb hm
            · exact (hsepl b hm).1 rfl, by rw [f3]; exact hksn, fun i cells hfc => by cases hfc⟩
        · by_cases ei : i = x
          · subst ei
            rw [h1] at hj
            have hjl : j < sz := by rw [← hdl]; exact (List.getElem?_eq_some_iff.1 hj).1
            obtain ⟨u, hu1, hu2⟩ := husv j hjl
            exact ⟨u, hu2, (c2 j y u hj hu1).eqv fun k => ⟨fun h => h.elim (fun h => h.2) fun h => (h.1 rfl).elim, fun h => .inl ⟨rfl, h⟩⟩⟩
          · rw [h2 i hi ei] at hj
            obtain ⟨u, hu, hd⟩ := k1 i j y hi (fun h => ei ((hff i).1 h)) hj
            exact ⟨u, hu, hd.eqv fun k => ⟨fun h => h.elim (fun h => (ei h.1).elim) fun h => h.2, fun h => .inr ⟨ei, h⟩⟩⟩
        · show k ∈ (placeT μ (t0 :: deadT ls)).k l ↔ _
          rw [f3]
          show k ∈ μ.k l ++ blk μ ls ↔ _
          rw [List.mem_append, k2, c3]
          constructor
          · rintro (⟨i, j, g1, g0, g2, g3⟩ | ⟨j, g1, g2⟩)
            · exact ⟨i, j, g1, hnf i, g2, .inr ⟨fun e => g0 ((hff i).2 e), g3⟩⟩
            · exact ⟨x, j, hx, hnf x, by omega, .inl ⟨rfl, g2⟩⟩
          · rintro ⟨i, j, g1, _, g2, ⟨rfl, g3⟩ | ⟨g3, g4⟩⟩
            · exact .inr ⟨j, by omega, g3⟩
            · exact .inl ⟨i, j, g1, fun h => g3 ((hff i).1 h), g2, g4⟩
        · rcases g7 with ⟨rfl, g7⟩ | ⟨n7, g7⟩ <;> rcases g8 with ⟨rfl, g8⟩ | ⟨n8, g8⟩
          · exact ⟨rfl, c4 j j' k (by omega) (by omega) g7 g8⟩
          · exact ((hsepl k ((c3 k).2 ⟨j, by omega, g7⟩)).2 ((k2 k).2 ⟨i', j', g4, fun h => n8 ((hff i').1 h), g6, g8⟩)).elim
          · exact ((hsepl k ((c3 k).2 ⟨j', by omega, g8⟩)).2 ((k2 k).2 ⟨i, j, g1, fun h => n7 ((hff i).1 h), g3, g7⟩)).elim
          · exact k3 i j i' j' k g1 (fun h => n7 ((hff i).1 h)) g3 g4 (fun h => n8 ((hff i').1 h)) g6 g7 g8
      · obtain ⟨p, hp, rfl⟩ := List.mem_map.1 ht
        trivial)
  refine ⟨placeT μ (t0 :: deadT ls), ?_⟩
  have eo : St.o ⟨σ.slots, ((l, ver, .nest sz n row' none) :: deadO ls) ++ σ.objs⟩ = putO σ.o (usOf (t0 :: deadT ls)) := by
    show lookO (_ ++ σ.objs) = _
    rw [lookO_app, hus']; rfl
  rw [eo]
  exact q3
end Go.Rk
/- Small helps for nests: how a row's cells close; rows of values. -/
namespace Go.Rk
set_option linter.unusedSimpArgs false
set_option linter.unusedVariables false
theorem close_end {so : Nat → Nat × HO} : closeOk so [] [] [] := trivial
theorem close_v {so : Nat → Nat × HO} {u : Value} {r : List CV} {s : List DV} {ls : List (Nat × Nat)} (h : closeOk so r s ls) : closeOk so (.d (.v u) :: r) (.v u :: s) ls := ⟨rfl, h⟩
theorem close_own {so : Nat → Nat × HO} {l v sz n : Nat} {rw rw' : Nat → List DV} {r : List CV} {s : List DV} {ls : List (Nat × Nat)} (ho : so l = (v, .arr sz n rw')) (he : ∀ i, i < n → rw' i = rw i) (hf : FlatR n rw) (h : closeOk so r s ls) :
    closeOk so (.own l 0 n v :: r) (.sl sz n rw :: s) ((l, v) :: ls) := by
  refine ⟨⟨rfl, rfl, rfl, ?_⟩, h⟩
  unfold ownAs
  rw [ho]
  exact ⟨rfl, rfl, rfl, he, hf⟩
def FlatL : List DV → Prop
  | [] => True
  | x :: r => (∃ u, x = .v u) ∧ FlatL r
theorem flatL {l : List DV} (h : FlatL l) : ∀ x, x ∈ l → ∃ u, x = .v u := by
  induction l with
  | nil => intro x hx; simp at hx
  | cons y r ih =>
    intro x hx
    rcases List.mem_cons.1 hx with rfl | hx
    · exact h.1
    · exact ih h.2 x hx
theorem flatR {n : Nat} {row : Nat → List DV} (h : ∀ i, FlatL (row i)) : FlatR n row := fun i _ => flatL (h i)
end Go.Rk
/- The types of this program, as the walk asks them. -/
namespace Go.Rk
set_option linter.unusedSimpArgs false
set_option linter.unusedVariables false
open Go.Proofs
def ti3 : TI := { desc := TypeDesc.int IntKind.i64, size := 1, bytes := 8, zero := [Value.int IntKind.i64 0], eqk := false }
def ti4 : TI := { desc := TypeDesc.bool, size := 1, bytes := 1, zero := [Value.bool false], eqk := false }
def ti5 : TI := { desc := TypeDesc.int IntKind.u8, size := 1, bytes := 1, zero := [Value.int IntKind.u8 0], eqk := false }
def ti23 : TI := { desc := TypeDesc.struct #[{ name := "Sources", type := 3, offset := 0, embedded := false, tag := "", pkgPath := "", byteOffset := 0 }, { name := "Tasks", type := 3, offset := 1, embedded := false, tag := "", pkgPath := "", byteOffset := 8 }, { name := "Kind", type := 3, offset := 2, embedded := false, tag := "", pkgPath := "", byteOffset := 16 }, { name := "Size", type := 3, offset := 3, embedded := false, tag := "", pkgPath := "", byteOffset := 24 }, { name := "Step", type := 3, offset := 4, embedded := false, tag := "", pkgPath := "", byteOffset := 32 }, { name := "Late", type := 3, offset := 5, embedded := false, tag := "", pkgPath := "", byteOffset := 40 }, { name := "Tell", type := 3, offset := 6, embedded := false, tag := "", pkgPath := "", byteOffset := 48 }, { name := "Piece", type := 4, offset := 7, embedded := false, tag := "", pkgPath := "", byteOffset := 56 }, { name := "Least", type := 3, offset := 8, embedded := false, tag := "", pkgPath := "", byteOffset := 64 }, { name := "Room", type := 3, offset := 9, embedded := false, tag := "", pkgPath := "", byteOffset := 72 }], size := 10, bytes := 80, zero := [Value.int IntKind.i64 0, Value.int IntKind.i64 0, Value.int IntKind.i64 0, Value.int IntKind.i64 0, Value.int IntKind.i64 0, Value.int IntKind.i64 0, Value.int IntKind.i64 0, Value.bool false, Value.int IntKind.i64 0, Value.int IntKind.i64 0], eqk := true }
def ti24 : TI := { desc := TypeDesc.slice 114, size := 1, bytes := 24, zero := [Value.slice none 0 0], eqk := false }
def ti26 : TI := { desc := TypeDesc.struct #[{ name := "Mark", type := 3, offset := 0, embedded := false, tag := "", pkgPath := "", byteOffset := 0 }, { name := "Rows", type := 24, offset := 1, embedded := false, tag := "", pkgPath := "", byteOffset := 8 }], size := 2, bytes := 32, zero := [Value.int IntKind.i64 0, Value.slice none 0 0], eqk := false }
def ti27 : TI := { desc := TypeDesc.slice 3, size := 1, bytes := 24, zero := [Value.slice none 0 0], eqk := false }
def ti29 : TI := { desc := TypeDesc.slice 75, size := 1, bytes := 24, zero := [Value.slice none 0 0], eqk := false }
def ti30 : TI := { desc := TypeDesc.slice 106, size := 1, bytes := 24, zero := [Value.slice none 0 0], eqk := false }
def ti32 : TI := { desc := TypeDesc.struct #[{ name := "Mark", type := 3, offset := 0, embedded := false, tag := "", pkgPath := "", byteOffset := 0 }, { name := "Rows", type := 30, offset := 1, embedded := false, tag := "", pkgPath := "", byteOffset := 8 }], size := 2, bytes := 32, zero := [Value.int IntKind.i64 0, Value.slice none 0 0], eqk := false }
def ti33 : TI := { desc := TypeDesc.slice 154, size := 1, bytes := 24, zero := [Value.slice none 0 0], eqk := false }
def ti34 : TI := { desc := TypeDesc.slice 159, size := 1, bytes := 24, zero := [Value.slice none 0 0], eqk := false }
def ti36 : TI := { desc := TypeDesc.struct #[{ name := "N", type := 3, offset := 0, embedded := false, tag := "", pkgPath := "", byteOffset := 0 }, { name := "Panes", type := 33, offset := 1, embedded := false, tag := "", pkgPath := "", byteOffset := 8 }, { name := "Lates", type := 34, offset := 2, embedded := false, tag := "", pkgPath := "", byteOffset := 32 }], size := 3, bytes := 56, zero := [Value.int IntKind.i64 0, Value.slice none 0 0, Value.slice none 0 0], eqk := false }
def ti38 : TI := { desc := TypeDesc.struct #[{ name := "Ins", type := 29, offset := 0, embedded := false, tag := "", pkgPath := "", byteOffset := 0 }, { name := "Op", type := 32, offset := 1, embedded := false, tag := "", pkgPath := "", byteOffset := 24 }, { name := "Wall", type := 3, offset := 3, embedded := false, tag := "", pkgPath := "", byteOffset := 56 }, { name := "Pend", type := 36, offset := 4, embedded := false, tag := "", pkgPath := "", byteOffset := 64 }], size := 7, bytes := 120, zero := [Value.slice none 0 0, Value.int IntKind.i64 0, Value.slice none 0 0, Value.int IntKind.i64 0, Value.int IntKind.i64 0, Value.slice none 0 0, Value.slice none 0 0], eqk := false }
def ti40 : TI := { desc := TypeDesc.struct #[{ name := "Sources", type := 3, offset := 0, embedded := false, tag := "", pkgPath := "", byteOffset := 0 }, { name := "Tasks", type := 3, offset := 1, embedded := false, tag := "", pkgPath := "", byteOffset := 8 }, { name := "Kind", type := 3, offset := 2, embedded := false, tag := "", pkgPath := "", byteOffset := 16 }, { name := "Size", type := 3, offset := 3, embedded := false, tag := "", pkgPath := "", byteOffset := 24 }, { name := "Step", type := 3, offset := 4, embedded := false, tag := "", pkgPath := "", byteOffset := 32 }, { name := "Late", type := 3, offset := 5, embedded := false, tag := "", pkgPath := "", byteOffset := 40 }, { name := "Tell", type := 3, offset := 6, embedded := false, tag := "", pkgPath := "", byteOffset := 48 }, { name := "Piece", type := 4, offset := 7, embedded := false, tag := "", pkgPath := "", byteOffset := 56 }, { name := "Least", type := 3, offset := 8, embedded := false, tag := "", pkgPath := "", byteOffset := 64 }, { name := "Room", type := 3, offset := 9, embedded := false, tag := "", pkgPath := "", byteOffset := 72 }], size := 10, bytes := 80, zero := [Value.int IntKind.i64 0, Value.int IntKind.i64 0, Value.int IntKind.i64 0, Value.int IntKind.i64 0, Value.int IntKind.i64 0, Value.int IntKind.i64 0, Value.int IntKind.i64 0, Value.bool false, Value.int IntKind.i64 0, Value.int IntKind.i64 0], eqk := true }
def ti51 : TI := { desc := TypeDesc.slice 5, size := 1, bytes := 24, zero := [Value.slice none 0 0], eqk := false }
def ti53 : TI := { desc := TypeDesc.slice 4, size := 1, bytes := 24, zero := [Value.slice none 0 0], eqk := false }
def ti54 : TI := { desc := TypeDesc.slice 90, size := 1, bytes := 24, zero := [Value.slice none 0 0], eqk := false }
def ti56 : TI := { desc := TypeDesc.struct #[{ name := "N", type := 3, offset := 0, embedded := false, tag := "", pkgPath := "", byteOffset := 0 }, { name := "At", type := 27, offset := 1, embedded := false, tag := "", pkgPath := "", byteOffset := 8 }, { name := "Snaps", type := 54, offset := 2, embedded := false, tag := "", pkgPath := "", byteOffset := 32 }], size := 3, bytes := 56, zero := [Value.int IntKind.i64 0, Value.slice none 0 0, Value.slice none 0 0], eqk := false }
def ti58 : TI := { desc := TypeDesc.struct #[{ name := "N", type := 3, offset := 0, embedded := false, tag := "", pkgPath := "", byteOffset := 0 }, { name := "Open", type := 4, offset := 1, embedded := false, tag := "", pkgPath := "", byteOffset := 8 }, { name := "Src", type := 27, offset := 2, embedded := false, tag := "", pkgPath := "", byteOffset := 16 }, { name := "Tsk", type := 53, offset := 3, embedded := false, tag := "", pkgPath := "", byteOffset := 40 }, { name := "Snaps", type := 54, offset := 4, embedded := false, tag := "", pkgPath := "", byteOffset := 64 }, { name := "Safe", type := 56, offset := 5, embedded := false, tag := "", pkgPath := "", byteOffset := 88 }], size := 8, bytes := 144, zero := [Value.int IntKind.i64 0, Value.bool false, Value.slice none 0 0, Value.slice none 0 0, Value.slice none 0 0, Value.int IntKind.i64 0, Value.slice none 0 0, Value.slice none 0 0], eqk := false }
def ti73 : TI := { desc := TypeDesc.slice 157, size := 1, bytes := 24, zero := [Value.slice none 0 0], eqk := false }
def ti75 : TI := { desc := TypeDesc.struct #[{ name := "Queue", type := 73, offset := 0, embedded := false, tag := "", pkgPath := "", byteOffset := 0 }, { name := "Mark", type := 3, offset := 1, embedded := false, tag := "", pkgPath := "", byteOffset := 24 }, { name := "Held", type := 4, offset := 2, embedded := false, tag := "", pkgPath := "", byteOffset := 32 }], size := 3, bytes := 40, zero := [Value.slice none 0 0, Value.int IntKind.i64 0, Value.bool false], eqk := false }
def ti90 : TI := { desc := TypeDesc.struct #[{ name := "Op", type := 32, offset := 0, embedded := false, tag := "", pkgPath := "", byteOffset := 0 }, { name := "Marks", type := 27, offset := 2, embedded := false, tag := "", pkgPath := "", byteOffset := 32 }], size := 3, bytes := 56, zero := [Value.int IntKind.i64 0, Value.slice none 0 0, Value.slice none 0 0], eqk := false }
def ti96 : TI := { desc := TypeDesc.struct #[{ name := "Start", type := 3, offset := 0, embedded := false, tag := "", pkgPath := "", byteOffset := 0 }, { name := "End", type := 3, offset := 1, embedded := false, tag := "", pkgPath := "", byteOffset := 8 }], size := 2, bytes := 16, zero := [Value.int IntKind.i64 0, Value.int IntKind.i64 0], eqk := true }
def ti104 : TI := { desc := TypeDesc.struct #[{ name := "N", type := 3, offset := 0, embedded := false, tag := "", pkgPath := "", byteOffset := 0 }, { name := "Sum", type := 3, offset := 1, embedded := false, tag := "", pkgPath := "", byteOffset := 8 }, { name := "Least", type := 3, offset := 2, embedded := false, tag := "", pkgPath := "", byteOffset := 16 }, { name := "Most", type := 3, offset := 3, embedded := false, tag := "", pkgPath := "", byteOffset := 24 }], size := 4, bytes := 32, zero := [Value.int IntKind.i64 0, Value.int IntKind.i64 0, Value.int IntKind.i64 0, Value.int IntKind.i64 0], eqk := true }
def ti106 : TI := { desc := TypeDesc.struct #[{ name := "Key", type := 3, offset := 0, embedded := false, tag := "", pkgPath := "", byteOffset := 0 }, { name := "Win", type := 96, offset := 1, embedded := false, tag := "", pkgPath := "", byteOffset := 8 }, { name := "All", type := 104, offset := 3, embedded := false, tag := "", pkgPath := "", byteOffset := 24 }, { name := "Fresh", type := 104, offset := 7, embedded := false, tag := "", pkgPath := "", byteOffset := 56 }, { name := "Told", type := 3, offset := 11, embedded := false, tag := "", pkgPath := "", byteOffset := 88 }, { name := "Timely", type := 4, offset := 12, embedded := false, tag := "", pkgPath := "", byteOffset := 96 }], size := 13, bytes := 104, zero := [Value.int IntKind.i64 0, Value.int IntKind.i64 0, Value.int IntKind.i64 0, Value.int IntKind.i64 0, Value.int IntKind.i64 0, Value.int IntKind.i64 0, Value.int IntKind.i64 0, Value.int IntKind.i64 0, Value.int IntKind.i64 0, Value.int IntKind.i64 0, Value.int IntKind.i64 0, Value.int IntKind.i64 0, Value.bool false], eqk := true }
def ti111 : TI := { desc := TypeDesc.struct #[{ name := "Start", type := 3, offset := 0, embedded := false, tag := "", pkgPath := "", byteOffset := 0 }, { name := "End", type := 3, offset := 1, embedded := false, tag := "", pkgPath := "", byteOffset := 8 }], size := 2, bytes := 16, zero := [Value.int IntKind.i64 0, Value.int IntKind.i64 0], eqk := true }
def ti112 : TI := { desc := TypeDesc.struct #[{ name := "N", type := 3, offset := 0, embedded := false, tag := "", pkgPath := "", byteOffset := 0 }, { name := "Sum", type := 3, offset := 1, embedded := false, tag := "", pkgPath := "", byteOffset := 8 }, { name := "Least", type := 3, offset := 2, embedded := false, tag := "", pkgPath := "", byteOffset := 16 }, { name := "Most", type := 3, offset := 3, embedded := false, tag := "", pkgPath := "", byteOffset := 24 }], size := 4, bytes := 32, zero := [Value.int IntKind.i64 0, Value.int IntKind.i64 0, Value.int IntKind.i64 0, Value.int IntKind.i64 0], eqk := true }
def ti114 : TI := { desc := TypeDesc.struct #[{ name := "Key", type := 3, offset := 0, embedded := false, tag := "", pkgPath := "", byteOffset := 0 }, { name := "Win", type := 111, offset := 1, embedded := false, tag := "", pkgPath := "", byteOffset := 8 }, { name := "All", type := 112, offset := 3, embedded := false, tag := "", pkgPath := "", byteOffset := 24 }, { name := "Fresh", type := 112, offset := 7, embedded := false, tag := "", pkgPath := "", byteOffset := 56 }, { name := "Told", type := 3, offset := 11, embedded := false, tag := "", pkgPath := "", byteOffset := 88 }, { name := "Timely", type := 4, offset := 12, embedded := false, tag := "", pkgPath := "", byteOffset := 96 }], size := 13, bytes := 104, zero := [Value.int IntKind.i64 0, Value.int IntKind.i64 0, Value.int IntKind.i64 0, Value.int IntKind.i64 0, Value.int IntKind.i64 0, Value.int IntKind.i64 0, Value.int IntKind.i64 0, Value.int IntKind.i64 0, Value.int IntKind.i64 0, Value.int IntKind.i64 0, Value.int IntKind.i64 0, Value.int IntKind.i64 0, Value.bool false], eqk := true }
def ti132 : TI := { desc := TypeDesc.struct #[{ name := "b", type := 51, offset := 0, embedded := false, tag := "", pkgPath := "loop.example/freshet/spec", byteOffset := 0 }, { name := "p", type := 3, offset := 1, embedded := false, tag := "", pkgPath := "loop.example/freshet/spec", byteOffset := 24 }], size := 2, bytes := 32, zero := [Value.slice none 0 0, Value.int IntKind.i64 0], eqk := false }
def ti154 : TI := { desc := TypeDesc.struct #[{ name := "Key", type := 3, offset := 0, embedded := false, tag := "", pkgPath := "", byteOffset := 0 }, { name := "Win", type := 96, offset := 1, embedded := false, tag := "", pkgPath := "", byteOffset := 8 }, { name := "No", type := 3, offset := 3, embedded := false, tag := "", pkgPath := "", byteOffset := 24 }, { name := "Kind", type := 3, offset := 4, embedded := false, tag := "", pkgPath := "", byteOffset := 32 }, { name := "Agg", type := 104, offset := 5, embedded := false, tag := "", pkgPath := "", byteOffset := 40 }], size := 9, bytes := 72, zero := [Value.int IntKind.i64 0, Value.int IntKind.i64 0, Value.int IntKind.i64 0, Value.int IntKind.i64 0, Value.int IntKind.i64 0, Value.int IntKind.i64 0, Value.int IntKind.i64 0, Value.int IntKind.i64 0, Value.int IntKind.i64 0], eqk := true }
def ti157 : TI := { desc := TypeDesc.struct #[{ name := "Kind", type := 3, offset := 0, embedded := false, tag := "", pkgPath := "", byteOffset := 0 }, { name := "T", type := 3, offset := 1, embedded := false, tag := "", pkgPath := "", byteOffset := 8 }, { name := "Key", type := 3, offset := 2, embedded := false, tag := "", pkgPath := "", byteOffset := 16 }, { name := "V", type := 3, offset := 3, embedded := false, tag := "", pkgPath := "", byteOffset := 24 }, { name := "N", type := 3, offset := 4, embedded := false, tag := "", pkgPath := "", byteOffset := 32 }], size := 5, bytes := 40, zero := [Value.int IntKind.i64 0, Value.int IntKind.i64 0, Value.int IntKind.i64 0, Value.int IntKind.i64 0, Value.int IntKind.i64 0], eqk := true }
def ti159 : TI := { desc := TypeDesc.struct #[{ name := "Rec", type := 157, offset := 0, embedded := false, tag := "", pkgPath := "", byteOffset := 0 }, { name := "Win", type := 96, offset := 5, embedded := false, tag := "", pkgPath := "", byteOffset := 40 }], size := 7, bytes := 56, zero := [Value.int IntKind.i64 0, Value.int IntKind.i64 0, Value.int IntKind.i64 0, Value.int IntKind.i64 0, Value.int IntKind.i64 0, Value.int IntKind.i64 0, Value.int IntKind.i64 0], eqk := true }
def ti161 : TI := { desc := TypeDesc.int IntKind.u64, size := 1, bytes := 8, zero := [Value.int IntKind.u64 0], eqk := false }
def tab : List (Nat × TI) := [(3, ti3), (4, ti4), (5, ti5), (23, ti23), (24, ti24), (26, ti26), (27, ti27), (29, ti29), (30, ti30), (32, ti32), (33, ti33), (34, ti34), (36, ti36), (38, ti38), (40, ti40), (51, ti51), (53, ti53), (54, ti54), (56, ti56), (58, ti58), (73, ti73), (75, ti75), (90, ti90), (96, ti96), (104, ti104), (106, ti106), (111, ti111), (112, ti112), (114, ti114), (132, ti132), (154, ti154), (157, ti157), (159, ti159), (161, ti161)]
theorem row3 : TRow Try.prog 3 ti3 := ⟨Try.underlying3, ⟨Try.t3, Value.int IntKind.i64 0, by kernel_rfl, rfl, rfl, rfl, rfl, rfl, rfl⟩, fun h => by cases h⟩
theorem row4 : TRow Try.prog 4 ti4 := ⟨Try.underlying4, ⟨Try.t4, Value.bool false, by kernel_rfl, rfl, rfl, rfl, rfl, rfl, rfl⟩, fun h => by cases h⟩
theorem row5 : TRow Try.prog 5 ti5 := ⟨Try.underlying5, ⟨Try.t5, Value.int IntKind.u8 0, by kernel_rfl, rfl, rfl, rfl, rfl, rfl, rfl⟩, fun h => by cases h⟩
theorem row23 : TRow Try.prog 23 ti23 := ⟨Try.underlying23, ⟨Try.t23, Value.agg #[Value.int IntKind.i64 0, Value.int IntKind.i64 0, Value.int IntKind.i64 0, Value.int IntKind.i64 0, Value.int IntKind.i64 0, Value.int IntKind.i64 0, Value.int IntKind.i64 0, Value.bool false, Value.int IntKind.i64 0, Value.int IntKind.i64 0], by kernel_rfl, rfl, rfl, rfl, rfl, rfl, rfl⟩, fun _ => ⟨Try.stoodInHeld23, Try.eqGuardType23⟩⟩
theorem row24 : TRow Try.prog 24 ti24 := ⟨Try.underlying24, ⟨Try.t24, Value.slice none 0 0, by kernel_rfl, rfl, rfl, rfl, rfl, rfl, rfl⟩, fun h => by cases h⟩
theorem row26 : TRow Try.prog 26 ti26 := ⟨Try.underlying26, ⟨Try.t26, Value.agg #[Value.int IntKind.i64 0, Value.slice none 0 0], by kernel_rfl, rfl, rfl, rfl, rfl, rfl, rfl⟩, fun h => by cases h⟩
theorem row27 : TRow Try.prog 27 ti27 := ⟨Try.underlying27, ⟨Try.t27, Value.slice none 0 0, by kernel_rfl, rfl, rfl, rfl, rfl, rfl, rfl⟩, fun h => by cases h⟩
theorem row29 : TRow Try.prog 29 ti29 := ⟨Try.underlying29, ⟨Try.t29, Value.slice none 0 0, by kernel_rfl, rfl, rfl, rfl, rfl, rfl, rfl⟩, fun h => by cases h⟩
theorem row30 : TRow Try.prog 30 ti30 := ⟨Try.underlying30, ⟨Try.t30, Value.slice none 0 0, by kernel_rfl, rfl, rfl, rfl, rfl, rfl, rfl⟩, fun h => by cases h⟩
theorem row32 : TRow Try.prog 32 ti32 := ⟨Try.underlying32, ⟨Try.t32, Value.agg #[Value.int IntKind.i64 0, Value.slice none 0 0], by kernel_rfl, rfl, rfl, rfl, rfl, rfl, rfl⟩, fun h => by cases h⟩
theorem row33 : TRow Try.prog 33 ti33 := ⟨Try.underlying33, ⟨Try.t33, Value.slice none 0 0, by kernel_rfl, rfl, rfl, rfl, rfl, rfl, rfl⟩, fun h => by cases h⟩
theorem row34 : TRow Try.prog 34 ti34 := ⟨Try.underlying34, ⟨Try.t34, Value.slice none 0 0, by kernel_rfl, rfl, rfl, rfl, rfl, rfl, rfl⟩, fun h => by cases h⟩
theorem row36 : TRow Try.prog 36 ti36 := ⟨Try.underlying36, ⟨Try.t36, Value.agg #[Value.int IntKind.i64 0, Value.slice none 0 0, Value.slice none 0 0], by kernel_rfl, rfl, rfl, rfl, rfl, rfl, rfl⟩, fun h => by cases h⟩
theorem row38 : TRow Try.prog 38 ti38 := ⟨Try.underlying38, ⟨Try.t38, Value.agg #[Value.slice none 0 0, Value.int IntKind.i64 0, Value.slice none 0 0, Value.int IntKind.i64 0, Value.int IntKind.i64 0, Value.slice none 0 0, Value.slice none 0 0], by kernel_rfl, rfl, rfl, rfl, rfl, rfl, rfl⟩, fun h => by cases h⟩
theorem row40 : TRow Try.prog 40 ti40 := ⟨Try.underlying40, ⟨Try.t40, Value.agg #[Value.int IntKind.i64 0, Value.int IntKind.i64 0, Value.int IntKind.i64 0, Value.int IntKind.i64 0, Value.int IntKind.i64 0, Value.int IntKind.i64 0, Value.int IntKind.i64 0, Value.bool false, Value.int IntKind.i64 0, Value.int IntKind.i64 0], by kernel_rfl, rfl, rfl, rfl, rfl, rfl, rfl⟩, fun _ => ⟨Try.stoodInHeld40, Try.eqGuardType40⟩⟩
theorem row51 : TRow Try.prog 51 ti51 := ⟨Try.underlying51, ⟨Try.t51, Value.slice none 0 0, by kernel_rfl, rfl, rfl, rfl, rfl, rfl, rfl⟩, fun h => by cases h⟩
theorem row53 : TRow Try.prog 53 ti53 := ⟨Try.underlying53, ⟨Try.t53, Value.slice none 0 0, by kernel_rfl, rfl, rfl, rfl, rfl, rfl, rfl⟩, fun h => by cases h⟩
theorem row54 : TRow Try.prog 54 ti54 := ⟨Try.underlying54, ⟨Try.t54, Value.slice none 0 0, by kernel_rfl, rfl, rfl, rfl, rfl, rfl, rfl⟩, fun h => by cases h⟩
theorem row56 : TRow Try.prog 56 ti56 := ⟨Try.underlying56, ⟨Try.t56, Value.agg #[Value.int IntKind.i64 0, Value.slice none 0 0, Value.slice none 0 0], by kernel_rfl, rfl, rfl, rfl, rfl, rfl, rfl⟩, fun h => by cases h⟩
theorem row58 : TRow Try.prog 58 ti58 := ⟨Try.underlying58, ⟨Try.t58, Value.agg #[Value.int IntKind.i64 0, Value.bool false, Value.slice none 0 0, Value.slice none 0 0, Value.slice none 0 0, Value.int IntKind.i64 0, Value.slice none 0 0, Value.slice none 0 0], by kernel_rfl, rfl, rfl, rfl, rfl, rfl, rfl⟩, fun h => by cases h⟩
theorem row73 : TRow Try.prog 73 ti73 := ⟨Try.underlying73, ⟨Try.t73, Value.slice none 0 0, by kernel_rfl, rfl, rfl, rfl, rfl, rfl, rfl⟩, fun h => by cases h⟩
theorem row75 : TRow Try.prog 75 ti75 := ⟨Try.underlying75, ⟨Try.t75, Value.agg #[Value.slice none 0 0, Value.int IntKind.i64 0, Value.bool false], by kernel_rfl, rfl, rfl, rfl, rfl, rfl, rfl⟩, fun h => by cases h⟩
theorem row90 : TRow Try.prog 90 ti90 := ⟨Try.underlying90, ⟨Try.t90, Value.agg #[Value.int IntKind.i64 0, Value.slice none 0 0, Value.slice none 0 0], by kernel_rfl, rfl, rfl, rfl, rfl, rfl, rfl⟩, fun h => by cases h⟩
theorem row96 : TRow Try.prog 96 ti96 := ⟨Try.underlying96, ⟨Try.t96, Value.agg #[Value.int IntKind.i64 0, Value.int IntKind.i64 0], by kernel_rfl, rfl, rfl, rfl, rfl, rfl, rfl⟩, fun _ => ⟨Try.stoodInHeld96, Try.eqGuardType96⟩⟩
theorem row104 : TRow Try.prog 104 ti104 := ⟨Try.underlying104, ⟨Try.t104, Value.agg #[Value.int IntKind.i64 0, Value.int IntKind.i64 0, Value.int IntKind.i64 0, Value.int IntKind.i64 0], by kernel_rfl, rfl, rfl, rfl, rfl, rfl, rfl⟩, fun _ => ⟨Try.stoodInHeld104, Try.eqGuardType104⟩⟩
theorem row106 : TRow Try.prog 106 ti106 := ⟨Try.underlying106, ⟨Try.t106, Value.agg #[Value.int IntKind.i64 0, Value.int IntKind.i64 0, Value.int IntKind.i64 0, Value.int IntKind.i64 0, Value.int IntKind.i64 0, Value.int IntKind.i64 0, Value.int IntKind.i64 0, Value.int IntKind.i64 0, Value.int IntKind.i64 0, Value.int IntKind.i64 0, Value.int IntKind.i64 0, Value.int IntKind.i64 0, Value.bool false], by kernel_rfl, rfl, rfl, rfl, rfl, rfl, rfl⟩, fun _ => ⟨Try.stoodInHeld106, Try.eqGuardType106⟩⟩
theorem row111 : TRow Try.prog 111 ti111 := ⟨Try.underlying111, ⟨Try.t111, Value.agg #[Value.int IntKind.i64 0, Value.int IntKind.i64 0], by kernel_rfl, rfl, rfl, rfl, rfl, rfl, rfl⟩, fun _ => ⟨Try.stoodInHeld111, Try.eqGuardType111⟩⟩
theorem row112 : TRow Try.prog 112 ti112 := ⟨Try.underlying112, ⟨Try.t112, Value.agg #[Value.int IntKind.i64 0, Value.int IntKind.i64 0, Value.int IntKind.i64 0, Value.int IntKind.i64 0], by kernel_rfl, rfl, rfl, rfl, rfl, rfl, rfl⟩, fun _ => ⟨Try.stoodInHeld112, Try.eqGuardType112⟩⟩
theorem row114 : TRow Try.prog 114 ti114 := ⟨Try.underlying114, ⟨Try.t114, Value.agg #[Value.int IntKind.i64 0, Value.int IntKind.i64 0, Value.int IntKind.i64 0, Value.int IntKind.i64 0, Value.int IntKind.i64 0, Value.int IntKind.i64 0, Value.int IntKind.i64 0, Value.int IntKind.i64 0, Value.int IntKind.i64 0, Value.int IntKind.i64 0, Value.int IntKind.i64 0, Value.int IntKind.i64 0, Value.bool false], by kernel_rfl, rfl, rfl, rfl, rfl, rfl, rfl⟩, fun _ => ⟨Try.stoodInHeld114, Try.eqGuardType114⟩⟩
theorem row132 : TRow Try.prog 132 ti132 := ⟨Try.underlying132, ⟨Try.t132, Value.agg #[Value.slice none 0 0, Value.int IntKind.i64 0], by kernel_rfl, rfl, rfl, rfl, rfl, rfl, rfl⟩, fun h => by cases h⟩
theorem row154 : TRow Try.prog 154 ti154 := ⟨Try.underlying154, ⟨Try.t154, Value.agg #[Value.int IntKind.i64 0, Value.int IntKind.i64 0, Value.int IntKind.i64 0, Value.int IntKind.i64 0, Value.int IntKind.i64 0, Value.int IntKind.i64 0, Value.int IntKind.i64 0, Value.int IntKind.i64 0, Value.int IntKind.i64 0], by kernel_rfl, rfl, rfl, rfl, rfl, rfl, rfl⟩, fun _ => ⟨Try.stoodInHeld154, Try.eqGuardType154⟩⟩
theorem row157 : TRow Try.prog 157 ti157 := ⟨Try.underlying157, ⟨Try.t157, Value.agg #[Value.int IntKind.i64 0, Value.int IntKind.i64 0, Value.int IntKind.i64 0, Value.int IntKind.i64 0, Value.int IntKind.i64 0], by kernel_rfl, rfl, rfl, rfl, rfl, rfl, rfl⟩, fun _ => ⟨Try.stoodInHeld157, Try.eqGuardType157⟩⟩
theorem row159 : TRow Try.prog 159 ti159 := ⟨Try.underlying159, ⟨Try.t159, Value.agg #[Value.int IntKind.i64 0, Value.int IntKind.i64 0, Value.int IntKind.i64 0, Value.int IntKind.i64 0, Value.int IntKind.i64 0, Value.int IntKind.i64 0, Value.int IntKind.i64 0], by kernel_rfl, rfl, rfl, rfl, rfl, rfl, rfl⟩, fun _ => ⟨Try.stoodInHeld159, Try.eqGuardType159⟩⟩
theorem row161 : TRow Try.prog 161 ti161 := ⟨Try.underlying161, ⟨Try.t161, Value.int IntKind.u64 0, by kernel_rfl, rfl, rfl, rfl, rfl, rfl, rfl⟩, fun h => by cases h⟩
theorem rows : TRows Try.prog tab := ⟨row3, row4, row5, row23, row24, row26, row27, row29, row30, row32, row33, row34, row36, row38, row40, row51, row53, row54, row56, row58, row73, row75, row90, row96, row104, row106, row111, row112, row114, row132, row154, row157, row159, row161, trivial⟩
abbrev TT : TypeId → Option TI := tabT tab
theorem ttok : TTok Try.prog TT := ttok_of rows (by decide +kernel)
end Go.Rk
/- The data of this program, by shapes. -/
namespace Go.Rk
set_option linter.unusedSimpArgs false
set_option linter.unusedVariables false
abbrev eI (n : Int) : DV := .v (.int .i64 n)
abbrev eB (n : Bool) : DV := .v (.bool n)
def xd (l : List DV) : XT := .agg (l.map .d)
/-- Rows. -/
structure Sl (α : Type) where
  n : Nat
  g : Nat → α
  hn : n ≤ maxLen
structure JobT where
  srcs : Int
  tsks : Int
  kind : Int
  size : Int
  step : Int
  late : Int
  tell : Int
  piece : Bool
  least : Int
  room : Int
structure ItmT where
  kind : Int
  t : Int
  key : Int
  v : Int
  n : Int
structure WinT where
  s : Int
  e : Int
structure AggT where
  n : Int
  sum : Int
  least : Int
  most : Int
structure RowT where
  key : Int
  win : WinT
  all : AggT
  fresh : AggT
  told : Int
  timely : Bool
structure OpStT where
  mark : Int
  rows : Sl RowT
structure PaneT where
  key : Int
  win : WinT
  no : Int
  kind : Int
  agg : AggT
structure LatT where
  itm : ItmT
  win : WinT
structure TabT where
  key : Int
  win : WinT
  agg : AggT
structure TskInT where
  queue : Sl ItmT
  mark : Int
  held : Bool
structure TxnT where
  n : Int
  panes : Sl PaneT
  lates : Sl LatT
structure TskT where
  ins : Sl TskInT
  op : OpStT
  wall : Int
  pend : TxnT
structure SnapT where
  op : OpStT
  marks : Sl Int
structure SafeT where
  n : Int
  at_ : Sl Int
  snaps : Sl SnapT
structure CkpT where
  n : Int
  opn : Bool
  src : Sl Int
  tsk : Sl Bool
  snaps : Sl SnapT
  safe : SafeT
structure SrcT where
  at_ : Int
  wall : Int
structure SinkT where
  ready : Sl TxnT
  n : Int
  panes : Sl PaneT
  lates : Sl LatT
structure FloT where
  job : JobT
  logs : Sl (Sl ItmT)
  srcs : Sl SrcT
  tasks : Sl TskT
  sinks : Sl SinkT
  ckp : CkpT
def eJob (x : JobT) : List DV := [eI x.srcs, eI x.tsks, eI x.kind, eI x.size, eI x.step, eI x.late, eI x.tell, eB x.piece, eI x.least, eI x.room]
def eItm (x : ItmT) : List DV := [eI x.kind, eI x.t, eI x.key, eI x.v, eI x.n]
def eWin (x : WinT) : List DV := [eI x.s, eI x.e]
def eAgg (x : AggT) : List DV := [eI x.n, eI x.sum, eI x.least, eI x.most]
def eRow (x : RowT) : List DV := [eI x.key, eI x.win.s, eI x.win.e, eI x.all.n, eI x.all.sum, eI x.all.least, eI x.all.most, eI x.fresh.n, eI x.fresh.sum, eI x.fresh.least, eI x.fresh.most, eI x.told, eB x.timely]
def eOpSt (x : OpStT) : List DV := [eI x.mark, (.sl 13 x.rows.n fun i => eRow (x.rows.g i))]
def bdOpSt (x : OpStT) : Prop := x.rows.n ≤ 1048576
def ePane (x : PaneT) : List DV := [eI x.key, eI x.win.s, eI x.win.e, eI x.no, eI x.kind, eI x.agg.n, eI x.agg.sum, eI x.agg.least, eI x.agg.most]
def eLat (x : LatT) : List DV := [eI x.itm.kind, eI x.itm.t, eI x.itm.key, eI x.itm.v, eI x.itm.n, eI x.win.s, eI x.win.e]
def eTskIn (x : TskInT) : List DV := [(.sl 5 x.queue.n fun i => eItm (x.queue.g i)), eI x.mark, eB x.held]
def bdTskIn (x : TskInT) : Prop := x.queue.n ≤ 1048576
def eTxn (x : TxnT) : List DV := [eI x.n, (.sl 9 x.panes.n fun i => ePane (x.panes.g i)), (.sl 7 x.lates.n fun i => eLat (x.lates.g i))]
def bdTxn (x : TxnT) : Prop := x.panes.n ≤ 1048576 ∧ x.lates.n ≤ 1048576
def eTsk (x : TskT) : List DV := [(.sl 3 x.ins.n fun i => eTskIn (x.ins.g i)), eI x.op.mark, (.sl 13 x.op.rows.n fun i => eRow (x.op.rows.g i)), eI x.wall, eI x.pend.n, (.sl 9 x.pend.panes.n fun i => ePane (x.pend.panes.g i)), (.sl 7 x.pend.lates.n fun i => eLat (x.pend.lates.g i))]
def bdTsk (x : TskT) : Prop := x.ins.n ≤ 1048576 ∧ (∀ i, i < x.ins.n → bdTskIn (x.ins.g i)) ∧ bdOpSt x.op ∧ bdTxn x.pend
end Go.Rk
/- What the program's small functions say, in words of numbers; sizes. -/
namespace Go.Rk
set_option linter.unusedSimpArgs false
set_option linter.unusedVariables false
theorem made_n {A : Ar} (hA : real = A) {n b : Nat} (hn : n ≤ 1048576) (hb : b ≤ 100000) : A.made (A.int n) (A.int n) b := by
  subst hA
  have h1 : n * b ≤ 1048576 * 100000 := Nat.mul_le_mul hn hb
  have h2 : (n : Int) * (b : Int) ≤ 140737488355328 := by
    rw [← Int.natCast_mul]
    omega
  have h3 : (n : Int) ≤ 140737488355328 := by omega
  exact ⟨Int.natCast_nonneg n, rfl, h2, h3⟩
theorem cut_of {A : Ar} (hA : real = A) {a b : Int} {n : Nat} (h : 0 ≤ a ∧ a ≤ b ∧ b ≤ n) : A.cut a b n := by subst hA; exact h
/-- The first rows of a slice. -/
theorem sl0 {A : Ar} (hA : real = A) (sz i : Nat) (f : Nat → List DV) : DV.sl sz (A.dif (Int.ofNat i) 0) (A.sub (A.nat 0) f) = .sl sz i f := by
  subst hA
  have e : (fun j => f (0 + j)) = f := by funext j; rw [Nat.zero_add]
  show DV.sl sz ((Int.ofNat i - 0).toNat) (fun j => f ((0 : Int).toNat + j)) = _
  simp only [Int.sub_zero]
  exact congrArg (DV.sl sz i) e
theorem bifA (b x : Bool) : (bif b then x else false) = (b && x) := by cases b <;> rfl
theorem bifB (b x : Bool) : (bif b then true else x) = (b || x) := by cases b <;> rfl
theorem bifC (b x : Bool) : (bif b then false else x) = (!b && x) := by cases b <;> rfl
theorem bifD (b x : Bool) : (bif b then x else true) = (!b || x) := by cases b <;> rfl
/-- The first place, or -1. -/
inductive FirstIx (n : Nat) (p : Nat → Prop) : Int → Prop
  | at (i : Nat) (h : i < n) (hi : p i) (hb : ∀ j, j < i → ¬ p j) : FirstIx n p i
  | none (hb : ∀ j, j < n → ¬ p j) : FirstIx n p (-1)
theorem firstIx_ex (n : Nat) (p : Nat → Prop) : ∃ x, FirstIx n p x := by
  by_cases h : ∃ i, i < n ∧ p i
  · obtain ⟨i, hi⟩ := h
    induction i using Nat.strongRecOn with
    | _ i ih =>
      by_cases hm : ∃ j, j < i ∧ p j
      · obtain ⟨j, hj1, hj2⟩ := hm
        exact ih j hj1 ⟨by omega, hj2⟩
      · exact ⟨_, .at i hi.1 hi.2 fun j hj e => hm ⟨j, hj, e⟩⟩
  · exact ⟨-1, .none fun j hj e => h ⟨j, hj, e⟩⟩
theorem firstIx_one {n : Nat} {p : Nat → Prop} {x y : Int} (h : FirstIx n p x) (h' : FirstIx n p y) : x = y := by
  cases h with
  | «at» i hi hh hb =>
    cases h' with
    | «at» j hj hh' hb' =>
      have : i = j := by
        rcases Nat.lt_trichotomy i j with h | h | h
        · exact absurd hh (hb' i h)
        · exact h
        · exact absurd hh' (hb j h)
      rw [this]
    | none hb' => exact absurd hh (hb' i hi)
  | none hb =>
    cases h' with
    | «at» j hj hh' hb' => exact absurd hh' (hb j hj)
    | none hb' => rfl
theorem firstIx_neg {n : Nat} {p : Nat → Prop} {x : Int} (h : FirstIx n p x) : (0 ≤ x ↔ ∃ i, i < n ∧ p i) ∧ (0 ≤ x → ∃ i, i < n ∧ x = (i : Int) ∧ p i ∧ ∀ j, j < i → ¬ p j) ∧ (¬ 0 ≤ x → x = -1) := by
  cases h with
  | «at» i hi hh hb => exact ⟨⟨fun _ => ⟨i, hi, hh⟩, fun _ => by omega⟩, fun _ => ⟨i, hi, rfl, hh, hb⟩, fun h => absurd (by omega) h⟩
  | none hb => exact ⟨⟨fun h => by omega, fun ⟨i, hi, hp⟩ => absurd hp (hb i hi)⟩, fun h => by omega, fun _ => rfl⟩
def WinOkP (w : WinT) : Prop := (0 ≤ w.s ∧ w.s ≤ 60) ∧ IntKind.i64.wrap (w.s + 1) ≤ w.e ∧ w.e ≤ 120
def AggOkP (a : AggT) : Prop := (a.n = 0 ∧ a.sum = 0 ∧ a.least = 0 ∧ a.most = 0) ∨
  (a.n ≠ 0 ∧ (1 ≤ a.n ∧ a.n ≤ 1000) ∧ (-9 ≤ a.least ∧ a.least ≤ 9) ∧ (a.least ≤ a.most ∧ a.most ≤ 9) ∧ (IntKind.i64.wrap (a.n * a.least) ≤ a.sum ∧ a.sum ≤ IntKind.i64.wrap (a.n * a.most)))
def JobOkP (j : JobT) : Prop := (1 ≤ j.srcs ∧ j.srcs ≤ 3) ∧ (1 ≤ j.tsks ∧ j.tsks ≤ 2) ∧ (1 ≤ j.kind ∧ j.kind ≤ 3) ∧ (1 ≤ j.size ∧ j.size ≤ 20) ∧
  ((j.kind = 2 ∧ (1 ≤ j.step ∧ j.step ≤ j.size) ∧ j.size ≤ 4 * j.step) ∨ (j.kind ≠ 2 ∧ j.step = 0)) ∧
  (0 ≤ j.late ∧ j.late ≤ 20) ∧ (1 ≤ j.tell ∧ j.tell ≤ 4) ∧ (-9 ≤ j.least ∧ j.least ≤ 9) ∧ (1 ≤ j.room ∧ j.room ≤ 4)
def TouchP (a b : WinT) : Prop := a.s < b.e ∧ b.s < a.e
def WinLt (a b : WinT) : Prop := a.s < b.s ∨ (a.s = b.s ∧ a.e < b.e)
def AheadP (ak : Int) (aw : WinT) (bk : Int) (bw : WinT) : Prop := ak < bk ∨ (ak = bk ∧ WinLt aw bw)
def RowOkP (j : JobT) (r : RowT) (mark : Int) : Prop := (0 ≤ r.key ∧ r.key ≤ 3) ∧ WinOkP r.win ∧ AggOkP r.all ∧ AggOkP r.fresh ∧ r.all.n ≠ 0 ∧ r.fresh.n ≤ r.all.n ∧ (0 ≤ r.told ∧ r.told ≤ 1500) ∧
  mark < IntKind.i64.wrap (r.win.e + j.late) ∧ (r.timely = true ↔ r.win.e ≤ mark) ∧ (0 < r.told ↔ r.win.e ≤ mark) ∧ (r.fresh.n = 0 ↔ r.win.e ≤ mark)
def OpOkP (j : JobT) (s : OpStT) : Prop := JobOkP j ∧ (0 ≤ s.mark ∧ s.mark ≤ 1000) ∧ s.rows.n ≤ 300 ∧
  ∀ i, i < s.rows.n → RowOkP j (s.rows.g i) s.mark ∧ (0 < i → AheadP (s.rows.g (i - 1)).key (s.rows.g (i - 1)).win (s.rows.g i).key (s.rows.g i).win) ∧
    (j.kind = 3 → ∀ k, k < i → ¬ ((s.rows.g k).key = (s.rows.g i).key ∧ TouchP (s.rows.g k).win (s.rows.g i).win))
end Go.Rk
/- Sizes: what is left when the rows of something are taken off. -/
namespace Go.Rk
set_option linter.unusedSimpArgs false
set_option linter.unusedVariables false
theorem up64 {i n : Nat} (h : i < n) (hn : n ≤ maxLen) : IntKind.i64.wrap ((i : Int) + 1) = ((i + 1 : Nat) : Int) := by
  have hm : maxLen = 9223372036854775807 := by decide
  rw [hm] at hn
  rw [IntWalk.i64_in _ (by omega)]
  simp
def szN (n : Nat) (l : Int) : Int := if l - (n : Int) < 0 then -1 else l - n
theorem szN_spec {n : Nat} {l : Int} (h0 : 0 ≤ l) (h1 : l ≤ 1048576) : -1 ≤ szN n l ∧ szN n l ≤ 1048576 ∧ (0 ≤ szN n l → n ≤ 1048576) := by
  unfold szN; split <;> omega
def szOpSt (x : OpStT) (l0 : Int) : Int := szN x.rows.n l0
theorem szOpSt_spec (x : OpStT) {l0 : Int} (h0 : 0 ≤ l0) (h1 : l0 ≤ 1048576) : -1 ≤ szOpSt x l0 ∧ szOpSt x l0 ≤ 1048576 ∧ (0 ≤ szOpSt x l0 → bdOpSt x) := by
  unfold szOpSt bdOpSt
  have s1 := szN_spec (n := x.rows.n) h0 h1
  refine ⟨s1.1, s1.2.1, fun h => ?_⟩
  have t1 := s1.2.2 h
  simp_all
end Go.Rk
/- Mirrors, comparisons and sizes: what these functions of the laws do. -/
namespace Go.Rk
set_option linter.unusedSimpArgs false
set_option linter.unusedVariables false
open Go.Proofs
def EXA : FuncId → List Nat × Bool := fun _ => ([], false)
theorem mixed : Try.prog.follows .mixedOrders = true := by kernel_rfl
def st_toIntS (n : Nat) (rd : Nat → Int) (i : Nat) (rm : Nat → Int) : St :=
  ⟨[(4, .c (.d (eI i))), (0, .c (.d (.sl 1 n fun i => [eI (rd i)]))), (3, .c (.own 448 0 n 1))], [(448, 1, .arr 1 n fun i => [eI (rm i)])]⟩
set_option maxRecDepth 100000 in
theorem to_IntS (n : Nat) (hn : n ≤ 1048576) (rd : Nat → Int) : Meets Try.prog 10 [.c (.d (.sl 1 n fun i => [eI (rd i)]))] ⟨.one (.c (.own 1 n fun i => [eI (rd i)])), [none]⟩ := by
  have hn2 : n ≤ maxLen := Nat.le_trans hn (by decide)
  refine meets_of (H := [6]) (EX := EXA) ttok mixed Try.func10 rfl (by kernel_rfl) (by decide) ?_
  generalize hA : real = A
  generalize hM : MeetsB Try.prog = M
  cbv
  repeat' first
    | apply And.intro
    | exact True.intro
    | with_reducible rfl
    | exact same_of hA rfl
    | refine br_of hA (fun _ => ?_) (fun _ => ?_)
    | (refine ind_of hA ?_; decide +kernel)
    | exact made_n hA hn (by decide)
  refine loop_of hA (α := { p : Nat × (Nat → Int) // p.1 ≤ n ∧ ∀ j, j < p.1 → p.2 j = rd j }) (fun x => st_toIntS n rd x.1.1 x.1.2) (fun x => n - x.1.1) ⟨(0, fun _ => 0), Nat.zero_le _, fun j h => absurd h (Nat.not_lt_zero _)⟩ ?_ ?_
  · refine cov_of ?_ ?_ ?_
    · cbv
      subst hA
      exact ⟨rfl, ⟨rfl, trivial⟩, trivial⟩
    · cbv
      subst hA
      exact ⟨⟨rfl, fun _ _ => rfl⟩, trivial⟩
    · cbv
  rintro ⟨⟨i, rm⟩, hi, hrm⟩
  cbv
  repeat' first
    | apply And.intro
    | exact True.intro
    | with_reducible rfl
    | exact same_of hA rfl
    | refine br_of hA (fun _ => ?_) (fun _ => ?_)
    | (refine ind_of hA ?_; decide +kernel)
    | (refine inb_of hA fun _ => ?_; subst hA; simp only [real, decide_eq_true_eq, Int.ofNat_eq_natCast] at *; omega)
  · rename_i hlt
    have hlt' : i < n := by subst hA; simp only [real, decide_eq_true_eq, Int.ofNat_eq_natCast] at hlt; omega
    refine ⟨⟨(i + 1, fun j => if j = i then rd i else rm j), by simp only; omega, fun j hj => ?_⟩, by simp only; omega, cov_of ?_ ?_ ?_⟩
    · simp only at hj ⊢
      by_cases e : j = i
      · simp [e]
      · rw [if_neg e]; exact hrm j (by simp only; omega)
    · cbv
      subst hA
      exact ⟨congrArg (fun x => DV.v (.int .i64 x)) (up64 hlt' hn2), trivial⟩
    · cbv
      refine ⟨fun q _ => ?_, trivial⟩
      subst hA
      by_cases e : q = i
      · subst e; show (if q = 0 + q then [eI (rd q)] else [eI (rm q)]) = _; simp only [Nat.zero_add, if_pos, if_true] <;> rfl
      · show (if q = 0 + i then [eI (rd i)] else [eI (rm q)]) = _; simp only [Nat.zero_add, e, if_false] <;> rfl
    · cbv
  · rename_i hge
    have hin : i = n := by
      subst hA
      have : ¬ ((i : Int) < (n : Int)) := of_decide_eq_false hge
      simp only at hi
      omega
    subst hin
    refine stop_of hA ⟨[(3, .c (.own 448 0 i 1))], [(448, 1, .arr 1 i fun j => [eI (rd j)])]⟩ (cov_of ?_ ?_ ?_) ?_
    · cbv
    · cbv
      exact ⟨fun q hq => congrArg (fun x => [eI x]) (hrm q hq), trivial⟩
    · cbv
    · cbv
      repeat' first | apply And.intro | refine br_of hA (fun _ => ?_) (fun _ => ?_)
      all_goals first | exact True.intro | with_reducible rfl | exact same_of hA rfl | skip
def st_eqIntS (n : Nat) (rd : Nat → Int) (i : Nat) : St := ⟨[(5, .c (.d (eI i))), (0, .c (.d (.sl 1 n fun i => [eI (rd i)]))), (1, .c (.d (.sl 1 n fun i => [eI (rd i)])))], []⟩
set_option maxRecDepth 100000 in
theorem eq_IntS (n : Nat) (hn : n ≤ maxLen) (rd : Nat → Int) : Meets Try.prog 14 [.c (.d (.sl 1 n fun i => [eI (rd i)])), .c (.d (.sl 1 n fun i => [eI (rd i)]))] ⟨.one (.c (.d (eB true))), [none, none]⟩ := by
  refine meets_of (H := []) (EX := EXA) ttok mixed Try.func14 rfl (by kernel_rfl) (by decide) ?_
  generalize hA : real = A
  generalize hM : MeetsB Try.prog = M
  cbv
  repeat' first
    | apply And.intro
    | exact True.intro
    | with_reducible rfl
    | exact same_of hA rfl
    | refine br_of hA (fun _ => ?_) (fun _ => ?_)
    | (refine ind_of hA ?_; decide +kernel)
    | (exfalso; rename_i h; subst hA; simp [real] at h; done)
  refine loop_of hA (α := { i : Nat // i ≤ n }) (fun x => st_eqIntS n rd x.1) (fun x => n - x.1) ⟨0, Nat.zero_le _⟩ ?_ ?_
  · refine cov_of ?_ ?_ ?_
    · cbv; exact ⟨rfl, trivial⟩
    · cbv
    · cbv
  rintro ⟨i, hi⟩
  cbv
  repeat' first
    | apply And.intro
    | exact True.intro
    | with_reducible rfl
    | exact same_of hA rfl
    | refine br_of hA (fun _ => ?_) (fun _ => ?_)
    | (refine ind_of hA ?_; decide +kernel)
    | (exfalso; rename_i h; subst hA; simp [real] at h; done)
    | (refine inb_of hA fun _ => ?_; subst hA; simp only [real, decide_eq_true_eq, Int.ofNat_eq_natCast] at *; omega)
  have hlt' : i < n := by
    subst hA
    simp only [real, decide_eq_true_eq, Int.ofNat_eq_natCast] at *
    omega
  refine ⟨⟨i + 1, by omega⟩, by simp only; omega, cov_of ?_ ?_ ?_⟩
  · cbv
    subst hA
    exact ⟨congrArg (fun x => DV.v (.int .i64 x)) (up64 hlt' hn), trivial⟩
  · cbv
  · cbv
set_option maxRecDepth 100000 in
theorem to_Job (x : JobT) : Meets Try.prog 8 [xd (eJob x)] ⟨.one (xd (eJob x)), [none]⟩ := by
  refine meets_of (H := []) (EX := EXA) ttok mixed Try.func8 rfl (by kernel_rfl) (by decide) ?_
  generalize hA : real = A
  generalize hM : MeetsB Try.prog = M
  cbv
  repeat' first
    | apply And.intro
    | exact True.intro
    | with_reducible rfl
    | exact same_of hA rfl
    | refine br_of hA (fun _ => ?_) (fun _ => ?_)
    | (refine ind_of hA ?_; decide +kernel)
set_option maxRecDepth 100000 in
theorem eq_Itm (x : ItmT) : Meets Try.prog 135 [xd (eItm x), xd (eItm x)] ⟨.one (.c (.d (eB true))), [none, none]⟩ := by
  refine meets_of (H := []) (EX := EXA) ttok mixed Try.func135 rfl (by kernel_rfl) (by decide) ?_
  generalize hA : real = A
  generalize hM : MeetsB Try.prog = M
  cbv
  repeat' first
    | apply And.intro
    | exact True.intro
    | with_reducible rfl
    | exact same_of hA rfl
    | refine br_of hA (fun _ => ?_) (fun _ => ?_)
    | (refine ind_of hA ?_; decide +kernel)
    | (exfalso; rename_i h; subst hA; simp [real] at h; done)
def st_eqItmS (n : Nat) (rd : Nat → ItmT) (i : Nat) : St := ⟨[(5, .c (.d (eI i))), (0, .c (.d (.sl 5 n fun i => eItm (rd i)))), (1, .c (.d (.sl 5 n fun i => eItm (rd i))))], []⟩
set_option maxRecDepth 100000 in
theorem eq_ItmS (n : Nat) (hn : n ≤ maxLen) (rd : Nat → ItmT) : Meets Try.prog 124 [.c (.d (.sl 5 n fun i => eItm (rd i))), .c (.d (.sl 5 n fun i => eItm (rd i)))] ⟨.one (.c (.d (eB true))), [none, none]⟩ := by
  refine meets_of (H := []) (EX := EXA) ttok mixed Try.func124 rfl (by kernel_rfl) (by decide) ?_
  generalize hA : real = A
  generalize hM : MeetsB Try.prog = M
  cbv
  repeat' first
    | apply And.intro
    | exact True.intro
    | with_reducible rfl
    | exact same_of hA rfl
    | refine br_of hA (fun _ => ?_) (fun _ => ?_)
    | (refine ind_of hA ?_; decide +kernel)
    | (exfalso; rename_i h; subst hA; simp [real] at h; done)
  refine loop_of hA (α := { i : Nat // i ≤ n }) (fun x => st_eqItmS n rd x.1) (fun x => n - x.1) ⟨0, Nat.zero_le _⟩ ?_ ?_
  · refine cov_of ?_ ?_ ?_
    · cbv; exact ⟨rfl, trivial⟩
    · cbv
    · cbv
  rintro ⟨i, hi⟩
  cbv
  repeat' first
    | apply And.intro
    | exact True.intro
    | with_reducible rfl
    | exact same_of hA rfl
    | refine br_of hA (fun _ => ?_) (fun _ => ?_)
    | (refine ind_of hA ?_; decide +kernel)
    | (refine call_of hA hM _ (eq_Itm (rd (A.nat (Int.ofNat i)))) ?_; cbv)
    | (exfalso; rename_i h; subst hA; simp [real] at h; done)
    | (refine inb_of hA fun _ => ?_; subst hA; simp only [real, decide_eq_true_eq, Int.ofNat_eq_natCast] at *; omega)
  have hlt' : i < n := by
    subst hA
    simp only [real, decide_eq_true_eq, Int.ofNat_eq_natCast] at *
    omega
  refine ⟨⟨i + 1, by omega⟩, by simp only; omega, cov_of ?_ ?_ ?_⟩
  · cbv
    subst hA
    exact ⟨congrArg (fun x => DV.v (.int .i64 x)) (up64 hlt' hn), trivial⟩
  · cbv
  · cbv
set_option maxRecDepth 100000 in
theorem to_Win (x : WinT) : Meets Try.prog 115 [xd (eWin x)] ⟨.one (xd (eWin x)), [none]⟩ := by
  refine meets_of (H := []) (EX := EXA) ttok mixed Try.func115 rfl (by kernel_rfl) (by decide) ?_
  generalize hA : real = A
  generalize hM : MeetsB Try.prog = M
  cbv
  repeat' first
    | apply And.intro
    | exact True.intro
    | with_reducible rfl
    | exact same_of hA rfl
    | refine br_of hA (fun _ => ?_) (fun _ => ?_)
    | (refine ind_of hA ?_; decide +kernel)
set_option maxRecDepth 100000 in
theorem eq_Win (x : WinT) : Meets Try.prog 127 [xd (eWin x), xd (eWin x)] ⟨.one (.c (.d (eB true))), [none, none]⟩ := by
  refine meets_of (H := []) (EX := EXA) ttok mixed Try.func127 rfl (by kernel_rfl) (by decide) ?_
  generalize hA : real = A
  generalize hM : MeetsB Try.prog = M
  cbv
  repeat' first
    | apply And.intro
    | exact True.intro
    | with_reducible rfl
    | exact same_of hA rfl
    | refine br_of hA (fun _ => ?_) (fun _ => ?_)
    | (refine ind_of hA ?_; decide +kernel)
    | (exfalso; rename_i h; subst hA; simp [real] at h; done)
set_option maxRecDepth 100000 in
theorem to_Agg (x : AggT) : Meets Try.prog 116 [xd (eAgg x)] ⟨.one (xd (eAgg x)), [none]⟩ := by
  refine meets_of (H := []) (EX := EXA) ttok mixed Try.func116 rfl (by kernel_rfl) (by decide) ?_
  generalize hA : real = A
  generalize hM : MeetsB Try.prog = M
  cbv
  repeat' first
    | apply And.intro
    | exact True.intro
    | with_reducible rfl
    | exact same_of hA rfl
    | refine br_of hA (fun _ => ?_) (fun _ => ?_)
    | (refine ind_of hA ?_; decide +kernel)
set_option maxRecDepth 100000 in
theorem eq_Agg (x : AggT) : Meets Try.prog 128 [xd (eAgg x), xd (eAgg x)] ⟨.one (.c (.d (eB true))), [none, none]⟩ := by
  refine meets_of (H := []) (EX := EXA) ttok mixed Try.func128 rfl (by kernel_rfl) (by decide) ?_
  generalize hA : real = A
  generalize hM : MeetsB Try.prog = M
  cbv
  repeat' first
    | apply And.intro
    | exact True.intro
    | with_reducible rfl
    | exact same_of hA rfl
    | refine br_of hA (fun _ => ?_) (fun _ => ?_)
    | (refine ind_of hA ?_; decide +kernel)
    | (exfalso; rename_i h; subst hA; simp [real] at h; done)
set_option maxRecDepth 100000 in
theorem to_Row (x : RowT) : Meets Try.prog 76 [xd (eRow x)] ⟨.one (xd (eRow x)), [none]⟩ := by
  refine meets_of (H := []) (EX := EXA) ttok mixed Try.func76 rfl (by kernel_rfl) (by decide) ?_
  generalize hA : real = A
  generalize hM : MeetsB Try.prog = M
  cbv
  repeat' first
    | apply And.intro
    | exact True.intro
    | with_reducible rfl
    | exact same_of hA rfl
    | refine br_of hA (fun _ => ?_) (fun _ => ?_)
    | (refine ind_of hA ?_; decide +kernel)
    | (refine call_of hA hM _ (to_Win x.win) ?_; cbv)
    | (refine call_of hA hM _ (to_Agg x.all) ?_; cbv)
    | (refine call_of hA hM _ (to_Agg x.fresh) ?_; cbv)
set_option maxRecDepth 100000 in
theorem eq_Row (x : RowT) : Meets Try.prog 89 [xd (eRow x), xd (eRow x)] ⟨.one (.c (.d (eB true))), [none, none]⟩ := by
  refine meets_of (H := []) (EX := EXA) ttok mixed Try.func89 rfl (by kernel_rfl) (by decide) ?_
  generalize hA : real = A
  generalize hM : MeetsB Try.prog = M
  cbv
  repeat' first
    | apply And.intro
    | exact True.intro
    | with_reducible rfl
    | exact same_of hA rfl
    | refine br_of hA (fun _ => ?_) (fun _ => ?_)
    | (refine ind_of hA ?_; decide +kernel)
    | (refine call_of hA hM _ (eq_Win x.win) ?_; cbv)
    | (refine call_of hA hM _ (eq_Agg x.all) ?_; cbv)
    | (refine call_of hA hM _ (eq_Agg x.fresh) ?_; cbv)
    | (exfalso; rename_i h; subst hA; simp [real] at h; done)
def st_toRowS (n : Nat) (rd : Nat → RowT) (i : Nat) (rm : Nat → RowT) : St :=
  ⟨[(4, .c (.d (eI i))), (0, .c (.d (.sl 13 n fun i => eRow (rd i)))), (3, .c (.own 448 0 n 1))], [(448, 1, .arr 13 n fun i => eRow (rm i))]⟩
set_option maxRecDepth 100000 in
theorem to_RowS (n : Nat) (hn : n ≤ 1048576) (rd : Nat → RowT) : Meets Try.prog 35 [.c (.d (.sl 13 n fun i => eRow (rd i)))] ⟨.one (.c (.own 13 n fun i => eRow (rd i))), [none]⟩ := by
  have hn2 : n ≤ maxLen := Nat.le_trans hn (by decide)
  refine meets_of (H := [6]) (EX := EXA) ttok mixed Try.func35 rfl (by kernel_rfl) (by decide) ?_
  generalize hA : real = A
  generalize hM : MeetsB Try.prog = M
  cbv
  repeat' first
    | apply And.intro
    | exact True.intro
    | with_reducible rfl
    | exact same_of hA rfl
    | refine br_of hA (fun _ => ?_) (fun _ => ?_)
    | (refine ind_of hA ?_; decide +kernel)
    | exact made_n hA hn (by decide)
  refine loop_of hA (α := { p : Nat × (Nat → RowT) // p.1 ≤ n ∧ ∀ j, j < p.1 → p.2 j = rd j }) (fun x => st_toRowS n rd x.1.1 x.1.2) (fun x => n - x.1.1) ⟨(0, fun _ => ⟨0, ⟨0, 0⟩, ⟨0, 0, 0, 0⟩, ⟨0, 0, 0, 0⟩, 0, false⟩), Nat.zero_le _, fun j h => absurd h (Nat.not_lt_zero _)⟩ ?_ ?_
  · refine cov_of ?_ ?_ ?_
    · cbv
      subst hA
      exact ⟨rfl, ⟨rfl, trivial⟩, trivial⟩
    · cbv
      subst hA
      exact ⟨⟨rfl, fun _ _ => rfl⟩, trivial⟩
    · cbv
  rintro ⟨⟨i, rm⟩, hi, hrm⟩
  cbv
  repeat' first
    | apply And.intro
    | exact True.intro
    | with_reducible rfl
    | exact same_of hA rfl
    | refine br_of hA (fun _ => ?_) (fun _ => ?_)
    | (refine ind_of hA ?_; decide +kernel)
    | (refine call_of hA hM _ (to_Row (rd (A.nat (Int.ofNat i)))) ?_; cbv)
    | (refine inb_of hA fun _ => ?_; subst hA; simp only [real, decide_eq_true_eq, Int.ofNat_eq_natCast] at *; omega)
  · rename_i hlt
    have hlt' : i < n := by subst hA; simp only [real, decide_eq_true_eq, Int.ofNat_eq_natCast] at hlt; omega
    refine ⟨⟨(i + 1, fun j => if j = i then rd i else rm j), by simp only; omega, fun j hj => ?_⟩, by simp only; omega, cov_of ?_ ?_ ?_⟩
    · simp only at hj ⊢
      by_cases e : j = i
      · simp [e]
      · rw [if_neg e]; exact hrm j (by simp only; omega)
    · cbv
      subst hA
      exact ⟨congrArg (fun x => DV.v (.int .i64 x)) (up64 hlt' hn2), trivial⟩
    · cbv
      refine ⟨fun q _ => ?_, trivial⟩
      subst hA
      by_cases e : q = i
      · subst e; show (if q = 0 + q then eRow (rd q) else eRow (rm q)) = _; simp only [Nat.zero_add, if_pos, if_true] <;> rfl
      · show (if q = 0 + i then eRow (rd i) else eRow (rm q)) = _; simp only [Nat.zero_add, e, if_false] <;> rfl
    · cbv
  · rename_i hge
    have hin : i = n := by
      subst hA
      have : ¬ ((i : Int) < (n : Int)) := of_decide_eq_false hge
      simp only at hi
      omega
    subst hin
    refine stop_of hA ⟨[(3, .c (.own 448 0 i 1))], [(448, 1, .arr 13 i fun j => eRow (rd j))]⟩ (cov_of ?_ ?_ ?_) ?_
    · cbv
    · cbv
      exact ⟨fun q hq => congrArg (fun x => eRow x) (hrm q hq), trivial⟩
    · cbv
    · cbv
      repeat' first | apply And.intro | refine br_of hA (fun _ => ?_) (fun _ => ?_)
      all_goals first | exact True.intro | with_reducible rfl | exact same_of hA rfl | skip
def st_eqRowS (n : Nat) (rd : Nat → RowT) (i : Nat) : St := ⟨[(5, .c (.d (eI i))), (0, .c (.d (.sl 13 n fun i => eRow (rd i)))), (1, .c (.d (.sl 13 n fun i => eRow (rd i))))], []⟩
set_option maxRecDepth 100000 in
theorem eq_RowS (n : Nat) (hn : n ≤ maxLen) (rd : Nat → RowT) : Meets Try.prog 41 [.c (.d (.sl 13 n fun i => eRow (rd i))), .c (.d (.sl 13 n fun i => eRow (rd i)))] ⟨.one (.c (.d (eB true))), [none, none]⟩ := by
  refine meets_of (H := []) (EX := EXA) ttok mixed Try.func41 rfl (by kernel_rfl) (by decide) ?_
  generalize hA : real = A
  generalize hM : MeetsB Try.prog = M
  cbv
  repeat' first
    | apply And.intro
    | exact True.intro
    | with_reducible rfl
    | exact same_of hA rfl
    | refine br_of hA (fun _ => ?_) (fun _ => ?_)
    | (refine ind_of hA ?_; decide +kernel)
    | (exfalso; rename_i h; subst hA; simp [real] at h; done)
  refine loop_of hA (α := { i : Nat // i ≤ n }) (fun x => st_eqRowS n rd x.1) (fun x => n - x.1) ⟨0, Nat.zero_le _⟩ ?_ ?_
  · refine cov_of ?_ ?_ ?_
    · cbv; exact ⟨rfl, trivial⟩
    · cbv
    · cbv
  rintro ⟨i, hi⟩
  cbv
  repeat' first
    | apply And.intro
    | exact True.intro
    | with_reducible rfl
    | exact same_of hA rfl
    | refine br_of hA (fun _ => ?_) (fun _ => ?_)
    | (refine ind_of hA ?_; decide +kernel)
    | (refine call_of hA hM _ (eq_Row (rd (A.nat (Int.ofNat i)))) ?_; cbv)
    | (exfalso; rename_i h; subst hA; simp [real] at h; done)
    | (refine inb_of hA fun _ => ?_; subst hA; simp only [real, decide_eq_true_eq, Int.ofNat_eq_natCast] at *; omega)
  have hlt' : i < n := by
    subst hA
    simp only [real, decide_eq_true_eq, Int.ofNat_eq_natCast] at *
    omega
  refine ⟨⟨i + 1, by omega⟩, by simp only; omega, cov_of ?_ ?_ ?_⟩
  · cbv
    subst hA
    exact ⟨congrArg (fun x => DV.v (.int .i64 x)) (up64 hlt' hn), trivial⟩
  · cbv
  · cbv
set_option maxRecDepth 100000 in
theorem sz_RowS (n : Nat) (hn : n ≤ maxLen) (rd : Nat → RowT) (l : Int) (h0 : 0 ≤ l) (h1 : l ≤ 1048576) (y : Int) (hy : y = szN n l) : Meets Try.prog 31 [.c (.d (.sl 13 n fun i => eRow (rd i))), .c (.d (eI l))] ⟨.one (.c (.d (eI y))), [none, none]⟩ := by
  have hm : maxLen = 9223372036854775807 := by decide
  have hw : IntKind.i64.wrap (l - (n : Int)) = l - n := IntWalk.i64_in _ (by omega)
  refine meets_of (H := []) (EX := EXA) ttok mixed Try.func31 rfl (by kernel_rfl) (by decide) ?_
  generalize hA : real = A
  generalize hM : MeetsB Try.prog = M
  cbv
  repeat' first
    | apply And.intro
    | exact True.intro
    | with_reducible rfl
    | exact same_of hA rfl
    | refine br_of hA (fun _ => ?_) (fun _ => ?_)
    | (refine ind_of hA ?_; decide +kernel)
  all_goals rename_i hlt
  all_goals subst hA
  · refine congrArg (fun x => XA.one (.c (.d (eI x)))) ?_
    have hlt : IntKind.i64.wrap (l - (n : Int)) < 0 := of_decide_eq_true hlt
    rw [hw] at hlt
    rw [hy]; unfold szN; rw [if_pos hlt]
  · refine congrArg (fun x => XA.one (.c (.d (eI x)))) ?_
    have hlt : ¬ IntKind.i64.wrap (l - (n : Int)) < 0 := of_decide_eq_false hlt
    rw [hw] at hlt
    rw [hy]; unfold szN; rw [if_neg hlt]
    exact hw
set_option maxRecDepth 100000 in
theorem eq_OpSt (x : OpStT) : Meets Try.prog 13 [xd (eOpSt x), xd (eOpSt x)] ⟨.one (.c (.d (eB true))), [none, none]⟩ := by
  refine meets_of (H := []) (EX := EXA) ttok mixed Try.func13 rfl (by kernel_rfl) (by decide) ?_
  generalize hA : real = A
  generalize hM : MeetsB Try.prog = M
  cbv
  repeat' first
    | apply And.intro
    | exact True.intro
    | with_reducible rfl
    | exact same_of hA rfl
    | refine br_of hA (fun _ => ?_) (fun _ => ?_)
    | (refine ind_of hA ?_; decide +kernel)
    | (refine call_of hA hM _ (eq_RowS x.rows.n x.rows.hn x.rows.g) ?_; cbv)
    | (exfalso; rename_i h; subst hA; simp [real] at h; done)
set_option maxRecDepth 100000 in
theorem sz_OpSt (x : OpStT) (l0 : Int) (h0 : 0 ≤ l0) (h1 : l0 ≤ 1048576) (y : Int) (hy : y = szOpSt x l0) : Meets Try.prog 6 [xd (eOpSt x), .c (.d (eI l0))] ⟨.one (.c (.d (eI y))), [none, none]⟩ := by
  refine meets_of (H := []) (EX := EXA) ttok mixed Try.func6 rfl (by kernel_rfl) (by decide) ?_
  generalize hA : real = A
  generalize hM : MeetsB Try.prog = M
  cbv
  repeat' first
    | apply And.intro
    | exact True.intro
    | with_reducible rfl
    | exact same_of hA rfl
    | refine br_of hA (fun _ => ?_) (fun _ => ?_)
    | (refine ind_of hA ?_; decide +kernel)
  unfold szOpSt at hy
  obtain ⟨l1, e1⟩ : ∃ z : Int, z = szN x.rows.n l0 := ⟨_, rfl⟩
  have s1 := szN_spec (n := x.rows.n) h0 h1
  rw [← e1] at s1 hy
  refine call_of hA hM _ (sz_RowS x.rows.n x.rows.hn x.rows.g l0 h0 h1 l1 e1) ?_
  cbv
  repeat' first
    | apply And.intro
    | exact True.intro
    | with_reducible rfl
    | exact same_of hA rfl
    | refine br_of hA (fun _ => ?_) (fun _ => ?_)
    | (refine ind_of hA ?_; decide +kernel)
  · rename_i hlt
    refine congrArg (fun x => XA.one (.c (.d (eI x)))) ?_
    subst hA
    have hlt : l1 < 0 := of_decide_eq_true hlt
    omega
  rename_i hge1
  have hge1 : ¬ l1 < 0 := by subst hA; exact of_decide_eq_false hge1
  exact congrArg (fun x => XA.one (.c (.d (eI x)))) hy.symm
set_option maxRecDepth 100000 in
theorem eq_Pane (x : PaneT) : Meets Try.prog 125 [xd (ePane x), xd (ePane x)] ⟨.one (.c (.d (eB true))), [none, none]⟩ := by
  refine meets_of (H := []) (EX := EXA) ttok mixed Try.func125 rfl (by kernel_rfl) (by decide) ?_
  generalize hA : real = A
  generalize hM : MeetsB Try.prog = M
  cbv
  repeat' first
    | apply And.intro
    | exact True.intro
    | with_reducible rfl
    | exact same_of hA rfl
    | refine br_of hA (fun _ => ?_) (fun _ => ?_)
    | (refine ind_of hA ?_; decide +kernel)
    | (refine call_of hA hM _ (eq_Win x.win) ?_; cbv)
    | (refine call_of hA hM _ (eq_Agg x.agg) ?_; cbv)
    | (exfalso; rename_i h; subst hA; simp [real] at h; done)
def st_eqPaneS (n : Nat) (rd : Nat → PaneT) (i : Nat) : St := ⟨[(5, .c (.d (eI i))), (0, .c (.d (.sl 9 n fun i => ePane (rd i)))), (1, .c (.d (.sl 9 n fun i => ePane (rd i))))], []⟩
set_option maxRecDepth 100000 in
theorem eq_PaneS (n : Nat) (hn : n ≤ maxLen) (rd : Nat → PaneT) : Meets Try.prog 87 [.c (.d (.sl 9 n fun i => ePane (rd i))), .c (.d (.sl 9 n fun i => ePane (rd i)))] ⟨.one (.c (.d (eB true))), [none, none]⟩ := by
  refine meets_of (H := []) (EX := EXA) ttok mixed Try.func87 rfl (by kernel_rfl) (by decide) ?_
  generalize hA : real = A
  generalize hM : MeetsB Try.prog = M
  cbv
  repeat' first
    | apply And.intro
    | exact True.intro
    | with_reducible rfl
    | exact same_of hA rfl
    | refine br_of hA (fun _ => ?_) (fun _ => ?_)
    | (refine ind_of hA ?_; decide +kernel)
    | (exfalso; rename_i h; subst hA; simp [real] at h; done)
  refine loop_of hA (α := { i : Nat // i ≤ n }) (fun x => st_eqPaneS n rd x.1) (fun x => n - x.1) ⟨0, Nat.zero_le _⟩ ?_ ?_
  · refine cov_of ?_ ?_ ?_
    · cbv; exact ⟨rfl, trivial⟩
    · cbv
    · cbv
  rintro ⟨i, hi⟩
  cbv
  repeat' first
    | apply And.intro
    | exact True.intro
    | with_reducible rfl
    | exact same_of hA rfl
    | refine br_of hA (fun _ => ?_) (fun _ => ?_)
    | (refine ind_of hA ?_; decide +kernel)
    | (refine call_of hA hM _ (eq_Pane (rd (A.nat (Int.ofNat i)))) ?_; cbv)
    | (exfalso; rename_i h; subst hA; simp [real] at h; done)
    | (refine inb_of hA fun _ => ?_; subst hA; simp only [real, decide_eq_true_eq, Int.ofNat_eq_natCast] at *; omega)
  have hlt' : i < n := by
    subst hA
    simp only [real, decide_eq_true_eq, Int.ofNat_eq_natCast] at *
    omega
  refine ⟨⟨i + 1, by omega⟩, by simp only; omega, cov_of ?_ ?_ ?_⟩
  · cbv
    subst hA
    exact ⟨congrArg (fun x => DV.v (.int .i64 x)) (up64 hlt' hn), trivial⟩
  · cbv
  · cbv
set_option maxRecDepth 100000 in
theorem eq_Lat (x : LatT) : Meets Try.prog 126 [xd (eLat x), xd (eLat x)] ⟨.one (.c (.d (eB true))), [none, none]⟩ := by
  refine meets_of (H := []) (EX := EXA) ttok mixed Try.func126 rfl (by kernel_rfl) (by decide) ?_
  generalize hA : real = A
  generalize hM : MeetsB Try.prog = M
  cbv
  repeat' first
    | apply And.intro
    | exact True.intro
    | with_reducible rfl
    | exact same_of hA rfl
    | refine br_of hA (fun _ => ?_) (fun _ => ?_)
    | (refine ind_of hA ?_; decide +kernel)
    | (refine call_of hA hM _ (eq_Itm x.itm) ?_; cbv)
    | (refine call_of hA hM _ (eq_Win x.win) ?_; cbv)
    | (exfalso; rename_i h; subst hA; simp [real] at h; done)
def st_eqLatS (n : Nat) (rd : Nat → LatT) (i : Nat) : St := ⟨[(5, .c (.d (eI i))), (0, .c (.d (.sl 7 n fun i => eLat (rd i)))), (1, .c (.d (.sl 7 n fun i => eLat (rd i))))], []⟩
set_option maxRecDepth 100000 in
theorem eq_LatS (n : Nat) (hn : n ≤ maxLen) (rd : Nat → LatT) : Meets Try.prog 88 [.c (.d (.sl 7 n fun i => eLat (rd i))), .c (.d (.sl 7 n fun i => eLat (rd i)))] ⟨.one (.c (.d (eB true))), [none, none]⟩ := by
  refine meets_of (H := []) (EX := EXA) ttok mixed Try.func88 rfl (by kernel_rfl) (by decide) ?_
  generalize hA : real = A
  generalize hM : MeetsB Try.prog = M
  cbv
  repeat' first
    | apply And.intro
    | exact True.intro
    | with_reducible rfl
    | exact same_of hA rfl
    | refine br_of hA (fun _ => ?_) (fun _ => ?_)
    | (refine ind_of hA ?_; decide +kernel)
    | (exfalso; rename_i h; subst hA; simp [real] at h; done)
  refine loop_of hA (α := { i : Nat // i ≤ n }) (fun x => st_eqLatS n rd x.1) (fun x => n - x.1) ⟨0, Nat.zero_le _⟩ ?_ ?_
  · refine cov_of ?_ ?_ ?_
    · cbv; exact ⟨rfl, trivial⟩
    · cbv
    · cbv
  rintro ⟨i, hi⟩
  cbv
  repeat' first
    | apply And.intro
    | exact True.intro
    | with_reducible rfl
    | exact same_of hA rfl
    | refine br_of hA (fun _ => ?_) (fun _ => ?_)
    | (refine ind_of hA ?_; decide +kernel)
    | (refine call_of hA hM _ (eq_Lat (rd (A.nat (Int.ofNat i)))) ?_; cbv)
    | (exfalso; rename_i h; subst hA; simp [real] at h; done)
    | (refine inb_of hA fun _ => ?_; subst hA; simp only [real, decide_eq_true_eq, Int.ofNat_eq_natCast] at *; omega)
  have hlt' : i < n := by
    subst hA
    simp only [real, decide_eq_true_eq, Int.ofNat_eq_natCast] at *
    omega
  refine ⟨⟨i + 1, by omega⟩, by simp only; omega, cov_of ?_ ?_ ?_⟩
  · cbv
    subst hA
    exact ⟨congrArg (fun x => DV.v (.int .i64 x)) (up64 hlt' hn), trivial⟩
  · cbv
  · cbv
set_option maxRecDepth 100000 in
theorem eq_TskIn (x : TskInT) : Meets Try.prog 86 [xd (eTskIn x), xd (eTskIn x)] ⟨.one (.c (.d (eB true))), [none, none]⟩ := by
  refine meets_of (H := []) (EX := EXA) ttok mixed Try.func86 rfl (by kernel_rfl) (by decide) ?_
  generalize hA : real = A
  generalize hM : MeetsB Try.prog = M
  cbv
  repeat' first
    | apply And.intro
    | exact True.intro
    | with_reducible rfl
    | exact same_of hA rfl
    | refine br_of hA (fun _ => ?_) (fun _ => ?_)
    | (refine ind_of hA ?_; decide +kernel)
    | (refine call_of hA hM _ (eq_ItmS x.queue.n x.queue.hn x.queue.g) ?_; cbv)
    | (exfalso; rename_i h; subst hA; simp [real] at h; done)
def st_eqTskInS (n : Nat) (rd : Nat → TskInT) (i : Nat) : St := ⟨[(5, .c (.d (eI i))), (0, .c (.d (.sl 3 n fun i => eTskIn (rd i)))), (1, .c (.d (.sl 3 n fun i => eTskIn (rd i))))], []⟩
set_option maxRecDepth 100000 in
theorem eq_TskInS (n : Nat) (hn : n ≤ maxLen) (rd : Nat → TskInT) : Meets Try.prog 39 [.c (.d (.sl 3 n fun i => eTskIn (rd i))), .c (.d (.sl 3 n fun i => eTskIn (rd i)))] ⟨.one (.c (.d (eB true))), [none, none]⟩ := by
  refine meets_of (H := []) (EX := EXA) ttok mixed Try.func39 rfl (by kernel_rfl) (by decide) ?_
  generalize hA : real = A
  generalize hM : MeetsB Try.prog = M
  cbv
  repeat' first
    | apply And.intro
    | exact True.intro
    | with_reducible rfl
    | exact same_of hA rfl
    | refine br_of hA (fun _ => ?_) (fun _ => ?_)
    | (refine ind_of hA ?_; decide +kernel)
    | (exfalso; rename_i h; subst hA; simp [real] at h; done)
  refine loop_of hA (α := { i : Nat // i ≤ n }) (fun x => st_eqTskInS n rd x.1) (fun x => n - x.1) ⟨0, Nat.zero_le _⟩ ?_ ?_
  · refine cov_of ?_ ?_ ?_
    · cbv; exact ⟨rfl, trivial⟩
    · cbv
    · cbv
  rintro ⟨i, hi⟩
  cbv
  repeat' first
    | apply And.intro
    | exact True.intro
    | with_reducible rfl
    | exact same_of hA rfl
    | refine br_of hA (fun _ => ?_) (fun _ => ?_)
    | (refine ind_of hA ?_; decide +kernel)
    | (refine call_of hA hM _ (eq_TskIn (rd (A.nat (Int.ofNat i)))) ?_; cbv)
    | (exfalso; rename_i h; subst hA; simp [real] at h; done)
    | (refine inb_of hA fun _ => ?_; subst hA; simp only [real, decide_eq_true_eq, Int.ofNat_eq_natCast] at *; omega)
  have hlt' : i < n := by
    subst hA
    simp only [real, decide_eq_true_eq, Int.ofNat_eq_natCast] at *
    omega
  refine ⟨⟨i + 1, by omega⟩, by simp only; omega, cov_of ?_ ?_ ?_⟩
  · cbv
    subst hA
    exact ⟨congrArg (fun x => DV.v (.int .i64 x)) (up64 hlt' hn), trivial⟩
  · cbv
  · cbv
set_option maxRecDepth 100000 in
theorem eq_Txn (x : TxnT) : Meets Try.prog 40 [xd (eTxn x), xd (eTxn x)] ⟨.one (.c (.d (eB true))), [none, none]⟩ := by
  refine meets_of (H := []) (EX := EXA) ttok mixed Try.func40 rfl (by kernel_rfl) (by decide) ?_
  generalize hA : real = A
  generalize hM : MeetsB Try.prog = M
  cbv
  repeat' first
    | apply And.intro
    | exact True.intro
    | with_reducible rfl
    | exact same_of hA rfl
    | refine br_of hA (fun _ => ?_) (fun _ => ?_)
    | (refine ind_of hA ?_; decide +kernel)
    | (refine call_of hA hM _ (eq_PaneS x.panes.n x.panes.hn x.panes.g) ?_; cbv)
    | (refine call_of hA hM _ (eq_LatS x.lates.n x.lates.hn x.lates.g) ?_; cbv)
    | (exfalso; rename_i h; subst hA; simp [real] at h; done)
set_option maxRecDepth 100000 in
theorem eq_Tsk (x : TskT) : Meets Try.prog 12 [xd (eTsk x), xd (eTsk x)] ⟨.one (.c (.d (eB true))), [none, none]⟩ := by
  refine meets_of (H := []) (EX := EXA) ttok mixed Try.func12 rfl (by kernel_rfl) (by decide) ?_
  generalize hA : real = A
  generalize hM : MeetsB Try.prog = M
  cbv
  repeat' first
    | apply And.intro
    | exact True.intro
    | with_reducible rfl
    | exact same_of hA rfl
    | refine br_of hA (fun _ => ?_) (fun _ => ?_)
    | (refine ind_of hA ?_; decide +kernel)
    | (refine call_of hA hM _ (eq_TskInS x.ins.n x.ins.hn x.ins.g) ?_; cbv)
    | (refine call_of hA hM _ (eq_OpSt x.op) ?_; cbv)
    | (refine call_of hA hM _ (eq_Txn x.pend) ?_; cbv)
    | (exfalso; rename_i h; subst hA; simp [real] at h; done)
end Go.Rk
/- Small functions: what they answer. -/
namespace Go.Rk
set_option linter.unusedSimpArgs false
set_option linter.unusedVariables false
open Go.Proofs
set_option maxRecDepth 100000 in
theorem c_in (n lo hi : Int) : ∃ b, b = decide (lo ≤ n ∧ n ≤ hi) ∧ Meets Try.prog 56 [.c (.d (eI n)), .c (.d (eI lo)), .c (.d (eI hi))] ⟨.one (.c (.d (eB b))), [none, none, none]⟩ := by
  obtain ⟨b, hb⟩ : ∃ b, b = decide (lo ≤ n ∧ n ≤ hi) := ⟨_, rfl⟩
  refine ⟨b, hb, ?_⟩
  refine meets_of (H := []) (EX := EXA) ttok mixed Try.func56 rfl (by kernel_rfl) (by decide) ?_
  generalize hA : real = A
  generalize hM : MeetsB Try.prog = M
  cbv
  repeat' first
    | apply And.intro
    | exact True.intro
    | with_reducible rfl
    | exact same_of hA rfl
    | refine br_of hA (fun _ => ?_) (fun _ => ?_)
    | exact imp_of hA id
    | (refine imp_of hA ?_; subst hA; simp only [real, Bool.true_and]; exact id)
    | (refine ind_of hA ?_; decide +kernel)
    | fail
  all_goals subst hA
  all_goals refine congrArg (fun b => XA.one (.c (.d (eB b)))) (Bool.eq_iff_iff.2 ?_)
  all_goals subst_vars
  all_goals try simp only [real, bifA, bifB, bifC, bifD, decide_eq_true_eq, decide_eq_false_iff_not, beq_iff_eq, bne_iff_ne, beq_eq_false_iff_ne, bne_eq_false_iff_eq, ne_eq, Bool.and_eq_true, Bool.or_eq_true, Bool.not_eq_true', Bool.not_eq_false', Bool.and_eq_false_iff, Bool.or_eq_false_iff, Bool.false_eq_true, and_false, false_and, or_false, false_or, and_true, true_and, not_true_eq_false, not_false_eq_true, true_iff, false_iff, IntKind.wrap_i64] at *
  all_goals first
    | omega
    | skip
set_option maxRecDepth 100000 in
theorem c_l1In (n lo hi : Int) : ∃ b, b = decide (lo ≤ n ∧ n ≤ hi) ∧ Meets Try.prog 34 [.c (.d (eI n)), .c (.d (eI lo)), .c (.d (eI hi))] ⟨.one (.c (.d (eB b))), [none, none, none]⟩ := by
  obtain ⟨b, hb⟩ : ∃ b, b = decide (lo ≤ n ∧ n ≤ hi) := ⟨_, rfl⟩
  refine ⟨b, hb, ?_⟩
  refine meets_of (H := []) (EX := EXA) ttok mixed Try.func34 rfl (by kernel_rfl) (by decide) ?_
  generalize hA : real = A
  generalize hM : MeetsB Try.prog = M
  cbv
  repeat' first
    | apply And.intro
    | exact True.intro
    | with_reducible rfl
    | exact same_of hA rfl
    | refine br_of hA (fun _ => ?_) (fun _ => ?_)
    | exact imp_of hA id
    | (refine imp_of hA ?_; subst hA; simp only [real, Bool.true_and]; exact id)
    | (refine ind_of hA ?_; decide +kernel)
    | fail
  all_goals subst hA
  all_goals refine congrArg (fun b => XA.one (.c (.d (eB b)))) (Bool.eq_iff_iff.2 ?_)
  all_goals subst_vars
  all_goals try simp only [real, bifA, bifB, bifC, bifD, decide_eq_true_eq, decide_eq_false_iff_not, beq_iff_eq, bne_iff_ne, beq_eq_false_iff_ne, bne_eq_false_iff_eq, ne_eq, Bool.and_eq_true, Bool.or_eq_true, Bool.not_eq_true', Bool.not_eq_false', Bool.and_eq_false_iff, Bool.or_eq_false_iff, Bool.false_eq_true, and_false, false_and, or_false, false_or, and_true, true_and, not_true_eq_false, not_false_eq_true, true_iff, false_iff, IntKind.wrap_i64] at *
  all_goals first
    | omega
    | skip
set_option maxRecDepth 100000 in
theorem c_WinOk (s e : Int) : ∃ b, b = decide ((0 ≤ s ∧ s ≤ 60) ∧ IntKind.i64.wrap (s + 1) ≤ e ∧ e ≤ 120) ∧ Meets Try.prog 59 [.agg [.d (eI s), .d (eI e)]] ⟨.one (.c (.d (eB b))), [none]⟩ := by
  obtain ⟨b, hb⟩ : ∃ b, b = decide ((0 ≤ s ∧ s ≤ 60) ∧ IntKind.i64.wrap (s + 1) ≤ e ∧ e ≤ 120) := ⟨_, rfl⟩
  refine ⟨b, hb, ?_⟩
  refine meets_of (H := []) (EX := EXA) ttok mixed Try.func59 rfl (by kernel_rfl) (by decide) ?_
  generalize hA : real = A
  generalize hM : MeetsB Try.prog = M
  cbv
  repeat' first
    | apply And.intro
    | exact True.intro
    | with_reducible rfl
    | exact same_of hA rfl
    | refine br_of hA (fun _ => ?_) (fun _ => ?_)
    | exact imp_of hA id
    | (refine imp_of hA ?_; subst hA; simp only [real, Bool.true_and]; exact id)
    | (refine ind_of hA ?_; decide +kernel)
    | (refine call_ex hA hM (c_in _ _ _) (fun _ _ => ?_); cbv)
    | fail
  all_goals subst hA
  all_goals refine congrArg (fun b => XA.one (.c (.d (eB b)))) (Bool.eq_iff_iff.2 ?_)
  all_goals subst_vars
  all_goals try simp only [real, bifA, bifB, bifC, bifD, decide_eq_true_eq, decide_eq_false_iff_not, beq_iff_eq, bne_iff_ne, beq_eq_false_iff_ne, bne_eq_false_iff_eq, ne_eq, Bool.and_eq_true, Bool.or_eq_true, Bool.not_eq_true', Bool.not_eq_false', Bool.and_eq_false_iff, Bool.or_eq_false_iff, Bool.false_eq_true, and_false, false_and, or_false, false_or, and_true, true_and, not_true_eq_false, not_false_eq_true, true_iff, false_iff, IntKind.wrap_i64] at *
  all_goals first
    | omega
    | skip
set_option maxRecDepth 100000 in
theorem c_sWinOk (s e : Int) : ∃ b, b = decide ((0 ≤ s ∧ s ≤ 60) ∧ IntKind.i64.wrap (s + 1) ≤ e ∧ e ≤ 120) ∧ Meets Try.prog 112 [.agg [.d (eI s), .d (eI e)]] ⟨.one (.c (.d (eB b))), [none]⟩ := by
  obtain ⟨b, hb⟩ : ∃ b, b = decide ((0 ≤ s ∧ s ≤ 60) ∧ IntKind.i64.wrap (s + 1) ≤ e ∧ e ≤ 120) := ⟨_, rfl⟩
  refine ⟨b, hb, ?_⟩
  refine meets_of (H := []) (EX := EXA) ttok mixed Try.func112 rfl (by kernel_rfl) (by decide) ?_
  generalize hA : real = A
  generalize hM : MeetsB Try.prog = M
  cbv
  repeat' first
    | apply And.intro
    | exact True.intro
    | with_reducible rfl
    | exact same_of hA rfl
    | refine br_of hA (fun _ => ?_) (fun _ => ?_)
    | exact imp_of hA id
    | (refine imp_of hA ?_; subst hA; simp only [real, Bool.true_and]; exact id)
    | (refine ind_of hA ?_; decide +kernel)
    | (refine call_ex hA hM (c_l1In _ _ _) (fun _ _ => ?_); cbv)
    | fail
  all_goals subst hA
  all_goals refine congrArg (fun b => XA.one (.c (.d (eB b)))) (Bool.eq_iff_iff.2 ?_)
  all_goals subst_vars
  all_goals try simp only [real, bifA, bifB, bifC, bifD, decide_eq_true_eq, decide_eq_false_iff_not, beq_iff_eq, bne_iff_ne, beq_eq_false_iff_ne, bne_eq_false_iff_eq, ne_eq, Bool.and_eq_true, Bool.or_eq_true, Bool.not_eq_true', Bool.not_eq_false', Bool.and_eq_false_iff, Bool.or_eq_false_iff, Bool.false_eq_true, and_false, false_and, or_false, false_or, and_true, true_and, not_true_eq_false, not_false_eq_true, true_iff, false_iff, IntKind.wrap_i64] at *
  all_goals first
    | omega
    | skip
set_option maxRecDepth 100000 in
theorem c_tells (n : Int) : ∃ b, b = decide (1 ≤ n ∧ n ≤ 4) ∧ Meets Try.prog 99 [.c (.d (eI n))] ⟨.one (.c (.d (eB b))), [none]⟩ := by
  obtain ⟨b, hb⟩ : ∃ b, b = decide (1 ≤ n ∧ n ≤ 4) := ⟨_, rfl⟩
  refine ⟨b, hb, ?_⟩
  refine meets_of (H := []) (EX := EXA) ttok mixed Try.func99 rfl (by kernel_rfl) (by decide) ?_
  generalize hA : real = A
  generalize hM : MeetsB Try.prog = M
  cbv
  repeat' first
    | apply And.intro
    | exact True.intro
    | with_reducible rfl
    | exact same_of hA rfl
    | refine br_of hA (fun _ => ?_) (fun _ => ?_)
    | exact imp_of hA id
    | (refine imp_of hA ?_; subst hA; simp only [real, Bool.true_and]; exact id)
    | (refine ind_of hA ?_; decide +kernel)
    | (refine call_ex hA hM (c_in _ _ _) (fun _ _ => ?_); cbv)
    | fail
  all_goals subst hA
  all_goals refine congrArg (fun b => XA.one (.c (.d (eB b)))) (Bool.eq_iff_iff.2 ?_)
  all_goals subst_vars
  all_goals try simp only [real, bifA, bifB, bifC, bifD, decide_eq_true_eq, decide_eq_false_iff_not, beq_iff_eq, bne_iff_ne, beq_eq_false_iff_ne, bne_eq_false_iff_eq, ne_eq, Bool.and_eq_true, Bool.or_eq_true, Bool.not_eq_true', Bool.not_eq_false', Bool.and_eq_false_iff, Bool.or_eq_false_iff, Bool.false_eq_true, and_false, false_and, or_false, false_or, and_true, true_and, not_true_eq_false, not_false_eq_true, true_iff, false_iff, IntKind.wrap_i64] at *
  all_goals first
    | omega
    | skip
set_option maxRecDepth 100000 in
theorem c_JobOk (a b1 kind size step late tell : Int) (p : Bool) (least room : Int) : ∃ b, b = decide ((1 ≤ a ∧ a ≤ 3) ∧ (1 ≤ b1 ∧ b1 ≤ 2) ∧ (1 ≤ kind ∧ kind ≤ 3) ∧ (1 ≤ size ∧ size ≤ 20) ∧ ((kind = 2 ∧ (1 ≤ step ∧ step ≤ size) ∧ size ≤ 4 * step) ∨ (kind ≠ 2 ∧ step = 0)) ∧ (0 ≤ late ∧ late ≤ 20) ∧ (1 ≤ tell ∧ tell ≤ 4) ∧ (-9 ≤ least ∧ least ≤ 9) ∧ (1 ≤ room ∧ room ≤ 4)) ∧ Meets Try.prog 50 [.agg [.d (eI a), .d (eI b1), .d (eI kind), .d (eI size), .d (eI step), .d (eI late), .d (eI tell), .d (eB p), .d (eI least), .d (eI room)]] ⟨.one (.c (.d (eB b))), [none]⟩ := by
  obtain ⟨b, hb⟩ : ∃ b, b = decide ((1 ≤ a ∧ a ≤ 3) ∧ (1 ≤ b1 ∧ b1 ≤ 2) ∧ (1 ≤ kind ∧ kind ≤ 3) ∧ (1 ≤ size ∧ size ≤ 20) ∧ ((kind = 2 ∧ (1 ≤ step ∧ step ≤ size) ∧ size ≤ 4 * step) ∨ (kind ≠ 2 ∧ step = 0)) ∧ (0 ≤ late ∧ late ≤ 20) ∧ (1 ≤ tell ∧ tell ≤ 4) ∧ (-9 ≤ least ∧ least ≤ 9) ∧ (1 ≤ room ∧ room ≤ 4)) := ⟨_, rfl⟩
  refine ⟨b, hb, ?_⟩
  refine meets_of (H := []) (EX := EXA) ttok mixed Try.func50 rfl (by kernel_rfl) (by decide) ?_
  generalize hA : real = A
  generalize hM : MeetsB Try.prog = M
  cbv
  repeat' first
    | apply And.intro
    | exact True.intro
    | with_reducible rfl
    | exact same_of hA rfl
    | refine br_of hA (fun _ => ?_) (fun _ => ?_)
    | exact imp_of hA id
    | (refine imp_of hA ?_; subst hA; simp only [real, Bool.true_and]; exact id)
    | (refine ind_of hA ?_; decide +kernel)
    | (refine call_ex hA hM (c_in _ _ _) (fun _ _ => ?_); cbv)
    | (refine call_ex hA hM (c_tells _) (fun _ _ => ?_); cbv)
    | fail
  all_goals subst hA
  all_goals refine congrArg (fun b => XA.one (.c (.d (eB b)))) (Bool.eq_iff_iff.2 ?_)
  all_goals subst_vars
  all_goals try simp only [real, bifA, bifB, bifC, bifD, decide_eq_true_eq, decide_eq_false_iff_not, beq_iff_eq, bne_iff_ne, beq_eq_false_iff_ne, bne_eq_false_iff_eq, ne_eq, Bool.and_eq_true, Bool.or_eq_true, Bool.not_eq_true', Bool.not_eq_false', Bool.and_eq_false_iff, Bool.or_eq_false_iff, Bool.false_eq_true, and_false, false_and, or_false, false_or, and_true, true_and, not_true_eq_false, not_false_eq_true, true_iff, false_iff, IntKind.wrap_i64] at *
  all_goals first
    | omega
    | skip
set_option maxRecDepth 100000 in
theorem c_sJobOk (a b1 kind size step late tell : Int) (p : Bool) (least room : Int) : ∃ b, b = decide ((1 ≤ a ∧ a ≤ 3) ∧ (1 ≤ b1 ∧ b1 ≤ 2) ∧ (1 ≤ kind ∧ kind ≤ 3) ∧ (1 ≤ size ∧ size ≤ 20) ∧ ((kind = 2 ∧ (1 ≤ step ∧ step ≤ size) ∧ size ≤ 4 * step) ∨ (kind ≠ 2 ∧ step = 0)) ∧ (0 ≤ late ∧ late ≤ 20) ∧ (1 ≤ tell ∧ tell ≤ 4) ∧ (-9 ≤ least ∧ least ≤ 9) ∧ (1 ≤ room ∧ room ≤ 4)) ∧ Meets Try.prog 23 [.agg [.d (eI a), .d (eI b1), .d (eI kind), .d (eI size), .d (eI step), .d (eI late), .d (eI tell), .d (eB p), .d (eI least), .d (eI room)]] ⟨.one (.c (.d (eB b))), [none]⟩ := by
  obtain ⟨b, hb⟩ : ∃ b, b = decide ((1 ≤ a ∧ a ≤ 3) ∧ (1 ≤ b1 ∧ b1 ≤ 2) ∧ (1 ≤ kind ∧ kind ≤ 3) ∧ (1 ≤ size ∧ size ≤ 20) ∧ ((kind = 2 ∧ (1 ≤ step ∧ step ≤ size) ∧ size ≤ 4 * step) ∨ (kind ≠ 2 ∧ step = 0)) ∧ (0 ≤ late ∧ late ≤ 20) ∧ (1 ≤ tell ∧ tell ≤ 4) ∧ (-9 ≤ least ∧ least ≤ 9) ∧ (1 ≤ room ∧ room ≤ 4)) := ⟨_, rfl⟩
  refine ⟨b, hb, ?_⟩
  refine meets_of (H := []) (EX := EXA) ttok mixed Try.func23 rfl (by kernel_rfl) (by decide) ?_
  generalize hA : real = A
  generalize hM : MeetsB Try.prog = M
  cbv
  repeat' first
    | apply And.intro
    | exact True.intro
    | with_reducible rfl
    | exact same_of hA rfl
    | refine br_of hA (fun _ => ?_) (fun _ => ?_)
    | exact imp_of hA id
    | (refine imp_of hA ?_; subst hA; simp only [real, Bool.true_and]; exact id)
    | (refine ind_of hA ?_; decide +kernel)
    | (refine call_ex hA hM (c_l1In _ _ _) (fun _ _ => ?_); cbv)
    | fail
  all_goals subst hA
  all_goals refine congrArg (fun b => XA.one (.c (.d (eB b)))) (Bool.eq_iff_iff.2 ?_)
  all_goals subst_vars
  all_goals try simp only [real, bifA, bifB, bifC, bifD, decide_eq_true_eq, decide_eq_false_iff_not, beq_iff_eq, bne_iff_ne, beq_eq_false_iff_ne, bne_eq_false_iff_eq, ne_eq, Bool.and_eq_true, Bool.or_eq_true, Bool.not_eq_true', Bool.not_eq_false', Bool.and_eq_false_iff, Bool.or_eq_false_iff, Bool.false_eq_true, and_false, false_and, or_false, false_or, and_true, true_and, not_true_eq_false, not_false_eq_true, true_iff, false_iff, IntKind.wrap_i64] at *
  all_goals first
    | omega
    | skip
set_option maxRecDepth 100000 in
theorem c_isTime (n : Int) : ∃ b, b = decide (0 ≤ n ∧ n ≤ 1000) ∧ Meets Try.prog 77 [.c (.d (eI n))] ⟨.one (.c (.d (eB b))), [none]⟩ := by
  obtain ⟨b, hb⟩ : ∃ b, b = decide (0 ≤ n ∧ n ≤ 1000) := ⟨_, rfl⟩
  refine ⟨b, hb, ?_⟩
  refine meets_of (H := []) (EX := EXA) ttok mixed Try.func77 rfl (by kernel_rfl) (by decide) ?_
  generalize hA : real = A
  generalize hM : MeetsB Try.prog = M
  cbv
  repeat' first
    | apply And.intro
    | exact True.intro
    | with_reducible rfl
    | exact same_of hA rfl
    | refine br_of hA (fun _ => ?_) (fun _ => ?_)
    | exact imp_of hA id
    | (refine imp_of hA ?_; subst hA; simp only [real, Bool.true_and]; exact id)
    | (refine ind_of hA ?_; decide +kernel)
    | (refine call_ex hA hM (c_in _ _ _) (fun _ _ => ?_); cbv)
    | fail
  all_goals subst hA
  all_goals refine congrArg (fun b => XA.one (.c (.d (eB b)))) (Bool.eq_iff_iff.2 ?_)
  all_goals subst_vars
  all_goals try simp only [real, bifA, bifB, bifC, bifD, decide_eq_true_eq, decide_eq_false_iff_not, beq_iff_eq, bne_iff_ne, beq_eq_false_iff_ne, bne_eq_false_iff_eq, ne_eq, Bool.and_eq_true, Bool.or_eq_true, Bool.not_eq_true', Bool.not_eq_false', Bool.and_eq_false_iff, Bool.or_eq_false_iff, Bool.false_eq_true, and_false, false_and, or_false, false_or, and_true, true_and, not_true_eq_false, not_false_eq_true, true_iff, false_iff, IntKind.wrap_i64] at *
  all_goals first
    | omega
    | skip
set_option maxRecDepth 100000 in
theorem c_isKey (n : Int) : ∃ b, b = decide (0 ≤ n ∧ n ≤ 3) ∧ Meets Try.prog 117 [.c (.d (eI n))] ⟨.one (.c (.d (eB b))), [none]⟩ := by
  obtain ⟨b, hb⟩ : ∃ b, b = decide (0 ≤ n ∧ n ≤ 3) := ⟨_, rfl⟩
  refine ⟨b, hb, ?_⟩
  refine meets_of (H := []) (EX := EXA) ttok mixed Try.func117 rfl (by kernel_rfl) (by decide) ?_
  generalize hA : real = A
  generalize hM : MeetsB Try.prog = M
  cbv
  repeat' first
    | apply And.intro
    | exact True.intro
    | with_reducible rfl
    | exact same_of hA rfl
    | refine br_of hA (fun _ => ?_) (fun _ => ?_)
    | exact imp_of hA id
    | (refine imp_of hA ?_; subst hA; simp only [real, Bool.true_and]; exact id)
    | (refine ind_of hA ?_; decide +kernel)
    | (refine call_ex hA hM (c_in _ _ _) (fun _ _ => ?_); cbv)
    | fail
  all_goals subst hA
  all_goals refine congrArg (fun b => XA.one (.c (.d (eB b)))) (Bool.eq_iff_iff.2 ?_)
  all_goals subst_vars
  all_goals try simp only [real, bifA, bifB, bifC, bifD, decide_eq_true_eq, decide_eq_false_iff_not, beq_iff_eq, bne_iff_ne, beq_eq_false_iff_ne, bne_eq_false_iff_eq, ne_eq, Bool.and_eq_true, Bool.or_eq_true, Bool.not_eq_true', Bool.not_eq_false', Bool.and_eq_false_iff, Bool.or_eq_false_iff, Bool.false_eq_true, and_false, false_and, or_false, false_or, and_true, true_and, not_true_eq_false, not_false_eq_true, true_iff, false_iff, IntKind.wrap_i64] at *
  all_goals first
    | omega
    | skip
end Go.Rk
/- Small functions: what they answer. -/
namespace Go.Rk
set_option linter.unusedSimpArgs false
set_option linter.unusedVariables false
open Go.Proofs
set_option maxRecDepth 100000 in
theorem c_isNaN (n : Int) : ∃ b, b = decide (False) ∧ Meets Try.prog 134 [.c (.d (eI n))] ⟨.one (.c (.d (eB b))), [none]⟩ := by
  obtain ⟨b, hb⟩ : ∃ b, b = decide (False) := ⟨_, rfl⟩
  refine ⟨b, hb, ?_⟩
  refine meets_of (H := []) (EX := EXA) ttok mixed Try.func134 rfl (by kernel_rfl) (by decide) ?_
  generalize hA : real = A
  generalize hM : MeetsB Try.prog = M
  cbv
  repeat' first
    | apply And.intro
    | exact True.intro
    | with_reducible rfl
    | exact same_of hA rfl
    | refine br_of hA (fun _ => ?_) (fun _ => ?_)
    | exact imp_of hA id
    | (refine imp_of hA ?_; subst hA; simp only [real, Bool.true_and]; exact id)
    | (refine ind_of hA ?_; decide +kernel)
    | fail
  all_goals subst hA
  all_goals refine congrArg (fun b => XA.one (.c (.d (eB b)))) (Bool.eq_iff_iff.2 ?_)
  all_goals subst_vars
  all_goals try simp only [real, bifA, bifB, bifC, bifD, decide_eq_true_eq, decide_eq_false_iff_not, beq_iff_eq, bne_iff_ne, beq_eq_false_iff_ne, bne_eq_false_iff_eq, ne_eq, Bool.and_eq_true, Bool.or_eq_true, Bool.not_eq_true', Bool.not_eq_false', Bool.and_eq_false_iff, Bool.or_eq_false_iff, Bool.false_eq_true, and_false, false_and, or_false, false_or, and_true, true_and, not_true_eq_false, not_false_eq_true, true_iff, false_iff, IntKind.wrap_i64] at *
  all_goals first
    | omega
    | skip
set_option maxRecDepth 100000 in
theorem c_Compare (a b : Int) : ∃ x : Int, x = (if a < b then -1 else if b < a then 1 else 0) ∧ Meets Try.prog 120 [.c (.d (eI a)), .c (.d (eI b))] ⟨.one (.c (.d (eI x))), [none, none]⟩ := by
  obtain ⟨x, hx⟩ : ∃ x : Int, x = (if a < b then -1 else if b < a then 1 else 0) := ⟨_, rfl⟩
  refine ⟨x, hx, ?_⟩
  refine meets_of (H := []) (EX := EXA) ttok mixed Try.func120 rfl (by kernel_rfl) (by decide) ?_
  generalize hA : real = A
  generalize hM : MeetsB Try.prog = M
  cbv
  repeat' first
    | apply And.intro
    | exact True.intro
    | with_reducible rfl
    | exact same_of hA rfl
    | refine br_of hA (fun _ => ?_) (fun _ => ?_)
    | exact imp_of hA id
    | (refine imp_of hA ?_; subst hA; simp only [real, Bool.true_and]; exact id)
    | (refine ind_of hA ?_; decide +kernel)
    | (refine call_ex hA hM (c_isNaN _) (fun _ _ => ?_); cbv)
    | fail
  all_goals subst hA
  all_goals refine congrArg (fun x => XA.one (.c (.d (eI x)))) ?_
  all_goals subst_vars
  all_goals try simp only [real, bifA, bifB, bifC, bifD, decide_eq_true_eq, decide_eq_false_iff_not, beq_iff_eq, bne_iff_ne, beq_eq_false_iff_ne, bne_eq_false_iff_eq, ne_eq, Bool.and_eq_true, Bool.or_eq_true, Bool.not_eq_true', Bool.not_eq_false', Bool.and_eq_false_iff, Bool.or_eq_false_iff, Bool.false_eq_true, reduceCtorEq] at *
  all_goals first
    | omega
    | skip
/-- The first that is not 0. -/
inductive FirstNz (n : Nat) (g : Nat → Int) : Int → Prop
  | at (i : Nat) (h : i < n) (hi : g i ≠ 0) (hb : ∀ j, j < i → g j = 0) : FirstNz n g (g i)
  | none (hb : ∀ j, j < n → g j = 0) : FirstNz n g 0
theorem firstNz_ex (n : Nat) (g : Nat → Int) : ∃ x, FirstNz n g x := by
  by_cases h : ∃ i, i < n ∧ g i ≠ 0
  · obtain ⟨i, hi⟩ := h
    induction i using Nat.strongRecOn with
    | _ i ih =>
      by_cases hm : ∃ j, j < i ∧ g j ≠ 0
      · obtain ⟨j, hj1, hj2⟩ := hm
        exact ih j hj1 ⟨by omega, hj2⟩
      · exact ⟨_, .at i hi.1 hi.2 fun j hj => Classical.not_not.1 fun e => hm ⟨j, hj, e⟩⟩
  · exact ⟨0, .none fun j hj => Classical.not_not.1 fun e => h ⟨j, hj, e⟩⟩
theorem firstNz_one {n : Nat} {g : Nat → Int} {x y : Int} (h : FirstNz n g x) (h' : FirstNz n g y) : x = y := by
  cases h with
  | «at» i hi hh hb =>
    cases h' with
    | «at» j hj hh' hb' =>
      have : i = j := by
        rcases Nat.lt_trichotomy i j with h | h | h
        · exact absurd (hb' i h) hh
        · exact h
        · exact absurd (hb j h) hh'
      rw [this]
    | none hb' => exact absurd (hb' i hi) hh
  | none hb =>
    cases h' with
    | «at» j hj hh' hb' => exact absurd (hb j hj) hh'
    | none hb' => rfl
theorem firstNz_two {g : Nat → Int} {x : Int} (h : FirstNz 2 g x) : x = if g 0 = 0 then g 1 else g 0 := by
  refine firstNz_one h ?_
  by_cases h0 : g 0 = 0
  · rw [if_pos h0]
    by_cases h1 : g 1 = 0
    · rw [h1]; exact .none fun j hj => by rcases j with _ | _ | j; exact h0; exact h1; omega
    · exact .at 1 (by omega) h1 fun j hj => by rcases j with _ | j; exact h0; omega
  · rw [if_neg h0]; exact .at 0 (by omega) h0 fun j hj => by omega
def stOr (n : Nat) (g : Nat → Int) (i : Nat) : St := ⟨[(8, .c (.d (eI i))), (7, .c (.d (eI n))), (6, .c (.d (.sl 1 n fun i => [eI (g i)]))), (3, .c (.d (eI 0)))], []⟩
set_option maxRecDepth 100000 in
theorem m_Or (n : Nat) (hn : n ≤ maxLen) (g : Nat → Int) (x : Int) (hx : FirstNz n g x) : Meets Try.prog 119 [.c (.d (.sl 1 n fun i => [eI (g i)]))] ⟨.one (.c (.d (eI x))), [none]⟩ := by
  refine meets_of (H := []) (EX := EXA) ttok mixed Try.func119 rfl (by kernel_rfl) (by decide) ?_
  generalize hA : real = A
  generalize hM : MeetsB Try.prog = M
  cbv
  repeat' first
    | apply And.intro
    | exact True.intro
    | with_reducible rfl
    | exact same_of hA rfl
    | refine br_of hA (fun _ => ?_) (fun _ => ?_)
    | exact imp_of hA id
    | (refine imp_of hA ?_; subst hA; simp only [real, Bool.true_and]; exact id)
    | (refine ind_of hA ?_; decide +kernel)
    | fail
  refine loop_of hA (α := { i : Nat // i ≤ n ∧ ∀ j, j < i → g j = 0 }) (fun x => stOr n g x.1) (fun x => n - x.1) ⟨0, Nat.zero_le _, fun j h => absurd h (Nat.not_lt_zero _)⟩ ?_ ?_
  · refine cov_of ?_ ?_ ?_
    · cbv; subst hA; exact ⟨rfl, rfl, trivial⟩
    · cbv
    · cbv
  rintro ⟨i, hi, hb⟩
  cbv
  repeat' first
    | apply And.intro
    | exact True.intro
    | with_reducible rfl
    | exact same_of hA rfl
    | refine br_of hA (fun _ => ?_) (fun _ => ?_)
    | exact imp_of hA id
    | (refine imp_of hA ?_; subst hA; simp only [real, Bool.true_and]; exact id)
    | (refine ind_of hA ?_; decide +kernel)
    | (refine inb_of hA fun _ => ?_; subst hA; simp only [real, decide_eq_true_eq, Int.ofNat_eq_natCast] at *; omega)
    | fail
  · rename_i hlt hne
    subst hA
    simp only [real, decide_eq_true_eq, Int.ofNat_eq_natCast, Int.toNat_natCast, bne_iff_ne] at *
    obtain rfl := firstNz_one hx (.at i (by omega) hne hb)
    rfl
  · rename_i hlt hne
    have hlt' : i < n := by subst hA; simp only [real, decide_eq_true_eq, Int.ofNat_eq_natCast] at hlt; omega
    refine ⟨⟨i + 1, by omega, fun j hj => ?_⟩, by simp only; omega, cov_of ?_ ?_ ?_⟩
    · by_cases e : j = i
      · subst e
        subst hA
        simpa [real] using hne
      · exact hb j (by omega)
    · cbv
      subst hA
      exact ⟨congrArg (fun x => DV.v (.int .i64 x)) (up64 hlt' hn), trivial⟩
    · cbv
    · cbv
  · subst hA
    simp only [real, decide_eq_false_iff_not, Int.ofNat_eq_natCast] at *
    obtain rfl := firstNz_one hx (.none fun j hj => hb j (by omega))
    rfl
theorem two_of {A : Ar} (hA : real = A) (a b : Int) : A.sub 0 (A.app 1 (A.rep [eI a]) (A.app 1 (A.rep [eI b]) (A.rep [eI 0]))) = fun i => [eI (if i = 0 then a else if i = 1 then b else 0)] := by
  subst hA
  funext i
  rcases i with _ | _ | i
  · rfl
  · rfl
  · simp [real]
theorem c_Or (a b : Int) : ∃ x : Int, x = (if a = 0 then b else a) ∧ Meets Try.prog 119 [.c (.d (.sl 1 2 fun i => [eI (if i = 0 then a else if i = 1 then b else 0)]))] ⟨.one (.c (.d (eI x))), [none]⟩ := by
  obtain ⟨x, hx⟩ := firstNz_ex 2 fun i => if i = 0 then a else if i = 1 then b else 0
  exact ⟨x, firstNz_two hx, m_Or 2 (by decide) _ x hx⟩
set_option maxRecDepth 100000 in
theorem c_wcompare (s e s2 e2 : Int) : ∃ x : Int, x = (if s < s2 then -1 else if s2 < s then 1 else if e < e2 then -1 else if e2 < e then 1 else 0) ∧ Meets Try.prog 121 [.agg [.d (eI s), .d (eI e)], .agg [.d (eI s2), .d (eI e2)]] ⟨.one (.c (.d (eI x))), [none, none]⟩ := by
  obtain ⟨x, hx⟩ : ∃ x : Int, x = (if s < s2 then -1 else if s2 < s then 1 else if e < e2 then -1 else if e2 < e then 1 else 0) := ⟨_, rfl⟩
  refine ⟨x, hx, ?_⟩
  refine meets_of (H := []) (EX := EXA) ttok mixed Try.func121 rfl (by kernel_rfl) (by decide) ?_
  generalize hA : real = A
  generalize hM : MeetsB Try.prog = M
  cbv
  repeat' first
    | apply And.intro
    | exact True.intro
    | with_reducible rfl
    | exact same_of hA rfl
    | refine br_of hA (fun _ => ?_) (fun _ => ?_)
    | exact imp_of hA id
    | (refine imp_of hA ?_; subst hA; simp only [real, Bool.true_and]; exact id)
    | (refine ind_of hA ?_; decide +kernel)
    | (refine call_ex hA hM (c_Compare _ _) (fun _ _ => ?_); cbv)
    | (refine call_ex2 hA hM (c_Or _ _) (congrArg (fun f => [XT.c (.d (.sl 1 2 f))]) (two_of hA _ _)) (fun _ _ => ?_); cbv)
    | fail
  all_goals subst hA
  all_goals refine congrArg (fun x => XA.one (.c (.d (eI x)))) ?_
  all_goals subst_vars
  all_goals try simp only [real, bifA, bifB, bifC, bifD, decide_eq_true_eq, decide_eq_false_iff_not, beq_iff_eq, bne_iff_ne, beq_eq_false_iff_ne, bne_eq_false_iff_eq, ne_eq, Bool.and_eq_true, Bool.or_eq_true, Bool.not_eq_true', Bool.not_eq_false', Bool.and_eq_false_iff, Bool.or_eq_false_iff, Bool.false_eq_true, reduceCtorEq] at *
  all_goals first
    | omega
    | skip
set_option maxRecDepth 100000 in
theorem c_rcompare (r q : RowT) : ∃ x : Int, x = (if r.key < q.key then -1 else if q.key < r.key then 1 else if r.win.s < q.win.s then -1 else if q.win.s < r.win.s then 1 else if r.win.e < q.win.e then -1 else if q.win.e < r.win.e then 1 else 0) ∧ Meets Try.prog 79 [xd (eRow r), xd (eRow q)] ⟨.one (.c (.d (eI x))), [none, none]⟩ := by
  obtain ⟨x, hx⟩ : ∃ x : Int, x = (if r.key < q.key then -1 else if q.key < r.key then 1 else if r.win.s < q.win.s then -1 else if q.win.s < r.win.s then 1 else if r.win.e < q.win.e then -1 else if q.win.e < r.win.e then 1 else 0) := ⟨_, rfl⟩
  refine ⟨x, hx, ?_⟩
  refine meets_of (H := []) (EX := EXA) ttok mixed Try.func79 rfl (by kernel_rfl) (by decide) ?_
  generalize hA : real = A
  generalize hM : MeetsB Try.prog = M
  cbv
  repeat' first
    | apply And.intro
    | exact True.intro
    | with_reducible rfl
    | exact same_of hA rfl
    | refine br_of hA (fun _ => ?_) (fun _ => ?_)
    | exact imp_of hA id
    | (refine imp_of hA ?_; subst hA; simp only [real, Bool.true_and]; exact id)
    | (refine ind_of hA ?_; decide +kernel)
    | (refine call_ex hA hM (c_Compare _ _) (fun _ _ => ?_); cbv)
    | (refine call_ex hA hM (c_wcompare _ _ _ _) (fun _ _ => ?_); cbv)
    | (refine call_ex2 hA hM (c_Or _ _) (congrArg (fun f => [XT.c (.d (.sl 1 2 f))]) (two_of hA _ _)) (fun _ _ => ?_); cbv)
    | fail
  all_goals subst hA
  all_goals refine congrArg (fun x => XA.one (.c (.d (eI x)))) ?_
  all_goals subst_vars
  all_goals try simp only [real, bifA, bifB, bifC, bifD, decide_eq_true_eq, decide_eq_false_iff_not, beq_iff_eq, bne_iff_ne, beq_eq_false_iff_ne, bne_eq_false_iff_eq, ne_eq, Bool.and_eq_true, Bool.or_eq_true, Bool.not_eq_true', Bool.not_eq_false', Bool.and_eq_false_iff, Bool.or_eq_false_iff, Bool.false_eq_true, reduceCtorEq] at *
  all_goals first
    | omega
    | skip
set_option maxRecDepth 100000 in
theorem c_WinTouch (s e s2 e2 : Int) : ∃ b, b = decide (s < e2 ∧ s2 < e) ∧ Meets Try.prog 81 [.agg [.d (eI s), .d (eI e)], .agg [.d (eI s2), .d (eI e2)]] ⟨.one (.c (.d (eB b))), [none, none]⟩ := by
  obtain ⟨b, hb⟩ : ∃ b, b = decide (s < e2 ∧ s2 < e) := ⟨_, rfl⟩
  refine ⟨b, hb, ?_⟩
  refine meets_of (H := []) (EX := EXA) ttok mixed Try.func81 rfl (by kernel_rfl) (by decide) ?_
  generalize hA : real = A
  generalize hM : MeetsB Try.prog = M
  cbv
  repeat' first
    | apply And.intro
    | exact True.intro
    | with_reducible rfl
    | exact same_of hA rfl
    | refine br_of hA (fun _ => ?_) (fun _ => ?_)
    | exact imp_of hA id
    | (refine imp_of hA ?_; subst hA; simp only [real, Bool.true_and]; exact id)
    | (refine ind_of hA ?_; decide +kernel)
    | fail
  all_goals subst hA
  all_goals refine congrArg (fun b => XA.one (.c (.d (eB b)))) (Bool.eq_iff_iff.2 ?_)
  all_goals subst_vars
  all_goals try simp only [real, bifA, bifB, bifC, bifD, decide_eq_true_eq, decide_eq_false_iff_not, beq_iff_eq, bne_iff_ne, beq_eq_false_iff_ne, bne_eq_false_iff_eq, ne_eq, Bool.and_eq_true, Bool.or_eq_true, Bool.not_eq_true', Bool.not_eq_false', Bool.and_eq_false_iff, Bool.or_eq_false_iff, Bool.false_eq_true, and_false, false_and, or_false, false_or, and_true, true_and, not_true_eq_false, not_false_eq_true, true_iff, false_iff, IntKind.wrap_i64] at *
  all_goals first
    | omega
    | skip
set_option maxRecDepth 100000 in
theorem c_sWinTouch (s e s2 e2 : Int) : ∃ b, b = decide (s < e2 ∧ s2 < e) ∧ Meets Try.prog 75 [.agg [.d (eI s), .d (eI e)], .agg [.d (eI s2), .d (eI e2)]] ⟨.one (.c (.d (eB b))), [none, none]⟩ := by
  obtain ⟨b, hb⟩ : ∃ b, b = decide (s < e2 ∧ s2 < e) := ⟨_, rfl⟩
  refine ⟨b, hb, ?_⟩
  refine meets_of (H := []) (EX := EXA) ttok mixed Try.func75 rfl (by kernel_rfl) (by decide) ?_
  generalize hA : real = A
  generalize hM : MeetsB Try.prog = M
  cbv
  repeat' first
    | apply And.intro
    | exact True.intro
    | with_reducible rfl
    | exact same_of hA rfl
    | refine br_of hA (fun _ => ?_) (fun _ => ?_)
    | exact imp_of hA id
    | (refine imp_of hA ?_; subst hA; simp only [real, Bool.true_and]; exact id)
    | (refine ind_of hA ?_; decide +kernel)
    | fail
  all_goals subst hA
  all_goals refine congrArg (fun b => XA.one (.c (.d (eB b)))) (Bool.eq_iff_iff.2 ?_)
  all_goals subst_vars
  all_goals try simp only [real, bifA, bifB, bifC, bifD, decide_eq_true_eq, decide_eq_false_iff_not, beq_iff_eq, bne_iff_ne, beq_eq_false_iff_ne, bne_eq_false_iff_eq, ne_eq, Bool.and_eq_true, Bool.or_eq_true, Bool.not_eq_true', Bool.not_eq_false', Bool.and_eq_false_iff, Bool.or_eq_false_iff, Bool.false_eq_true, and_false, false_and, or_false, false_or, and_true, true_and, not_true_eq_false, not_false_eq_true, true_iff, false_iff, IntKind.wrap_i64] at *
  all_goals first
    | omega
    | skip
set_option maxRecDepth 100000 in
theorem c_l2Less (s e s2 e2 : Int) : ∃ b, b = decide (s < s2 ∨ (s = s2 ∧ e < e2)) ∧ Meets Try.prog 114 [.agg [.d (eI s), .d (eI e)], .agg [.d (eI s2), .d (eI e2)]] ⟨.one (.c (.d (eB b))), [none, none]⟩ := by
  obtain ⟨b, hb⟩ : ∃ b, b = decide (s < s2 ∨ (s = s2 ∧ e < e2)) := ⟨_, rfl⟩
  refine ⟨b, hb, ?_⟩
  refine meets_of (H := []) (EX := EXA) ttok mixed Try.func114 rfl (by kernel_rfl) (by decide) ?_
  generalize hA : real = A
  generalize hM : MeetsB Try.prog = M
  cbv
  repeat' first
    | apply And.intro
    | exact True.intro
    | with_reducible rfl
    | exact same_of hA rfl
    | refine br_of hA (fun _ => ?_) (fun _ => ?_)
    | exact imp_of hA id
    | (refine imp_of hA ?_; subst hA; simp only [real, Bool.true_and]; exact id)
    | (refine ind_of hA ?_; decide +kernel)
    | fail
  all_goals subst hA
  all_goals refine congrArg (fun b => XA.one (.c (.d (eB b)))) (Bool.eq_iff_iff.2 ?_)
  all_goals subst_vars
  all_goals try simp only [real, bifA, bifB, bifC, bifD, decide_eq_true_eq, decide_eq_false_iff_not, beq_iff_eq, bne_iff_ne, beq_eq_false_iff_ne, bne_eq_false_iff_eq, ne_eq, Bool.and_eq_true, Bool.or_eq_true, Bool.not_eq_true', Bool.not_eq_false', Bool.and_eq_false_iff, Bool.or_eq_false_iff, Bool.false_eq_true, and_false, false_and, or_false, false_or, and_true, true_and, not_true_eq_false, not_false_eq_true, true_iff, false_iff, IntKind.wrap_i64] at *
  all_goals first
    | omega
    | skip
set_option maxRecDepth 100000 in
theorem c_l5Ahead (k s e k2 s2 e2 : Int) : ∃ b, b = decide (k < k2 ∨ (k = k2 ∧ (s < s2 ∨ (s = s2 ∧ e < e2)))) ∧ Meets Try.prog 74 [.c (.d (eI k)), .agg [.d (eI s), .d (eI e)], .c (.d (eI k2)), .agg [.d (eI s2), .d (eI e2)]] ⟨.one (.c (.d (eB b))), [none, none, none, none]⟩ := by
  obtain ⟨b, hb⟩ : ∃ b, b = decide (k < k2 ∨ (k = k2 ∧ (s < s2 ∨ (s = s2 ∧ e < e2)))) := ⟨_, rfl⟩
  refine ⟨b, hb, ?_⟩
  refine meets_of (H := []) (EX := EXA) ttok mixed Try.func74 rfl (by kernel_rfl) (by decide) ?_
  generalize hA : real = A
  generalize hM : MeetsB Try.prog = M
  cbv
  repeat' first
    | apply And.intro
    | exact True.intro
    | with_reducible rfl
    | exact same_of hA rfl
    | refine br_of hA (fun _ => ?_) (fun _ => ?_)
    | exact imp_of hA id
    | (refine imp_of hA ?_; subst hA; simp only [real, Bool.true_and]; exact id)
    | (refine ind_of hA ?_; decide +kernel)
    | (refine call_ex hA hM (c_l2Less _ _ _ _) (fun _ _ => ?_); cbv)
    | fail
  all_goals subst hA
  all_goals refine congrArg (fun b => XA.one (.c (.d (eB b)))) (Bool.eq_iff_iff.2 ?_)
  all_goals subst_vars
  all_goals try simp only [real, bifA, bifB, bifC, bifD, decide_eq_true_eq, decide_eq_false_iff_not, beq_iff_eq, bne_iff_ne, beq_eq_false_iff_ne, bne_eq_false_iff_eq, ne_eq, Bool.and_eq_true, Bool.or_eq_true, Bool.not_eq_true', Bool.not_eq_false', Bool.and_eq_false_iff, Bool.or_eq_false_iff, Bool.false_eq_true, and_false, false_and, or_false, false_or, and_true, true_and, not_true_eq_false, not_false_eq_true, true_iff, false_iff, IntKind.wrap_i64] at *
  all_goals first
    | omega
    | skip
set_option maxRecDepth 100000 in
theorem c_AggOk (n sum least most : Int) : ∃ b, b = decide ((n = 0 ∧ sum = 0 ∧ least = 0 ∧ most = 0) ∨ (n ≠ 0 ∧ (1 ≤ n ∧ n ≤ 1000) ∧ (-9 ≤ least ∧ least ≤ 9) ∧ (least ≤ most ∧ most ≤ 9) ∧ (IntKind.i64.wrap (n * least) ≤ sum ∧ sum ≤ IntKind.i64.wrap (n * most)))) ∧ Meets Try.prog 118 [.agg [.d (eI n), .d (eI sum), .d (eI least), .d (eI most)]] ⟨.one (.c (.d (eB b))), [none]⟩ := by
  obtain ⟨b, hb⟩ : ∃ b, b = decide ((n = 0 ∧ sum = 0 ∧ least = 0 ∧ most = 0) ∨ (n ≠ 0 ∧ (1 ≤ n ∧ n ≤ 1000) ∧ (-9 ≤ least ∧ least ≤ 9) ∧ (least ≤ most ∧ most ≤ 9) ∧ (IntKind.i64.wrap (n * least) ≤ sum ∧ sum ≤ IntKind.i64.wrap (n * most)))) := ⟨_, rfl⟩
  refine ⟨b, hb, ?_⟩
  refine meets_of (H := []) (EX := EXA) ttok mixed Try.func118 rfl (by kernel_rfl) (by decide) ?_
  generalize hA : real = A
  generalize hM : MeetsB Try.prog = M
  cbv
  repeat' first
    | apply And.intro
    | exact True.intro
    | with_reducible rfl
    | exact same_of hA rfl
    | refine br_of hA (fun _ => ?_) (fun _ => ?_)
    | exact imp_of hA id
    | (refine imp_of hA ?_; subst hA; simp only [real, Bool.true_and]; exact id)
    | (refine ind_of hA ?_; decide +kernel)
    | (refine call_ex hA hM (c_in _ _ _) (fun _ _ => ?_); cbv)
    | fail
  all_goals subst hA
  all_goals refine congrArg (fun b => XA.one (.c (.d (eB b)))) (Bool.eq_iff_iff.2 ?_)
  all_goals subst_vars
  all_goals try simp only [real, bifA, bifB, bifC, bifD, decide_eq_true_eq, decide_eq_false_iff_not, beq_iff_eq, bne_iff_ne, beq_eq_false_iff_ne, bne_eq_false_iff_eq, ne_eq, Bool.and_eq_true, Bool.or_eq_true, Bool.not_eq_true', Bool.not_eq_false', Bool.and_eq_false_iff, Bool.or_eq_false_iff, Bool.false_eq_true, and_false, false_and, or_false, false_or, and_true, true_and, not_true_eq_false, not_false_eq_true, true_iff, false_iff, IntKind.wrap_i64] at *
  all_goals first
    | omega
    | skip
set_option maxRecDepth 100000 in
theorem c_sAggOk (n sum least most : Int) : ∃ b, b = decide ((n = 0 ∧ sum = 0 ∧ least = 0 ∧ most = 0) ∨ (n ≠ 0 ∧ (1 ≤ n ∧ n ≤ 1000) ∧ (-9 ≤ least ∧ least ≤ 9) ∧ (least ≤ most ∧ most ≤ 9) ∧ (IntKind.i64.wrap (n * least) ≤ sum ∧ sum ≤ IntKind.i64.wrap (n * most)))) ∧ Meets Try.prog 113 [.agg [.d (eI n), .d (eI sum), .d (eI least), .d (eI most)]] ⟨.one (.c (.d (eB b))), [none]⟩ := by
  obtain ⟨b, hb⟩ : ∃ b, b = decide ((n = 0 ∧ sum = 0 ∧ least = 0 ∧ most = 0) ∨ (n ≠ 0 ∧ (1 ≤ n ∧ n ≤ 1000) ∧ (-9 ≤ least ∧ least ≤ 9) ∧ (least ≤ most ∧ most ≤ 9) ∧ (IntKind.i64.wrap (n * least) ≤ sum ∧ sum ≤ IntKind.i64.wrap (n * most)))) := ⟨_, rfl⟩
  refine ⟨b, hb, ?_⟩
  refine meets_of (H := []) (EX := EXA) ttok mixed Try.func113 rfl (by kernel_rfl) (by decide) ?_
  generalize hA : real = A
  generalize hM : MeetsB Try.prog = M
  cbv
  repeat' first
    | apply And.intro
    | exact True.intro
    | with_reducible rfl
    | exact same_of hA rfl
    | refine br_of hA (fun _ => ?_) (fun _ => ?_)
    | exact imp_of hA id
    | (refine imp_of hA ?_; subst hA; simp only [real, Bool.true_and]; exact id)
    | (refine ind_of hA ?_; decide +kernel)
    | (refine call_ex hA hM (c_l1In _ _ _) (fun _ _ => ?_); cbv)
    | fail
  all_goals subst hA
  all_goals refine congrArg (fun b => XA.one (.c (.d (eB b)))) (Bool.eq_iff_iff.2 ?_)
  all_goals subst_vars
  all_goals try simp only [real, bifA, bifB, bifC, bifD, decide_eq_true_eq, decide_eq_false_iff_not, beq_iff_eq, bne_iff_ne, beq_eq_false_iff_ne, bne_eq_false_iff_eq, ne_eq, Bool.and_eq_true, Bool.or_eq_true, Bool.not_eq_true', Bool.not_eq_false', Bool.and_eq_false_iff, Bool.or_eq_false_iff, Bool.false_eq_true, and_false, false_and, or_false, false_or, and_true, true_and, not_true_eq_false, not_false_eq_true, true_iff, false_iff, IntKind.wrap_i64] at *
  all_goals first
    | omega
    | skip
end Go.Rk
/- First places. -/
namespace Go.Rk
set_option linter.unusedSimpArgs false
set_option linter.unusedVariables false
open Go.Proofs
def stIxRow1 (n : Nat) (g : Nat → RowT) (F : FuncId) (c0 : DV) (i : Nat) : St := ⟨[(8, .c (.d (eI i))), (7, .c (.d (eI n))), (0, .c (.d (.sl 13 n fun i => eRow (g i)))), (1, .c (.d (.fn F [c0])))], []⟩
set_option maxRecDepth 100000 in
theorem c_IndexRow1 (n : Nat) (hn : n ≤ maxLen) (g : Nat → RowT) (F : FuncId) (c0 : DV) (Q : RowT → Prop) (hc : ∀ r, ∃ b, (b = true ↔ Q r) ∧ Meets Try.prog F [xd (eRow r), .c (.d c0)] ⟨.one (.c (.d (eB b))), [none, none]⟩) : ∃ x, FirstIx n (fun i => Q (g i)) x ∧ Meets Try.prog 122 [.c (.d (.sl 13 n fun i => eRow (g i))), .c (.d (.fn F [c0]))] ⟨.one (.c (.d (eI x))), [none, none]⟩ := by
  obtain ⟨x, hx⟩ := firstIx_ex n fun i => Q (g i)
  refine ⟨x, hx, ?_⟩
  refine meets_of (H := []) (EX := EXA) ttok mixed Try.func122 rfl (by kernel_rfl) (by decide) ?_
  generalize hA : real = A
  generalize hM : MeetsB Try.prog = M
  cbv
  repeat' first
    | apply And.intro
    | exact True.intro
    | with_reducible rfl
    | exact same_of hA rfl
    | refine br_of hA (fun _ => ?_) (fun _ => ?_)
    | exact imp_of hA id
    | (refine imp_of hA ?_; subst hA; simp only [real, Bool.true_and]; exact id)
    | (refine ind_of hA ?_; decide +kernel)
    | fail
  refine loop_of hA (α := { i : Nat // i ≤ n ∧ ∀ j, j < i → ¬ Q (g j) }) (fun x => stIxRow1 n g F c0 x.1) (fun x => n - x.1) ⟨0, Nat.zero_le _, fun j h => absurd h (Nat.not_lt_zero _)⟩ ?_ ?_
  · refine cov_of ?_ ?_ ?_
    · cbv; subst hA; exact ⟨rfl, rfl, trivial⟩
    · cbv
    · cbv
  rintro ⟨i, hi, hb⟩
  cbv
  repeat' first
    | apply And.intro
    | exact True.intro
    | with_reducible rfl
    | exact same_of hA rfl
    | refine br_of hA (fun _ => ?_) (fun _ => ?_)
    | exact imp_of hA id
    | (refine imp_of hA ?_; subst hA; simp only [real, Bool.true_and]; exact id)
    | (refine ind_of hA ?_; decide +kernel)
    | (refine inb_of hA fun _ => ?_; subst hA; simp only [real, decide_eq_true_eq, Int.ofNat_eq_natCast] at *; omega)
    | fail
  · refine call_ex hA hM (hc (g (A.nat (Int.ofNat i)))) (fun b hbb => ?_)
    cbv
    repeat' first
      | apply And.intro
      | exact True.intro
      | with_reducible rfl
      | exact same_of hA rfl
      | refine br_of hA (fun _ => ?_) (fun _ => ?_)
      | exact imp_of hA id
      | (refine imp_of hA ?_; subst hA; simp only [real, Bool.true_and]; exact id)
      | (refine ind_of hA ?_; decide +kernel)
      | fail
    · rename_i hlt ht
      subst hA
      simp only [real, decide_eq_true_eq, Int.ofNat_eq_natCast, Int.toNat_natCast] at *
      obtain rfl := firstIx_one hx (.at i (by omega) (hbb.1 ht) hb)
      rfl
    · rename_i hlt ht
      have hlt' : i < n := by subst hA; simp only [real, decide_eq_true_eq, Int.ofNat_eq_natCast] at hlt; omega
      refine ⟨⟨i + 1, by omega, fun j hj => ?_⟩, by simp only; omega, cov_of ?_ ?_ ?_⟩
      · by_cases e : j = i
        · subst e
          subst hA
          intro hq
          have := hbb.2 hq
          rw [ht] at this
          cases this
        · exact hb j (by omega)
      · cbv
        subst hA
        exact ⟨congrArg (fun x => DV.v (.int .i64 x)) (up64 hlt' hn), trivial⟩
      · cbv
      · cbv
  · subst hA
    simp only [real, decide_eq_false_iff_not, Int.ofNat_eq_natCast] at *
    obtain rfl := firstIx_one hx (.none fun j hj => hb j (by omega))
    rfl
set_option maxRecDepth 100000 in
theorem c_ContainsRow1 (n : Nat) (hn : n ≤ maxLen) (g : Nat → RowT) (F : FuncId) (c0 : DV) (Q : RowT → Prop) (hc : ∀ r, ∃ b, (b = true ↔ Q r) ∧ Meets Try.prog F [xd (eRow r), .c (.d c0)] ⟨.one (.c (.d (eB b))), [none, none]⟩) : ∃ b, (b = true ↔ ∃ i, i < n ∧ Q (g i)) ∧ Meets Try.prog 82 [.c (.d (.sl 13 n fun i => eRow (g i))), .c (.d (.fn F [c0]))] ⟨.one (.c (.d (eB b))), [none, none]⟩ := by
  obtain ⟨x, hx, hm⟩ := c_IndexRow1 n hn g F c0 Q hc
  obtain ⟨b, hb⟩ : ∃ b, b = decide (0 ≤ x) := ⟨_, rfl⟩
  have hxx := firstIx_neg hx
  refine ⟨b, by rw [hb, decide_eq_true_eq]; exact hxx.1, ?_⟩
  refine meets_of (H := []) (EX := EXA) ttok mixed Try.func82 rfl (by kernel_rfl) (by decide) ?_
  generalize hA : real = A
  generalize hM : MeetsB Try.prog = M
  cbv
  repeat' first
    | apply And.intro
    | exact True.intro
    | with_reducible rfl
    | exact same_of hA rfl
    | refine br_of hA (fun _ => ?_) (fun _ => ?_)
    | exact imp_of hA id
    | (refine imp_of hA ?_; subst hA; simp only [real, Bool.true_and]; exact id)
    | (refine ind_of hA ?_; decide +kernel)
    | (refine call_of hA hM _ hm ?_; cbv)
    | fail
  all_goals subst hA
  all_goals refine congrArg (fun b => XA.one (.c (.d (eB b)))) (Bool.eq_iff_iff.2 ?_)
  all_goals subst_vars
  all_goals try simp only [real, bifA, bifB, bifC, bifD, decide_eq_true_eq, decide_eq_false_iff_not, beq_iff_eq, bne_iff_ne, beq_eq_false_iff_ne, bne_eq_false_iff_eq, ne_eq, Bool.and_eq_true, Bool.or_eq_true, Bool.not_eq_true', Bool.not_eq_false', Bool.and_eq_false_iff, Bool.or_eq_false_iff, Bool.false_eq_true, and_false, false_and, or_false, false_or, and_true, true_and, not_true_eq_false, not_false_eq_true, true_iff, false_iff, IntKind.wrap_i64] at *
  all_goals first
    | omega
    | skip
def stIxint0 (n : Nat) (g : Nat → Int) (F : FuncId) (i : Nat) : St := ⟨[(8, .c (.d (eI i))), (7, .c (.d (eI n))), (0, .c (.d (.sl 1 n fun i => [eI (g i)]))), (1, .c (.d (.fn F [])))], []⟩
set_option maxRecDepth 100000 in
theorem c_Indexint0 (n : Nat) (hn : n ≤ maxLen) (g : Nat → Int) (F : FuncId) (Q : Int → Prop) (hc : ∀ r, ∃ b, (b = true ↔ Q r) ∧ Meets Try.prog F [.c (.d (eI r))] ⟨.one (.c (.d (eB b))), [none]⟩) : ∃ x, FirstIx n (fun i => Q (g i)) x ∧ Meets Try.prog 123 [.c (.d (.sl 1 n fun i => [eI (g i)])), .c (.d (.fn F []))] ⟨.one (.c (.d (eI x))), [none, none]⟩ := by
  obtain ⟨x, hx⟩ := firstIx_ex n fun i => Q (g i)
  refine ⟨x, hx, ?_⟩
  refine meets_of (H := []) (EX := EXA) ttok mixed Try.func123 rfl (by kernel_rfl) (by decide) ?_
  generalize hA : real = A
  generalize hM : MeetsB Try.prog = M
  cbv
  repeat' first
    | apply And.intro
    | exact True.intro
    | with_reducible rfl
    | exact same_of hA rfl
    | refine br_of hA (fun _ => ?_) (fun _ => ?_)
    | exact imp_of hA id
    | (refine imp_of hA ?_; subst hA; simp only [real, Bool.true_and]; exact id)
    | (refine ind_of hA ?_; decide +kernel)
    | fail
  refine loop_of hA (α := { i : Nat // i ≤ n ∧ ∀ j, j < i → ¬ Q (g j) }) (fun x => stIxint0 n g F x.1) (fun x => n - x.1) ⟨0, Nat.zero_le _, fun j h => absurd h (Nat.not_lt_zero _)⟩ ?_ ?_
  · refine cov_of ?_ ?_ ?_
    · cbv; subst hA; exact ⟨rfl, rfl, trivial⟩
    · cbv
    · cbv
  rintro ⟨i, hi, hb⟩
  cbv
  repeat' first
    | apply And.intro
    | exact True.intro
    | with_reducible rfl
    | exact same_of hA rfl
    | refine br_of hA (fun _ => ?_) (fun _ => ?_)
    | exact imp_of hA id
    | (refine imp_of hA ?_; subst hA; simp only [real, Bool.true_and]; exact id)
    | (refine ind_of hA ?_; decide +kernel)
    | (refine inb_of hA fun _ => ?_; subst hA; simp only [real, decide_eq_true_eq, Int.ofNat_eq_natCast] at *; omega)
    | fail
  · refine call_ex hA hM (hc (g (A.nat (Int.ofNat i)))) (fun b hbb => ?_)
    cbv
    repeat' first
      | apply And.intro
      | exact True.intro
      | with_reducible rfl
      | exact same_of hA rfl
      | refine br_of hA (fun _ => ?_) (fun _ => ?_)
      | exact imp_of hA id
      | (refine imp_of hA ?_; subst hA; simp only [real, Bool.true_and]; exact id)
      | (refine ind_of hA ?_; decide +kernel)
      | fail
    · rename_i hlt ht
      subst hA
      simp only [real, decide_eq_true_eq, Int.ofNat_eq_natCast, Int.toNat_natCast] at *
      obtain rfl := firstIx_one hx (.at i (by omega) (hbb.1 ht) hb)
      rfl
    · rename_i hlt ht
      have hlt' : i < n := by subst hA; simp only [real, decide_eq_true_eq, Int.ofNat_eq_natCast] at hlt; omega
      refine ⟨⟨i + 1, by omega, fun j hj => ?_⟩, by simp only; omega, cov_of ?_ ?_ ?_⟩
      · by_cases e : j = i
        · subst e
          subst hA
          intro hq
          have := hbb.2 hq
          rw [ht] at this
          cases this
        · exact hb j (by omega)
      · cbv
        subst hA
        exact ⟨congrArg (fun x => DV.v (.int .i64 x)) (up64 hlt' hn), trivial⟩
      · cbv
      · cbv
  · subst hA
    simp only [real, decide_eq_false_iff_not, Int.ofNat_eq_natCast] at *
    obtain rfl := firstIx_one hx (.none fun j hj => hb j (by omega))
    rfl
set_option maxRecDepth 100000 in
theorem c_Containsint0 (n : Nat) (hn : n ≤ maxLen) (g : Nat → Int) (F : FuncId) (Q : Int → Prop) (hc : ∀ r, ∃ b, (b = true ↔ Q r) ∧ Meets Try.prog F [.c (.d (eI r))] ⟨.one (.c (.d (eB b))), [none]⟩) : ∃ b, (b = true ↔ ∃ i, i < n ∧ Q (g i)) ∧ Meets Try.prog 83 [.c (.d (.sl 1 n fun i => [eI (g i)])), .c (.d (.fn F []))] ⟨.one (.c (.d (eB b))), [none, none]⟩ := by
  obtain ⟨x, hx, hm⟩ := c_Indexint0 n hn g F Q hc
  obtain ⟨b, hb⟩ : ∃ b, b = decide (0 ≤ x) := ⟨_, rfl⟩
  have hxx := firstIx_neg hx
  refine ⟨b, by rw [hb, decide_eq_true_eq]; exact hxx.1, ?_⟩
  refine meets_of (H := []) (EX := EXA) ttok mixed Try.func83 rfl (by kernel_rfl) (by decide) ?_
  generalize hA : real = A
  generalize hM : MeetsB Try.prog = M
  cbv
  repeat' first
    | apply And.intro
    | exact True.intro
    | with_reducible rfl
    | exact same_of hA rfl
    | refine br_of hA (fun _ => ?_) (fun _ => ?_)
    | exact imp_of hA id
    | (refine imp_of hA ?_; subst hA; simp only [real, Bool.true_and]; exact id)
    | (refine ind_of hA ?_; decide +kernel)
    | (refine call_of hA hM _ hm ?_; cbv)
    | fail
  all_goals subst hA
  all_goals refine congrArg (fun b => XA.one (.c (.d (eB b)))) (Bool.eq_iff_iff.2 ?_)
  all_goals subst_vars
  all_goals try simp only [real, bifA, bifB, bifC, bifD, decide_eq_true_eq, decide_eq_false_iff_not, beq_iff_eq, bne_iff_ne, beq_eq_false_iff_ne, bne_eq_false_iff_eq, ne_eq, Bool.and_eq_true, Bool.or_eq_true, Bool.not_eq_true', Bool.not_eq_false', Bool.and_eq_false_iff, Bool.or_eq_false_iff, Bool.false_eq_true, and_false, false_and, or_false, false_or, and_true, true_and, not_true_eq_false, not_false_eq_true, true_iff, false_iff, IntKind.wrap_i64] at *
  all_goals first
    | omega
    | skip
end Go.Rk
/- Rows. -/
namespace Go.Rk
set_option linter.unusedSimpArgs false
set_option linter.unusedVariables false
open Go.Proofs
theorem beqB (a b : Bool) : ((a == b) = true) = (a = true ↔ b = true) := by cases a <;> cases b <;> simp
theorem beqI (a b : Int) : ((a == b) = true) = (a = b) := by simp
theorem bneI (a b : Int) : ((a != b) = true) = ¬ (a = b) := by simp
theorem beqIF (a b : Int) : ((a == b) = false) = ¬ (a = b) := by simp
theorem bneIF (a b : Int) : ((a != b) = false) = (a = b) := by simp
open Classical in
set_option maxRecDepth 100000 in
theorem c_rowOk (j : JobT) (r : RowT) (mark : Int) : ∃ b, (b = true ↔ RowOkP j r mark) ∧ Meets Try.prog 78 [xd (eRow r), xd (eJob j), .c (.d (eI mark))] ⟨.one (.c (.d (eB b))), [none, none, none]⟩ := by
  obtain ⟨b, hb⟩ : ∃ b, b = decide (RowOkP j r mark) := ⟨_, rfl⟩
  refine ⟨b, by rw [hb, decide_eq_true_eq], ?_⟩
  refine meets_of (H := []) (EX := EXA) ttok mixed Try.func78 rfl (by kernel_rfl) (by decide) ?_
  generalize hA : real = A
  generalize hM : MeetsB Try.prog = M
  cbv
  repeat' first
    | apply And.intro
    | exact True.intro
    | with_reducible rfl
    | exact same_of hA rfl
    | refine br_of hA (fun _ => ?_) (fun _ => ?_)
    | exact imp_of hA id
    | (refine imp_of hA ?_; subst hA; simp only [real, Bool.true_and]; exact id)
    | (refine ind_of hA ?_; decide +kernel)
    | (refine call_ex hA hM (c_in _ _ _) (fun _ _ => ?_); cbv)
    | (refine call_ex hA hM (c_isKey _) (fun _ _ => ?_); cbv)
    | (refine call_ex hA hM (c_WinOk _ _) (fun _ _ => ?_); cbv)
    | (refine call_ex hA hM (c_AggOk _ _ _ _) (fun _ _ => ?_); cbv)
    | fail
  all_goals obtain ⟨key, ⟨s, e⟩, ⟨n1, sum1, least1, most1⟩, ⟨n2, sum2, least2, most2⟩, told, timely⟩ := r
  all_goals obtain ⟨_, _, _, _, _, late, _, _, _, _⟩ := j
  all_goals subst hA
  all_goals refine congrArg (fun b => XA.one (.c (.d (eB b)))) (Bool.eq_iff_iff.2 ?_)
  all_goals subst_vars
  all_goals simp only [real, bifA, bifB, bifC, bifD, beqB, decide_eq_true_eq, decide_eq_false_iff_not, beqI, bneI, beqIF, bneIF, ne_eq, Bool.and_eq_true, Bool.or_eq_true, Bool.not_eq_true', Bool.not_eq_false', Bool.and_eq_false_iff, Bool.or_eq_false_iff, Bool.false_eq_true, and_false, false_and, or_false, false_or, and_true, true_and, not_true_eq_false, not_false_eq_true, true_iff, false_iff, IntKind.wrap_i64, RowOkP, WinOkP, AggOkP] at *
  all_goals first
    | omega
    | (cases timely <;> simp only [true_iff, false_iff, iff_true, iff_false, Bool.false_eq_true, not_true_eq_false, not_false_eq_true, reduceCtorEq] at * <;> omega)
open Classical in
set_option maxRecDepth 100000 in
theorem c_l7Row (j : JobT) (r : RowT) (mark : Int) : ∃ b, (b = true ↔ RowOkP j r mark) ∧ Meets Try.prog 73 [xd (eJob j), xd (eRow r), .c (.d (eI mark))] ⟨.one (.c (.d (eB b))), [none, none, none]⟩ := by
  obtain ⟨b, hb⟩ : ∃ b, b = decide (RowOkP j r mark) := ⟨_, rfl⟩
  refine ⟨b, by rw [hb, decide_eq_true_eq], ?_⟩
  refine meets_of (H := []) (EX := EXA) ttok mixed Try.func73 rfl (by kernel_rfl) (by decide) ?_
  generalize hA : real = A
  generalize hM : MeetsB Try.prog = M
  cbv
  repeat' first
    | apply And.intro
    | exact True.intro
    | with_reducible rfl
    | exact same_of hA rfl
    | refine br_of hA (fun _ => ?_) (fun _ => ?_)
    | exact imp_of hA id
    | (refine imp_of hA ?_; subst hA; simp only [real, Bool.true_and]; exact id)
    | (refine ind_of hA ?_; decide +kernel)
    | (refine call_ex hA hM (c_l1In _ _ _) (fun _ _ => ?_); cbv)
    | (refine call_ex hA hM (c_sWinOk _ _) (fun _ _ => ?_); cbv)
    | (refine call_ex hA hM (c_sAggOk _ _ _ _) (fun _ _ => ?_); cbv)
    | fail
  all_goals obtain ⟨key, ⟨s, e⟩, ⟨n1, sum1, least1, most1⟩, ⟨n2, sum2, least2, most2⟩, told, timely⟩ := r
  all_goals obtain ⟨_, _, _, _, _, late, _, _, _, _⟩ := j
  all_goals subst hA
  all_goals refine congrArg (fun b => XA.one (.c (.d (eB b)))) (Bool.eq_iff_iff.2 ?_)
  all_goals subst_vars
  all_goals simp only [real, bifA, bifB, bifC, bifD, beqB, decide_eq_true_eq, decide_eq_false_iff_not, beqI, bneI, beqIF, bneIF, ne_eq, Bool.and_eq_true, Bool.or_eq_true, Bool.not_eq_true', Bool.not_eq_false', Bool.and_eq_false_iff, Bool.or_eq_false_iff, Bool.false_eq_true, and_false, false_and, or_false, false_or, and_true, true_and, not_true_eq_false, not_false_eq_true, true_iff, false_iff, IntKind.wrap_i64, RowOkP, WinOkP, AggOkP] at *
  all_goals first
    | omega
    | (cases timely <;> simp only [true_iff, false_iff, iff_true, iff_false, Bool.false_eq_true, not_true_eq_false, not_false_eq_true, reduceCtorEq] at * <;> omega)
end Go.Rk
/- Operators. -/
namespace Go.Rk
set_option linter.unusedSimpArgs false
set_option linter.unusedVariables false
open Go.Proofs
def OkAt (j : JobT) (mark : Int) (g : Nat → RowT) (i : Nat) : Prop := RowOkP j (g i) mark ∧ (0 < i → AheadP (g (i - 1)).key (g (i - 1)).win (g i).key (g i).win) ∧
    (j.kind = 3 → ∀ k, k < i → ¬ ((g k).key = (g i).key ∧ TouchP (g k).win (g i).win))
theorem down64 {i : Nat} (h : 0 < i) (hn : i ≤ maxLen) : (IntKind.i64.wrap ((i : Int) - 1)).toNat = i - 1 := by
  have hm : maxLen = 9223372036854775807 := by decide
  rw [hm] at hn
  rw [IntWalk.i64_in _ (by omega)]
  omega
theorem c_rcmpA (r q : RowT) : ∃ x : Int, (x < 0 ↔ AheadP r.key r.win q.key q.win) ∧ Meets Try.prog 79 [xd (eRow r), xd (eRow q)] ⟨.one (.c (.d (eI x))), [none, none]⟩ := by
  obtain ⟨x, hx, hm⟩ := c_rcompare r q
  refine ⟨x, ?_, hm⟩
  unfold AheadP WinLt
  omega
set_option maxRecDepth 100000 in
theorem c_OpOk1 (r q : RowT) : ∃ b, (b = true ↔ q.key = r.key ∧ TouchP q.win r.win) ∧ Meets Try.prog 80 [xd (eRow q), .c (.d (.p (eRow r)))] ⟨.one (.c (.d (eB b))), [none, none]⟩ := by
  obtain ⟨b, hb⟩ : ∃ b, b = decide (q.key = r.key ∧ q.win.s < r.win.e ∧ r.win.s < q.win.e) := ⟨_, rfl⟩
  refine ⟨b, by rw [hb, decide_eq_true_eq]; exact Iff.rfl, ?_⟩
  refine meets_of (H := []) (EX := EXA) ttok mixed Try.func80 rfl (by kernel_rfl) (by decide) ?_
  generalize hA : real = A
  generalize hM : MeetsB Try.prog = M
  cbv
  repeat' first
    | apply And.intro
    | exact True.intro
    | with_reducible rfl
    | exact same_of hA rfl
    | refine br_of hA (fun _ => ?_) (fun _ => ?_)
    | exact imp_of hA id
    | (refine imp_of hA ?_; subst hA; simp only [real, Bool.true_and]; exact id)
    | (refine ind_of hA ?_; decide +kernel)
    | (refine call_ex hA hM (c_WinTouch _ _ _ _) (fun _ _ => ?_); cbv)
    | fail
  all_goals subst hA
  all_goals refine congrArg (fun b => XA.one (.c (.d (eB b)))) (Bool.eq_iff_iff.2 ?_)
  all_goals subst_vars
  all_goals try simp only [real, bifA, bifB, bifC, bifD, decide_eq_true_eq, decide_eq_false_iff_not, beq_iff_eq, bne_iff_ne, beq_eq_false_iff_ne, bne_eq_false_iff_eq, ne_eq, Bool.and_eq_true, Bool.or_eq_true, Bool.not_eq_true', Bool.not_eq_false', Bool.and_eq_false_iff, Bool.or_eq_false_iff, Bool.false_eq_true, and_false, false_and, or_false, false_or, and_true, true_and, not_true_eq_false, not_false_eq_true, true_iff, false_iff, IntKind.wrap_i64] at *
  all_goals first
    | omega
    | skip
def stOk (j : JobT) (mark : Int) (n : Nat) (g : Nat → RowT) (i : Nat) : St := ⟨[(26, .c (.d (eI i))), (25, .c (.d (eI n))), (24, .c (.d (.sl 13 n fun i => eRow (g i)))), (2, .c (.bp 128 1 0)), (3, .c (.bp 192 1 0))], [(128, 1, .box ((eJob j).map .d)), (192, 1, .box ([eI mark, .sl 13 n fun i => eRow (g i)].map .d))]⟩
open Classical in
set_option maxRecDepth 100000 in
theorem c_OpOk (j : JobT) (s : OpStT) : ∃ b, (b = true ↔ OpOkP j s) ∧ Meets Try.prog 36 [xd (eJob j), xd (eOpSt s)] ⟨.one (.c (.d (eB b))), [none, none]⟩ := by
  obtain ⟨b, hb⟩ : ∃ b : Bool, (b = true ↔ OpOkP j s) := ⟨decide (OpOkP j s), by rw [decide_eq_true_eq]⟩
  refine ⟨b, hb, ?_⟩
  obtain ⟨mark, n, g, hn⟩ := s
  show Meets Try.prog 36 [xd (eJob j), xd [eI mark, .sl 13 n fun i => eRow (g i)]] _
  refine meets_of (H := []) (EX := EXA) ttok mixed Try.func36 rfl (by kernel_rfl) (by decide) ?_
  generalize hA : real = A
  generalize hM : MeetsB Try.prog = M
  cbv
  repeat' first
    | apply And.intro
    | exact True.intro
    | with_reducible rfl
    | exact same_of hA rfl
    | refine br_of hA (fun _ => ?_) (fun _ => ?_)
    | exact imp_of hA id
    | (refine imp_of hA ?_; subst hA; simp only [real, Bool.true_and]; exact id)
    | (refine ind_of hA ?_; decide +kernel)
    | (refine call_ex hA hM (c_JobOk _ _ _ _ _ _ _ _ _ _) (fun _ _ => ?_); cbv)
    | (refine call_ex hA hM (c_isTime _) (fun _ _ => ?_); cbv)
    | fail
  · rename_i hbad
    subst hA; subst_vars
    refine congrArg (fun b => XA.one (.c (.d (eB b)))) ?_
    simp only [real, bifA, bifB, bifC, bifD, beqB, decide_eq_true_eq, decide_eq_false_iff_not, beqI, bneI, beqIF, bneIF, ne_eq, Bool.and_eq_true, Bool.or_eq_true, Bool.not_eq_true', Bool.not_eq_false', Bool.and_eq_false_iff, Bool.or_eq_false_iff, Bool.false_eq_true, and_false, false_and, or_false, false_or, and_true, true_and, not_true_eq_false, not_false_eq_true, true_iff, false_iff, Int.ofNat_eq_natCast, Int.toNat_natCast] at hbad
    cases b with
    | false => rfl
    | true =>
      exfalso
      obtain ⟨h1, h2, h3, _⟩ := hb.1 rfl
      unfold JobOkP at h1
      simp only at h2 h3
      omega
  rename_i hgood
  have hpre : JobOkP j ∧ (0 ≤ mark ∧ mark ≤ 1000) ∧ n ≤ 300 := by
    subst hA; subst_vars
    simp only [real, bifA, bifB, bifC, bifD, beqB, decide_eq_true_eq, decide_eq_false_iff_not, beqI, bneI, beqIF, bneIF, ne_eq, Bool.and_eq_true, Bool.or_eq_true, Bool.not_eq_true', Bool.not_eq_false', Bool.and_eq_false_iff, Bool.or_eq_false_iff, Bool.false_eq_true, and_false, false_and, or_false, false_or, and_true, true_and, not_true_eq_false, not_false_eq_true, true_iff, false_iff, Int.ofNat_eq_natCast, Int.toNat_natCast] at hgood
    unfold JobOkP
    omega
  clear hgood
  refine loop_of hA (α := { i : Nat // i ≤ n ∧ ∀ k, k < i → OkAt j mark g k }) (fun x => stOk j mark n g x.1) (fun x => n - x.1) ⟨0, Nat.zero_le _, fun j h => absurd h (Nat.not_lt_zero _)⟩ ?_ ?_
  · refine cov_of ?_ ?_ ?_
    · cbv; subst hA; repeat' first | apply And.intro | exact True.intro | rfl
    · cbv; try (repeat' first | apply And.intro | exact True.intro | rfl)
    · cbv
  rintro ⟨i, hi, hk⟩
  cbv
  repeat' first
    | apply And.intro
    | exact True.intro
    | with_reducible rfl
    | exact same_of hA rfl
    | refine br_of hA (fun _ => ?_) (fun _ => ?_)
    | exact imp_of hA id
    | (refine imp_of hA ?_; subst hA; simp only [real, Bool.true_and]; exact id)
    | (refine ind_of hA ?_; decide +kernel)
    | (refine call_ex hA hM (c_rowOk _ _ _) (fun _ _ => ?_); cbv)
    | (refine call_ex hA hM (c_rcmpA _ _) (fun _ _ => ?_); cbv)
    | (refine inb_of hA fun _ => ?_; subst hA; simp only [real, Bool.and_eq_true, Bool.not_eq_true', Bool.not_eq_false', decide_eq_true_eq, Int.ofNat_eq_natCast, IntKind.wrap_i64] at *; omega)
    | (refine cut_of hA ?_; subst hA; simp only [real, decide_eq_true_eq, Int.ofNat_eq_natCast] at *; omega)
    | (refine call_ex2 hA hM (c_ContainsRow1 i (Nat.le_trans hi hn) g 80 (.p (eRow (g (A.nat (Int.ofNat i))))) _ (fun q => c_OpOk1 (g (A.nat (Int.ofNat i))) q)) (congrArg (fun d => [XT.c (.d d), XT.c (.d (.fn 80 [.p (eRow (g (A.nat (Int.ofNat i))))]))]) (sl0 hA _ _ _)) (fun _ _ => ?_); cbv)
  · rename_i hlt b1 hb1 x hx hc
    subst hA
    refine congrArg (fun b => XA.one (.c (.d (eB b)))) ?_
    simp only [real, bifA, bifB, bifC, bifD, beqB, decide_eq_true_eq, decide_eq_false_iff_not, beqI, bneI, beqIF, bneIF, ne_eq, Bool.and_eq_true, Bool.or_eq_true, Bool.not_eq_true', Bool.not_eq_false', Bool.and_eq_false_iff, Bool.or_eq_false_iff, Bool.false_eq_true, and_false, false_and, or_false, false_or, and_true, true_and, not_true_eq_false, not_false_eq_true, true_iff, false_iff, Int.ofNat_eq_natCast, Int.toNat_natCast] at hlt hb1 hx hc
    cases b with
    | false => rfl
    | true =>
      exfalso
      have h : OkAt j mark g i := (hb.1 rfl).2.2.2 i (show i < n by omega)
      rcases hc with hc | hc
      · have := hb1.2 h.1; rw [hc] at this; cases this
      · rw [down64 (by omega) (Nat.le_trans hi hn)] at hx
        have := hx.2 (h.2.1 (by omega)); omega
  · rename_i hlt b1 hb1 x hx hc b2 hb2 hc2
    subst hA
    refine congrArg (fun b => XA.one (.c (.d (eB b)))) ?_
    simp only [real, bifA, bifB, bifC, bifD, beqB, decide_eq_true_eq, decide_eq_false_iff_not, beqI, bneI, beqIF, bneIF, ne_eq, Bool.and_eq_true, Bool.or_eq_true, Bool.not_eq_true', Bool.not_eq_false', Bool.and_eq_false_iff, Bool.or_eq_false_iff, Bool.false_eq_true, and_false, false_and, or_false, false_or, and_true, true_and, not_true_eq_false, not_false_eq_true, true_iff, false_iff, Int.ofNat_eq_natCast, Int.toNat_natCast] at hlt hb2 hc2
    cases b with
    | false => rfl
    | true =>
      exfalso
      have h : OkAt j mark g i := (hb.1 rfl).2.2.2 i (show i < n by omega)
      obtain ⟨k, hk1, hk2⟩ := hb2.1 hc2.2
      exact h.2.2 hc2.1 k hk1 hk2
  · rename_i hlt b1 hb1 x hx hc b2 hb2 hc2
    have hlt' : i < n := by subst hA; simp only [real, decide_eq_true_eq, Int.ofNat_eq_natCast] at hlt; omega
    refine ⟨⟨i + 1, by omega, fun k hk' => ?_⟩, by simp only; omega, cov_of ?_ ?_ ?_⟩
    · by_cases e : k = i
      · subst e
        subst hA
        simp only [real, bifA, bifB, bifC, bifD, beqB, decide_eq_true_eq, decide_eq_false_iff_not, beqI, bneI, beqIF, bneIF, ne_eq, Bool.and_eq_true, Bool.or_eq_true, Bool.not_eq_true', Bool.not_eq_false', Bool.and_eq_false_iff, Bool.or_eq_false_iff, Bool.false_eq_true, and_false, false_and, or_false, false_or, and_true, true_and, not_true_eq_false, not_false_eq_true, true_iff, false_iff, Int.ofNat_eq_natCast, Int.toNat_natCast] at hlt hb1 hx hc hb2 hc2
        refine ⟨hb1.1 (by cases b1 <;> simp_all), fun hp => ?_, fun h3 q hq hqq => ?_⟩
        · rw [down64 hp (Nat.le_trans hi hn)] at hx
          refine hx.1 ?_
          rcases hc.2 with h | h <;> omega
        · rcases hc2 with h | h
          · exact h h3
          · have := hb2.2 ⟨q, hq, hqq⟩; rw [h] at this; cases this
      · exact hk k (by omega)
    · cbv
      subst hA
      exact ⟨congrArg (fun x => DV.v (.int .i64 x)) (up64 hlt' hn), trivial⟩
    · cbv; try (repeat' first | apply And.intro | exact True.intro | rfl)
    · cbv
  · rename_i hge
    refine congrArg (fun b => XA.one (.c (.d (eB b)))) ?_
    refine (hb.2 ⟨hpre.1, hpre.2.1, hpre.2.2, fun k hk' => ?_⟩).symm
    have hk' : k < n := hk'
    exact hk k (by subst hA; simp only [real, decide_eq_false_iff_not, Int.ofNat_eq_natCast] at hge; omega)
end Go.Rk
