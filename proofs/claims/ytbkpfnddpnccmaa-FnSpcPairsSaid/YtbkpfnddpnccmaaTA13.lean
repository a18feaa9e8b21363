/- Draws: lists. -/
import Derived.Test.YtbkpfnddpnccmaaTA12
import Derived.Test.YtbkpfnddpnccmaaDDr
namespace Go.Rk
set_option linter.unusedSimpArgs false
set_option linter.unusedVariables false
open Go.Proofs
set_option maxRecDepth 100000
set_option maxHeartbeats 1000000
def st_recs (m : Nat) (b : Nat → Int) (n kk pz : Int) (i : Nat) (row : Nat → List DV) : St := ⟨[(6, .c (.d (eI kk))), (0, .c (.bp 0 1 0)), (1, .c (.d (eI n))), (5, .c (.own 512 0 i 1))], [(0, 1, .box [.d (.sl 1 m fun i => [eU (b i)]), .d (eI pz)]), (512, 1, .arr 5 i row)]⟩
theorem c_recs (m : Nat) (hm : m ≤ 2000) (b : Nat → Int) (hb : ∀ i, 0 ≤ b i ∧ b i ≤ 255) (p : Int) (hp : 0 ≤ p ∧ p ≤ 30000) (n : Int) (hn : 1 ≤ n ∧ n ≤ 100) : ∃ (cnt : Nat) (G : Nat → ItmT) (q : Int), cnt ≤ 15 ∧ Meets Try.prog 73 [.c (.box [.d (.sl 1 m fun i => [eU (b i)]), .d (eI p)]), .c (.d (eI n))] ⟨.one (.c (.own 5 cnt fun i => eItm (G i))), [some (.box [.d (.sl 1 m fun i => [eU (b i)]), .d (eI q)]), none]⟩ := by
  have hRe : ∀ z : Int, ∃ it : ItmT, (0 ≤ z ∧ z ≤ 100000) → ∀ q : Int, q = z + 4 → Meets Try.prog 110 [.c (.box [.d (.sl 1 m fun i => [eU (b i)]), .d (eI z)])] ⟨.one (xd (eItm it)), [some (.box [.d (.sl 1 m fun i => [eU (b i)]), .d (eI q)])]⟩ := fun z => by
    by_cases hz : 0 ≤ z ∧ z ≤ 100000
    · obtain ⟨it, hit⟩ := c_rec m hm b hb z hz (z + 4) rfl
      exact ⟨it, fun _ q hq => by rw [hq]; exact hit⟩
    · exact ⟨⟨0, 0, 0, 0, 0⟩, fun h => absurd h hz⟩
  obtain ⟨R, hR⟩ : ∃ R : Int → ItmT, ∀ z : Int, (0 ≤ z ∧ z ≤ 100000) → ∀ q : Int, q = z + 4 → Meets Try.prog 110 [.c (.box [.d (.sl 1 m fun i => [eU (b i)]), .d (eI z)])] ⟨.one (xd (eItm (R z))), [some (.box [.d (.sl 1 m fun i => [eU (b i)]), .d (eI q)])]⟩ := ⟨fun z => (hRe z).choose, fun z => (hRe z).choose_spec⟩
  obtain ⟨x0, hx0⟩ : ∃ x : Int, x = pickV m b p 14 := ⟨_, rfl⟩
  obtain ⟨p1, hp1⟩ : ∃ z : Int, z = p + 1 := ⟨_, rfl⟩
  have c0 := m_pick m hm b hb p (by omega) 14 (by omega) x0 hx0 p1 hp1
  have i0 := pickV_in (m := m) (b := b) (p := p) (n := 14) hb (by omega) (by omega)
  rw [← hx0] at i0
  obtain ⟨N, hN⟩ : ∃ N : Nat, (N : Int) = x0 := ⟨x0.toNat, Int.toNat_of_nonneg i0.1⟩
  have hN13 : N ≤ 13 := by omega
  obtain ⟨pe, hpe⟩ : ∃ z : Int, z = p1 + 5 * (N : Int) := ⟨_, rfl⟩
  obtain ⟨x1, hx1⟩ : ∃ x : Int, x = pickV m b pe n := ⟨_, rfl⟩
  obtain ⟨p2, hp2⟩ : ∃ z : Int, z = pe + 1 := ⟨_, rfl⟩
  have c1 := m_pick m hm b hb pe (by omega) n (by omega) x1 hx1 p2 hp2
  have i1 := pickV_in (m := m) (b := b) (p := pe) (n := n) hb (by omega) (by omega)
  rw [← hx1] at i1
  obtain ⟨itl, ql, hql, hitl⟩ := c_item m hm b hb p2 (by omega) 2 (by omega)
  obtain ⟨G, hG⟩ : ∃ G : Nat → ItmT, G = fun i => if i = N then itl else { R (p1 + 5 * (i : Int)) with key := pickV m b (p1 + 5 * (i : Int) + 4) 2 } := ⟨_, rfl⟩
  obtain ⟨cnt, hcnt⟩ : ∃ c : Nat, c = bif (x1 == 0) then N + 1 else N := ⟨_, rfl⟩
  obtain ⟨q, hq⟩ : ∃ z : Int, z = bif (x1 == 0) then ql else p2 := ⟨_, rfl⟩
  refine ⟨cnt, G, q, by rw [hcnt]; cases (x1 == 0) <;> simp only [cond_true, cond_false] <;> omega, ?_⟩
  refine meets_of (H := [10]) (EX := EXA) ttok mixed Try.func73 rfl (by kernel_rfl) (by decide) ?_
  generalize hA : real = A
  generalize hM : Meets Try.prog = M
  cbv
  repeat' first
    | apply And.intro
    | exact True.intro
    | with_reducible rfl
    | exact same_of hA rfl
    | refine br_of hA (fun _ => ?_) (fun _ => ?_)
    | exact imp_of hA id
    | (refine imp_of hA ?_; subst hA; simp only [real, Bool.true_and]; exact id)
    | (refine ind_of hA ?_; decide +kernel)
    | (refine call_of hA hM _ c0 ?_; cbv)
  refine loop_of hA (α := { y : Nat × Int × Int × (Nat → List DV) // y.1 ≤ N ∧ y.2.1 = x0 - (y.1 : Int) ∧ y.2.2.1 = p1 + 5 * (y.1 : Int) ∧ ∀ j, j < y.1 → y.2.2.2 j = eItm (G j) }) (fun y => st_recs m b n y.1.2.1 y.1.2.2.1 y.1.1 y.1.2.2.2) (fun y => N - y.1.1) ⟨(0, x0, p1, fun _ => []), Nat.zero_le _, by simp, by simp, fun j h => absurd h (Nat.not_lt_zero j)⟩ ?_ ?_
  · refine cov_of ?_ ?_ ?_
    · cbv; try (subst hA; repeat' first | apply And.intro | exact True.intro | rfl)
    · cbv; try (subst hA; repeat' first | apply And.intro | exact True.intro | rfl | (intro k hk; exact absurd hk (Nat.not_lt_zero k)))
    · cbv; try (subst hA; repeat' first | apply And.intro | exact True.intro | rfl | exact .inr trivial | exact .inr (Nat.le_refl _))
  rintro ⟨⟨i, kk, pz, row⟩, hi, hkk, hpz, hr⟩
  have hi : i ≤ N := hi
  have hkk : kk = x0 - (i : Int) := hkk
  have hpz : pz = p1 + 5 * (i : Int) := hpz
  have hr : ∀ j, j < i → row j = eItm (G j) := hr
  have hpzr : 0 ≤ pz ∧ pz ≤ 90000 := by omega
  obtain ⟨r1, hr1⟩ : ∃ z : Int, z = pz + 4 := ⟨_, rfl⟩
  have cR := hR pz (by omega) r1 hr1
  obtain ⟨xk, hxk⟩ : ∃ x : Int, x = pickV m b r1 2 := ⟨_, rfl⟩
  obtain ⟨r2, hr2⟩ : ∃ z : Int, z = r1 + 1 := ⟨_, rfl⟩
  have cK := m_pick m hm b hb r1 (by omega) 2 (by omega) xk hxk r2 hr2
  have wk : IntKind.i64.wrap (kk - 1) = kk - 1 := IntWalk.i64_in _ (by omega)
  cbv
  repeat' first
    | apply And.intro
    | exact True.intro
    | with_reducible rfl
    | exact same_of hA rfl
    | refine br_of hA (fun _ => ?_) (fun _ => ?_)
    | exact imp_of hA id
    | (refine imp_of hA ?_; subst hA; simp only [real, Bool.true_and]; exact id)
    | (refine ind_of hA ?_; decide +kernel)
    | (refine call_of hA hM _ cR ?_; cbv)
    | (refine call_of hA hM _ cK ?_; cbv)
    | exact room_add hA (by omega) (by decide)
  · rename_i hgt
    have hgt' : kk > 0 := by subst hA; exact of_decide_eq_true (show decide (kk > 0) = true from hgt)
    have hN : (N : Int) = x0 := hN
    have hkk : kk = x0 - (i : Int) := hkk
    have hpz : pz = p1 + 5 * (i : Int) := hpz
    have hpe : pe = p1 + 5 * (N : Int) := hpe
    have hiN : i < N := by omega
    obtain ⟨kk2, hkk2⟩ : ∃ z : Int, z = x0 - ((i + 1 : Nat) : Int) := ⟨_, rfl⟩
    have wk2 : IntKind.i64.wrap (kk - 1) = kk2 := by rw [wk]; omega
    refine ⟨⟨(i + 1, kk2, r2, fun k => if k < i then row k else eItm { R pz with key := xk }), by simp only; omega, hkk2, (show r2 = p1 + 5 * ((i + 1 : Nat) : Int) by omega), fun k hk => ?_⟩, by simp only; omega, cov_of ?_ ?_ ?_⟩
    · have hk : k < i + 1 := hk
      show (if k < i then row k else eItm { R pz with key := xk }) = eItm (G k)
      by_cases hki : k < i
      · rw [if_pos hki]; exact hr k hki
      · have e : k = i := by omega
        rw [if_neg hki, e, hG]
        show eItm { R pz with key := xk } = eItm (if i = N then itl else { R (p1 + 5 * (i : Int)) with key := pickV m b (p1 + 5 * (i : Int) + 4) 2 })
        rw [if_neg (by omega), hxk, hr1, hpz]
    · cbv
      subst hA
      repeat' first | apply And.intro | exact True.intro | exact congrArg (fun x => DV.v (.int .i64 x)) wk2 | rfl
    · cbv
      subst hA
      repeat' first | apply And.intro | exact True.intro | rfl | (intro k hk; exact push_at rfl _ _ _ _ k hk)
    · cbv; try (subst hA; repeat' first | apply And.intro | exact True.intro | rfl | exact .inr trivial | exact .inr (Nat.le_refl _))
  · rename_i hle
    have hle' : ¬ kk > 0 := by subst hA; exact of_decide_eq_false (show decide (kk > 0) = false from hle)
    have hN : (N : Int) = x0 := hN
    have hkk : kk = x0 - (i : Int) := hkk
    have hpz : pz = p1 + 5 * (i : Int) := hpz
    have hpe : pe = p1 + 5 * (N : Int) := hpe
    have hiN : i = N := by omega
    subst hiN
    have hpe' : pz = pe := by omega
    subst hpe'
    cbv
    repeat' first
      | apply And.intro
      | exact True.intro
      | with_reducible rfl
      | exact same_of hA rfl
      | refine br_of hA (fun _ => ?_) (fun _ => ?_)
      | exact imp_of hA id
      | (refine imp_of hA ?_; subst hA; simp only [real, Bool.true_and]; exact id)
      | (refine ind_of hA ?_; decide +kernel)
      | (refine call_of hA hM _ c1 ?_; cbv)
      | (refine call_of hA hM _ hitl ?_; cbv)
      | exact room_add hA (by omega) (by decide)
    · rename_i hx
      have hx : (x1 == 0) = true := by subst hA; exact hx
      have hc : i + 1 = cnt := by rw [hcnt, hx]; rfl
      have hq2 : ql = q := by rw [hq, hx]; rfl
      clear hcnt hq
      subst hc
      subst hq2
      refine stop_of hA ⟨[(5, .c (.own 512 0 (i + 1) 1)), (0, .c (.bp 0 1 0))], [(0, 1, .box [.d (.sl 1 m fun i => [eU (b i)]), .d (eI ql)]), (512, 1, .arr 5 (i + 1) fun k => eItm (G k))]⟩ (cov_of ?_ ?_ ?_) ?_
      · cbv; try (subst hA; repeat' first | apply And.intro | exact True.intro | rfl)
      · cbv
        subst hA
        repeat' first | apply And.intro | exact True.intro | rfl
        intro k hk
        refine (push_at rfl _ _ _ _ k hk).trans ?_
        show (if k < i then row k else eItm itl) = eItm (G k)
        by_cases hki : k < i
        · rw [if_pos hki]; exact hr k hki
        · have hk2 : k < i + 1 := hk
          have e : k = i := by omega
          rw [if_neg hki, e, hG]
          show eItm itl = eItm (if i = i then itl else _)
          rw [if_pos rfl]
      · cbv; try (subst hA; repeat' first | apply And.intro | exact True.intro | rfl | exact .inr trivial | exact .inr (Nat.le_refl _))
      · cbv
        repeat' first
          | apply And.intro
          | exact True.intro
          | with_reducible rfl
          | exact same_of hA rfl
          | refine br_of hA (fun _ => ?_) (fun _ => ?_)
          | exact imp_of hA id
          | (refine imp_of hA ?_; subst hA; simp only [real, Bool.true_and]; exact id)
          | (refine ind_of hA ?_; decide +kernel)
    · rename_i hx
      have hx : (x1 == 0) = false := by subst hA; exact hx
      have hc : i = cnt := by rw [hcnt, hx]; rfl
      have hq2 : p2 = q := by rw [hq, hx]; rfl
      clear hcnt hq
      subst hc
      subst hq2
      refine stop_of hA ⟨[(5, .c (.own 512 0 (i) 1)), (0, .c (.bp 0 1 0))], [(0, 1, .box [.d (.sl 1 m fun i => [eU (b i)]), .d (eI p2)]), (512, 1, .arr 5 (i) fun k => eItm (G k))]⟩ (cov_of ?_ ?_ ?_) ?_
      · cbv; try (subst hA; repeat' first | apply And.intro | exact True.intro | rfl)
      · cbv
        subst hA
        repeat' first | apply And.intro | exact True.intro | rfl
        all_goals exact hr
      · cbv; try (subst hA; repeat' first | apply And.intro | exact True.intro | rfl | exact .inr trivial | exact .inr (Nat.le_refl _))
      · cbv
        repeat' first
          | apply And.intro
          | exact True.intro
          | with_reducible rfl
          | exact same_of hA rfl
          | refine br_of hA (fun _ => ?_) (fun _ => ?_)
          | exact imp_of hA id
          | (refine imp_of hA ?_; subst hA; simp only [real, Bool.true_and]; exact id)
          | (refine ind_of hA ?_; decide +kernel)
end Go.Rk
