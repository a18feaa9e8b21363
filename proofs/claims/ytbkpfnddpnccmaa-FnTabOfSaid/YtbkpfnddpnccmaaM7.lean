/- The walk over this seat's functions, part 7: what each of them answers, at all data. -/
import Derived.Test.YtbkpfnddpnccmaaM1
import Derived.Test.YtbkpfnddpnccmaaM2
import Derived.Test.YtbkpfnddpnccmaaM3
import Derived.Test.YtbkpfnddpnccmaaM4
import Derived.Test.YtbkpfnddpnccmaaM5
import Derived.Test.YtbkpfnddpnccmaaM6
/- Draws: lists. -/
namespace Go.Rk
set_option linter.unusedSimpArgs false
set_option linter.unusedVariables false
open Go.Proofs
set_option maxRecDepth 100000
set_option maxHeartbeats 1000000
def st_recs (m : Nat) (b : Nat → Int) (n kk pz : Int) (i : Nat) (row : Nat → List DV) : St := ⟨[(6, .c (.d (eI kk))), (0, .c (.bp 0 1 0)), (1, .c (.d (eI n))), (5, .c (.own 512 0 i 1))], [(0, 1, .box [.d (.sl 1 m fun i => [eU (b i)]), .d (eI pz)]), (512, 1, .arr 5 i row)]⟩
theorem c_recs (m : Nat) (hm : m ≤ 2000) (b : Nat → Int) (hb : ∀ i, 0 ≤ b i ∧ b i ≤ 255) (p : Int) (hp : 0 ≤ p ∧ p ≤ 30000) (n : Int) (hn : 1 ≤ n ∧ n ≤ 100) : ∃ (cnt : Nat) (G : Nat → ItmT) (q : Int), cnt ≤ 15 ∧ Meets Try.prog 73 [.c (.box [.d (.sl 1 m fun i => [eU (b i)]), .d (eI p)]), .c (.d (eI n))] ⟨.one (.c (.own 5 cnt fun i => eItm (G i))), [some (.box [.d (.sl 1 m fun i => [eU (b i)]), .d (eI q)]), none]⟩ := by
  have hRe : ∀ z : Int, ∃ it : ItmT, (0 ≤ z ∧ z ≤ 100000) → ∀ q : Int, q = z + 4 → Meets Try.prog 110 [.c (.box [.d (.sl 1 m fun i => [eU (b i)]), .d (eI z)])] ⟨.one (xd (eItm it)), [some (.box [.d (.sl 1 m fun i => [eU (b i)]), .d (eI q)])]⟩ := fun z => by
    by_cases hz : 0 ≤ z ∧ z ≤ 100000
    · obtain ⟨it, hit⟩ := c_rec m hm b hb z hz (z + 4) rfl
      exact ⟨it, fun _ q hq => by rw [hq]; exact hit⟩
    · exact ⟨⟨0, 0, 0, 0, 0⟩, fun h => absurd h hz⟩
  obtain ⟨R, hR⟩ : ∃ R : Int → ItmT, ∀ z : Int, (0 ≤ z ∧ z ≤ 100000) → ∀ q : Int, q = z + 4 → Meets Try.prog 110 [.c (.box [.d (.sl 1 m fun i => [eU (b i)]), .d (eI z)])] ⟨.one (xd (eItm (R z))), [some (.box [.d (.sl 1 m fun i => [eU (b i)]), .d (eI q)])]⟩ := ⟨fun z => (hRe z).choose, fun z => (hRe z).choose_spec⟩
  obtain ⟨x0, hx0⟩ : ∃ x : Int, x = pickV m b p 14 := ⟨_, rfl⟩
  obtain ⟨p1, hp1⟩ : ∃ z : Int, z = p + 1 := ⟨_, rfl⟩
  have c0 := m_pick m hm b hb p (by omega) 14 (by omega) x0 hx0 p1 hp1
  have i0 := pickV_in (m := m) (b := b) (p := p) (n := 14) hb (by omega) (by omega)
  rw [← hx0] at i0
  obtain ⟨N, hN⟩ : ∃ N : Nat, (N : Int) = x0 := ⟨x0.toNat, Int.toNat_of_nonneg i0.1⟩
  have hN13 : N ≤ 13 := by omega
  obtain ⟨pe, hpe⟩ : ∃ z : Int, z = p1 + 5 * (N : Int) := ⟨_, rfl⟩
  obtain ⟨x1, hx1⟩ : ∃ x : Int, x = pickV m b pe n := ⟨_, rfl⟩
  obtain ⟨p2, hp2⟩ : ∃ z : Int, z = pe + 1 := ⟨_, rfl⟩
  have c1 := m_pick m hm b hb pe (by omega) n (by omega) x1 hx1 p2 hp2
  have i1 := pickV_in (m := m) (b := b) (p := pe) (n := n) hb (by omega) (by omega)
  rw [← hx1] at i1
  obtain ⟨itl, ql, hql, hitl⟩ := c_item m hm b hb p2 (by omega) 2 (by omega)
  obtain ⟨G, hG⟩ : ∃ G : Nat → ItmT, G = fun i => if i = N then itl else { R (p1 + 5 * (i : Int)) with key := pickV m b (p1 + 5 * (i : Int) + 4) 2 } := ⟨_, rfl⟩
  obtain ⟨cnt, hcnt⟩ : ∃ c : Nat, c = bif (x1 == 0) then N + 1 else N := ⟨_, rfl⟩
  obtain ⟨q, hq⟩ : ∃ z : Int, z = bif (x1 == 0) then ql else p2 := ⟨_, rfl⟩
  refine ⟨cnt, G, q, by rw [hcnt]; cases (x1 == 0) <;> simp only [cond_true, cond_false] <;> omega, ?_⟩
  refine meets_of (H := [10]) (EX := EXA) ttok mixed Try.func73 rfl (by kernel_rfl) (by decide) ?_
  generalize hA : real = A
  generalize hM : Meets Try.prog = M
  cbv
  repeat' first
    | apply And.intro
    | exact True.intro
    | with_reducible rfl
    | exact same_of hA rfl
    | refine br_of hA (fun _ => ?_) (fun _ => ?_)
    | exact imp_of hA id
    | (refine imp_of hA ?_; subst hA; simp only [real, Bool.true_and]; exact id)
    | (refine ind_of hA ?_; decide +kernel)
    | (refine call_of hA hM _ c0 ?_; cbv)
  refine loop_of hA (α := { y : Nat × Int × Int × (Nat → List DV) // y.1 ≤ N ∧ y.2.1 = x0 - (y.1 : Int) ∧ y.2.2.1 = p1 + 5 * (y.1 : Int) ∧ ∀ j, j < y.1 → y.2.2.2 j = eItm (G j) }) (fun y => st_recs m b n y.1.2.1 y.1.2.2.1 y.1.1 y.1.2.2.2) (fun y => N - y.1.1) ⟨(0, x0, p1, fun _ => []), Nat.zero_le _, by simp, by simp, fun j h => absurd h (Nat.not_lt_zero j)⟩ ?_ ?_
  · refine cov_of ?_ ?_ ?_
    · cbv; try (subst hA; repeat' first | apply And.intro | exact True.intro | rfl)
    · cbv; try (subst hA; repeat' first | apply And.intro | exact True.intro | rfl | (intro k hk; exact absurd hk (Nat.not_lt_zero k)))
    · cbv; try (subst hA; repeat' first | apply And.intro | exact True.intro | rfl | exact .inr trivial | exact .inr (Nat.le_refl _))
  rintro ⟨⟨i, kk, pz, row⟩, hi, hkk, hpz, hr⟩
  have hi : i ≤ N := hi
  have hkk : kk = x0 - (i : Int) := hkk
  have hpz : pz = p1 + 5 * (i : Int) := hpz
  have hr : ∀ j, j < i → row j = eItm (G j) := hr
  have hpzr : 0 ≤ pz ∧ pz ≤ 90000 := by omega
  obtain ⟨r1, hr1⟩ : ∃ z : Int, z = pz + 4 := ⟨_, rfl⟩
  have cR := hR pz (by omega) r1 hr1
  obtain ⟨xk, hxk⟩ : ∃ x : Int, x = pickV m b r1 2 := ⟨_, rfl⟩
  obtain ⟨r2, hr2⟩ : ∃ z : Int, z = r1 + 1 := ⟨_, rfl⟩
  have cK := m_pick m hm b hb r1 (by omega) 2 (by omega) xk hxk r2 hr2
  have wk : IntKind.i64.wrap (kk - 1) = kk - 1 := IntWalk.i64_in _ (by omega)
  cbv
  repeat' first
    | apply And.intro
    | exact True.intro
    | with_reducible rfl
    | exact same_of hA rfl
    | refine br_of hA (fun _ => ?_) (fun _ => ?_)
    | exact imp_of hA id
    | (refine imp_of hA ?_; subst hA; simp only [real, Bool.true_and]; exact id)
    | (refine ind_of hA ?_; decide +kernel)
    | (refine call_of hA hM _ cR ?_; cbv)
    | (refine call_of hA hM _ cK ?_; cbv)
    | exact room_add hA (by omega) (by decide)
  · rename_i hgt
    have hgt' : kk > 0 := by subst hA; exact of_decide_eq_true (show decide (kk > 0) = true from hgt)
    have hN : (N : Int) = x0 := hN
    have hkk : kk = x0 - (i : Int) := hkk
    have hpz : pz = p1 + 5 * (i : Int) := hpz
    have hpe : pe = p1 + 5 * (N : Int) := hpe
    have hiN : i < N := by omega
    obtain ⟨kk2, hkk2⟩ : ∃ z : Int, z = x0 - ((i + 1 : Nat) : Int) := ⟨_, rfl⟩
    have wk2 : IntKind.i64.wrap (kk - 1) = kk2 := by rw [wk]; omega
    refine ⟨⟨(i + 1, kk2, r2, fun k => if k < i then row k else eItm { R pz with key := xk }), by simp only; omega, hkk2, (show r2 = p1 + 5 * ((i + 1 : Nat) : Int) by omega), fun k hk => ?_⟩, by simp only; omega, cov_of ?_ ?_ ?_⟩
    · have hk : k < i + 1 := hk
      show (if k < i then row k else eItm { R pz with key := xk }) = eItm (G k)
      by_cases hki : k < i
      · rw [if_pos hki]; exact hr k hki
      · have e : k = i := by omega
        rw [if_neg hki, e, hG]
        show eItm { R pz with key := xk } = eItm (if i = N then itl else { R (p1 + 5 * (i : Int)) with key := pickV m b (p1 + 5 * (i : Int) + 4) 2 })
        rw [if_neg (by omega), hxk, hr1, hpz]
    · cbv
      subst hA
      repeat' first | apply And.intro | exact True.intro | exact congrArg (fun x => DV.v (.int .i64 x)) wk2 | rfl
    · cbv
      subst hA
      repeat' first | apply And.intro | exact True.intro | rfl | (intro k hk; exact push_at rfl _ _ _ _ k hk)
    · cbv; try (subst hA; repeat' first | apply And.intro | exact True.intro | rfl | exact .inr trivial | exact .inr (Nat.le_refl _))
  · rename_i hle
    have hle' : ¬ kk > 0 := by subst hA; exact of_decide_eq_false (show decide (kk > 0) = false from hle)
    have hN : (N : Int) = x0 := hN
    have hkk : kk = x0 - (i : Int) := hkk
    have hpz : pz = p1 + 5 * (i : Int) := hpz
    have hpe : pe = p1 + 5 * (N : Int) := hpe
    have hiN : i = N := by omega
    subst hiN
    have hpe' : pz = pe := by omega
    subst hpe'
    cbv
    repeat' first
      | apply And.intro
      | exact True.intro
      | with_reducible rfl
      | exact same_of hA rfl
      | refine br_of hA (fun _ => ?_) (fun _ => ?_)
      | exact imp_of hA id
      | (refine imp_of hA ?_; subst hA; simp only [real, Bool.true_and]; exact id)
      | (refine ind_of hA ?_; decide +kernel)
      | (refine call_of hA hM _ c1 ?_; cbv)
      | (refine call_of hA hM _ hitl ?_; cbv)
      | exact room_add hA (by omega) (by decide)
    · rename_i hx
      have hx : (x1 == 0) = true := by subst hA; exact hx
      have hc : i + 1 = cnt := by rw [hcnt, hx]; rfl
      have hq2 : ql = q := by rw [hq, hx]; rfl
      clear hcnt hq
      subst hc
      subst hq2
      refine stop_of hA ⟨[(5, .c (.own 512 0 (i + 1) 1)), (0, .c (.bp 0 1 0))], [(0, 1, .box [.d (.sl 1 m fun i => [eU (b i)]), .d (eI ql)]), (512, 1, .arr 5 (i + 1) fun k => eItm (G k))]⟩ (cov_of ?_ ?_ ?_) ?_
      · cbv; try (subst hA; repeat' first | apply And.intro | exact True.intro | rfl)
      · cbv
        subst hA
        repeat' first | apply And.intro | exact True.intro | rfl
        intro k hk
        refine (push_at rfl _ _ _ _ k hk).trans ?_
        show (if k < i then row k else eItm itl) = eItm (G k)
        by_cases hki : k < i
        · rw [if_pos hki]; exact hr k hki
        · have hk2 : k < i + 1 := hk
          have e : k = i := by omega
          rw [if_neg hki, e, hG]
          show eItm itl = eItm (if i = i then itl else _)
          rw [if_pos rfl]
      · cbv; try (subst hA; repeat' first | apply And.intro | exact True.intro | rfl | exact .inr trivial | exact .inr (Nat.le_refl _))
      · cbv
        repeat' first
          | apply And.intro
          | exact True.intro
          | with_reducible rfl
          | exact same_of hA rfl
          | refine br_of hA (fun _ => ?_) (fun _ => ?_)
          | exact imp_of hA id
          | (refine imp_of hA ?_; subst hA; simp only [real, Bool.true_and]; exact id)
          | (refine ind_of hA ?_; decide +kernel)
    · rename_i hx
      have hx : (x1 == 0) = false := by subst hA; exact hx
      have hc : i = cnt := by rw [hcnt, hx]; rfl
      have hq2 : p2 = q := by rw [hq, hx]; rfl
      clear hcnt hq
      subst hc
      subst hq2
      refine stop_of hA ⟨[(5, .c (.own 512 0 (i) 1)), (0, .c (.bp 0 1 0))], [(0, 1, .box [.d (.sl 1 m fun i => [eU (b i)]), .d (eI p2)]), (512, 1, .arr 5 (i) fun k => eItm (G k))]⟩ (cov_of ?_ ?_ ?_) ?_
      · cbv; try (subst hA; repeat' first | apply And.intro | exact True.intro | rfl)
      · cbv
        subst hA
        repeat' first | apply And.intro | exact True.intro | rfl
        all_goals exact hr
      · cbv; try (subst hA; repeat' first | apply And.intro | exact True.intro | rfl | exact .inr trivial | exact .inr (Nat.le_refl _))
      · cbv
        repeat' first
          | apply And.intro
          | exact True.intro
          | with_reducible rfl
          | exact same_of hA rfl
          | refine br_of hA (fun _ => ?_) (fun _ => ?_)
          | exact imp_of hA id
          | (refine imp_of hA ?_; subst hA; simp only [real, Bool.true_and]; exact id)
          | (refine ind_of hA ?_; decide +kernel)
end Go.Rk
/- Pairs: comparisons and the draw. -/
namespace Go.Rk
set_option linter.unusedSimpArgs false
set_option linter.unusedVariables false
open Go.Proofs
set_option maxRecDepth 100000
set_option maxHeartbeats 1000000
def st_frLates (n : Nat) (g : Nat → LatT) (i : Nat) : St := ⟨[(5, .c (.d (eI i))), (0, .c (.d (.sl 7 n fun i => eLat (g i)))), (1, .c (.d (.sl 7 n fun i => eLat (g i))))], []⟩
theorem c_frLates (n : Nat) (hn : n ≤ maxLen) (g : Nat → LatT) : Meets Try.prog 24 [.c (.d (.sl 7 n fun i => eLat (g i))), .c (.d (.sl 7 n fun i => eLat (g i)))] ⟨.one (.c (.d (eB true))), [none, none]⟩ := by
  refine meets_of (H := []) (EX := EXA) ttok mixed Try.func24 rfl (by kernel_rfl) (by decide) ?_
  generalize hA : real = A
  generalize hM : Meets Try.prog = M
  cbv
  repeat' first
    | (refine br_f hA ?_ ?_; focus (subst hA; simp [real]; done))
    | apply And.intro
    | exact True.intro
    | with_reducible rfl
    | exact same_of hA rfl
    | refine br_of hA (fun _ => ?_) (fun _ => ?_)
    | exact imp_of hA id
    | (refine imp_of hA ?_; subst hA; simp only [real, Bool.true_and]; exact id)
    | (refine ind_of hA ?_; decide +kernel)
  refine loop_of hA (α := { i : Nat // i ≤ n }) (fun x => st_frLates n g x.1) (fun x => n - x.1) ⟨0, Nat.zero_le _⟩ ?_ ?_
  · refine cov_of ?_ ?_ ?_
    · cbv; try (subst hA; repeat' first | apply And.intro | exact True.intro | rfl)
    · cbv; try (subst hA; repeat' first | apply And.intro | exact True.intro | rfl)
    · cbv
  rintro ⟨i, hi⟩
  cbv
  repeat' first
    | (refine br_f hA ?_ ?_; focus (subst hA; simp [real]; done))
    | apply And.intro
    | exact True.intro
    | with_reducible rfl
    | exact same_of hA rfl
    | refine br_of hA (fun _ => ?_) (fun _ => ?_)
    | exact imp_of hA id
    | (refine imp_of hA ?_; subst hA; simp only [real, Bool.true_and]; exact id)
    | (refine ind_of hA ?_; decide +kernel)
    | (refine inb_of hA fun _ => ?_; subst hA; simp only [real, Bool.and_eq_true, Bool.not_eq_true', Bool.not_eq_false', decide_eq_true_eq, Int.ofNat_eq_natCast, IntKind.wrap_i64] at *; omega)
  rename_i hlt
  have hlt' : i < n := by subst hA; simp only [real, decide_eq_true_eq, Int.ofNat_eq_natCast] at hlt; omega
  refine ⟨⟨i + 1, by omega⟩, by simp only; omega, cov_of ?_ ?_ ?_⟩
  · cbv
    subst hA
    repeat' first | apply And.intro | exact True.intro | exact congrArg (fun x => DV.v (.int .i64 x)) (up64 hlt' hn) | rfl | (intro k hk; exact push_at rfl _ _ _ _ k hk)
  · cbv; try (subst hA; repeat' first | apply And.intro | exact True.intro | rfl)
  · cbv
theorem c_frOk : Meets Try.prog 28 [] ⟨.one (.c (.d (eB true))), []⟩ := by
  have h : Meets Try.prog 63 [.agg [.d (eI 0), .d (eI 1)]] ⟨.one (.c (.d (eB true))), [none]⟩ := by
    obtain ⟨b, hb, h⟩ := c_WinOk 0 1
    have e : b = true := by rw [hb]; decide
    rw [e] at h; exact h
  refine meets_of (H := []) (EX := EXA) ttok mixed Try.func28 rfl (by kernel_rfl) (by decide) ?_
  generalize hA : real = A
  generalize hM : Meets Try.prog = M
  cbv
  repeat' first
    | apply And.intro
    | exact True.intro
    | with_reducible rfl
    | exact same_of hA rfl
    | refine br_of hA (fun _ => ?_) (fun _ => ?_)
    | exact imp_of hA id
    | (refine imp_of hA ?_; subst hA; simp only [real, Bool.true_and]; exact id)
    | (refine ind_of hA ?_; decide +kernel)
    | (refine call_of hA hM _ h ?_; cbv)
open Classical in
set_option maxRecDepth 100000 in
theorem c_LatOk (l : LatT) : ∃ b, (b = true ↔ LatOkP l) ∧ Meets Try.prog 27 [xd (eLat l)] ⟨.one (.c (.d (eB b))), [none]⟩ := by
  obtain ⟨b, hb⟩ : ∃ b, b = decide (LatOkP l) := ⟨_, rfl⟩
  refine ⟨b, by rw [hb, decide_eq_true_eq], ?_⟩
  refine meets_of (H := []) (EX := EXA) ttok mixed Try.func27 rfl (by kernel_rfl) (by decide) ?_
  generalize hA : real = A
  generalize hM : Meets Try.prog = M
  cbv
  repeat' first
    | apply And.intro
    | exact True.intro
    | with_reducible rfl
    | exact same_of hA rfl
    | refine br_of hA (fun _ => ?_) (fun _ => ?_)
    | exact imp_of hA id
    | (refine imp_of hA ?_; subst hA; simp only [real, Bool.true_and]; exact id)
    | (refine ind_of hA ?_; decide +kernel)
    | (refine call_ex hA hM (c_isRec _ _ _ _ _) (fun _ _ => ?_); cbv)
    | (refine call_ex hA hM (c_WinOk _ _) (fun _ _ => ?_); cbv)
    | (refine call_ex hA hM (c_in _ _ _) (fun _ _ => ?_); cbv)
  all_goals obtain ⟨⟨kind, t, key, v, n⟩, ⟨s, e⟩⟩ := l
  all_goals subst hA
  all_goals refine congrArg (fun b => XA.one (.c (.d (eB b)))) (Bool.eq_iff_iff.2 ?_)
  all_goals subst_vars
  all_goals simp only [real, bifA, bifB, bifC, bifD, beqB, decide_eq_true_eq, decide_eq_false_iff_not, beqI, bneI, beqIF, bneIF, ne_eq, Bool.and_eq_true, Bool.or_eq_true, Bool.not_eq_true', Bool.not_eq_false', Bool.and_eq_false_iff, Bool.or_eq_false_iff, Bool.false_eq_true, and_false, false_and, or_false, false_or, and_true, true_and, not_true_eq_false, not_false_eq_true, true_iff, false_iff, IntKind.wrap_i64, LatOkP, ItmOkP, WinOkP, AggOkP] at *
  all_goals omega
theorem c_draw (M0 : Nat) (b : Nat → Int) (hb : ∀ i, 0 ≤ b i ∧ b i ≤ 255) : ∃ (j : JobT) (cnt : Nat) (G : Nat → ItmT), cnt ≤ 15 ∧ Meets Try.prog 22 [.c (.d (.sl 1 M0 fun i => [eU (b i)]))] ⟨.tup [xd (eJob j), .c (.own 5 cnt fun i => eItm (G i))], [none]⟩ := by
  obtain ⟨m, hm⟩ : ∃ m : Nat, m = if 2000 < M0 then 2000 else M0 := ⟨_, rfl⟩
  have hm2 : m ≤ 2000 := by rw [hm]; split <;> omega
  have ho := m_open M0 b m hm
  obtain ⟨j, q, hq, hj⟩ := c_anyJob m hm2 b hb 0 (by omega) 16 (by omega)
  obtain ⟨cnt, G, q2, hc, hr⟩ := c_recs m hm2 b hb q (by omega) 16 (by omega)
  refine ⟨j, cnt, G, hc, ?_⟩
  refine meets_of (H := []) (EX := EXA) ttok mixed Try.func22 rfl (by kernel_rfl) (by decide) ?_
  generalize hA : real = A
  generalize hM : Meets Try.prog = M
  cbv
  repeat' first
    | apply And.intro
    | exact True.intro
    | with_reducible rfl
    | exact same_of hA rfl
    | refine br_of hA (fun _ => ?_) (fun _ => ?_)
    | exact imp_of hA id
    | (refine imp_of hA ?_; subst hA; simp only [real, Bool.true_and]; exact id)
    | (refine ind_of hA ?_; decide +kernel)
    | (refine call_of hA hM _ ho ?_; cbv)
    | (refine call_of hA hM _ hj ?_; cbv)
    | (refine call_of hA hM _ hr ?_; cbv)
end Go.Rk
/- What the laws of tables need. -/
namespace Go.Rk
set_option linter.unusedSimpArgs false
set_option linter.unusedVariables false
open Go.Proofs
set_option maxRecDepth 100000
set_option maxHeartbeats 1000000
def st_frTab (n : Nat) (g : Nat → TabT) (i : Nat) : St := ⟨[(5, .c (.d (eI i))), (0, .c (.d (.sl 7 n fun i => eTab (g i)))), (1, .c (.d (.sl 7 n fun i => eTab (g i))))], []⟩
theorem c_frTab (n : Nat) (hn : n ≤ maxLen) (g : Nat → TabT) : Meets Try.prog 46 [.c (.d (.sl 7 n fun i => eTab (g i))), .c (.d (.sl 7 n fun i => eTab (g i)))] ⟨.one (.c (.d (eB true))), [none, none]⟩ := by
  refine meets_of (H := []) (EX := EXA) ttok mixed Try.func46 rfl (by kernel_rfl) (by decide) ?_
  generalize hA : real = A
  generalize hM : Meets Try.prog = M
  cbv
  repeat' first
    | (refine br_f hA ?_ ?_; focus (subst hA; simp [real]; done))
    | apply And.intro
    | exact True.intro
    | with_reducible rfl
    | exact same_of hA rfl
    | refine br_of hA (fun _ => ?_) (fun _ => ?_)
    | exact imp_of hA id
    | (refine imp_of hA ?_; subst hA; simp only [real, Bool.true_and]; exact id)
    | (refine ind_of hA ?_; decide +kernel)
  refine loop_of hA (α := { i : Nat // i ≤ n }) (fun x => st_frTab n g x.1) (fun x => n - x.1) ⟨0, Nat.zero_le _⟩ ?_ ?_
  · refine cov_of ?_ ?_ ?_
    · cbv; try (subst hA; repeat' first | apply And.intro | exact True.intro | rfl)
    · cbv; try (subst hA; repeat' first | apply And.intro | exact True.intro | rfl)
    · cbv
  rintro ⟨i, hi⟩
  cbv
  repeat' first
    | (refine br_f hA ?_ ?_; focus (subst hA; simp [real]; done))
    | apply And.intro
    | exact True.intro
    | with_reducible rfl
    | exact same_of hA rfl
    | refine br_of hA (fun _ => ?_) (fun _ => ?_)
    | exact imp_of hA id
    | (refine imp_of hA ?_; subst hA; simp only [real, Bool.true_and]; exact id)
    | (refine ind_of hA ?_; decide +kernel)
    | (refine inb_of hA fun _ => ?_; subst hA; simp only [real, Bool.and_eq_true, Bool.not_eq_true', Bool.not_eq_false', decide_eq_true_eq, Int.ofNat_eq_natCast, IntKind.wrap_i64] at *; omega)
  rename_i hlt
  have hlt' : i < n := by subst hA; simp only [real, decide_eq_true_eq, Int.ofNat_eq_natCast] at hlt; omega
  refine ⟨⟨i + 1, by omega⟩, by simp only; omega, cov_of ?_ ?_ ?_⟩
  · cbv
    subst hA
    repeat' first | apply And.intro | exact True.intro | exact congrArg (fun x => DV.v (.int .i64 x)) (up64 hlt' hn) | rfl | (intro k hk; exact push_at rfl _ _ _ _ k hk)
  · cbv; try (subst hA; repeat' first | apply And.intro | exact True.intro | rfl)
  · cbv
def st_tc (n : Nat) (g : Nat → TabT) (i : Nat) (s : Int) : St := ⟨[(8, .c (.d (eI i))), (7, .c (.d (eI n))), (6, .c (.d (.sl 7 n fun i => eTab (g i)))), (3, .c (.d (eI s)))], []⟩
theorem c_TabCount (T : List TabT) (n : Nat) (g : Nat → TabT) (hT : Lst zTab T n g) (hn : n ≤ 1080000) (hs : ∀ i, i ≤ n → -1000000000 ≤ tCnt (T.take i) ∧ tCnt (T.take i) ≤ 1000000000) (c : Int) (hc : c = tCnt T) : Meets Try.prog 60 [.c (.d (.sl 7 n fun i => eTab (g i)))] ⟨.one (.c (.d (eI c))), [none]⟩ := by
  have hnL : n ≤ maxLen := Nat.le_trans hn (by decide)
  refine meets_of (H := []) (EX := EXA) ttok mixed Try.func60 rfl (by kernel_rfl) (by decide) ?_
  generalize hA : real = A
  generalize hM : Meets Try.prog = M
  cbv
  repeat' first
    | apply And.intro
    | exact True.intro
    | with_reducible rfl
    | exact same_of hA rfl
    | refine br_of hA (fun _ => ?_) (fun _ => ?_)
    | exact imp_of hA id
    | (refine imp_of hA ?_; subst hA; simp only [real, Bool.true_and]; exact id)
    | (refine ind_of hA ?_; decide +kernel)
  refine loop_of hA (α := { q : Nat × Int // q.1 ≤ n ∧ q.2 = tCnt (T.take q.1) }) (fun y => st_tc n g y.1.1 y.1.2) (fun y => n - y.1.1) ⟨(0, 0), Nat.zero_le _, rfl⟩ ?_ ?_
  · refine cov_of ?_ ?_ ?_
    · cbv; try (subst hA; repeat' first | apply And.intro | exact True.intro | rfl | fail)
    · cbv; try (subst hA; repeat' first | apply And.intro | exact True.intro | rfl | (intro _ _; rfl) | (intro k hk; exact absurd hk (Nat.not_lt_zero k)) | fail)
    · cbv; try (subst hA; repeat' first | apply And.intro | exact True.intro | rfl | exact .inr trivial | exact .inl trivial)
  rintro ⟨⟨i, s⟩, hi, hsm⟩
  have hi : i ≤ n := hi
  have hsm : s = tCnt (T.take i) := hsm
  obtain ⟨s', hs'⟩ : ∃ z : Int, z = s + (g i).agg.n := ⟨_, rfl⟩
  have hstep : i < n → s' = tCnt (T.take (i + 1)) := fun h => by
    rw [lst_take hT h, tCnt_app, ← hsm, hs']
    simp [tCnt]
  cbv
  repeat' first
    | apply And.intro
    | exact True.intro
    | with_reducible rfl
    | exact same_of hA rfl
    | refine br_of hA (fun _ => ?_) (fun _ => ?_)
    | exact imp_of hA id
    | (refine imp_of hA ?_; subst hA; simp only [real, Bool.true_and]; exact id)
    | (refine ind_of hA ?_; decide +kernel)
    | (refine inb_lt hA ?_; first | exact lt2_of hA (by assumption) | exact lt_of hA (by assumption))
  · rename_i hlt
    have hlt' : i < n := by first | exact lt2_of hA hlt | exact lt_of hA hlt
    refine ⟨⟨(i + 1, s'), hlt', hstep hlt'⟩, by simp only; omega, cov_of ?_ ?_ ?_⟩
    · cbv; subst hA
      have hw : IntKind.i64.wrap (s + (g i).agg.n) = s' := by
        rw [← hs', IntWalk.i64_in]
        have := hs (i + 1) hlt'
        rw [← hstep hlt'] at this
        omega
      repeat' first | apply And.intro | exact True.intro | exact congrArg (fun x => DV.v (.int .i64 x)) hw | exact congrArg (fun x => DV.v (.int .i64 x)) (up64 hlt' hnL) | rfl
    · cbv; try (subst hA; repeat' first | apply And.intro | exact True.intro | rfl)
    · cbv; try (subst hA; repeat' first | apply And.intro | exact True.intro | rfl | exact .inr trivial)
  · rename_i hge
    have hin : i = n := by first | (have := ge2_of hA hge; omega) | (have := ge_of hA hge; omega)
    subst hin
    rw [lst_all hT, ← hc] at hsm
    subst hsm
    rfl
def st_ft (n : Nat) (g : Nat → ItmT) (v : Int) (c : Nat) (R : Nat → ItmT) : St := ⟨[(4, .c (.d (eI v))), (0, .c (.d (.sl 5 n fun i => eItm (g i)))), (3, .c (.own 320 0 c 1))], [(320, 1, .arr 5 c fun k => eItm (R k))]⟩
theorem c_frTurned (n : Nat) (g : Nat → ItmT) (hn : n ≤ 1000000) : Meets Try.prog 61 [.c (.d (.sl 5 n fun i => eItm (g i)))] ⟨.one (.c (.own 5 n fun i => eItm (g (n - 1 - i)))), [none]⟩ := by
  obtain ⟨v0, hv0⟩ : ∃ v : Int, v = (n : Int) - 1 := ⟨_, rfl⟩
  refine meets_of (H := [6]) (EX := EXA) ttok mixed Try.func61 rfl (by kernel_rfl) (by decide) ?_
  generalize hA : real = A
  generalize hM : Meets Try.prog = M
  cbv
  repeat' first
    | apply And.intro
    | exact True.intro
    | with_reducible rfl
    | exact same_of hA rfl
    | refine br_of hA (fun _ => ?_) (fun _ => ?_)
    | exact imp_of hA id
    | (refine imp_of hA ?_; subst hA; simp only [real, Bool.true_and]; exact id)
    | (refine ind_of hA ?_; decide +kernel)
  refine loop_of hA (α := { q : Int × Nat × (Nat → ItmT) // q.1 = (n : Int) - 1 - (q.2.1 : Int) ∧ q.2.1 ≤ n ∧ ∀ k, k < q.2.1 → q.2.2 k = g (n - 1 - k) }) (fun y => st_ft n g y.1.1 y.1.2.1 y.1.2.2) (fun y => n - y.1.2.1) ⟨(v0, 0, fun _ => g 0), by simp [hv0], Nat.zero_le _, fun k h => absurd h (Nat.not_lt_zero k)⟩ ?_ ?_
  · refine cov_of ?_ ?_ ?_
    · cbv; subst hA
      have hw : IntKind.i64.wrap ((n : Int) - 1) = v0 := by rw [IntWalk.i64_in _ (by omega), hv0]
      repeat' first | apply And.intro | exact True.intro | exact congrArg (fun x => DV.v (.int .i64 x)) hw | rfl
    · cbv; try (subst hA; repeat' first | apply And.intro | exact True.intro | rfl | (intro k hk; exact absurd hk (Nat.not_lt_zero k)))
    · cbv; try (subst hA; repeat' first | apply And.intro | exact True.intro | rfl | exact .inr trivial)
  rintro ⟨⟨v, c, R⟩, hv, hc, hR⟩
  have hv : v = (n : Int) - 1 - (c : Int) := hv
  have hc : c ≤ n := hc
  have hR : ∀ k, k < c → R k = g (n - 1 - k) := hR
  obtain ⟨v', hv'⟩ : ∃ z : Int, z = v - 1 := ⟨_, rfl⟩
  cbv
  repeat' first
    | apply And.intro
    | exact True.intro
    | with_reducible rfl
    | exact same_of hA rfl
    | refine br_of hA (fun _ => ?_) (fun _ => ?_)
    | exact imp_of hA id
    | (refine imp_of hA ?_; subst hA; simp only [real, Bool.true_and]; exact id)
    | (refine ind_of hA ?_; decide +kernel)
    | (rename_i hx; refine inb_of hA (fun h0 => ?_); subst hA; have hx : v ≥ 0 := of_decide_eq_true hx; have hv : v = (n : Int) - 1 - (c : Int) := hv; omega)
    | exact room_add2 hA (by omega) (by decide)
  · rename_i hlt
    have hlt : v ≥ 0 := by subst hA; exact of_decide_eq_true hlt
    have hv : v = (n : Int) - 1 - (c : Int) := hv
    have hc : c ≤ n := hc
    refine ⟨⟨(v', c + 1, fun q => if q < c then R q else g v.toNat), show v' = (n : Int) - 1 - ((c + 1 : Nat) : Int) by omega, show c + 1 ≤ n by omega, fun k hk => ?_⟩, by simp only; omega, cov_of ?_ ?_ ?_⟩
    · simp only
      split
      · exact hR k (by assumption)
      · have : v.toNat = n - 1 - k := by have hk : k < c + 1 := hk; omega
        rw [this]
    · cbv; subst hA
      have hw : IntKind.i64.wrap (v - 1) = v' := by rw [IntWalk.i64_in _ (by have hv : v = (n : Int) - 1 - (c : Int) := hv; omega), hv']
      repeat' first | apply And.intro | exact True.intro | exact congrArg (fun x => DV.v (.int .i64 x)) hw | rfl
    · cbv
      subst hA
      repeat' first | apply And.intro | exact True.intro | rfl | (intro q hq; exact push_if eItm rfl c R _ _ q hq)
    · cbv; try (subst hA; repeat' first | apply And.intro | exact True.intro | rfl | exact .inr trivial)
  · rename_i hge
    have hge : ¬ v ≥ 0 := by subst hA; exact of_decide_eq_false hge
    have hv : v = (n : Int) - 1 - (c : Int) := hv
    have hcn : c = n := by omega
    subst hcn
    refine stop_of hA ⟨[(3, .c (.own 320 0 c 1))], [(320, 1, .arr 5 c fun i => eItm (g (c - 1 - i)))]⟩ (cov_of ?_ ?_ ?_) ?_
    · cbv
    · cbv
      exact ⟨fun q hq => congrArg eItm (hR q hq), trivial⟩
    · cbv
    · cbv
      repeat' first
        | apply And.intro
        | exact True.intro
        | with_reducible rfl
        | exact same_of hA rfl
        | refine br_of hA (fun _ => ?_) (fun _ => ?_)
        | exact imp_of hA id
        | (refine imp_of hA ?_; subst hA; simp only [real, Bool.true_and]; exact id)
        | (refine ind_of hA ?_; decide +kernel)
theorem c_drawT (M0 : Nat) (b : Nat → Int) (hb : ∀ i, 0 ≤ b i ∧ b i ≤ 255) : ∃ (j : JobT) (cnt : Nat) (G : Nat → ItmT), cnt ≤ 15 ∧ Meets Try.prog 57 [.c (.d (.sl 1 M0 fun i => [eU (b i)]))] ⟨.tup [xd (eJob j), .c (.d (.sl 5 cnt fun i => eItm (G i)))], [none]⟩ := by
  obtain ⟨j, cnt, G, hc, hD⟩ := c_draw M0 b hb
  refine ⟨j, cnt, G, hc, ?_⟩
  have hD := meets_frz hD rfl
  refine meets_of (H := []) (EX := EXA) ttok mixed Try.func57 rfl (by kernel_rfl) (by decide) ?_
  generalize hA : real = A
  generalize hM : Meets Try.prog = M
  cbv
  repeat' first
    | apply And.intro
    | exact True.intro
    | with_reducible rfl
    | exact same_of hA rfl
    | refine br_of hA (fun _ => ?_) (fun _ => ?_)
    | exact imp_of hA id
    | (refine imp_of hA ?_; subst hA; simp only [real, Bool.true_and]; exact id)
    | (refine ind_of hA ?_; decide +kernel)
    | (refine call_of hA hM _ hD ?_; cbv)
end Go.Rk
/- Sessions, and tables of records: impl. -/
namespace Go.Rk
set_option linter.unusedSimpArgs false
set_option linter.unusedVariables false
open Go.Proofs
set_option maxRecDepth 100000
set_option maxHeartbeats 1000000
def st_SpcT (j : JobT) (n : Nat) (gp : Nat → LatT) (i c : Nat) (G : Nat → TabT) : St := ⟨[(15, .c (.d (eI i))), (14, .c (.d (eI n))), (13, .c (.d (.sl 7 n fun i => eLat (gp i)))), (5, .c (.own 320 0 c 1)), (2, .c (.bp 128 1 0))], [(128, 1, .box ((eJob j).map .d)), (320, 1, .arr 7 c fun k => eTab (G k))]⟩
def st_SpcTi (j : JobT) (n : Nat) (gp : Nat → LatT) (i c : Nat) (G : Nat → TabT) (i2 c2 : Nat) (G2 : Nat → TabT) (sp : WinT) (a : AggT) : St := ⟨[(42, .c (.d (eI i2))), (41, .c (.d (eI c))), (40, .c (.d (.sl 7 c fun k => eTab (G k)))), (5, .c (.d (.sl 7 c2 fun k => eTab (G2 k)))), (8, .c (.bp 512 1 0)), (7, .c (.bp 448 1 0)), (15, .c (.d (eI i))), (14, .c (.d (eI n))), (13, .c (.d (.sl 7 n fun i => eLat (gp i)))), (2, .c (.bp 128 1 0))], [(512, 1, .box ((eTab ⟨(gp i).itm.key, sp, a⟩).map .d)), (448, 1, .box ((eLat (gp i)).map .d)), (128, 1, .box ((eJob j).map .d))]⟩
theorem c_SpcT (j : JobT) (m : Nat) (hm : m ≤ maxLen) (g : Nat → ItmT) (n0 : Nat) (G0 : Nat → TabT) (h0 : Lst zTab (spcT j.kind (spcL j m g)) n0 G0) : Meets Try.prog 58 [xd (eJob j), .c (.d (.sl 5 m fun i => eItm (g i)))] ⟨.one (.c (.own 7 n0 fun i => eTab (G0 i))), [none, none]⟩ := by
  obtain ⟨P, hP⟩ : ∃ P, P = spcL j m g := ⟨_, rfl⟩
  have hfi : Fine P := by rw [hP]; exact fine_spc j m g
  have hPl : P.length ≤ 12000 := by rw [hP]; exact spcL_len j m g
  rw [← hP] at h0
  obtain ⟨n, gp, hl⟩ := lst_ex zLat P
  have hn : n ≤ 12000 := by rw [hl.1]; exact hPl
  have hnL : n ≤ maxLen := Nat.le_trans hn (by decide)
  have cPair := meets_frz (c_Spc j m hm g n gp (by rw [← hP]; exact lst_tells eLat hl)) rfl
  refine meets_of (H := [19]) (EX := EXA) ttok mixed Try.func58 rfl (by kernel_rfl) (by decide) ?_
  generalize hA : real = A
  generalize hM : Meets Try.prog = M
  cbv
  repeat' first
    | apply And.intro
    | exact True.intro
    | with_reducible rfl
    | exact same_of hA rfl
    | refine br_of hA (fun _ => ?_) (fun _ => ?_)
    | exact imp_of hA id
    | (refine imp_of hA ?_; subst hA; simp only [real, Bool.true_and]; exact id)
    | (refine ind_of hA ?_; decide +kernel)
    | (refine call_of hA hM _ cPair ?_; cbv)
    | exact flat_lat hA _ _
  refine loop_of hA (α := { q : Nat × Nat × (Nat → TabT) // q.1 ≤ n ∧ Lst zTab ((P.take q.1).foldl (stepI j.kind) []) q.2.1 q.2.2 }) (fun y => st_SpcT j n gp y.1.1 y.1.2.1 y.1.2.2) (fun y => n - y.1.1) ⟨(0, 0, fun _ => zTab), Nat.zero_le _, rfl, fun k h => absurd h (Nat.not_lt_zero k)⟩ ?_ ?_
  · refine cov_prom 5 320 1 7 (fun _ => []) rfl rfl (cov_of ?_ ?_ ?_)
    · cbv; try (subst hA; repeat' first | apply And.intro | exact True.intro | rfl | fail)
    · cbv; try (subst hA; repeat' first | apply And.intro | exact True.intro | rfl | (intro _ _; rfl) | (intro k hk; exact absurd hk (Nat.not_lt_zero k)) | fail)
    · cbv; try (subst hA; repeat' first | apply And.intro | exact True.intro | rfl | exact .inr trivial | exact .inl trivial)
  rintro ⟨⟨i, c, G⟩, hi, hT⟩
  have hi : i ≤ n := hi
  obtain ⟨T, hTe⟩ : ∃ T, T = (P.take i).foldl (stepI j.kind) [] := ⟨_, rfl⟩
  have hT : Lst zTab T c G := by rw [hTe]; exact hT
  have hci : c ≤ i := by
    rw [hT.1, hTe]
    have h1 := fold_len (stepI_len j.kind) (P.take i) []
    rw [List.length_take] at h1
    simp only [List.length_nil] at h1
    omega
  have hnext : i < n → ∀ m H, Lst zTab (stepI j.kind T (gp i)) m H → i + 1 ≤ n ∧ Lst zTab ((P.take (i + 1)).foldl (stepI j.kind) []) m H := fun h m H hH => ⟨h, by rw [lst_take hl h, fold_snoc, ← hTe]; exact hH⟩
  obtain ⟨a, ha⟩ : ∃ a, a = (tFind (gp i).itm.key (gp i).win T).getD zAgg := ⟨_, rfl⟩
  obtain ⟨b, hb⟩ : ∃ b, b = (tFind (gp i).itm.key (gp i).win T).isSome := ⟨_, rfl⟩
  obtain ⟨ag, hag⟩ : ∃ x, x = aggAdd a (gp i).itm.v := ⟨_, rfl⟩
  obtain ⟨np, Gp, hPu⟩ := lst_ex zTab (tPut ⟨(gp i).itm.key, (gp i).win, ag⟩ T)
  have cF := c_Find T c G hT (by omega) (gp i).itm.key (gp i).win a ha b hb
  have cA := c_AggAdd a (gp i).itm.v ag hag
  have cP := c_Put T c G hT (by omega) _ np Gp hPu
  cbv
  repeat' first
    | apply And.intro
    | exact True.intro
    | with_reducible rfl
    | exact same_of hA rfl
    | refine br_of hA (fun _ => ?_) (fun _ => ?_)
    | exact imp_of hA id
    | (refine imp_of hA ?_; subst hA; simp only [real, Bool.true_and]; exact id)
    | (refine ind_of hA ?_; decide +kernel)
    | (refine inb_lt hA ?_; first | exact lt2_of hA (by assumption) | exact lt_of hA (by assumption))
    | exact flat_tab hA _ _
    | (refine call_of2 hA hM _ cF (by (subst hA; first | rfl | (simp only [sub0r]; try rfl))) ?_; cbv)
    | (refine call_of2 hA hM _ cA (by (subst hA; first | rfl | (simp only [sub0r]; try rfl))) ?_; cbv)
    | (refine call_of2 hA hM _ cP (by (subst hA; first | rfl | (simp only [sub0r]; try rfl))) ?_; cbv)
  · rename_i hlt hk
    have hlt' : i < n := by first | exact lt2_of hA hlt | exact lt_of hA hlt
    have hk : j.kind = 3 := by subst hA; exact of_decide_eq_true hk
    refine loop_of hA (α := { q : Nat × Nat × (Nat → TabT) × WinT × AggT // q.1 ≤ c ∧ Lst zTab (T.filter fun r => !((T.take q.1).any fun s => tchD (gp i).itm.key (gp i).win s && decide (IsRow s.key s.win r))) q.2.1 q.2.2.1 ∧ q.2.2.2.1 = (((T.take q.1).filter (tchD (gp i).itm.key (gp i).win)).map (·.win)).foldl winSpan (gp i).win ∧ q.2.2.2.2 = (((T.take q.1).filter (tchD (gp i).itm.key (gp i).win)).map (·.agg)).foldl aggB zAgg }) (fun y => st_SpcTi j n gp i c G y.1.1 y.1.2.1 y.1.2.2.1 y.1.2.2.2.1 y.1.2.2.2.2) (fun y => c - y.1.1) ⟨(0, c, G, (gp i).win, zAgg), Nat.zero_le _, ?_, rfl, rfl⟩ ?_ ?_
    · have e : (T.filter fun r => !((T.take 0).any fun s => tchD (gp i).itm.key (gp i).win s && decide (IsRow s.key s.win r))) = T := by rw [List.filter_eq_self]; intro r _; rfl
      simp only
      rw [e]; exact hT
    · refine cov_frz2 (k := 5) (k2 := 40) (l := 320) rfl rfl rfl (cov_of ?_ ?_ ?_)
      · cbv; try (subst hA; repeat' first | apply And.intro | exact True.intro | rfl | (intro _ _; rfl))
      · cbv; try (subst hA; repeat' first | apply And.intro | exact True.intro | rfl | (intro _ _; rfl) | (intro k hk; exact absurd hk (Nat.not_lt_zero k)) | (intro _ _; rfl))
      · cbv; try (subst hA; repeat' first | apply And.intro | exact True.intro | rfl | exact .inr trivial | exact .inl trivial)
    rintro ⟨⟨i2, c2, G2, sp, a2⟩, hi2, hG2, hsp, ha2⟩
    have hi2 : i2 ≤ c := hi2
    have hsp : sp = (((T.take i2).filter (tchD (gp i).itm.key (gp i).win)).map (·.win)).foldl winSpan (gp i).win := hsp
    have ha2 : a2 = (((T.take i2).filter (tchD (gp i).itm.key (gp i).win)).map (·.agg)).foldl aggB zAgg := ha2
    obtain ⟨T2, hT2⟩ : ∃ T2, T2 = T.filter fun r => !((T.take i2).any fun s => tchD (gp i).itm.key (gp i).win s && decide (IsRow s.key s.win r)) := ⟨_, rfl⟩
    have hG2 : Lst zTab T2 c2 G2 := by rw [hT2]; exact hG2
    have hc2 : c2 ≤ c := by rw [hG2.1, hT2, hT.1]; exact List.length_filter_le _ _
    obtain ⟨no, Go, hO⟩ := lst_ex zTab (tOut (G i2).key (G i2).win T2)
    obtain ⟨sp', hsp'⟩ : ∃ z, z = winSpan sp (G i2).win := ⟨_, rfl⟩
    obtain ⟨a2', ha2'⟩ : ∃ z, z = aggB a2 (G i2).agg := ⟨_, rfl⟩
    have cO := meets_frz (c_Out T2 c2 G2 hG2 (by omega) (G i2).key (G i2).win no Go hO) rfl
    have cS := c_WinSpan sp (G i2).win sp' hsp'
    have cB := c_AggBoth a2 (G i2).agg a2' ha2'
    cbv
    repeat' first
      | apply And.intro
      | exact True.intro
      | with_reducible rfl
      | exact same_of hA rfl
      | refine br_of hA (fun _ => ?_) (fun _ => ?_)
      | exact imp_of hA id
      | (refine imp_of hA ?_; subst hA; simp only [real, Bool.true_and]; exact id)
      | (refine ind_of hA ?_; decide +kernel)
      | (refine call_ex hA hM (c_WinTouch _ _ _ _) (fun _ _ => ?_); cbv)
      | (refine inb_lt hA ?_; first | exact lt2_of hA (by assumption) | exact lt_of hA (by assumption))
      | exact flat_tab hA _ _
      | (refine call_of2 hA hM _ cO (by (subst hA; first | rfl | (simp only [sub0r]; try rfl))) ?_; cbv)
      | (refine call_of2 hA hM _ cS (by (subst hA; first | rfl | (simp only [sub0r]; try rfl))) ?_; cbv)
      | (refine call_of2 hA hM _ cB (by (subst hA; first | rfl | (simp only [sub0r]; try rfl))) ?_; cbv)
    · rename_i hlt2 bb hbb hc
      have hl2 : i2 < c := by first | exact lt2_of hA hlt2 | exact lt_of hA hlt2
      have hbb : bb = decide ((G i2).win.s < (gp i).win.e ∧ (gp i).win.s < (G i2).win.e) := by subst hA; exact hbb
      have ht : tchD (gp i).itm.key (gp i).win (G i2) = true := by
        subst hA
        have hc : (bif (G i2).key == (gp i).itm.key then bb else false) = true := hc
        rw [bifA, Bool.and_eq_true, hbb, decide_eq_true_eq] at hc
        exact decide_eq_true ⟨eq_of_beq hc.1, hc.2⟩
      refine ⟨⟨(i2 + 1, no, Go, sp', a2'), hl2, ?_, ?_, ?_⟩, by simp only; omega, cov_of ?_ ?_ ?_⟩
      · simp only
        have e : (T.filter fun r => !((T.take (i2 + 1)).any fun s => tchD (gp i).itm.key (gp i).win s && decide (IsRow s.key s.win r))) = tOut (G i2).key (G i2).win T2 := by
          rw [outs_step hT2, lst_take hT hl2]
          refine congrArg (fun f => T.filter f) (funext fun r => ?_)
          rw [List.any_append, Bool.not_or]
          simp [ht]
        rw [e]; exact hO
      · simp only
        rw [lst_take hT hl2, List.filter_append]
        have e : [G i2].filter (tchD (gp i).itm.key (gp i).win) = [G i2] := by simp [ht]
        rw [e, List.map_append, List.foldl_append, ← hsp, hsp']; rfl
      · simp only
        rw [lst_take hT hl2, List.filter_append]
        have e : [G i2].filter (tchD (gp i).itm.key (gp i).win) = [G i2] := by simp [ht]
        rw [e, List.map_append, List.foldl_append, ← ha2, ha2']; rfl
      · cbv; subst hA; repeat' first | apply And.intro | exact True.intro | exact congrArg (fun x => DV.v (.int .i64 x)) (up64 hl2 (Nat.le_trans hci (Nat.le_trans hi hnL))) | rfl
      · cbv; try (subst hA; repeat' first | apply And.intro | exact True.intro | rfl | (intro _ _; rfl))
      · cbv; try (subst hA; repeat' first | apply And.intro | exact True.intro | rfl | exact .inr trivial | exact .inl trivial)
    · rename_i hlt2 bb hbb hc
      have hl2 : i2 < c := by first | exact lt2_of hA hlt2 | exact lt_of hA hlt2
      have hbb : bb = decide ((G i2).win.s < (gp i).win.e ∧ (gp i).win.s < (G i2).win.e) := by subst hA; exact hbb
      have ht : tchD (gp i).itm.key (gp i).win (G i2) = false := by
        subst hA
        have hc : (bif (G i2).key == (gp i).itm.key then bb else false) = false := hc
        rw [bifA] at hc
        refine decide_eq_false fun e => ?_
        have h1 : ((G i2).key == (gp i).itm.key) = true := beq_iff_eq.2 e.1
        have h2 : bb = true := by rw [hbb]; exact decide_eq_true e.2
        rw [h1, h2] at hc; cases hc
      refine ⟨⟨(i2 + 1, c2, G2, sp, a2), hl2, ?_, ?_, ?_⟩, by simp only; omega, cov_of ?_ ?_ ?_⟩
      · simp only
        have e : (T.filter fun r => !((T.take (i2 + 1)).any fun s => tchD (gp i).itm.key (gp i).win s && decide (IsRow s.key s.win r))) = T2 := by
          rw [hT2, lst_take hT hl2]
          refine congrArg (fun f => T.filter f) (funext fun r => ?_)
          rw [List.any_append]
          simp [ht]
        rw [e]; exact hG2
      · simp only
        rw [lst_take hT hl2, List.filter_append]
        have e : [G i2].filter (tchD (gp i).itm.key (gp i).win) = [] := by simp [ht]
        rw [e, List.append_nil]; exact hsp
      · simp only
        rw [lst_take hT hl2, List.filter_append]
        have e : [G i2].filter (tchD (gp i).itm.key (gp i).win) = [] := by simp [ht]
        rw [e, List.append_nil]; exact ha2
      · cbv; subst hA; repeat' first | apply And.intro | exact True.intro | exact congrArg (fun x => DV.v (.int .i64 x)) (up64 hl2 (Nat.le_trans hci (Nat.le_trans hi hnL))) | rfl
      · cbv; try (subst hA; repeat' first | apply And.intro | exact True.intro | rfl | (intro _ _; rfl))
      · cbv; try (subst hA; repeat' first | apply And.intro | exact True.intro | rfl | exact .inr trivial | exact .inl trivial)
    · rename_i hge2
      have hin2 : i2 = c := by first | (have := ge2_of hA hge2; omega) | (have := ge_of hA hge2; omega)
      subst hin2
      rw [lst_all hT] at hT2 hsp ha2
      rw [outs_all] at hT2
      obtain ⟨ag3, hag3⟩ : ∃ x, x = aggAdd a2 (gp i).itm.v := ⟨_, rfl⟩
      obtain ⟨np3, Gp3, hPu3⟩ := lst_ex zTab (tPut ⟨(gp i).itm.key, sp, ag3⟩ T2)
      have cA3 := c_AggAdd a2 (gp i).itm.v ag3 hag3
      have cP3 := c_Put T2 c2 G2 hG2 (by omega) _ np3 Gp3 hPu3
      repeat' first
        | apply And.intro
        | exact True.intro
        | with_reducible rfl
        | exact same_of hA rfl
        | refine br_of hA (fun _ => ?_) (fun _ => ?_)
        | exact imp_of hA id
        | (refine imp_of hA ?_; subst hA; simp only [real, Bool.true_and]; exact id)
        | (refine ind_of hA ?_; decide +kernel)
        | (refine call_of2 hA hM _ cA3 (by (subst hA; first | rfl | (simp only [sub0r]; try rfl))) ?_; cbv)
        | (refine call_of2 hA hM _ cP3 (by (subst hA; first | rfl | (simp only [sub0r]; try rfl))) ?_; cbv)
        | exact flat_tab hA _ _
      refine ⟨⟨(i + 1, np3, Gp3), hnext hlt' _ _ ?_⟩, by simp only; omega, cov_rel 320 2 (k := 5) (l := 5504) (sz := 7) rfl rfl rfl rfl (cov_of ?_ ?_ ?_)⟩
      · unfold stepI sessI; rw [if_pos hk, ← hsp, ← ha2, ← hT2, ← hag3]; exact hPu3
      · cbv; subst hA; repeat' first | apply And.intro | exact True.intro | exact congrArg (fun x => DV.v (.int .i64 x)) (up64 hlt' hnL) | rfl
      · cbv; try (subst hA; repeat' first | apply And.intro | exact True.intro | rfl | (intro _ _; rfl))
      · cbv; try (subst hA; repeat' first | apply And.intro | exact True.intro | rfl | exact .inr trivial | exact .inl trivial)
  · rename_i hlt hk
    have hlt' : i < n := by first | exact lt2_of hA hlt | exact lt_of hA hlt
    have hk : ¬ j.kind = 3 := by subst hA; exact of_decide_eq_false hk
    refine ⟨⟨(i + 1, np, Gp), hnext hlt' _ _ ?_⟩, by simp only; omega, cov_rel 320 2 (k := 5) (l := 5504) (sz := 7) rfl rfl rfl rfl (cov_of ?_ ?_ ?_)⟩
    · unfold stepI stepW; rw [if_neg hk, ← ha, ← hag]; exact hPu
    · cbv; subst hA; repeat' first | apply And.intro | exact True.intro | exact congrArg (fun x => DV.v (.int .i64 x)) (up64 hlt' hnL) | rfl
    · cbv; try (subst hA; repeat' first | apply And.intro | exact True.intro | rfl | (intro _ _; rfl))
    · cbv; try (subst hA; repeat' first | apply And.intro | exact True.intro | rfl | exact .inr trivial | exact .inl trivial)
  · rename_i hge
    have hin : i = n := by first | (have := ge2_of hA hge; omega) | (have := ge_of hA hge; omega)
    subst hin
    rw [lst_all hl, foldI_eq hfi] at hTe
    rw [hTe] at hT
    have hcc : c = n0 := hT.1.trans h0.1.symm
    subst hcc
    refine stop_of hA ⟨[(5, .c (.own 320 0 c 1))], [(320, 1, .arr 7 c fun i => eTab (G0 i))]⟩ (cov_of ?_ ?_ ?_) ?_
    · cbv
    · cbv
      exact ⟨fun q hq => congrArg eTab ((hT.2 q hq).trans (h0.2 q hq).symm), trivial⟩
    · cbv
    · cbv
      repeat' first
        | apply And.intro
        | exact True.intro
        | with_reducible rfl
        | exact same_of hA rfl
        | refine br_of hA (fun _ => ?_) (fun _ => ?_)
        | exact imp_of hA id
        | (refine imp_of hA ?_; subst hA; simp only [real, Bool.true_and]; exact id)
        | (refine ind_of hA ?_; decide +kernel)
end Go.Rk
/- Draws: pane. -/
namespace Go.Rk
set_option linter.unusedSimpArgs false
set_option linter.unusedVariables false
open Go.Proofs
set_option maxRecDepth 100000
set_option maxHeartbeats 1000000
def EXD : FuncId → List Nat × Bool := fun f => ([], Nat.beq f 0)
theorem x_pick (m : Nat) (hm : m ≤ 2000) (b : Nat → Int) (hb : ∀ i, 0 ≤ b i ∧ b i ≤ 255) (p : Int) (hp : 0 ≤ p ∧ p ≤ 1000000) (n : Int) (hn : 1 ≤ n ∧ n ≤ 1000000) : ∃ y : Int × Int, (0 ≤ y.1 ∧ y.1 < n ∧ y.2 = p + 1) ∧ Meets Try.prog 94 [.c (.box [.d (.sl 1 m fun i => [eU (b i)]), .d (eI p)]), .c (.d (eI n))] ⟨.one (.c (.d (eI y.1))), [some (.box [.d (.sl 1 m fun i => [eU (b i)]), .d (eI y.2)]), none]⟩ :=
  ⟨(pickV m b p n, p + 1), ⟨(pickV_in hb hp hn.1).1, (pickV_in hb hp hn.1).2, rfl⟩, m_pick m hm b hb p hp n hn _ rfl _ rfl⟩
theorem x_add (a : AggT) (v : Int) : ∃ c : AggT, True ∧ Meets Try.prog 105 [xd (eAgg a), .c (.d (eI v))] ⟨.one (xd (eAgg c)), [none, none]⟩ := ⟨_, trivial, c_sAggAdd a v _ rfl⟩
def st_xa (m : Nat) (b : Nat → Int) (n : Int) (k q : Int) (a : AggT) : St := ⟨[(6, .c (.d (eI k))), (5, .c (.bp 320 1 0)), (4, .c (.bp 256 1 0)), (1, .c (.d (eI n))), (0, .c (.bp 0 1 0))], [(320, 1, .box ((eAgg a).map .d)), (256, 1, .box ((eAgg zAgg).map .d)), (0, 1, .box [.d (.sl 1 m fun i => [eU (b i)]), .d (eI q)])]⟩
theorem x_agg (m : Nat) (hm : m ≤ 2000) (b : Nat → Int) (hb : ∀ i, 0 ≤ b i ∧ b i ≤ 255) (p : Int) (hp : 0 ≤ p ∧ p ≤ 60000) (n : Int) (hn : 1 ≤ n ∧ n ≤ 100) : ∃ y : AggT × Int, (p ≤ y.2 ∧ y.2 ≤ p + 20) ∧ Meets Try.prog 95 [.c (.box [.d (.sl 1 m fun i => [eU (b i)]), .d (eI p)]), .c (.d (eI n))] ⟨.one (xd (eAgg y.1)), [some (.box [.d (.sl 1 m fun i => [eU (b i)]), .d (eI y.2)]), none]⟩ := by
  refine meets_ex (H := []) (EX := EXD) ttok mixed ([some (.box [.d (.sl 1 m fun i => [eU (b i)]), .d (eI 0)]), none]) Try.func95 rfl (by kernel_rfl) (by decide) (fun _ => rfl) ?_
  generalize hA : real = A
  generalize hM : Meets Try.prog = M
  cbv
  repeat' first
    | apply And.intro
    | exact True.intro
    | with_reducible rfl
    | exact same_of hA rfl
    | refine br_of hA (fun _ => ?_) (fun _ => ?_)
    | exact imp_of hA id
    | (refine imp_of hA ?_; subst hA; simp only [real, Bool.true_and]; exact id)
    | (refine ind_of hA ?_; decide +kernel)
    | (refine call_ex hA hM (x_pick m hm b hb _ (by omega) _ (by omega)) ?_; rintro ⟨x, q⟩ ⟨hx0, hx1, hq⟩; dsimp only at hx0 hx1 hq; cbv)
  refine loop_of hA (α := { y : Int × Int × AggT // 0 ≤ y.1 ∧ y.1 ≤ 5 ∧ p ≤ y.2.1 ∧ y.2.1 + y.1 ≤ p + 10 }) (fun y => st_xa m b n y.1.1 y.1.2.1 y.1.2.2) (fun y => y.1.1.toNat) ⟨(x, q, zAgg), hx0, by simp only; omega, by simp only; omega, by simp only; omega⟩ ?_ ?_
  · refine cov_of ?_ ?_ ?_
    · cbv; try (subst hA; repeat' first | apply And.intro | exact True.intro | rfl | fail)
    · cbv; try (subst hA; repeat' first | apply And.intro | exact True.intro | rfl | (intro _ _; rfl) | (intro k hk; exact absurd hk (Nat.not_lt_zero k)) | fail)
    · cbv; try (subst hA; repeat' first | apply And.intro | exact True.intro | rfl | exact .inr trivial | exact .inl trivial)
  rintro ⟨⟨k, q1, a⟩, hk0, hk1, hq0, hq1⟩
  have hk0 : 0 ≤ k := hk0
  have hk1 : k ≤ 5 := hk1
  have hq0 : p ≤ q1 := hq0
  have hq1 : q1 + k ≤ p + 10 := hq1
  cbv
  repeat' first
    | apply And.intro
    | exact True.intro
    | with_reducible rfl
    | exact same_of hA rfl
    | refine br_of hA (fun _ => ?_) (fun _ => ?_)
    | exact imp_of hA id
    | (refine imp_of hA ?_; subst hA; simp only [real, Bool.true_and]; exact id)
    | (refine ind_of hA ?_; decide +kernel)
    | (refine call_ex hA hM (x_pick m hm b hb _ (by omega) _ (by omega)) ?_; rintro ⟨x, q⟩ ⟨hx0, hx1, hq⟩; dsimp only at hx0 hx1 hq; cbv)
    | (refine call_ex hA hM (x_add _ _) ?_; rintro c -; cbv)
    | (refine inb_of hA (fun _ => ?_); (first | omega | (constructor <;> omega)))
    | (refine fin_of hA ⟨⟨⟨_, _, _, _⟩, _⟩, ?_, rfl, rfl⟩; simp only; omega)
  rename_i hgt
  have hgt : k > 0 := by subst hA; exact of_decide_eq_true hgt
  obtain ⟨k', hk'⟩ : ∃ z, z = k - 1 := ⟨_, rfl⟩
  refine ⟨⟨(k', q, c), show 0 ≤ k' by omega, show k' ≤ 5 by omega, show p ≤ q by omega, show q + k' ≤ p + 10 by omega⟩, by simp only; omega, cov_of ?_ ?_ ?_⟩
  · cbv; subst hA
    have hw : IntKind.i64.wrap (k - 1) = k' := by rw [IntWalk.i64_in _ (by omega), hk']
    repeat' first | apply And.intro | exact True.intro | exact congrArg (fun x => DV.v (.int .i64 x)) hw | rfl
  · cbv; try (subst hA; repeat' first | apply And.intro | exact True.intro | rfl)
  · cbv; try (subst hA; repeat' first | apply And.intro | exact True.intro | rfl | exact .inr trivial | exact .inl trivial | exact .inr (Nat.le_refl _))
theorem x_win (m : Nat) (hm : m ≤ 2000) (b : Nat → Int) (hb : ∀ i, 0 ≤ b i ∧ b i ≤ 255) (p : Int) (hp : 0 ≤ p ∧ p ≤ 60000) (n : Int) (hn : 1 ≤ n ∧ n ≤ 100) : ∃ y : WinT × Int, (p ≤ y.2 ∧ y.2 ≤ p + 10) ∧ Meets Try.prog 128 [.c (.box [.d (.sl 1 m fun i => [eU (b i)]), .d (eI p)]), .c (.d (eI n))] ⟨.one (xd (eWin y.1)), [some (.box [.d (.sl 1 m fun i => [eU (b i)]), .d (eI y.2)]), none]⟩ := by
  refine meets_ex (H := []) (EX := EXD) ttok mixed ([some (.box [.d (.sl 1 m fun i => [eU (b i)]), .d (eI 0)]), none]) Try.func128 rfl (by kernel_rfl) (by decide) (fun _ => rfl) ?_
  generalize hA : real = A
  generalize hM : Meets Try.prog = M
  cbv
  repeat' first
    | apply And.intro
    | exact True.intro
    | with_reducible rfl
    | exact same_of hA rfl
    | refine br_of hA (fun _ => ?_) (fun _ => ?_)
    | exact imp_of hA id
    | (refine imp_of hA ?_; subst hA; simp only [real, Bool.true_and]; exact id)
    | (refine ind_of hA ?_; decide +kernel)
    | (refine call_ex hA hM (x_pick m hm b hb _ (by omega) _ (by omega)) ?_; rintro ⟨x, q⟩ ⟨hx0, hx1, hq⟩; dsimp only at hx0 hx1 hq; cbv)
    | (refine inb_of hA (fun _ => ?_); (first | omega | (constructor <;> omega)))
    | (refine fin_of hA ⟨⟨⟨_, _⟩, _⟩, ?_, rfl, rfl⟩; simp only; omega)
theorem x_pane (m : Nat) (hm : m ≤ 2000) (b : Nat → Int) (hb : ∀ i, 0 ≤ b i ∧ b i ≤ 255) (p : Int) (hp : 0 ≤ p ∧ p ≤ 50000) (n : Int) (hn : 1 ≤ n ∧ n ≤ 100) : ∃ y : PaneT × Int, (p ≤ y.2 ∧ y.2 ≤ p + 100) ∧ Meets Try.prog 123 [.c (.box [.d (.sl 1 m fun i => [eU (b i)]), .d (eI p)]), .c (.d (eI n))] ⟨.one (xd (ePane y.1)), [some (.box [.d (.sl 1 m fun i => [eU (b i)]), .d (eI y.2)]), none]⟩ := by
  refine meets_ex (H := []) (EX := EXD) ttok mixed ([some (.box [.d (.sl 1 m fun i => [eU (b i)]), .d (eI 0)]), none]) Try.func123 rfl (by kernel_rfl) (by decide) (fun _ => rfl) ?_
  generalize hA : real = A
  generalize hM : Meets Try.prog = M
  cbv
  repeat' first
    | apply And.intro
    | exact True.intro
    | with_reducible rfl
    | exact same_of hA rfl
    | refine br_of hA (fun _ => ?_) (fun _ => ?_)
    | exact imp_of hA id
    | (refine imp_of hA ?_; subst hA; simp only [real, Bool.true_and]; exact id)
    | (refine ind_of hA ?_; decide +kernel)
    | (refine call_ex hA hM (x_pick m hm b hb _ (by omega) _ (by omega)) ?_; rintro ⟨x, q⟩ ⟨hx0, hx1, hq⟩; dsimp only at hx0 hx1 hq; cbv)
    | (refine call_ex hA hM (x_add _ _) ?_; rintro c -; cbv)
    | (refine inb_of hA (fun _ => ?_); (first | omega | (constructor <;> omega)))
    | (refine call_ex hA hM (x_agg m hm b hb _ (by omega) _ (by omega)) ?_; rintro ⟨x, q⟩ ⟨hq0, hq1⟩; dsimp only at hq0 hq1; cbv)
    | (refine call_ex hA hM (x_win m hm b hb _ (by omega) _ (by omega)) ?_; rintro ⟨x, q⟩ ⟨hq0, hq1⟩; dsimp only at hq0 hq1; cbv)
    | (refine fin_of hA ⟨⟨⟨_, ⟨_, _⟩, _, _, ⟨_, _, _, _⟩⟩, _⟩, ?_, rfl, rfl⟩; simp only; omega)
end Go.Rk
/- Draws: rows. -/
namespace Go.Rk
set_option linter.unusedSimpArgs false
set_option linter.unusedVariables false
open Go.Proofs
set_option maxRecDepth 100000
set_option maxHeartbeats 1000000
def st_xp (m : Nat) (b : Nat → Int) (k q : Int) (c : Nat) (G : Nat → PaneT) : St := ⟨[(4, .c (.d (eI k))), (3, .c (.own 320 0 c 1)), (0, .c (.bp 0 1 0))], [(320, 1, .arr 9 c fun i => ePane (G i)), (0, 1, .box [.d (.sl 1 m fun i => [eU (b i)]), .d (eI q)])]⟩
theorem x_panes (m : Nat) (hm : m ≤ 2000) (b : Nat → Int) (hb : ∀ i, 0 ≤ b i ∧ b i ≤ 255) (p : Int) (hp : 0 ≤ p ∧ p ≤ 40000)  : ∃ y : (Nat × (Nat → PaneT)) × Int, (p ≤ y.2 ∧ y.2 ≤ p + 1000 ∧ y.1.1 ≤ 8) ∧ Meets Try.prog 98 [.c (.box [.d (.sl 1 m fun i => [eU (b i)]), .d (eI p)])] ⟨.one (.c (.own 9 y.1.1 fun i => ePane (y.1.2 i))), [some (.box [.d (.sl 1 m fun i => [eU (b i)]), .d (eI y.2)])]⟩ := by
  refine meets_ex (H := [6]) (EX := EXD) ttok mixed ([some (.box [.d (.sl 1 m fun i => [eU (b i)]), .d (eI 0)])]) Try.func98 rfl (by kernel_rfl) (by decide) (fun _ => rfl) ?_
  generalize hA : real = A
  generalize hM : Meets Try.prog = M
  cbv
  repeat' first
    | apply And.intro
    | exact True.intro
    | with_reducible rfl
    | exact same_of hA rfl
    | refine br_of hA (fun _ => ?_) (fun _ => ?_)
    | exact imp_of hA id
    | (refine imp_of hA ?_; subst hA; simp only [real, Bool.true_and]; exact id)
    | (refine ind_of hA ?_; decide +kernel)
    | (refine call_ex hA hM (x_pick m hm b hb _ (by omega) _ (by omega)) ?_; rintro ⟨x, q⟩ ⟨hx0, hx1, hq⟩; dsimp only at hx0 hx1 hq; cbv)
  refine loop_of hA (α := { y : Int × Int × Nat × (Nat → PaneT) // 0 ≤ y.1 ∧ y.1 + (y.2.2.1 : Int) ≤ 8 ∧ p ≤ y.2.1 ∧ y.2.1 + 110 * y.1 ≤ p + 990 }) (fun y => st_xp m b y.1.1 y.1.2.1 y.1.2.2.1 y.1.2.2.2) (fun y => y.1.1.toNat) ⟨(x, q, 0, fun _ => zPane), hx0, by simp only; omega, by simp only; omega, by simp only; omega⟩ ?_ ?_
  · refine cov_of ?_ ?_ ?_
    · cbv; try (subst hA; repeat' first | apply And.intro | exact True.intro | rfl | fail)
    · cbv; try (subst hA; repeat' first | apply And.intro | exact True.intro | rfl | (intro _ _; rfl) | (intro k hk; exact absurd hk (Nat.not_lt_zero k)) | fail)
    · cbv; try (subst hA; repeat' first | apply And.intro | exact True.intro | rfl | exact .inr trivial | exact .inl trivial)
  rintro ⟨⟨k, q1, c, G⟩, hk0, hk1, hq0, hq1⟩
  have hk0 : 0 ≤ k := hk0
  have hk1 : k + (c : Int) ≤ 8 := hk1
  have hq0 : p ≤ q1 := hq0
  have hq1 : q1 + 110 * k ≤ p + 990 := hq1
  have hc8 : c ≤ 8 := by omega
  have hkk : ∀ {A : Ar}, real = A → A.cmp .gtr k 0 = true → 0 < k := fun hA h => by subst hA; exact of_decide_eq_true h
  cbv
  repeat' first
    | apply And.intro
    | exact True.intro
    | with_reducible rfl
    | exact same_of hA rfl
    | refine br_of hA (fun _ => ?_) (fun _ => ?_)
    | exact imp_of hA id
    | (refine imp_of hA ?_; subst hA; simp only [real, Bool.true_and]; exact id)
    | (refine ind_of hA ?_; decide +kernel)
    | (have hgt := hkk hA (by assumption); refine call_ex hA hM (x_pane m hm b hb _ (by omega) _ (by omega)) ?_; rintro ⟨pa, q⟩ ⟨hp0, hp1⟩; dsimp only at hp0 hp1; cbv)
    | exact room_add2 hA (by omega) (by decide)
    | (refine inb_of hA (fun _ => ?_); (first | omega | (constructor <;> omega)))
  · obtain ⟨k', hk'⟩ : ∃ z, z = k - 1 := ⟨_, rfl⟩
    have hk1 : k + (c : Int) ≤ 8 := hk1
    have hgt := hkk hA (by assumption)
    refine ⟨⟨(k', q, c + 1, fun i => if i < c then G i else pa), show 0 ≤ k' by omega, show k' + ((c + 1 : Nat) : Int) ≤ 8 by omega, show p ≤ q by omega, show q + 110 * k' ≤ p + 990 by omega⟩, by simp only; omega, cov_of ?_ ?_ ?_⟩
    · cbv; subst hA
      have hw : IntKind.i64.wrap (k - 1) = k' := by rw [IntWalk.i64_in _ (by omega), hk']
      repeat' first | apply And.intro | exact True.intro | exact congrArg (fun x => DV.v (.int .i64 x)) hw | rfl
    · cbv
      subst hA
      repeat' first | apply And.intro | exact True.intro | rfl | (intro _ _; rfl) | (intro i hi; exact push_if ePane rfl c G _ _ i hi)
    · cbv; try (subst hA; repeat' first | apply And.intro | exact True.intro | rfl | exact .inr trivial | exact .inl trivial | exact .inr (Nat.le_refl _))
  · refine stop_of hA ⟨[(3, .c (.own 320 0 c 1)), (0, .c (.bp 0 1 0))], [(320, 1, .arr 9 c fun i => ePane (G i)), (0, 1, .box [.d (.sl 1 m fun i => [eU (b i)]), .d (eI q1)])]⟩ (cov_of ?_ ?_ ?_) ?_
    · cbv; try (subst hA; repeat' first | apply And.intro | exact True.intro | rfl | (intro _ _; rfl) | exact .inr (Nat.le_refl _))
    · cbv; try (subst hA; repeat' first | apply And.intro | exact True.intro | rfl | (intro _ _; rfl) | (intro k hk; exact absurd hk (Nat.not_lt_zero k)) | (intro _ _; rfl) | exact .inr (Nat.le_refl _))
    · cbv; try (subst hA; repeat' first | apply And.intro | exact True.intro | rfl | exact .inr trivial | exact .inl trivial)
    cbv
    repeat' first
      | apply And.intro
      | exact True.intro
      | with_reducible rfl
      | exact same_of hA rfl
      | refine br_of hA (fun _ => ?_) (fun _ => ?_)
      | exact imp_of hA id
      | (refine imp_of hA ?_; subst hA; simp only [real, Bool.true_and]; exact id)
      | (refine ind_of hA ?_; decide +kernel)
      | (refine fin_of hA ⟨⟨⟨_, _⟩, _⟩, ?_, rfl, rfl⟩; simp only; omega)
theorem x_sOf (n : Nat) (g : Nat → PaneT) (hn : n ≤ 1080000) (piece : Bool) : ∃ y : Nat × (Nat → TabT), y.1 ≤ n ∧ Meets Try.prog 51 [.c (.d (.sl 9 n fun i => ePane (g i))), .c (.d (eB piece))] ⟨.one (.c (.own 7 y.1 fun i => eTab (y.2 i))), [none, none]⟩ := by
  have hL := lst_of zPane n g
  obtain ⟨n0, G, h0⟩ := lst_ex zTab (ofL piece ((List.range n).map g))
  exact ⟨(n0, G), by rw [h0.1]; have := ofL_len piece ((List.range n).map g); simpa using this, c_sOf _ n g hL hn piece n0 G h0⟩
theorem x_rows (m : Nat) (hm : m ≤ 2000) (b : Nat → Int) (hb : ∀ i, 0 ≤ b i ∧ b i ≤ 255) (p : Int) (hp : 0 ≤ p ∧ p ≤ 30000)  : ∃ y : (Nat × (Nat → TabT)) × Int, (p ≤ y.2 ∧ y.2 ≤ p + 2000 ∧ y.1.1 ≤ 9) ∧ Meets Try.prog 93 [.c (.box [.d (.sl 1 m fun i => [eU (b i)]), .d (eI p)])] ⟨.one (.c (.own 7 y.1.1 fun i => eTab (y.1.2 i))), [some (.box [.d (.sl 1 m fun i => [eU (b i)]), .d (eI y.2)])]⟩ := by
  refine meets_ex (H := [4]) (EX := EXD) ttok mixed ([some (.box [.d (.sl 1 m fun i => [eU (b i)]), .d (eI 0)])]) Try.func93 rfl (by kernel_rfl) (by decide) (fun _ => rfl) ?_
  generalize hA : real = A
  generalize hM : Meets Try.prog = M
  cbv
  repeat' first
    | apply And.intro
    | exact True.intro
    | with_reducible rfl
    | exact same_of hA rfl
    | refine br_of hA (fun _ => ?_) (fun _ => ?_)
    | exact imp_of hA id
    | (refine imp_of hA ?_; subst hA; simp only [real, Bool.true_and]; exact id)
    | (refine ind_of hA ?_; decide +kernel)
    | (refine call_ex hA hM (x_panes m hm b hb _ (by omega)) ?_; rintro ⟨⟨c, G⟩, q⟩ ⟨hq0, hq1, hc⟩; dsimp only at hq0 hq1 hc; cbv)
    | (refine call_ex2 hA hM (x_sOf c G (by omega) _) (by subst hA; first | rfl | (simp only [sub0r]; try rfl)) ?_; rintro ⟨n0, G0⟩ hn0; dsimp only at hn0; cbv)
    | (refine call_ex hA hM (x_pick m hm b hb _ (by omega) _ (by omega)) ?_; rintro ⟨x, q⟩ ⟨hx0, hx1, hq⟩; dsimp only at hx0 hx1 hq; cbv)
    | (refine inb_of hA (fun _ => ?_); (first | omega | (constructor <;> omega)))
    | exact flatP hA _ _
    | exact flat_tab hA _ _
    | (rename_i hx; refine inb_of hA (fun _ => ?_); subst hA; simp only [real, bifA, Bool.and_eq_true, decide_eq_true_eq, Int.ofNat_eq_natCast] at hx; exact ⟨Int.le_refl 0, by show (0 : Int) < (n0 : Int); omega⟩)
    | exact room_add2 hA (by omega) (by decide)
  · refine stop_of hA ⟨[(3, .c (.own 576 0 (n0 + 1) 1)), (0, .c (.bp 0 1 0))], [(576, 1, .arr 7 (n0 + 1) fun i => eTab (if i < n0 then G0 i else G0 0)), (0, 1, .box [.d (.sl 1 m fun i => [eU (b i)]), .d (eI q)])]⟩ (cov_of ?_ ?_ ?_) ?_
    · cbv; try (subst hA; repeat' first | apply And.intro | exact True.intro | rfl)
    · cbv
      subst hA
      repeat' first | apply And.intro | exact True.intro | rfl | (intro _ _; rfl) | (intro i hi; exact push_if eTab rfl n0 G0 _ _ i hi)
    · cbv; try (subst hA; repeat' first | apply And.intro | exact True.intro | rfl | exact .inr trivial | exact .inl trivial | exact .inr (Nat.le_refl _))
    cbv
    repeat' first
      | apply And.intro
      | exact True.intro
      | with_reducible rfl
      | exact same_of hA rfl
      | refine br_of hA (fun _ => ?_) (fun _ => ?_)
      | exact imp_of hA id
      | (refine imp_of hA ?_; subst hA; simp only [real, Bool.true_and]; exact id)
      | (refine ind_of hA ?_; decide +kernel)
      | (refine fin_of hA ⟨⟨⟨_, fun i => if i < n0 then G0 i else G0 0⟩, _⟩, ?_, rfl, rfl⟩; simp only; omega)
  · refine stop_of hA ⟨[(3, .c (.own 576 0 n0 1)), (0, .c (.bp 0 1 0))], [(576, 1, .arr 7 n0 fun i => eTab (G0 i)), (0, 1, .box [.d (.sl 1 m fun i => [eU (b i)]), .d (eI q)])]⟩ (cov_of ?_ ?_ ?_) ?_
    · cbv; try (subst hA; repeat' first | apply And.intro | exact True.intro | rfl)
    · cbv; try (subst hA; repeat' first | apply And.intro | exact True.intro | rfl | (intro _ _; rfl))
    · cbv; try (subst hA; repeat' first | apply And.intro | exact True.intro | rfl | exact .inr trivial | exact .inl trivial | exact .inr (Nat.le_refl _))
    cbv
    repeat' first
      | apply And.intro
      | exact True.intro
      | with_reducible rfl
      | exact same_of hA rfl
      | refine br_of hA (fun _ => ?_) (fun _ => ?_)
      | exact imp_of hA id
      | (refine imp_of hA ?_; subst hA; simp only [real, Bool.true_and]; exact id)
      | (refine ind_of hA ?_; decide +kernel)
      | (refine fin_of hA ⟨⟨⟨_, G0⟩, _⟩, ?_, rfl, rfl⟩; simp only; omega)
theorem x_drawOf (M0 : Nat) (b : Nat → Int) (hb : ∀ i, 0 ≤ b i ∧ b i ≤ 255) : ∃ y : Nat × (Nat → PaneT) × Bool, y.1 ≤ 8 ∧ Meets Try.prog 49 [.c (.d (.sl 1 M0 fun i => [eU (b i)]))] ⟨.tup [.c (.own 9 y.1 fun i => ePane (y.2.1 i)), .c (.d (eB y.2.2))], [none]⟩ := by
  obtain ⟨m, hmm⟩ : ∃ m : Nat, m = if 2000 < M0 then 2000 else M0 := ⟨_, rfl⟩
  have hm : m ≤ 2000 := by rw [hmm]; split <;> omega
  have ho := m_open M0 b m hmm
  refine meets_ex (H := []) (EX := EXD) ttok mixed ([none]) Try.func49 rfl (by kernel_rfl) (by decide) (fun _ => rfl) ?_
  generalize hA : real = A
  generalize hM : Meets Try.prog = M
  cbv
  repeat' first
    | apply And.intro
    | exact True.intro
    | with_reducible rfl
    | exact same_of hA rfl
    | refine br_of hA (fun _ => ?_) (fun _ => ?_)
    | exact imp_of hA id
    | (refine imp_of hA ?_; subst hA; simp only [real, Bool.true_and]; exact id)
    | (refine ind_of hA ?_; decide +kernel)
    | (refine call_of hA hM _ ho ?_; cbv)
    | (refine call_ex hA hM (x_panes m hm b hb _ (by omega)) ?_; rintro ⟨⟨c, G⟩, q⟩ ⟨hq0, hq1, hc⟩; dsimp only at hq0 hq1 hc; cbv)
    | (refine call_ex hA hM (x_pick m hm b hb _ (by omega) _ (by omega)) ?_; rintro ⟨x, q⟩ ⟨hx0, hx1, hq⟩; dsimp only at hx0 hx1 hq; cbv)
    | exact flatP hA _ _
    | (refine fin_of hA ⟨⟨_, G, _⟩, ?_, rfl, rfl⟩; (simp only; omega))
theorem x_drawPut (M0 : Nat) (b : Nat → Int) (hb : ∀ i, 0 ≤ b i ∧ b i ≤ 255) : ∃ y : Nat × (Nat → TabT) × TabT, y.1 ≤ 9 ∧ Meets Try.prog 45 [.c (.d (.sl 1 M0 fun i => [eU (b i)]))] ⟨.tup [.c (.own 7 y.1 fun i => eTab (y.2.1 i)), xd (eTab y.2.2)], [none]⟩ := by
  obtain ⟨m, hmm⟩ : ∃ m : Nat, m = if 2000 < M0 then 2000 else M0 := ⟨_, rfl⟩
  have hm : m ≤ 2000 := by rw [hmm]; split <;> omega
  have ho := m_open M0 b m hmm
  refine meets_ex (H := []) (EX := EXD) ttok mixed ([none]) Try.func45 rfl (by kernel_rfl) (by decide) (fun _ => rfl) ?_
  generalize hA : real = A
  generalize hM : Meets Try.prog = M
  cbv
  repeat' first
    | apply And.intro
    | exact True.intro
    | with_reducible rfl
    | exact same_of hA rfl
    | refine br_of hA (fun _ => ?_) (fun _ => ?_)
    | exact imp_of hA id
    | (refine imp_of hA ?_; subst hA; simp only [real, Bool.true_and]; exact id)
    | (refine ind_of hA ?_; decide +kernel)
    | (refine call_of hA hM _ ho ?_; cbv)
    | (refine call_ex hA hM (x_rows m hm b hb _ (by omega)) ?_; rintro ⟨⟨c, G⟩, q⟩ ⟨hq0, hq1, hc⟩; dsimp only at hq0 hq1 hc; cbv)
    | (refine call_ex hA hM (x_pick m hm b hb _ (by omega) _ (by omega)) ?_; rintro ⟨x, q⟩ ⟨hx0, hx1, hq⟩; dsimp only at hx0 hx1 hq; cbv)
    | (refine inb_of hA (fun _ => ?_); (first | omega | (constructor <;> omega)))
    | (refine call_ex hA hM (x_agg m hm b hb _ (by omega) _ (by omega)) ?_; rintro ⟨x, q⟩ ⟨hq0, hq1⟩; dsimp only at hq0 hq1; cbv)
    | exact flat_tab hA _ _
    | (refine fin_of hA ⟨⟨_, G, ⟨_, ⟨_, _⟩, ⟨_, _, _, _⟩⟩⟩, ?_, rfl, rfl⟩; (simp only; omega))
end Go.Rk
