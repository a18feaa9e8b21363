/- Marks. -/
import Derived.Test.YtbkpfnddpnccmaaTA6
import Derived.Test.YtbkpfnddpnccmaaDTb
namespace Go.Rk
set_option linter.unusedSimpArgs false
set_option linter.unusedVariables false
open Go.Proofs
def st_mkTab (n i : Nat) (k : Int) (rm : Nat → TabT) : St := ⟨[(5, .c (.d (eI i))), (1, .c (.d (eI k))), (0, .c (.own 0 0 n 1))], [(0, 1, .arr 7 n fun i => eTab (rm i))]⟩
set_option maxRecDepth 100000 in
set_option maxHeartbeats 1000000 in
theorem mark_Tab (n : Nat) (hn : n ≤ 1100000) (rd : Nat → TabT) (x : Int) (hx : x = 1 + 7 * (n : Int)) (GM : Nat → TabT) (hGM : ∀ i, GM i = mkTab (1 + 7 * (i : Int))) : Meets Try.prog 43 [.c (.own 7 n fun i => eTab (rd i)), .c (.d (eI 1))] ⟨.one (.c (.d (eI x))), [some (.own 7 n fun i => eTab (GM i)), none]⟩ := by
  have hn2 : n ≤ maxLen := Nat.le_trans hn (by decide)
  refine meets_of (H := [6, 8, 10, 12, 14, 16, 18]) (EX := EXA) ttok mixed Try.func43 rfl (by kernel_rfl) (by decide) ?_
  generalize hA : real = A
  generalize hM : Meets Try.prog = M
  cbv
  repeat' first
    | apply And.intro
    | exact True.intro
    | with_reducible rfl
    | exact same_of hA rfl
    | refine br_of hA (fun _ => ?_) (fun _ => ?_)
    | exact imp_of hA id
    | (refine imp_of hA ?_; subst hA; simp only [real, Bool.true_and]; exact id)
    | (refine ind_of hA ?_; decide +kernel)
  refine loop_of hA (α := { q : Nat × Int × (Nat → TabT) // q.1 ≤ n ∧ q.2.1 = 1 + 7 * (q.1 : Int) ∧ ∀ j, j < q.1 → q.2.2 j = GM j }) (fun y => st_mkTab n y.1.1 y.1.2.1 y.1.2.2) (fun y => n - y.1.1) ⟨(0, 1, rd), Nat.zero_le _, by simp, fun j h => absurd h (Nat.not_lt_zero j)⟩ ?_ ?_
  · refine cov_of ?_ ?_ ?_
    · cbv; try (subst hA; repeat' first | apply And.intro | exact True.intro | rfl)
    · cbv; try (subst hA; repeat' first | apply And.intro | exact True.intro | rfl | (intro _ _; rfl))
    · cbv; try (subst hA; repeat' first | apply And.intro | exact True.intro | rfl | exact .inr trivial | exact .inr (Nat.le_refl _))
  rintro ⟨⟨i, k, rm⟩, hi, hkk, hr⟩
  have hi : i ≤ n := hi
  have hkk : k = 1 + 7 * (i : Int) := hkk
  have hr : ∀ j, j < i → rm j = GM j := hr
  obtain ⟨k1, hk1⟩ : ∃ z : Int, z = k + 1 := ⟨_, rfl⟩
  have w1 : IntKind.i64.wrap (k + 1) = k1 := by rw [IntWalk.i64_in _ (by omega)]; omega
  obtain ⟨r1, hr1⟩ : ∃ r : Nat → TabT, r = fun q => if q = i then (⟨k, ⟨(rm i).win.s, (rm i).win.e⟩, ⟨(rm i).agg.n, (rm i).agg.sum, (rm i).agg.least, (rm i).agg.most⟩⟩ : TabT) else rm q := ⟨_, rfl⟩
  obtain ⟨k2, hk2⟩ : ∃ z : Int, z = k + 2 := ⟨_, rfl⟩
  have w2 : IntKind.i64.wrap (k1 + 1) = k2 := by rw [IntWalk.i64_in _ (by omega)]; omega
  obtain ⟨r2, hr2⟩ : ∃ r : Nat → TabT, r = fun q => if q = i then (⟨k, ⟨k1, (rm i).win.e⟩, ⟨(rm i).agg.n, (rm i).agg.sum, (rm i).agg.least, (rm i).agg.most⟩⟩ : TabT) else rm q := ⟨_, rfl⟩
  obtain ⟨k3, hk3⟩ : ∃ z : Int, z = k + 3 := ⟨_, rfl⟩
  have w3 : IntKind.i64.wrap (k2 + 1) = k3 := by rw [IntWalk.i64_in _ (by omega)]; omega
  obtain ⟨r3, hr3⟩ : ∃ r : Nat → TabT, r = fun q => if q = i then (⟨k, ⟨k1, k2⟩, ⟨(rm i).agg.n, (rm i).agg.sum, (rm i).agg.least, (rm i).agg.most⟩⟩ : TabT) else rm q := ⟨_, rfl⟩
  obtain ⟨k4, hk4⟩ : ∃ z : Int, z = k + 4 := ⟨_, rfl⟩
  have w4 : IntKind.i64.wrap (k3 + 1) = k4 := by rw [IntWalk.i64_in _ (by omega)]; omega
  obtain ⟨r4, hr4⟩ : ∃ r : Nat → TabT, r = fun q => if q = i then (⟨k, ⟨k1, k2⟩, ⟨k3, (rm i).agg.sum, (rm i).agg.least, (rm i).agg.most⟩⟩ : TabT) else rm q := ⟨_, rfl⟩
  obtain ⟨k5, hk5⟩ : ∃ z : Int, z = k + 5 := ⟨_, rfl⟩
  have w5 : IntKind.i64.wrap (k4 + 1) = k5 := by rw [IntWalk.i64_in _ (by omega)]; omega
  obtain ⟨r5, hr5⟩ : ∃ r : Nat → TabT, r = fun q => if q = i then (⟨k, ⟨k1, k2⟩, ⟨k3, k4, (rm i).agg.least, (rm i).agg.most⟩⟩ : TabT) else rm q := ⟨_, rfl⟩
  obtain ⟨k6, hk6⟩ : ∃ z : Int, z = k + 6 := ⟨_, rfl⟩
  have w6 : IntKind.i64.wrap (k5 + 1) = k6 := by rw [IntWalk.i64_in _ (by omega)]; omega
  obtain ⟨r6, hr6⟩ : ∃ r : Nat → TabT, r = fun q => if q = i then (⟨k, ⟨k1, k2⟩, ⟨k3, k4, k5, (rm i).agg.most⟩⟩ : TabT) else rm q := ⟨_, rfl⟩
  obtain ⟨k7, hk7⟩ : ∃ z : Int, z = k + 7 := ⟨_, rfl⟩
  have w7 : IntKind.i64.wrap (k6 + 1) = k7 := by rw [IntWalk.i64_in _ (by omega)]; omega
  obtain ⟨r7, hr7⟩ : ∃ r : Nat → TabT, r = fun q => if q = i then (⟨k, ⟨k1, k2⟩, ⟨k3, k4, k5, k6⟩⟩ : TabT) else rm q := ⟨_, rfl⟩
  cbv
  repeat' first
    | apply And.intro
    | exact True.intro
    | with_reducible rfl
    | exact same_of hA rfl
    | refine br_of hA (fun _ => ?_) (fun _ => ?_)
    | exact imp_of hA id
    | (refine imp_of hA ?_; subst hA; simp only [real, Bool.true_and]; exact id)
    | (refine ind_of hA ?_; decide +kernel)
    | (refine inb_of hA fun _ => ?_; subst hA; simp only [real, Bool.and_eq_true, Bool.not_eq_true', Bool.not_eq_false', decide_eq_true_eq, Int.ofNat_eq_natCast, IntKind.wrap_i64] at *; omega)
  · rename_i hlt
    have hlt' : i < n := by subst hA; simp only [real, decide_eq_true_eq, Int.ofNat_eq_natCast] at hlt; omega
    refine stop_of hA (st_mkTab n i k1 r1) (cov_of ?_ ?_ ?_) ?_
    · cbv
      subst hA
      repeat' first | apply And.intro | exact True.intro | exact congrArg (fun x => DV.v (.int .i64 x)) w1 | rfl
    · cbv
      subst hA
      refine ⟨fun q _ => ?_, trivial⟩
      have e0 : real.add 0 (real.nat (Int.ofNat i)) = i := Nat.zero_add i
      simp only [e0]
      first
        | (show (if q = i then _ else eTab (rm q)) = eTab (r1 q))
        | (show (if q = 0 + i then _ else eTab (rm q)) = eTab (r1 q); rw [Nat.zero_add])
      simp only [hr1]
      by_cases e : q = i
      · subst e; first | (simp; done) | (simp; rfl)
      · simp [e]
    · cbv; try (subst hA; repeat' first | apply And.intro | exact True.intro | rfl | exact .inr trivial | exact .inr (Nat.le_refl _))
    cbv
    repeat' first
      | apply And.intro
      | exact True.intro
      | with_reducible rfl
      | exact same_of hA rfl
      | refine br_of hA (fun _ => ?_) (fun _ => ?_)
      | exact imp_of hA id
      | (refine imp_of hA ?_; subst hA; simp only [real, Bool.true_and]; exact id)
      | (refine ind_of hA ?_; decide +kernel)
      | (refine inb_of hA fun _ => ?_; subst hA; simp only [real, Bool.and_eq_true, Bool.not_eq_true', Bool.not_eq_false', decide_eq_true_eq, Int.ofNat_eq_natCast, IntKind.wrap_i64] at *; omega)
    refine stop_of hA (st_mkTab n i k2 r2) (cov_of ?_ ?_ ?_) ?_
    · cbv
      subst hA
      repeat' first | apply And.intro | exact True.intro | exact congrArg (fun x => DV.v (.int .i64 x)) w2 | rfl
    · cbv
      subst hA
      refine ⟨fun q _ => ?_, trivial⟩
      have e0 : real.add 0 (real.nat (Int.ofNat i)) = i := Nat.zero_add i
      simp only [e0]
      first
        | (show (if q = i then _ else eTab (r1 q)) = eTab (r2 q))
        | (show (if q = 0 + i then _ else eTab (r1 q)) = eTab (r2 q); rw [Nat.zero_add])
      simp only [hr2, hr1]
      by_cases e : q = i
      · subst e; first | (simp; done) | (simp; rfl)
      · simp [e]
    · cbv; try (subst hA; repeat' first | apply And.intro | exact True.intro | rfl | exact .inr trivial | exact .inr (Nat.le_refl _))
    cbv
    repeat' first
      | apply And.intro
      | exact True.intro
      | with_reducible rfl
      | exact same_of hA rfl
      | refine br_of hA (fun _ => ?_) (fun _ => ?_)
      | exact imp_of hA id
      | (refine imp_of hA ?_; subst hA; simp only [real, Bool.true_and]; exact id)
      | (refine ind_of hA ?_; decide +kernel)
      | (refine inb_of hA fun _ => ?_; subst hA; simp only [real, Bool.and_eq_true, Bool.not_eq_true', Bool.not_eq_false', decide_eq_true_eq, Int.ofNat_eq_natCast, IntKind.wrap_i64] at *; omega)
    refine stop_of hA (st_mkTab n i k3 r3) (cov_of ?_ ?_ ?_) ?_
    · cbv
      subst hA
      repeat' first | apply And.intro | exact True.intro | exact congrArg (fun x => DV.v (.int .i64 x)) w3 | rfl
    · cbv
      subst hA
      refine ⟨fun q _ => ?_, trivial⟩
      have e0 : real.add 0 (real.nat (Int.ofNat i)) = i := Nat.zero_add i
      simp only [e0]
      first
        | (show (if q = i then _ else eTab (r2 q)) = eTab (r3 q))
        | (show (if q = 0 + i then _ else eTab (r2 q)) = eTab (r3 q); rw [Nat.zero_add])
      simp only [hr3, hr2]
      by_cases e : q = i
      · subst e; first | (simp; done) | (simp; rfl)
      · simp [e]
    · cbv; try (subst hA; repeat' first | apply And.intro | exact True.intro | rfl | exact .inr trivial | exact .inr (Nat.le_refl _))
    cbv
    repeat' first
      | apply And.intro
      | exact True.intro
      | with_reducible rfl
      | exact same_of hA rfl
      | refine br_of hA (fun _ => ?_) (fun _ => ?_)
      | exact imp_of hA id
      | (refine imp_of hA ?_; subst hA; simp only [real, Bool.true_and]; exact id)
      | (refine ind_of hA ?_; decide +kernel)
      | (refine inb_of hA fun _ => ?_; subst hA; simp only [real, Bool.and_eq_true, Bool.not_eq_true', Bool.not_eq_false', decide_eq_true_eq, Int.ofNat_eq_natCast, IntKind.wrap_i64] at *; omega)
    refine stop_of hA (st_mkTab n i k4 r4) (cov_of ?_ ?_ ?_) ?_
    · cbv
      subst hA
      repeat' first | apply And.intro | exact True.intro | exact congrArg (fun x => DV.v (.int .i64 x)) w4 | rfl
    · cbv
      subst hA
      refine ⟨fun q _ => ?_, trivial⟩
      have e0 : real.add 0 (real.nat (Int.ofNat i)) = i := Nat.zero_add i
      simp only [e0]
      first
        | (show (if q = i then _ else eTab (r3 q)) = eTab (r4 q))
        | (show (if q = 0 + i then _ else eTab (r3 q)) = eTab (r4 q); rw [Nat.zero_add])
      simp only [hr4, hr3]
      by_cases e : q = i
      · subst e; first | (simp; done) | (simp; rfl)
      · simp [e]
    · cbv; try (subst hA; repeat' first | apply And.intro | exact True.intro | rfl | exact .inr trivial | exact .inr (Nat.le_refl _))
    cbv
    repeat' first
      | apply And.intro
      | exact True.intro
      | with_reducible rfl
      | exact same_of hA rfl
      | refine br_of hA (fun _ => ?_) (fun _ => ?_)
      | exact imp_of hA id
      | (refine imp_of hA ?_; subst hA; simp only [real, Bool.true_and]; exact id)
      | (refine ind_of hA ?_; decide +kernel)
      | (refine inb_of hA fun _ => ?_; subst hA; simp only [real, Bool.and_eq_true, Bool.not_eq_true', Bool.not_eq_false', decide_eq_true_eq, Int.ofNat_eq_natCast, IntKind.wrap_i64] at *; omega)
    refine stop_of hA (st_mkTab n i k5 r5) (cov_of ?_ ?_ ?_) ?_
    · cbv
      subst hA
      repeat' first | apply And.intro | exact True.intro | exact congrArg (fun x => DV.v (.int .i64 x)) w5 | rfl
    · cbv
      subst hA
      refine ⟨fun q _ => ?_, trivial⟩
      have e0 : real.add 0 (real.nat (Int.ofNat i)) = i := Nat.zero_add i
      simp only [e0]
      first
        | (show (if q = i then _ else eTab (r4 q)) = eTab (r5 q))
        | (show (if q = 0 + i then _ else eTab (r4 q)) = eTab (r5 q); rw [Nat.zero_add])
      simp only [hr5, hr4]
      by_cases e : q = i
      · subst e; first | (simp; done) | (simp; rfl)
      · simp [e]
    · cbv; try (subst hA; repeat' first | apply And.intro | exact True.intro | rfl | exact .inr trivial | exact .inr (Nat.le_refl _))
    cbv
    repeat' first
      | apply And.intro
      | exact True.intro
      | with_reducible rfl
      | exact same_of hA rfl
      | refine br_of hA (fun _ => ?_) (fun _ => ?_)
      | exact imp_of hA id
      | (refine imp_of hA ?_; subst hA; simp only [real, Bool.true_and]; exact id)
      | (refine ind_of hA ?_; decide +kernel)
      | (refine inb_of hA fun _ => ?_; subst hA; simp only [real, Bool.and_eq_true, Bool.not_eq_true', Bool.not_eq_false', decide_eq_true_eq, Int.ofNat_eq_natCast, IntKind.wrap_i64] at *; omega)
    refine stop_of hA (st_mkTab n i k6 r6) (cov_of ?_ ?_ ?_) ?_
    · cbv
      subst hA
      repeat' first | apply And.intro | exact True.intro | exact congrArg (fun x => DV.v (.int .i64 x)) w6 | rfl
    · cbv
      subst hA
      refine ⟨fun q _ => ?_, trivial⟩
      have e0 : real.add 0 (real.nat (Int.ofNat i)) = i := Nat.zero_add i
      simp only [e0]
      first
        | (show (if q = i then _ else eTab (r5 q)) = eTab (r6 q))
        | (show (if q = 0 + i then _ else eTab (r5 q)) = eTab (r6 q); rw [Nat.zero_add])
      simp only [hr6, hr5]
      by_cases e : q = i
      · subst e; first | (simp; done) | (simp; rfl)
      · simp [e]
    · cbv; try (subst hA; repeat' first | apply And.intro | exact True.intro | rfl | exact .inr trivial | exact .inr (Nat.le_refl _))
    cbv
    repeat' first
      | apply And.intro
      | exact True.intro
      | with_reducible rfl
      | exact same_of hA rfl
      | refine br_of hA (fun _ => ?_) (fun _ => ?_)
      | exact imp_of hA id
      | (refine imp_of hA ?_; subst hA; simp only [real, Bool.true_and]; exact id)
      | (refine ind_of hA ?_; decide +kernel)
      | (refine inb_of hA fun _ => ?_; subst hA; simp only [real, Bool.and_eq_true, Bool.not_eq_true', Bool.not_eq_false', decide_eq_true_eq, Int.ofNat_eq_natCast, IntKind.wrap_i64] at *; omega)
    have h9 : ((i + 1 : Nat) : Int) = (i : Int) + 1 := rfl
    refine ⟨⟨(i + 1, k7, r7), by simp only; omega, by (show k7 = 1 + 7 * ((i + 1 : Nat) : Int)); rw [h9, hk7, hkk, Int.mul_add]; exact Int.add_assoc _ _ _, fun j hj => ?_⟩, by simp only; omega, cov_of ?_ ?_ ?_⟩
    · simp only at hj ⊢
      by_cases e : j = i
      · rw [hr7]; simp only [e, if_true]
        rw [hGM, ← hkk]
        simp only [mkTab, hk1, hk2, hk3, hk4, hk5, hk6]
      · rw [hr7]; simp only [e, if_false]; exact hr j (by omega)
    · cbv
      subst hA
      repeat' first | apply And.intro | exact True.intro | exact congrArg (fun x => DV.v (.int .i64 x)) w7 | exact congrArg (fun x => DV.v (.int .i64 x)) (up64 hlt' hn2) | rfl
    · cbv
      subst hA
      refine ⟨fun q _ => ?_, trivial⟩
      have e0 : real.add 0 (real.nat (Int.ofNat i)) = i := Nat.zero_add i
      simp only [e0]
      first
        | (show (if q = i then _ else eTab (r6 q)) = eTab (r7 q))
        | (show (if q = 0 + i then _ else eTab (r6 q)) = eTab (r7 q); rw [Nat.zero_add])
      simp only [hr7, hr6]
      by_cases e : q = i
      · subst e; first | (simp; done) | (simp; rfl)
      · simp [e]
    · cbv; try (subst hA; repeat' first | apply And.intro | exact True.intro | rfl | exact .inr trivial | exact .inr (Nat.le_refl _))
  · rename_i hge
    have hin : i = n := by
      subst hA
      simp only [real, decide_eq_false_iff_not, Int.ofNat_eq_natCast] at hge
      omega
    subst hin
    have hkx : k = x := by rw [hkk, hx]
    subst hkx
    refine stop_of hA ⟨[(1, .c (.d (eI k)))], [(0, 1, .arr 7 i fun q => eTab (GM q))]⟩ (cov_of ?_ ?_ ?_) ?_
    · cbv
    · cbv
      exact ⟨fun q hq => congrArg (fun y => eTab y) (hr q hq), trivial⟩
    · cbv; try (subst hA; repeat' first | apply And.intro | exact True.intro | rfl | exact .inr trivial | exact .inr (Nat.le_refl _))
    · cbv
      repeat' first
        | apply And.intro
        | exact True.intro
        | with_reducible rfl
        | exact same_of hA rfl
        | refine br_of hA (fun _ => ?_) (fun _ => ?_)
        | exact imp_of hA id
        | (refine imp_of hA ?_; subst hA; simp only [real, Bool.true_and]; exact id)
        | (refine ind_of hA ?_; decide +kernel)
def st_hdTab (n : Nat) (rd : Nat → TabT) (i : Nat) (k : Int) : St := ⟨[(5, .c (.d (eI i))), (1, .c (.d (eI k))), (0, .c (.d (.sl 7 n fun i => eTab (rd i))))], []⟩
set_option maxRecDepth 100000 in
theorem held_Tab (n : Nat) (hn : n ≤ 1100000) (x : Int) (hx : x = 1 + 7 * (n : Int)) (GM : Nat → TabT) (hGM : ∀ i, GM i = mkTab (1 + 7 * (i : Int))) : Meets Try.prog 44 [.c (.d (.sl 7 n fun i => eTab (GM i))), .c (.d (eI 1))] ⟨.one (.c (.d (eI x))), [none, none]⟩ := by
  have hn2 : n ≤ maxLen := Nat.le_trans hn (by decide)
  refine meets_of (H := []) (EX := EXA) ttok mixed Try.func44 rfl (by kernel_rfl) (by decide) ?_
  generalize hA : real = A
  generalize hM : Meets Try.prog = M
  cbv
  repeat' first
    | apply And.intro
    | exact True.intro
    | with_reducible rfl
    | exact same_of hA rfl
    | refine br_of hA (fun _ => ?_) (fun _ => ?_)
    | exact imp_of hA id
    | (refine imp_of hA ?_; subst hA; simp only [real, Bool.true_and]; exact id)
    | (refine ind_of hA ?_; decide +kernel)
  refine loop_of hA (α := { q : Nat × Int // q.1 ≤ n ∧ q.2 = 1 + 7 * (q.1 : Int) }) (fun y => st_hdTab n GM y.1.1 y.1.2) (fun y => n - y.1.1) ⟨(0, 1), Nat.zero_le _, by simp⟩ ?_ ?_
  · refine cov_of ?_ ?_ ?_
    · cbv; try (subst hA; repeat' first | apply And.intro | exact True.intro | rfl)
    · cbv; try (subst hA; repeat' first | apply And.intro | exact True.intro | rfl)
    · cbv
  rintro ⟨⟨i, k⟩, hi, hkk⟩
  have hi : i ≤ n := hi
  have hkk : k = 1 + 7 * (i : Int) := hkk
  have e := hGM i
  rw [← hkk] at e
  have w1 : IntKind.i64.wrap (k + 1) = k + 1 := by rw [IntWalk.i64_in _ (by omega)]; try omega
  have w2 : IntKind.i64.wrap (IntKind.i64.wrap (k + 1) + 1) = k + 2 := by rw [w1]; rw [IntWalk.i64_in _ (by omega)]; try omega
  have w3 : IntKind.i64.wrap (IntKind.i64.wrap (IntKind.i64.wrap (k + 1) + 1) + 1) = k + 3 := by rw [w2]; rw [IntWalk.i64_in _ (by omega)]; try omega
  have w4 : IntKind.i64.wrap (IntKind.i64.wrap (IntKind.i64.wrap (IntKind.i64.wrap (k + 1) + 1) + 1) + 1) = k + 4 := by rw [w3]; rw [IntWalk.i64_in _ (by omega)]; try omega
  have w5 : IntKind.i64.wrap (IntKind.i64.wrap (IntKind.i64.wrap (IntKind.i64.wrap (IntKind.i64.wrap (k + 1) + 1) + 1) + 1) + 1) = k + 5 := by rw [w4]; rw [IntWalk.i64_in _ (by omega)]; try omega
  have w6 : IntKind.i64.wrap (IntKind.i64.wrap (IntKind.i64.wrap (IntKind.i64.wrap (IntKind.i64.wrap (IntKind.i64.wrap (k + 1) + 1) + 1) + 1) + 1) + 1) = k + 6 := by rw [w5]; rw [IntWalk.i64_in _ (by omega)]; try omega
  have w7 : IntKind.i64.wrap (IntKind.i64.wrap (IntKind.i64.wrap (IntKind.i64.wrap (IntKind.i64.wrap (IntKind.i64.wrap (IntKind.i64.wrap (k + 1) + 1) + 1) + 1) + 1) + 1) + 1) = k + 7 := by rw [w6]; rw [IntWalk.i64_in _ (by omega)]; try omega
  cbv
  repeat' first
    | apply And.intro
    | exact True.intro
    | with_reducible rfl
    | exact same_of hA rfl
    | refine br_of hA (fun _ => ?_) (fun _ => ?_)
    | exact imp_of hA id
    | (refine imp_of hA ?_; subst hA; simp only [real, Bool.true_and]; exact id)
    | (refine ind_of hA ?_; decide +kernel)
    | (refine inb_of hA fun _ => ?_; subst hA; simp only [real, Bool.and_eq_true, Bool.not_eq_true', Bool.not_eq_false', decide_eq_true_eq, Int.ofNat_eq_natCast, IntKind.wrap_i64] at *; omega)
  · exfalso
    rename_i hlt h0
    have h : ((GM i).key != k) = true := by subst hA; exact h0
    rw [e] at h
    simp [mkTab] at h
  · exfalso
    rename_i hlt h0 h1
    have h : ((GM i).win.s != IntKind.i64.wrap (k + 1)) = true := by subst hA; exact h1
    rw [e, w1] at h
    simp [mkTab] at h
  · exfalso
    rename_i hlt h0 h1 h2
    have h : ((GM i).win.e != IntKind.i64.wrap (IntKind.i64.wrap (k + 1) + 1)) = true := by subst hA; exact h2
    rw [e, w2] at h
    simp [mkTab] at h
  · exfalso
    rename_i hlt h0 h1 h2 h3
    have h : ((GM i).agg.n != IntKind.i64.wrap (IntKind.i64.wrap (IntKind.i64.wrap (k + 1) + 1) + 1)) = true := by subst hA; exact h3
    rw [e, w3] at h
    simp [mkTab] at h
  · exfalso
    rename_i hlt h0 h1 h2 h3 h4
    have h : ((GM i).agg.sum != IntKind.i64.wrap (IntKind.i64.wrap (IntKind.i64.wrap (IntKind.i64.wrap (k + 1) + 1) + 1) + 1)) = true := by subst hA; exact h4
    rw [e, w4] at h
    simp [mkTab] at h
  · exfalso
    rename_i hlt h0 h1 h2 h3 h4 h5
    have h : ((GM i).agg.least != IntKind.i64.wrap (IntKind.i64.wrap (IntKind.i64.wrap (IntKind.i64.wrap (IntKind.i64.wrap (k + 1) + 1) + 1) + 1) + 1)) = true := by subst hA; exact h5
    rw [e, w5] at h
    simp [mkTab] at h
  · exfalso
    rename_i hlt h0 h1 h2 h3 h4 h5 h6
    have h : ((GM i).agg.most != IntKind.i64.wrap (IntKind.i64.wrap (IntKind.i64.wrap (IntKind.i64.wrap (IntKind.i64.wrap (IntKind.i64.wrap (k + 1) + 1) + 1) + 1) + 1) + 1)) = true := by subst hA; exact h6
    rw [e, w6] at h
    simp [mkTab] at h
  · rename_i hlt h0 h1 h2 h3 h4 h5 h6
    have hlt' : i < n := by subst hA; simp only [real, decide_eq_true_eq, Int.ofNat_eq_natCast] at hlt; omega
    have h9 : ((i + 1 : Nat) : Int) = (i : Int) + 1 := rfl
    obtain ⟨kk, hkk2⟩ : ∃ z : Int, z = k + 7 := ⟨_, rfl⟩
    rw [← hkk2] at w7
    refine ⟨⟨(i + 1, kk), by simp only; omega, by (show kk = 1 + 7 * ((i + 1 : Nat) : Int)); rw [h9, hkk2, hkk, Int.mul_add]; exact Int.add_assoc _ _ _⟩, by simp only; omega, cov_of ?_ ?_ ?_⟩
    · cbv
      subst hA
      repeat' first | apply And.intro | exact True.intro | exact congrArg (fun x => DV.v (.int .i64 x)) (up64 hlt' hn2) | exact congrArg (fun x => DV.v (.int .i64 x)) w7 | rfl
    · cbv
    · cbv
  · rename_i hge
    have hin : i = n := by
      subst hA
      simp only [real, decide_eq_false_iff_not, Int.ofNat_eq_natCast] at hge
      omega
    subst hin
    exact congrArg (fun x => XA.one (.c (.d (eI x)))) (by rw [hkk, hx])
end Go.Rk
